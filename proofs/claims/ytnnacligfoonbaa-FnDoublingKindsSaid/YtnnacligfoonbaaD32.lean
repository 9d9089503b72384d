/-
  The products of the basis, in both programs. No condition beside sizes.
-/
import Derived.Test.YtnnacligfoonbaaD31
set_option linter.unusedVariables false
set_option linter.unusedSimpArgs false
namespace Go.Proofs.Ytnnacligfoonbaa
open Go.RowKit

theorem xor_small (i j : Nat) (hi : i < 16) (hj : j < 16) : Op.intBits .xor .i64 (i : Int) (j : Int) = (pure (.int .i64 ((i ^^^ j : Nat) : Int)) : Sem Value) := by
  have h16 : i ^^^ j < 2 ^ 4 := Nat.xor_lt_two_pow (by omega) (by omega)
  have e1 : BitVec.ofInt IntKind.i64.bits (i : Int) = BitVec.ofNat IntKind.i64.bits i := BitVec.ofInt_natCast _ _
  have e2 : BitVec.ofInt IntKind.i64.bits (j : Int) = BitVec.ofNat IntKind.i64.bits j := BitVec.ofInt_natCast _ _
  have b64 : IntKind.i64.bits = 64 := rfl
  have e3 : (BitVec.ofNat IntKind.i64.bits i ^^^ BitVec.ofNat IntKind.i64.bits j).toNat = i ^^^ j := by
    rw [BitVec.toNat_xor, BitVec.toNat_ofNat, BitVec.toNat_ofNat, b64, Nat.mod_eq_of_lt (by omega), Nat.mod_eq_of_lt (by omega)]
  unfold Op.intBits
  simp only [e1, e2, e3]
  rw [wrap_in _ (by omega)]
theorem xor_lt {n i j : Nat} (hi : i < 2 ^ n) (hj : j < 2 ^ n) : i ^^^ j < 2 ^ n := Nat.xor_lt_two_pow hi hj

/-- the table of the products of the basis -/
def basT (p : Int) (s : Nat → Int) (n i k : Nat) : Int := mulF p s n (dlt i) (dlt k) (i ^^^ k)

set_option maxRecDepth 100000 in
set_option maxHeartbeats 4000000 in
theorem iProducts_c (p : Int) (sv : Value) (n : Nat) (s : Nat → Int) (w : World) (hd : DV w sv p n s) (hp : 2 ≤ p) :
    Calls Try.prog 86 #[dbl p sv] w fun e w' => CopyT w w' e (2 ^ n) (fun _ => 2 ^ n) (basT p s n) := by
  obtain ⟨ao, c, _, _, rfl, qq⟩ := hd.ints.out
  clear qq
  obtain ⟨e0, e1, e2, e3⟩ := box0 w p ao n c 26
  have BX := Lib.hid (box0 w p ao n c 26)
  have hn4 := hd.le
  have hT : ∀ (W : World) (u v : Value) (i j : Nat), Below w.heap.size w W → Ints W u (2 ^ n) (dlt i) → Ints W v (2 ^ n) (dlt j) → Calls Try.prog 91 #[dbl p (.slice ao n c), u, v] W fun e w' => CopyI W w' e (2 ^ n) (mulF p s n (dlt i) (dlt j)) := fun W u v i j hb h1 h2 =>
    (iTimes_c p _ _ _ n s _ _ W (hd.below hb) ⟨h1, dlt_in hp _ _⟩ ⟨h2, dlt_in hp _ _⟩).mono fun e w' h => by
      obtain ⟨g, c, he, hg, hbb, hO, _⟩ := h.out
      exact ⟨g, c, he, hg, hbb, hO⟩
  have hxl : ∀ i j, i < 2 ^ n → j < 2 ^ n → i ^^^ j < 2 ^ n := fun i j => xor_lt
  obtain ⟨M, hM⟩ : ∃ M, 2 ^ n = M := ⟨_, rfl⟩
  have hM16 : M ≤ 16 := hM ▸ pow_le hn4
  have HZ : Hid (∀ W, Calls Try.prog 88 #[dbl p (.slice ao n c)] W fun e w' => Makes W w' e (.int .i64 ((M : Nat) : Int))) := fun W => hM ▸ iSize_c p ao n c W hn4
  rw [hM] at hT hxl ⊢
  have HT := Lib.hid hT
  have HX := Lib.hid hxl
  clear hM hT hd hxl
  have hT0 : OTab ((w.alloc (.cells #[.int .i64 p, .slice ao n c] 26)).alloc (.cells #[] 24)) (w.heap.size + 1) (w.heap.size + 1) 0 0 (fun _ => M) (basT p s n) := by
    have h := OTab.empty (w.alloc (.cells #[.int .i64 p, .slice ao n c] 26))
    rw [alloc_size] at h
    exact h.congr (fun i hi => absurd hi (Nat.not_lt_zero _)) (fun i j hi => absurd hi (Nat.not_lt_zero _))
  have bA : Below (w.alloc (.cells #[.int .i64 p, .slice ao n c] 26)).heap.size (w.alloc (.cells #[.int .i64 p, .slice ao n c] 26)) ((w.alloc (.cells #[.int .i64 p, .slice ao n c] 26)).alloc (.cells #[] 24)) := (Below.refl _ _).alloc (Nat.le_refl _) _
  have BXA := Lib.hid (boxKeep bA BX.out)
  have HT0 := Lib.hid hT0
  clear hT0 bA
  go_enter Try.func86, Try.ntmps86
  go_wp2_with fail
  refine Calls.makes' (HZ.out _) _ fun w1 hb1 => ?_
  have hT1 := HT0.out.kept hb1
  have bx1 := boxKeep hb1 BXA.out
  have l1 : w.heap.size + 2 ≤ w1.heap.size := by have := hb1.size; simp only [alloc_size] at this; omega
  go_wp2_with fail
  go_at_call 106
  refine (iUnit_c M _ (by omega)).mono ?_
  rintro e w2 ⟨gu, cu, rfl, hb2, hU⟩
  have hU2 := Lib.hid hU.bound
  have l2 := hb2.size
  have hT2 := Lib.hid (hT1.kept hb2)
  have BX2 := Lib.hid (boxKeep hb2 bx1)
  clear hU hT1 e0 e1 e2 e3 bx1 hb1 hb2
  obtain ⟨B1, hB1⟩ : ∃ B, w1.heap.size = B := ⟨_, rfl⟩
  obtain ⟨U1, hU1⟩ : ∃ U, w2.heap.size = U := ⟨_, rfl⟩
  have hU3 : Hid (OTabM w2 B1 U1 gu cu M (fun _ => M) dlt) := by subst hB1; subst hU1; exact hU2
  have l3 : Hid (U1 ≤ w2.heap.size) := Nat.le_of_eq hU1.symm
  rw [hB1] at l1 l2
  rw [hU1] at l2
  clear hU1 hB1 hU2
  go_wp2
  go_loopg [3, 14] M (fun g o i wr => ∃ k : Nat, k ≤ M ∧ g = M - k ∧ i = .int .i64 k ∧ BoxD w p ao n c wr ∧ Hid (U1 ≤ wr.heap.size) ∧ Hid (OTabM wr B1 U1 gu cu M (fun _ => M) dlt) ∧ ∃ g' c', o = .slice (some ⟨g', 0, none⟩) k c' ∧ Hid (g' < B1 ∨ U1 ≤ g') ∧ OTab wr (w.heap.size + 1) g' c' k (fun _ => M) (basT p s n))
  case atStart => exact ⟨0, Nat.zero_le _, rfl, rfl, BX2.out, l3, hU3, _, _, rfl, Or.inl (by omega), hT2.out⟩
  case round =>
    obtain ⟨k, hk, rfl, rfl, ⟨f0, f1, f2, f3⟩, hul, hu, g', c', rfl, hgd, hT⟩ := hrel
    obtain ⟨wo, rfl⟩ : ∃ wo, wo = wr := ⟨_, rfl⟩
    have BXr := Lib.hid (show BoxD w p ao n c wo from ⟨f0, f1, f2, f3⟩)
    by_cases hlt : k < M
    · obtain ⟨V, hV, hpush⟩ := hT.pushAt (show w.heap.size + 1 ≤ wo.heap.size by omega)
      have HP := Lib.hid hpush
      have HV := Lib.hid hV
      have HTT := Lib.hid hT
      obtain ⟨ru, cru, hcu, hrow⟩ := hu.out.row hlt
      have HR := Lib.hid hrow
      clear hpush hV hT hrow
      -- the row, then the inner unit
      have hR0 : Own (wo.alloc (.cells #[] 2)) 2 wo.heap.size 0 0 (fun j => .int .i64 (basT p s n k j)) := Own.empty _ _ _
      have bE : Below wo.heap.size wo (wo.alloc (.cells #[] 2)) := (Below.refl _ _).alloc (Nat.le_refl _) _
      have BXE := Lib.hid (boxKeep bE BXr.out)
      have HR0 := Lib.hid hR0
      have BE := Lib.hid bE
      clear hR0 bE
      go_wp2_with fail
      refine Calls.makes' (HZ.out _) _ fun v1 hv1 => ?_
      have bxv := boxKeep hv1 BXE.out
      have r1 := HR0.out.kept hv1
      have m1 : wo.heap.size + 1 ≤ v1.heap.size := by have := hv1.size; simp only [alloc_size] at this; omega
      have bE1 : Below wo.heap.size wo v1 := BE.out.trans (hv1.mono (by rw [alloc_size]; omega))
      go_wp2_with fail
      go_at_call 106
      refine (iUnit_c M _ (by omega)).mono ?_
      rintro e v2 ⟨hu', cu', rfl, hv2, hUi⟩
      have hI2 := Lib.hid hUi.bound
      have m2 := hv2.size
      have bE2 := bE1.trans (hv2.mono bE1.size)
      have R2 := Lib.hid (r1.kept hv2)
      have BXv := Lib.hid (boxKeep hv2 bxv)
      have BE2 := Lib.hid bE2
      clear hUi r1 bxv hv1 hv2 bE1 bE2 f0 f1 f2 f3 hcu
      obtain ⟨B2, hB2⟩ : ∃ B, v1.heap.size = B := ⟨_, rfl⟩
      obtain ⟨U2, hU2⟩ : ∃ U, v2.heap.size = U := ⟨_, rfl⟩
      have hI3 : Hid (OTabM v2 B2 U2 hu' cu' M (fun _ => M) dlt) := by subst hB2; subst hU2; exact hI2
      have m3 : Hid (U2 ≤ v2.heap.size) := Nat.le_of_eq hU2.symm
      rw [hB2] at m1 m2
      rw [hU2] at m2
      clear hU2 hB2 hI2
      go_wp2
      go_loopg [6, 24] M (fun g o i wq => ∃ j : Nat, j ≤ M ∧ g = M - j ∧ i = .int .i64 j ∧ BoxD w p ao n c wq ∧ Hid (U2 ≤ wq.heap.size) ∧ Hid (OTabM wq B2 U2 hu' cu' M (fun _ => M) dlt) ∧ Hid (Below wo.heap.size wo wq) ∧ ∃ g2 c2, o = .slice (some ⟨g2, 0, none⟩) j c2 ∧ Hid (g2 < B2 ∨ U2 ≤ g2) ∧ wo.heap.size ≤ g2 ∧ Own wq 2 g2 c2 j (fun j => .int .i64 (basT p s n k j)))
      case atStart => exact ⟨0, Nat.zero_le _, rfl, rfl, BXv.out, m3, hI3, BE2, _, _, rfl, Or.inl (by omega), Nat.le_refl _, R2.out⟩
      case round =>
        obtain ⟨j, hj, rfl, rfl, ⟨f0, f1, f2, f3⟩, hul2, hui, hbel, g2, c2, rfl, hgd2, hg2, hO⟩ := hrel
        have BXq := Lib.hid (show BoxD w p ao n c wr from ⟨f0, f1, f2, f3⟩)
        have hlw := BXr.out.2.2.1
        by_cases hlt2 : j < M
        · obtain ⟨rv, crv, hcv, hrv⟩ := hui.out.row hlt2
          have hru := HR.out.below hbel.out
          have hxo := xor_small k j (by omega) (by omega)
          have hx := HX.out k j hlt hlt2
          obtain ⟨x, hxe⟩ : ∃ x, k ^^^ j = x := ⟨_, rfl⟩
          have HB : Hid (mulF p s n (dlt k) (dlt j) x = basT p s n k j) := by unfold basT; rw [hxe]; exact rfl
          rw [hxe] at hxo hx
          clear hxe
          have i0 : (0 : Int) ≤ (x : Int) := by omega
          have i1 : (x : Int) < (M : Int) := by omega
          go_wp2_with fail
          go_at_call 91
          refine (HT.out _ _ _ k j f3 hru hrv).mono ?_
          rintro e w4 ⟨g4, c4, rfl, hg4, hb4, hO4⟩
          have hc4 := hO4.cell hx
          have hO5 := hO.kept hb4
          have bx4 := Lib.hid (boxKeep hb4 BXq.out)
          have hs4 := hb4.size
          clear f0 f1 hcv hrv hru
          go_wp2_with (at_builtin; refine wpList_push _ rfl _ _ _ _ elI rfl hO5 (.int .i64 (mulF p s n (dlt k) (dlt j) x)) rfl rfl rfl (by omega) (by omega) ?_; rotate_right; intro g3 c3 w3 hO3 hg3 hgr3)
          go_roundg (M - (j + 1))
          case measure => omega
          case rel =>
            have a1 := hul2.out
            have a2 := hgd2.out
            have a3 := hgr3.size
            have a4 := hbel.out.size
            refine ⟨j + 1, by omega, rfl, by go_num, boxGrown hgr3 (by omega) bx4.out, (show U2 ≤ w3.heap.size by omega), ((hui.out.kept hb4).grown hgr3 a2), ((hbel.out.trans (hb4.mono a4)).grown hgr3 (by omega) (fun k e => by injection e with e; omega)), g3, c3, rfl, (show g3 < B2 ∨ U2 ≤ g3 by omega), by omega, hO3.congr fun i hi => ?_⟩
            by_cases e2 : i = j
            · subst e2; simp only [if_true]; rw [HB.out]
            · simp [e2]
        · obtain rfl : j = M := by omega
          have hV2 := HV.out.kept hbel.out
          have hgB := HTT.out.base
          go_wp2_with (at_builtin; refine wpList_push _ rfl _ _ _ _ elR rfl hV2 (.slice (some ⟨g2, 0, none⟩) j c2) rfl rfl rfl (by omega) (by omega) ?_; intro g3 c3 w3 hO3 hg3 hgr3)
          have hs2 := hbel.out.size
          go_roundg (j - (k + 1))
          case measure => omega
          case rel =>
            have a1 := hul.out
            have a2 := hgd.out
            have a3 := hgr3.size
            exact ⟨k + 1, by omega, rfl, by go_num, boxGrown hgr3 (by omega) BXq.out, (show U1 ≤ w3.heap.size by omega), ((hu.out.kept hbel.out).grown hgr3 a2), g3, c3, rfl, (show g3 < B1 ∨ U1 ≤ g3 by omega), (HP.out _ _ _ _ _ _ _ _ hbel.out hO hg2 hO3 hg3 hgr3).congr (fun i hi => by by_cases e : i = k <;> simp [e]) (fun i j hi hj => by by_cases e : i = k <;> simp [e])⟩
    · obtain rfl : k = M := by omega
      go_wp2
      go_ret
      exact ⟨g', c', rfl, f3, hT.mono (by omega)⟩

set_option maxRecDepth 100000 in
set_option maxHeartbeats 4000000 in
theorem sBasis_c (p : Int) (sv : Value) (n : Nat) (s : Nat → Int) (w : World) (hd : DV w sv p n s) (hp : 2 ≤ p) :
    Calls Try.prog 87 #[dbl p sv] w fun e w' => CopyT w w' e (2 ^ n) (fun _ => 2 ^ n) (basT p s n) := by
  obtain ⟨ao, c, _, _, rfl, qq⟩ := hd.ints.out
  clear qq
  obtain ⟨e0, e1, e2, e3⟩ := box0 w p ao n c 26
  have BX := Lib.hid (box0 w p ao n c 26)
  have hn4 := hd.le
  have hT : ∀ (W : World) (u v : Value) (i j : Nat), Below w.heap.size w W → Ints W u (2 ^ n) (dlt i) → Ints W v (2 ^ n) (dlt j) → Calls Try.prog 93 #[dbl p (.slice ao n c), u, v] W fun e w' => CopyI W w' e (2 ^ n) (mulF p s n (dlt i) (dlt j)) := fun W u v i j hb h1 h2 =>
    (sTimes_c p _ _ _ n s _ _ W (hd.below hb) ⟨h1, dlt_in hp _ _⟩ ⟨h2, dlt_in hp _ _⟩).mono fun e w' h => by
      obtain ⟨g, c, he, hg, hbb, hO, _⟩ := h.out
      exact ⟨g, c, he, hg, hbb, hO⟩
  have hN : ∀ (W : World) (i : Nat), Below w.heap.size w W → i < 2 ^ n → Calls Try.prog 118 #[dbl p (.slice ao n c), .int .i64 i] W fun e w' => CopyI W w' e (2 ^ n) (dlt i) := fun W i hb hi =>
    (sOne_c p _ n s i W (hd.below hb) hp hi).mono fun e w' h => by
      obtain ⟨g, c, he, hg, hbb, hO, _⟩ := h.out
      exact ⟨g, c, he, hg, hbb, hO⟩
  have hxl : ∀ i j, i < 2 ^ n → j < 2 ^ n → i ^^^ j < 2 ^ n := fun i j => xor_lt
  obtain ⟨M, hM⟩ : ∃ M, 2 ^ n = M := ⟨_, rfl⟩
  have hM16 : M ≤ 16 := hM ▸ pow_le hn4
  have HZ : Hid (∀ W, Calls Try.prog 124 #[dbl p (.slice ao n c)] W fun e w' => Makes W w' e (.int .i64 ((M : Nat) : Int))) := fun W => hM ▸ sSize_c p ao n c W hn4
  rw [hM] at hT hxl hN ⊢
  have HT := Lib.hid hT
  have HN := Lib.hid hN
  have HX := Lib.hid hxl
  clear hM hT hd hxl hN
  have hT0 : OTab ((w.alloc (.cells #[.int .i64 p, .slice ao n c] 26)).alloc (.cells #[] 24)) (w.heap.size + 1) (w.heap.size + 1) 0 0 (fun _ => M) (basT p s n) := by
    have h := OTab.empty (w.alloc (.cells #[.int .i64 p, .slice ao n c] 26))
    rw [alloc_size] at h
    exact h.congr (fun i hi => absurd hi (Nat.not_lt_zero _)) (fun i j hi => absurd hi (Nat.not_lt_zero _))
  have bA : Below (w.alloc (.cells #[.int .i64 p, .slice ao n c] 26)).heap.size (w.alloc (.cells #[.int .i64 p, .slice ao n c] 26)) ((w.alloc (.cells #[.int .i64 p, .slice ao n c] 26)).alloc (.cells #[] 24)) := (Below.refl _ _).alloc (Nat.le_refl _) _
  have BXA := Lib.hid (boxKeep bA BX.out)
  have HT0 := Lib.hid hT0
  clear hT0 bA
  go_enter Try.func87, Try.ntmps87
  go_wp2
  go_loopg [3, 4] M (fun g o i wr => ∃ k : Nat, k ≤ M ∧ g = M - k ∧ i = .int .i64 k ∧ BoxD w p ao n c wr ∧ ∃ g' c', o = .slice (some ⟨g', 0, none⟩) k c' ∧ OTab wr (w.heap.size + 1) g' c' k (fun _ => M) (basT p s n))
  case atStart => exact ⟨0, Nat.zero_le _, rfl, rfl, BXA.out, _, _, rfl, HT0.out⟩
  case round =>
    obtain ⟨k, hk, rfl, rfl, ⟨f0, f1, f2, f3⟩, g', c', rfl, hT⟩ := hrel
    obtain ⟨wo, rfl⟩ : ∃ wo, wo = wr := ⟨_, rfl⟩
    have BXr := Lib.hid (show BoxD w p ao n c wo from ⟨f0, f1, f2, f3⟩)
    clear e0 e1 e2 e3
    by_cases hlt : k < M
    · go_wp2_with fail
      refine Calls.makes' (HZ.out _) _ fun w1 hb1 => ?_
      have hT1 := hT.kept hb1
      have BX1 := Lib.hid (boxKeep hb1 BXr.out)
      have hl1 := BX1.out.2.2.1
      have hl2 : w.heap.size < w1.heap.size := hl1
      obtain ⟨V, hV, hpush⟩ := hT1.pushAt (show w.heap.size + 1 ≤ w1.heap.size by omega)
      have HP := Lib.hid hpush
      have hgB := hT1.base
      have HV := Lib.hid hV
      have hR0 : Own (w1.alloc (.cells #[] 2)) 2 w1.heap.size 0 0 (fun j => .int .i64 (basT p s n k j)) := Own.empty _ _ _
      have bE : Below w1.heap.size w1 (w1.alloc (.cells #[] 2)) := (Below.refl _ _).alloc (Nat.le_refl _) _
      have BXE := Lib.hid (boxKeep bE BX1.out)
      have HR0 := Lib.hid hR0
      have BE := Lib.hid bE
      clear hpush hV hR0 bE f0 f1 f2 f3 hT hT1 hb1 BXr
      go_wp2
      go_loopg [5, 6] M (fun g o i wq => ∃ j : Nat, j ≤ M ∧ g = M - j ∧ i = .int .i64 j ∧ BoxD w p ao n c wq ∧ Hid (Below w1.heap.size w1 wq) ∧ ∃ g2 c2, o = .slice (some ⟨g2, 0, none⟩) j c2 ∧ w1.heap.size ≤ g2 ∧ Own wq 2 g2 c2 j (fun j => .int .i64 (basT p s n k j)))
      case atStart => exact ⟨0, Nat.zero_le _, rfl, rfl, BXE.out, BE, _, _, rfl, Nat.le_refl _, HR0.out⟩
      case round =>
        obtain ⟨j, hj, rfl, rfl, ⟨f0, f1, f2, f3⟩, hbel, g2, c2, rfl, hg2, hO⟩ := hrel
        have BXq := Lib.hid (show BoxD w p ao n c wr from ⟨f0, f1, f2, f3⟩)
        by_cases hlt2 : j < M
        · go_wp2_with fail
          refine Calls.makes' (HZ.out _) _ fun w2 hb2 => ?_
          have bel2 := Lib.hid (hbel.out.trans (hb2.mono hbel.out.size))
          obtain ⟨j0, j1, j2, j3⟩ := boxDrew (boxKeep hb2 BXq.out)
          have hOd := (hO.kept hb2).drew
          have hxo := xor_small k j (by omega) (by omega)
          have hx := HX.out k j hlt hlt2
          obtain ⟨x, hxe⟩ : ∃ x, k ^^^ j = x := ⟨_, rfl⟩
          have HB : Hid (mulF p s n (dlt k) (dlt j) x = basT p s n k j) := by unfold basT; rw [hxe]; exact rfl
          rw [hxe] at hxo hx
          clear hxe f0 f1
          have i0 : (0 : Int) ≤ (x : Int) := by omega
          have i1 : (x : Int) < (M : Int) := by omega
          go_wp2
          go_region_law (first
            | (go_simp; go_at_call 93; refine (HT.out _ _ _ k j m3 (hO4.kept hb5).ints hO5.ints).mono ?_; rintro e w6 ⟨g6, c6, rfl, hg6, hb6, hO6⟩; have bx6 := boxKeep hb6 ⟨m0, m1, m2, m3⟩; have hO7 := ((hOd.kept hb4).kept hb5).kept hb6; have hc6 := hO6.cell hx; obtain ⟨z0, z1, z2, z3⟩ := bx6)
            | (go_simp; go_at_call 118; have hx' := hO4; refine (HN.out _ j k3 hlt2).mono ?_; rintro e w5 ⟨g5, c5, rfl, hg5, hb5, hO5⟩; have bx5 := boxKeep hb5 ⟨k0, k1, k2, k3⟩; obtain ⟨m0, m1, m2, m3⟩ := bx5)
            | (go_simp; go_at_call 118; refine (HN.out _ k j3 hlt).mono ?_; rintro e w4 ⟨g4, c4, rfl, hg4, hb4, hO4⟩; have bx4 := boxKeep hb4 ⟨j0, j1, j2, j3⟩; obtain ⟨k0, k1, k2, k3⟩ := bx4)
            | (refine step_push rfl _ _ _ _ elI rfl hO7 (.int .i64 (mulF p s n (dlt k) (dlt j) x)) rfl rfl rfl (by omega) (by omega) ?_; intro g3 c3 w3 hO3 hg3 hgr3))
          all_goals go_wp2
          all_goals go_roundg (M - (j + 1))
          all_goals first
            | omega
            | (have t4 : w2.heap.size ≤ w4.heap.size := hb4.size
               have t5 := hb5.size
               have t6 := hb6.size
               have c1 : Below w2.heap.size w2 w6 := ((⟨hb4.os, hb4.tape, hb4.output, hb4.size, hb4.block⟩ : Below w2.heap.size w2 w4).trans (hb5.mono t4)).trans (hb6.mono (by omega))
               have c2' := bel2.out.trans (c1.mono bel2.out.size)
               have c3' := c2'.size
               refine ⟨j + 1, by omega, rfl, by go_num, boxGrown hgr3 (by omega) ⟨z0, z1, z2, z3⟩, (c2'.grown hgr3 c3' (fun k e => by injection e with e; omega)), g3, c3, rfl, by omega, hO3.congr fun i hi => ?_⟩
               by_cases e2 : i = j
               · subst e2; simp only [if_true]; rw [HB.out]
               · simp [e2])
        · obtain rfl : j = M := by omega
          go_wp2_with fail
          refine Calls.makes' (HZ.out _) _ fun w2 hb2 => ?_
          have bel2 := Lib.hid (hbel.out.trans (hb2.mono hbel.out.size))
          have hV2 := HV.out.kept bel2.out
          have hO2 := hO.kept hb2
          have bx2 := Lib.hid (boxKeep hb2 BXq.out)
          clear f0 f1
          go_wp2_with (at_builtin; refine wpList_push _ rfl _ _ _ _ elR rfl hV2 (.slice (some ⟨g2, 0, none⟩) j c2) rfl rfl rfl (by omega) (by omega) ?_; intro g3 c3 w3 hO3 hg3 hgr3)
          have hs2 := bel2.out.size
          go_roundg (j - (k + 1))
          case measure => omega
          case rel => exact ⟨k + 1, by omega, rfl, by go_num, boxGrown hgr3 (by omega) bx2.out, g3, c3, rfl, (HP.out _ _ _ _ _ _ _ _ bel2.out hO2 hg2 hO3 hg3 hgr3).congr (fun i hi => by by_cases e : i = k <;> simp [e]) (fun i j hi hj => by by_cases e : i = k <;> simp [e])⟩
    · obtain rfl : k = M := by omega
      go_wp2_with fail
      refine Calls.makes' (HZ.out _) _ fun w1 hb1 => ?_
      go_wp2
      go_ret
      exact ⟨g', c', rfl, f3.trans (hb1.mono f3.size), (hT.kept hb1).mono (by omega)⟩

end Go.Proofs.Ytnnacligfoonbaa
