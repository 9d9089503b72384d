/-
  Columns, and the matrices of products from the left and from the right, in both programs. No condition beside sizes.
-/
import Derived.Test.YtnnacligfoonbaaD28
set_option linter.unusedVariables false
set_option linter.unusedSimpArgs false
namespace Go.Proofs.Ytnnacligfoonbaa
open Go.RowKit

theorem OTabM.grown {w w' : World} {B M g cap G g0 : Nat} {L : Nat → Nat} {T : Nat → Nat → Int} (h : OTabM w B M g cap G L T) (hg : w.grownBy w' (some g0)) (hd : g0 < B ∨ M ≤ g0) : OTabM w' B M g cap G L T := by
  obtain ⟨R, C, h1, h2, h3, h4⟩ := h.out
  exact ⟨R, C, h1.grown hg (by intro e; injection e with e; omega), h2, fun i hi => ⟨(h3 i hi).1.grown hg (by intro e; injection e with e; have := (h3 i hi).2.1; omega), (h3 i hi).2⟩, h4⟩
theorem OTabM.row {w : World} {B M g cap G : Nat} {L : Nat → Nat} {T : Nat → Nat → Int} (h : OTabM w B M g cap G L T) {k : Nat} (hk : k < G) : ∃ r c, w.cell? ⟨g, k, none⟩ = some (.slice (some ⟨r, 0, none⟩) (L k) c) ∧ Ints w (.slice (some ⟨r, 0, none⟩) (L k) c) (L k) (T k) := by
  obtain ⟨R, C, h1, h2, h3, h4⟩ := h.out
  exact ⟨R k, C k, h1.cell hk, (h3 k hk).1.ints⟩

set_option maxHeartbeats 1000000 in
theorem sColumns_c (v : Value) (G : Nat) (L : Nat → Nat) (T : Nat → Nat → Int) (w : World) (h : Tab w v G L T) (hG2 : G ≤ 1048576) (hL : ∀ i, i < G → G ≤ L i) :
    Calls Try.prog 154 #[v] w fun e w' => CopyT w w' e G (fun _ => G) (fun k i => T i k) := by
  obtain ⟨ao, c, b, o, A, C, RB, RO, rfl, p2, p3, p4, p5, p6, p7, p8⟩ := h.out
  clear h
  have P5 := Lib.hid p5
  have P7 := Lib.hid p7
  have P8 := Lib.hid p8
  have HL := Lib.hid hL
  clear p5 p6 p7 p8 hL
  go_enter Try.func154, Try.ntmps154
  go_wp2
  go_loopg [3, 4] G (fun g s i wr => ∃ k : Nat, k ≤ G ∧ g = G - k ∧ i = .int .i64 k ∧ ∃ g' c', s = .slice (some ⟨g', 0, none⟩) k c' ∧ Below w.heap.size w wr ∧ OTab wr w.heap.size g' c' k (fun _ => G) (fun k i => T i k))
  case atStart => exact ⟨0, Nat.zero_le _, rfl, rfl, _, _, rfl, (Below.refl _ _).alloc (Nat.le_refl _) _, ⟨fun _ => 0, fun _ => 0, Own.empty _ _ _, Nat.le_refl _, fun i hi => absurd hi (Nat.not_lt_zero _), fun i j hi => absurd hi (Nat.not_lt_zero _)⟩⟩
  case round =>
    obtain ⟨k, hk, rfl, rfl, g', c', rfl, hb, hT⟩ := hrel
    by_cases hlt : k < G
    · obtain rfl := p4 (by omega)
      go_wp2
      obtain ⟨wo, hwo⟩ : ∃ wo, wo = wr := ⟨_, rfl⟩
      rw [← hwo] at hb hT ⊢
      clear hwo
      have hbs := hb.size
      go_loopg [5, 6] G (fun g s i wr => ∃ j : Nat, j ≤ G ∧ g = G - j ∧ i = .int .i64 j ∧ ∃ g2 c2, s = .slice (some ⟨g2, 0, none⟩) j c2 ∧ wo.heap.size ≤ g2 ∧ Below wo.heap.size wo wr ∧ Own wr 2 g2 c2 j (fun i => .int .i64 (T i k)))
      case atStart => exact ⟨0, Nat.zero_le _, rfl, rfl, _, _, rfl, Nat.le_refl _, (Below.refl _ _).alloc (Nat.le_refl _) _, Own.empty _ _ _⟩
      case round =>
        obtain ⟨j, hj, rfl, rfl, g2, c2, rfl, hg2, hb2, hO⟩ := hrel
        by_cases hlt2 : j < G
        · have hkL : k < L j := by have := HL.out j hlt2; omega
          have hbb := hb.trans (hb2.mono hbs)
          have e1 : wr.cell? ⟨b, o + j, none⟩ = some (.slice (some ⟨RB j, RO j, none⟩) (L j) (C j)) := by
            rw [hbb.cell (p := ⟨b, o + j, none⟩) (lt_of_cell (P5.out j hlt2)), P5.out j hlt2, P7.out j hlt2 (by omega)]
          have e2 : wr.cell? ⟨RB j, RO j + k, none⟩ = some (.int .i64 (T j k)) := by
            rw [hbb.cell (p := ⟨RB j, RO j + k, none⟩) (lt_of_cell (P8.out j k hlt2 hkL)), P8.out j k hlt2 hkL]
          go_wp2_with (at_builtin; refine wpList_push _ rfl _ _ _ _ elI rfl hO (.int .i64 (T j k)) rfl rfl rfl (by omega) (by omega) ?_; rotate_right; intro g3 c3 w3 hO3 hg3 hgr3)
          go_roundg (G - (j + 1))
          case measure => omega
          case rel =>
            have hlt4 := hb2.size
            refine ⟨j + 1, by omega, rfl, by go_num, g3, c3, rfl, by omega, hb2.grown hgr3 hlt4 (fun k e => by injection e with e; omega), hO3.congr fun i hi => ?_⟩
            by_cases e2 : i = j
            · subst e2; simp
            · simp [e2]
        · obtain rfl : j = G := by omega
          obtain ⟨V, hV, hpush⟩ := hT.pushAt hbs
          have hV2 := hV.kept hb2
          have HP := Lib.hid hpush
          clear hpush
          go_wp2_with (at_builtin; refine wpList_push _ rfl _ _ _ _ elR rfl hV2 (.slice (some ⟨g2, 0, none⟩) j c2) rfl rfl rfl (by omega) (by omega) ?_; intro g3 c3 w3 hO3 hg3 hgr3)
          have hs2 := hb2.size
          have hgB := hT.base
          go_roundg (j - (k + 1))
          case measure => omega
          case rel => exact ⟨k + 1, by omega, rfl, by go_num, g3, c3, rfl, (hb.trans (hb2.mono hbs)).grown hgr3 (by omega) (fun k e => by injection e with e; omega), (HP.out _ _ _ _ _ _ _ _ hb2 hO hg2 hO3 hg3 hgr3).congr (fun i hi => by by_cases e : i = k <;> simp [e]) (fun i j hi hj => by by_cases e : i = k <;> simp [e])⟩
    · obtain rfl : k = G := by omega
      go_wp2
      go_ret
      exact ⟨g', c', rfl, hb, hT⟩

set_option maxRecDepth 100000 in
set_option maxHeartbeats 2000000 in
theorem iLeft_c (p : Int) (sv xv : Value) (n : Nat) (s X : Nat → Int) (w : World) (hd : DV w sv p n s) (hx : El w xv p n X) (hp : 2 ≤ p) :
    Calls Try.prog 126 #[dbl p sv, xv] w fun e w' => CopyT w w' e (2 ^ n) (fun _ => 2 ^ n) (fun i j => mulF p s n X (dlt j) i) := by
  obtain ⟨ao, c, _, _, rfl, qq⟩ := hd.ints.out
  clear qq
  obtain ⟨e0, e1, e2, e3⟩ := box0 w p ao n c 26
  have BX := Lib.hid (box0 w p ao n c 26)
  have hn4 := hd.le
  have hM0 : 0 < 2 ^ n := hx.pos
  have hT : ∀ (W : World) (v : Value) (Y : Nat → Int), Below w.heap.size w W → Ints W v (2 ^ n) Y → InP p (2 ^ n) Y → Calls Try.prog 91 #[dbl p (.slice ao n c), xv, v] W fun e w' => CopyI W w' e (2 ^ n) (mulF p s n X Y) := fun W v Y hb h1 h2 =>
    (iTimes_c p _ _ _ n s X Y W (hd.below hb) (hx.below hb) ⟨h1, h2⟩).mono fun e w' h => by
      obtain ⟨g, c, he, hg, hbb, hO, _⟩ := h.out
      exact ⟨g, c, he, hg, hbb, hO⟩
  obtain ⟨M, hM⟩ : ∃ M, 2 ^ n = M := ⟨_, rfl⟩
  have hM16 : M ≤ 16 := hM ▸ pow_le hn4
  have HZ : Hid (∀ W, Calls Try.prog 88 #[dbl p (.slice ao n c)] W fun e w' => Makes W w' e (.int .i64 ((M : Nat) : Int))) := fun W => hM ▸ iSize_c p ao n c W hn4
  rw [hM] at hT hM0 ⊢
  have HT := Lib.hid hT
  clear hM hT hd hx
  have hT0 : OTab ((w.alloc (.cells #[.int .i64 p, .slice ao n c] 26)).alloc (.cells #[] 24)) (w.heap.size + 1) (w.heap.size + 1) 0 0 (fun _ => M) (fun i j => mulF p s n X (dlt i) j) := by
    have h := OTab.empty (w.alloc (.cells #[.int .i64 p, .slice ao n c] 26))
    rw [alloc_size] at h
    exact h.congr (fun i hi => absurd hi (Nat.not_lt_zero _)) (fun i j hi => absurd hi (Nat.not_lt_zero _))
  have bA : Below (w.alloc (.cells #[.int .i64 p, .slice ao n c] 26)).heap.size (w.alloc (.cells #[.int .i64 p, .slice ao n c] 26)) ((w.alloc (.cells #[.int .i64 p, .slice ao n c] 26)).alloc (.cells #[] 24)) := (Below.refl _ _).alloc (Nat.le_refl _) _
  have BXA := Lib.hid (boxKeep bA BX.out)
  have HT0 := Lib.hid hT0
  clear hT0 bA
  go_enter Try.func126, Try.ntmps126
  go_wp2_with fail
  refine Calls.makes' (HZ.out _) _ fun w1 hb1 => ?_
  have hT1 := HT0.out.kept hb1
  have bx1 := boxKeep hb1 BXA.out
  have l1 : w.heap.size + 2 ≤ w1.heap.size := by have := hb1.size; simp only [alloc_size] at this; omega
  go_wp2_with fail
  go_at_call 106
  refine (iUnit_c M _ (by omega)).mono ?_
  rintro e w2 ⟨gu, cu, rfl, hb2, hU⟩
  have hU2 := Lib.hid hU.bound
  have l2 := hb2.size
  have hT2 := Lib.hid (hT1.kept hb2)
  have BX2 := Lib.hid (boxKeep hb2 bx1)
  clear hU hT1 e0 e1 e2 e3 bx1 hb1 hb2
  obtain ⟨B1, hB1⟩ : ∃ B, w1.heap.size = B := ⟨_, rfl⟩
  obtain ⟨U1, hU1⟩ : ∃ U, w2.heap.size = U := ⟨_, rfl⟩
  have hU3 : Hid (OTabM w2 B1 U1 gu cu M (fun _ => M) dlt) := by subst hB1; subst hU1; exact hU2
  have l3 : Hid (U1 ≤ w2.heap.size) := Nat.le_of_eq hU1.symm
  rw [hB1] at l1 l2
  rw [hU1] at l2
  clear hU1 hB1 hU2
  go_wp2
  go_loopg [5, 13] M (fun g o i wr => ∃ k : Nat, k ≤ M ∧ g = M - k ∧ i = .int .i64 k ∧ BoxD w p ao n c wr ∧ Hid (U1 ≤ wr.heap.size) ∧ Hid (OTabM wr B1 U1 gu cu M (fun _ => M) dlt) ∧ ∃ g' c', o = .slice (some ⟨g', 0, none⟩) k c' ∧ Hid (g' < B1 ∨ U1 ≤ g') ∧ OTab wr (w.heap.size + 1) g' c' k (fun _ => M) (fun i j => mulF p s n X (dlt i) j))
  case atStart => exact ⟨0, Nat.zero_le _, rfl, rfl, BX2.out, l3, hU3, _, _, rfl, Or.inl (by omega), hT2.out⟩
  case round =>
    obtain ⟨k, hk, rfl, rfl, ⟨f0, f1, f2, f3⟩, hul, hu, g', c', rfl, hgd, hT⟩ := hrel
    have BXr := Lib.hid (show BoxD w p ao n c wr from ⟨f0, f1, f2, f3⟩)
    by_cases hlt : k < M
    · obtain ⟨V, hV, hpush⟩ := hT.pushAt (show w.heap.size + 1 ≤ wr.heap.size by omega)
      have HP := Lib.hid hpush
      obtain ⟨ru, cru, hcu, hrow⟩ := hu.out.row hlt
      clear hpush
      go_wp2_with fail
      go_at_call 91
      refine (HT.out _ _ _ f3 hrow (dlt_in hp _ _)).mono ?_
      rintro e w4 ⟨g4, c4, rfl, hg4, hb4, hO4⟩
      have hV2 := hV.kept hb4
      have hs2 := hb4.size
      have hgB := hT.base
      have bx4 := Lib.hid (boxKeep hb4 BXr.out)
      clear f0 f1 hcu hrow
      go_wp2_with (at_builtin; refine wpList_push _ rfl _ _ _ _ elR rfl hV2 (.slice (some ⟨g4, 0, none⟩) M c4) rfl rfl rfl (by omega) (by omega) ?_; intro g3 c3 w3 hO3 hg3 hgr3)
      go_roundg (M - (k + 1))
      case measure => omega
      case rel =>
        have a1 := hul.out
        have a2 := hgd.out
        have a3 := hgr3.size
        exact ⟨k + 1, by omega, rfl, by go_num, boxGrown hgr3 (by omega) bx4.out, (show U1 ≤ w3.heap.size by omega), ((hu.out.kept hb4).grown hgr3 a2), g3, c3, rfl, (show g3 < B1 ∨ U1 ≤ g3 by omega), (HP.out _ _ _ _ _ _ _ _ hb4 hO4 hg4 hO3 hg3 hgr3).congr (fun i hi => by by_cases e : i = k <;> simp [e]) (fun i j hi hj => by by_cases e : i = k <;> simp [e])⟩
    · obtain rfl : k = M := by omega
      go_wp2_with fail
      go_at_call 141
      refine (iTranspose_c _ k k _ _ _ hT.tab hM0 (by omega) (by omega) rfl (fun i hi => Nat.le_refl _)).mono ?_
      rintro e w4 ⟨g4, c4, rfl, hb4, hT4⟩
      go_wp2
      go_ret
      exact ⟨g4, c4, rfl, f3.trans (hb4.mono f3.size), hT4.mono f3.size⟩

set_option maxRecDepth 100000 in
set_option maxHeartbeats 2000000 in
theorem sLeft_c (p : Int) (sv xv : Value) (n : Nat) (s X : Nat → Int) (w : World) (hd : DV w sv p n s) (hx : El w xv p n X) (hp : 2 ≤ p) :
    Calls Try.prog 128 #[dbl p sv, xv] w fun e w' => CopyT w w' e (2 ^ n) (fun _ => 2 ^ n) (fun i j => mulF p s n X (dlt j) i) := by
  obtain ⟨ao, c, _, _, rfl, qq⟩ := hd.ints.out
  clear qq
  obtain ⟨e0, e1, e2, e3⟩ := box0 w p ao n c 26
  have BX := Lib.hid (box0 w p ao n c 26)
  have hn4 := hd.le
  have hM0 : 0 < 2 ^ n := hx.pos
  have hT : ∀ (W : World) (v : Value) (Y : Nat → Int), Below w.heap.size w W → Ints W v (2 ^ n) Y → InP p (2 ^ n) Y → Calls Try.prog 93 #[dbl p (.slice ao n c), xv, v] W fun e w' => CopyI W w' e (2 ^ n) (mulF p s n X Y) := fun W v Y hb h1 h2 =>
    (sTimes_c p _ _ _ n s X Y W (hd.below hb) (hx.below hb) ⟨h1, h2⟩).mono fun e w' h => by
      obtain ⟨g, c, he, hg, hbb, hO, _⟩ := h.out
      exact ⟨g, c, he, hg, hbb, hO⟩
  have hN : ∀ (W : World) (i : Nat), Below w.heap.size w W → i < 2 ^ n → Calls Try.prog 118 #[dbl p (.slice ao n c), .int .i64 i] W fun e w' => CopyI W w' e (2 ^ n) (dlt i) := fun W i hb hi =>
    (sOne_c p _ n s i W (hd.below hb) hp hi).mono fun e w' h => by
      obtain ⟨g, c, he, hg, hbb, hO, _⟩ := h.out
      exact ⟨g, c, he, hg, hbb, hO⟩
  obtain ⟨M, hM⟩ : ∃ M, 2 ^ n = M := ⟨_, rfl⟩
  have hM16 : M ≤ 16 := hM ▸ pow_le hn4
  have HZ : Hid (∀ W, Calls Try.prog 124 #[dbl p (.slice ao n c)] W fun e w' => Makes W w' e (.int .i64 ((M : Nat) : Int))) := fun W => hM ▸ sSize_c p ao n c W hn4
  rw [hM] at hT hM0 hN ⊢
  have HT := Lib.hid hT
  have HN := Lib.hid hN
  clear hM hT hd hx hN
  have hT0 : OTab ((w.alloc (.cells #[.int .i64 p, .slice ao n c] 26)).alloc (.cells #[] 24)) (w.heap.size + 1) (w.heap.size + 1) 0 0 (fun _ => M) (fun i j => mulF p s n X (dlt i) j) := by
    have h := OTab.empty (w.alloc (.cells #[.int .i64 p, .slice ao n c] 26))
    rw [alloc_size] at h
    exact h.congr (fun i hi => absurd hi (Nat.not_lt_zero _)) (fun i j hi => absurd hi (Nat.not_lt_zero _))
  have bA : Below (w.alloc (.cells #[.int .i64 p, .slice ao n c] 26)).heap.size (w.alloc (.cells #[.int .i64 p, .slice ao n c] 26)) ((w.alloc (.cells #[.int .i64 p, .slice ao n c] 26)).alloc (.cells #[] 24)) := (Below.refl _ _).alloc (Nat.le_refl _) _
  have BXA := Lib.hid (boxKeep bA BX.out)
  have HT0 := Lib.hid hT0
  clear hT0 bA
  go_enter Try.func128, Try.ntmps128
  go_wp2
  go_loopg [5, 6] M (fun g o i wr => ∃ k : Nat, k ≤ M ∧ g = M - k ∧ i = .int .i64 k ∧ BoxD w p ao n c wr ∧ ∃ g' c', o = .slice (some ⟨g', 0, none⟩) k c' ∧ OTab wr (w.heap.size + 1) g' c' k (fun _ => M) (fun i j => mulF p s n X (dlt i) j))
  case atStart => exact ⟨0, Nat.zero_le _, rfl, rfl, BXA.out, _, _, rfl, HT0.out⟩
  case round =>
    obtain ⟨k, hk, rfl, rfl, ⟨f0, f1, f2, f3⟩, g', c', rfl, hT⟩ := hrel
    have BXr := Lib.hid (show BoxD w p ao n c wr from ⟨f0, f1, f2, f3⟩)
    clear e0 e1 e2 e3
    by_cases hlt : k < M
    · go_wp2_with fail
      refine Calls.makes' (HZ.out _) _ fun w1 hb1 => ?_
      have hT1 := hT.kept hb1
      have BX1 := Lib.hid (boxKeep hb1 BXr.out)
      obtain ⟨j0, j1, j2, j3⟩ := boxDrew BX1.out
      have hl1 := BX1.out.2.2.1
      obtain ⟨V, hV, hpush⟩ := hT1.pushAt (show w.heap.size + 1 ≤ w1.heap.size by omega)
      have HP := Lib.hid hpush
      have hgB := hT1.base
      have hVd := hV.drew
      clear hpush f0 f1 hV
      go_wp2
      go_region_law (first
        | (go_simp; go_at_call 93; refine (HT.out _ _ _ k3 hO2.ints (dlt_in hp _ _)).mono ?_; rintro e w4 ⟨g4, c4, rfl, hg4, hb4, hO4⟩; have bx4 := boxKeep hb4 ⟨k0, k1, k2, k3⟩; have hV4 := (hVd.kept hb2).kept hb4; obtain ⟨z0, z1, z2, z3⟩ := bx4)
        | (go_simp; go_at_call 118; refine (HN.out _ k j3 hlt).mono ?_; rintro e w2 ⟨g2, c2, rfl, hg2, hb2, hO2⟩; have bx2 := boxKeep hb2 ⟨j0, j1, j2, j3⟩; obtain ⟨k0, k1, k2, k3⟩ := bx2)
        | (refine step_push rfl _ _ _ _ elR rfl hV4 (.slice (some ⟨g4, 0, none⟩) M c4) rfl rfl rfl (by omega) (by omega) ?_; intro g3 c3 w3 hO3 hg3 hgr3))
      all_goals go_wp2
      all_goals go_roundg (M - (k + 1))
      all_goals first
        | omega
        | (have t2 : w1.heap.size ≤ w2.heap.size := hb2.size
           have t4 := hb4.size
           have bb : Below w1.heap.size w1 w4 := ⟨(hb4.mono hb2.size).os.trans hb2.os, (hb4.mono hb2.size).tape.trans hb2.tape, (hb4.mono hb2.size).output.trans hb2.output, by omega, fun q hq => ((hb4.mono hb2.size).block q hq).trans (hb2.block q hq)⟩
           exact ⟨k + 1, by omega, rfl, by go_num, boxGrown hgr3 (by omega) ⟨z0, z1, z2, z3⟩, g3, c3, rfl, (HP.out _ _ _ _ _ _ _ _ bb hO4 (by omega) hO3 hg3 hgr3).congr (fun i hi => by by_cases e : i = k <;> simp [e]) (fun i j hi hj => by by_cases e : i = k <;> simp [e])⟩)
    · obtain rfl : k = M := by omega
      go_wp2_with fail
      refine Calls.makes' (HZ.out _) _ fun w1 hb1 => ?_
      have hT1 := hT.kept hb1
      have b1 := f3.trans (hb1.mono f3.size)
      go_wp2_with fail
      go_at_call 154
      refine (sColumns_c _ k _ _ _ hT1.tab (by omega) (fun i hi => Nat.le_refl _)).mono ?_
      rintro e w4 ⟨g4, c4, rfl, hb4, hT4⟩
      go_wp2
      go_ret
      exact ⟨g4, c4, rfl, b1.trans (hb4.mono b1.size), hT4.mono b1.size⟩


end Go.Proofs.Ytnnacligfoonbaa
