/-
  The diagonal of the norm, and the counts of the reference. No condition beside sizes.
-/
import Derived.Test.YtnnacligfoonbaaD30
import Derived.Test.YtnnacligfoonbaaQK
set_option linter.unusedVariables false
set_option linter.unusedSimpArgs false
namespace Go.Proofs.Ytnnacligfoonbaa
open Go.RowKit

theorem wpList_mkA {P : Program} (w : World) {ops : Array Oper} {rest : List Oper} {o : Oper} {a : Act} {Q : Exit → Act → World → Prop} (hgd : o.guard = none) (l c : Operand) (t e : TypeId) {z : Value} {bytes : Nat} (el : Elem P t e z bytes) (hz1 : z.cells = #[z])
    (ho : o.op = Op.makeSlice t l c) (kl kc : IntKind) (n : Nat) (hl : a.eval l = .int kl (n : Int)) (hc : a.eval c = .int kc (n : Int)) (hbytes : bytes * n ≤ 281474976710656) (h63 : n ≤ 9223372036854775807)
    (h : ∀ w', Below w.heap.size w w' → w'.heap.size = w.heap.size + 1 → Own w' e w.heap.size n n (fun _ => z) → wpList P ops Q rest (a.put o.dst (.slice (some ⟨w.heap.size, 0, none⟩) n n)) w') :
    wpList P ops Q (o :: rest) a w :=
  wpList_mk w hgd l c t e el hz1 ho kl kc n hl hc hbytes h63 (fun hO => h _ ((Below.refl _ _).alloc (Nat.le_refl _) _) (by simp) hO)

theorem norm_dlt {p : Int} {s : Nat → Int} {n i : Nat} (hp : 2 ≤ p) (hi : i < 2 ^ n) : normF p s n (dlt i) = dgF p s n i := by
  rw [← norm_sum, nsF_eq, sumF_congr (g := fun j => if j = i then dgF p s n j else 0), sumF_one _ i hi]
  · have := dgF_in (p := p) (by omega) s n i
    exact Int.emod_eq_of_lt this.1 this.2
  · intro j hj
    unfold dlt
    by_cases e : j = i
    · rw [if_pos e, if_pos e]; omega
    · rw [if_neg e, if_neg e]; omega

set_option maxRecDepth 100000 in
set_option maxHeartbeats 2000000 in
theorem iDiag_c (p : Int) (sv : Value) (n : Nat) (s : Nat → Int) (w : World) (hd : DV w sv p n s) (hp : 2 ≤ p) :
    Calls Try.prog 79 #[dbl p sv] w fun e w' => CopyI w w' e (2 ^ n) (dgF p s n) := by
  obtain ⟨ao, c, _, _, rfl, qq⟩ := hd.ints.out
  clear qq
  obtain ⟨e0, e1, e2, e3⟩ := box0 w p ao n c 26
  have BX := Lib.hid (box0 w p ao n c 26)
  have hn4 := hd.le
  have hT : ∀ (W : World) (v : Value) (i : Nat), Below w.heap.size w W → Ints W v (2 ^ n) (dlt i) → i < 2 ^ n → Calls Try.prog 84 #[dbl p (.slice ao n c), v] W fun e w' => Makes W w' e (.int .i64 (dgF p s n i)) := fun W v i hb h1 hi =>
    norm_dlt hp hi ▸ iNorm_c p _ _ n s (dlt i) W (hd.below hb) ⟨h1, dlt_in hp _ _⟩
  obtain ⟨M, hM⟩ : ∃ M, 2 ^ n = M := ⟨_, rfl⟩
  have hM16 : M ≤ 16 := hM ▸ pow_le hn4
  have HZ : Hid (∀ W, Calls Try.prog 88 #[dbl p (.slice ao n c)] W fun e w' => Makes W w' e (.int .i64 ((M : Nat) : Int))) := fun W => hM ▸ iSize_c p ao n c W hn4
  rw [hM] at hT ⊢
  have HT := Lib.hid hT
  clear hM hT hd
  have hT0 : Own ((w.alloc (.cells #[.int .i64 p, .slice ao n c] 26)).alloc (.cells #[] 2)) 2 (w.heap.size + 1) 0 0 (fun i => .int .i64 (dgF p s n i)) := by
    have h := Own.empty (w.alloc (.cells #[.int .i64 p, .slice ao n c] 26)) 2 (fun i => .int .i64 (dgF p s n i))
    rw [alloc_size] at h
    exact h
  have bA : Below (w.alloc (.cells #[.int .i64 p, .slice ao n c] 26)).heap.size (w.alloc (.cells #[.int .i64 p, .slice ao n c] 26)) ((w.alloc (.cells #[.int .i64 p, .slice ao n c] 26)).alloc (.cells #[] 2)) := (Below.refl _ _).alloc (Nat.le_refl _) _
  have BXA := Lib.hid (boxKeep bA BX.out)
  have HT0 := Lib.hid hT0
  clear hT0 bA
  go_enter Try.func79, Try.ntmps79
  go_wp2_with fail
  refine Calls.makes' (HZ.out _) _ fun w1 hb1 => ?_
  have hT1 := HT0.out.kept hb1
  have bx1 := boxKeep hb1 BXA.out
  have l1 : w.heap.size + 2 ≤ w1.heap.size := by have := hb1.size; simp only [alloc_size] at this; omega
  go_wp2_with fail
  go_at_call 106
  refine (iUnit_c M _ (by omega)).mono ?_
  rintro e w2 ⟨gu, cu, rfl, hb2, hU⟩
  have hU2 := Lib.hid hU.bound
  have l2 := hb2.size
  have hT2 := Lib.hid (hT1.kept hb2)
  have BX2 := Lib.hid (boxKeep hb2 bx1)
  clear hU hT1 e0 e1 e2 e3 bx1 hb1 hb2
  obtain ⟨B1, hB1⟩ : ∃ B, w1.heap.size = B := ⟨_, rfl⟩
  obtain ⟨U1, hU1⟩ : ∃ U, w2.heap.size = U := ⟨_, rfl⟩
  have hU3 : Hid (OTabM w2 B1 U1 gu cu M (fun _ => M) dlt) := by subst hB1; subst hU1; exact hU2
  have l3 : Hid (U1 ≤ w2.heap.size) := Nat.le_of_eq hU1.symm
  rw [hB1] at l1 l2
  rw [hU1] at l2
  clear hU1 hB1 hU2
  go_wp2
  go_loopg [3, 11] M (fun g o i wr => ∃ k : Nat, k ≤ M ∧ g = M - k ∧ i = .int .i64 k ∧ BoxD w p ao n c wr ∧ Hid (U1 ≤ wr.heap.size) ∧ Hid (OTabM wr B1 U1 gu cu M (fun _ => M) dlt) ∧ ∃ g' c', o = .slice (some ⟨g', 0, none⟩) k c' ∧ Hid (g' < B1 ∨ U1 ≤ g') ∧ w.heap.size + 1 ≤ g' ∧ Own wr 2 g' c' k (fun i => .int .i64 (dgF p s n i)))
  case atStart => exact ⟨0, Nat.zero_le _, rfl, rfl, BX2.out, l3, hU3, _, _, rfl, Or.inl (by omega), Nat.le_refl _, hT2.out⟩
  case round =>
    obtain ⟨k, hk, rfl, rfl, ⟨f0, f1, f2, f3⟩, hul, hu, g', c', rfl, hgd, hgB, hT⟩ := hrel
    have BXr := Lib.hid (show BoxD w p ao n c wr from ⟨f0, f1, f2, f3⟩)
    by_cases hlt : k < M
    · obtain ⟨ru, cru, hcu, hrow⟩ := hu.out.row hlt
      go_wp2_with fail
      go_at_call 84
      refine Calls.makes' (HT.out _ _ _ f3 hrow hlt) _ fun w4 hb4 => ?_
      have hV2 := hT.kept hb4
      have hs2 := hb4.size
      have bx4 := Lib.hid (boxKeep hb4 BXr.out)
      clear f0 f1 hcu hrow
      go_wp2_with (at_builtin; refine wpList_push _ rfl _ _ _ _ elI rfl hV2 (.int .i64 (dgF p s n k)) rfl rfl rfl (by omega) (by omega) ?_; intro g3 c3 w3 hO3 hg3 hgr3)
      go_roundg (M - (k + 1))
      case measure => omega
      case rel =>
        have a1 := hul.out
        have a2 := hgd.out
        have a3 := hgr3.size
        refine ⟨k + 1, by omega, rfl, by go_num, boxGrown hgr3 (by omega) bx4.out, (show U1 ≤ w3.heap.size by omega), ((hu.out.kept hb4).grown hgr3 a2), g3, c3, rfl, (show g3 < B1 ∨ U1 ≤ g3 by omega), by omega, hO3.congr fun i hi => ?_⟩
        by_cases e : i = k <;> simp [e]
    · obtain rfl : k = M := by omega
      go_wp2
      go_ret
      exact ⟨g', c', rfl, by omega, f3, hT⟩

set_option maxRecDepth 100000 in
set_option maxHeartbeats 4000000 in
theorem sCounts_c (P : Nat) (v : Value) (m : Nat) (c : Nat → Int) (w : World) (h : Ints w v m c) (hP : 1 ≤ P) (hP2 : P ≤ 13) (hm : m ≤ 16) (hc : ∀ i, i < m → 0 ≤ c i ∧ c i ≤ 1000) :
    Calls Try.prog 77 #[.int .i64 P, v] w fun e w' => CopyI w w' e P (foreK P c 0 m) := by
  obtain ⟨ao, cp, b, o, rfl, p2, p3, p4, p5⟩ := h.out
  have P5 := Lib.hid p5
  have HC := Lib.hid hc
  clear h p5 hc
  go_enter Try.func77, Try.ntmps77
  go_wp2_with (at_make; refine wpList_mkA _ rfl _ _ _ _ elI rfl rfl .i64 .i64 P rfl rfl (by omega) (by omega) ?_; intro W1 hB1 hS1 hO1; have hu := hO1.cell hP; have hf := hO1.frozen 0)
  go_loopg [5, 6] m (fun g o i wr => ∃ k : Nat, k ≤ m ∧ g = m - k ∧ i = .int .i64 k ∧ ∃ g', o = .slice (some ⟨g', 0, none⟩) P P ∧ w.heap.size ≤ g' ∧ Below w.heap.size w wr ∧ Own wr 2 g' P P (fun j => .int .i64 (foreK P c 0 k j)))
  case atStart => exact ⟨0, Nat.zero_le _, rfl, rfl, _, rfl, Nat.le_refl _, hB1.setCell (Nat.le_refl _) _, (hO1.set 0 _).congr fun j hj => by
    show _ = Value.int .i64 (if j = 0 then 1 else 0)
    by_cases e : j = 0 <;> simp [e]⟩
  case round =>
    obtain ⟨k, hk, rfl, rfl, g', rfl, hg', hb, hO⟩ := hrel
    obtain ⟨wo, rfl⟩ : ∃ wo, wo = wr := ⟨_, rfl⟩
    clear hO1 hu hf hB1 hS1
    by_cases hlt : k < m
    · obtain rfl := p4 (by omega)
      have hck := HC.out k hlt
      have hbd : ∀ j, j < P → 0 ≤ foreK P c 0 k j ∧ foreK P c 0 k j ≤ 665416609183179841 := fun j hj => ⟨(foreK_bd hP c hj).1, Int.le_trans (foreK_bd hP c hj).2 (pow_bd hP2 (by omega))⟩
      have hbd2 : ∀ j, j < P → stepK P (c k) (foreK P c 0 k) j ≤ 665416609183179841 := fun j hj => by
        have h2 := (foreK_bd (m := k + 1) hP c hj).2
        rw [foreK, Nat.zero_add] at h2
        exact Int.le_trans h2 (pow_bd hP2 (by omega))
      have hnx : Hid (∀ j, stepK P (c k) (foreK P c 0 k) j = foreK P c 0 (k + 1) j) := fun j => by rw [foreK, Nat.zero_add]
      obtain ⟨C, hCe⟩ : ∃ C, foreK P c 0 k = C := ⟨_, rfl⟩
      rw [hCe] at hbd hbd2 hnx hO
      clear hCe
      have HB := Lib.hid hbd
      have HB2 := Lib.hid hbd2
      have hpk : Hid (∀ n x j, n < P → x ≤ P → 0 ≤ partK P (c k) C n x j ∧ partK P (c k) C n x j ≤ stepK P (c k) C j) := fun n x j hn hx => partK_bd (c k) (fun i hi => (HB.out i hi).1) hn hx j
      obtain ⟨d, hd⟩ : ∃ d, c k = d := ⟨_, rfl⟩
      have hcell : Hid (∀ W, Below w.heap.size w W → W.cell? ⟨b, o + k, none⟩ = some (.int .i64 d)) := fun W hW => by rw [hW.cell (p := ⟨b, o + k, none⟩) (lt_of_cell (P5.out k hlt)), ← hd]; exact P5.out k hlt
      rw [hd] at hck hpk HB2 hnx
      clear hd hbd hbd2
      go_wp2_with (at_make; refine wpList_mkA _ rfl _ _ _ _ elI rfl rfl .i64 .i64 P rfl rfl (by omega) (by omega) ?_; intro W2 hB2 hS2 hO2)
      go_loopg [8] P (fun g i wq => ∃ n : Nat, n ≤ P ∧ g = P - n ∧ i = .int .i64 n ∧ Below wo.heap.size wo wq ∧ Own wq 2 wo.heap.size P P (fun j => .int .i64 (partK P d C n 0 j)))
      case atStart => exact ⟨0, Nat.zero_le _, rfl, rfl, hB2, hO2.congr fun j hj => by rw [partK_zero]⟩
      case round =>
        obtain ⟨n, hn, rfl, rfl, hbq, hOq⟩ := hrel
        obtain ⟨wn, rfl⟩ : ∃ wn, wn = wr := ⟨_, rfl⟩
        clear hO2 hB2 hS2
        by_cases hltn : n < P
        · go_wp2
          go_loopg [9] P (fun g i wq => ∃ a : Nat, a ≤ P ∧ g = P - a ∧ i = .int .i64 a ∧ Below wo.heap.size wo wq ∧ Own wq 2 wo.heap.size P P (fun j => .int .i64 (partK P d C n a j)))
          case atStart => exact ⟨0, Nat.zero_le _, rfl, rfl, hbq, hOq⟩
          case round =>
            obtain ⟨a, ha, rfl, rfl, hba, hOa⟩ := hrel
            clear hOq hbq
            by_cases hlta : a < P
            · have hm1 := mul_bd (a := d) (b := (a : Int)) (by omega) (by omega)
              have hm2 : 0 ≤ d * (a : Int) ∧ d * (a : Int) ≤ 1000 * 13 := ⟨Int.mul_nonneg (by omega) (by omega), Int.mul_le_mul hck.2 (by omega) (by omega) (by omega)⟩
              have hm3 : 0 ≤ d * (a : Int) * (a : Int) ∧ d * (a : Int) * (a : Int) ≤ 1000 * 13 * 13 := ⟨Int.mul_nonneg hm2.1 (by omega), Int.mul_le_mul hm2.2 (by omega) (by omega) (by omega)⟩
              have hmod := mod_bd ((n : Int) + d * a * a) P (by omega)
              obtain ⟨r, hr⟩ := Int.eq_ofNat_of_zero_le hmod.1
              have CM : Hid (∀ W, Calls Try.prog 82 #[.int .i64 P, .int .i64 ((n : Int) + d * a * a)] W fun e w' => e = .returned (.int .i64 (r : Int)) ∧ W = w') := fun W => hr ▸ sMod_c _ _ W (by omega) (by omega) (by omega) (by omega)
              have hrP : r < P := by omega
              have hpr := hpk.out n a r hltn (by omega)
              have hps := hpk.out n (a + 1) r hltn (by omega)
              have hCn := HB.out n hltn
              have hst := HB2.out r hrP
              have hnext : partK P d C n (a + 1) r = partK P d C n a r + C n := by rw [partK_next, if_pos hr]
              have HNX : Hid (∀ j, partK P d C n (a + 1) j = if j = r then partK P d C n a r + C n else partK P d C n a j) := fun j => by
                by_cases e : j = r
                · subst e; rw [if_pos rfl]; exact hnext
                · rw [if_neg e, partK_next, if_neg (by rw [hr]; omega)]; omega
              have hcc := hcell.out _ (hb.trans (hba.mono hb.size))
              have hcu : wr.cell? ⟨g', n, none⟩ = some (.int .i64 (C n)) := (hO.kept hba).cell hltn
              have hnx1 : wr.cell? ⟨wo.heap.size, r, none⟩ = some (.int .i64 (partK P d C n a r)) := hOa.cell hrP
              have hfz := hOa.frozen r
              rw [hnext] at hps
              obtain ⟨q, hq⟩ : ∃ q, partK P d C n a r = q := ⟨_, rfl⟩
              obtain ⟨u, hu⟩ : ∃ u, C n = u := ⟨_, rfl⟩
              rw [hq, hu] at HNX hps
              rw [hq] at hnx1 hpr
              rw [hu] at hcu hCn
              have hwr : IntKind.i64.wrap (q + u) = q + u := wrap_in _ (by omega)
              have i0 : (0 : Int) ≤ (r : Int) := by omega
              have i1 : (r : Int) < (P : Int) := by omega
              have i2 : (0 : Int) ≤ (n : Int) := by omega
              have i3 : (n : Int) < (P : Int) := by omega
              clear hmod hr hnext hq hu hst hpr hps
              go_wp2_with (go_at_call 82; refine (CM.out _).mono ?_; rintro e w' ⟨rfl, rfl⟩)
              go_region_law (fail)
              all_goals go_wp2
              all_goals go_roundg (P - (a + 1))
              all_goals first
                | omega
                | exact ⟨a + 1, by omega, rfl, by go_num, (hba.trans ((drewB wr).mono hba.size)).setCell (Nat.le_refl _) _, (hOa.drew.set r _).congr fun j hj => by
                    rw [HNX.out j]
                    by_cases e : j = r <;> simp [e]⟩
            · obtain rfl : a = P := by omega
              go_wp2
              go_roundg (a - (n + 1))
              case measure => omega
              case rel => exact ⟨n + 1, by omega, rfl, by go_num, hba, hOa.congr fun j hj => by rw [partK_row]⟩
        · obtain rfl : n = P := by omega
          go_wp2
          go_roundg (m - (k + 1))
          case measure => omega
          case rel => exact ⟨k + 1, by omega, rfl, by go_num, _, rfl, hb.size, hb.trans (hbq.mono hb.size), hOq.congr fun j hj => by rw [partK_all, hnx.out]⟩
    · obtain rfl : k = m := by omega
      go_wp2
      go_ret
      exact ⟨g', P, rfl, hg', hb, hO⟩

end Go.Proofs.Ytnnacligfoonbaa
