/-
  The laws' own functions on spaces. No condition beside sizes.
-/
import Derived.Test.YtnkflgigbielgaaDX
set_option linter.unusedVariables false
set_option linter.unusedSimpArgs false
namespace Go.Proofs.Ytnkflgigbielgaa
open Go.RowKit

/-! ### the laws' own functions -/

set_option maxRecDepth 100000 in
theorem szSp_c (p : Int) (sv : Value) (n : Nat) (s : Nat → Int) (w : World) (h : Ints w sv n s) :
    Calls Try.prog 42 #[dbl p sv, .int .i64 1048576] w fun e w' => Makes w w' e (.int .i64 (szP 1048576 n)) := by
  obtain ⟨ao, c, b, o, rfl, p2, p3, p4, p5⟩ := h.out
  clear h p5 p4
  by_cases hn : n ≤ 1048576
  · have h0 : 0 ≤ szP 1048576 n := by unfold szP; rw [if_pos (by omega)]; omega
    go_enter Try.func42, Try.ntmps42
    go_wp2_with (go_at_call 103; refine (szInt64S_c _ _ _ _ _ (by omega) (by omega) (by omega)).mono ?_; rintro e w' ⟨rfl, rfl⟩)
    go_ret
    exact ⟨rfl, (Below.refl _ _).alloc (Nat.le_refl _) _⟩
  · have h0 : szP 1048576 n = -1 := by unfold szP; rw [if_neg (by omega)]
    go_enter Try.func42, Try.ntmps42
    go_wp2_with (go_at_call 103; refine (szInt64S_c _ _ _ _ _ (by omega) (by omega) (by omega)).mono ?_; rintro e w' ⟨rfl, rfl⟩)
    go_ret
    exact ⟨ret_i64 h0.symm, (Below.refl _ _).alloc (Nat.le_refl _) _⟩

set_option maxRecDepth 100000 in
set_option maxHeartbeats 1000000 in
theorem toSp_c (p : Int) (sv : Value) (n : Nat) (s : Nat → Int) (w : World) (h : Ints w sv n s) (hn : n ≤ 1048576) :
    Calls Try.prog 45 #[dbl p sv] w fun e w' => CopyD w w' e p n s := by
  have hi : ∀ W, Below w.heap.size w W → Ints W sv n s := fun W hb => h.below hb
  obtain ⟨ao, c, b, o, rfl, p2, p3, p4, p5⟩ := h.out
  have HI := Lib.hid hi
  clear h p5 hi p4
  obtain ⟨W, hW⟩ : ∃ W, W = ((w.alloc (.cells #[.int .i64 p, .slice ao n c] 59)).alloc (.cells #[.int .i64 0, .slice none 0 0] 26)).alloc (.cells #[.int .i64 p, .slice none 0 0] 26) := ⟨_, rfl⟩
  have hbW : Below w.heap.size w W := hW ▸ (((Below.refl _ _).alloc (Nat.le_refl _) _).alloc (by simp) _).alloc (by simp; omega) _
  have hsW : W.heap.size = w.heap.size + 1 + 1 + 1 := by rw [hW]; simp
  have o2 : Own W 26 (w.heap.size + 1) 2 2 (fun i => if i = 0 then .int .i64 0 else .slice none 0 0) := by
    rw [hW]
    have h := Own.new (w.alloc (.cells #[.int .i64 p, .slice ao n c] 59)) 26 #[.int .i64 0, .slice none 0 0] (fun i => if i = 0 then .int .i64 0 else .slice none 0 0) (by simp) (fun i hi => by
      have : i = 0 ∨ i = 1 := by simp at hi; omega
      rcases this with rfl | rfl <;> rfl)
    simpa using h.alloc _
  have o3 : Own W 26 (w.heap.size + 1 + 1) 2 2 (fun i => if i = 0 then .int .i64 p else .slice none 0 0) := by
    rw [hW]
    have h := Own.new ((w.alloc (.cells #[.int .i64 p, .slice ao n c] 59)).alloc (.cells #[.int .i64 0, .slice none 0 0] 26)) 26 #[.int .i64 p, .slice none 0 0] (fun i => if i = 0 then .int .i64 p else .slice none 0 0) (by simp) (fun i hi => by
      have : i = 0 ∨ i = 1 := by simp at hi; omega
      rcases this with rfl | rfl <;> rfl)
    simpa using h
  go_enter Try.func45, Try.ntmps45
  go_wp2_with fail
  rw [← hW]
  refine (toInt64S_c _ _ _ _ (HI.out _ hbW) hn).mono ?_
  rintro e w1 ⟨g1, c1, rfl, hg1, hb1, hO1⟩
  have b1 := hbW.trans (hb1.mono hbW.size)
  have q2 := o2.kept hb1
  have q3 := o3.kept hb1
  have z20 := q2.cell (i := 0) (by omega)
  have z21 := q2.cell (i := 1) (by omega)
  have z30 := q3.cell (i := 0) (by omega)
  have z31 := q3.cell (i := 1) (by omega)
  have y20 := q2.frozen 0
  have y21 := q2.frozen 1
  have y31 := q3.frozen 1
  simp only [if_true, if_false, Nat.one_ne_zero] at z20 z21 z30 z31
  clear hW
  go_wp2
  have hg1' : w.heap.size + 1 + 1 + 1 ≤ g1 := by omega
  have q4 := ((q2.setOther (a := ⟨w.heap.size + 1 + 1, 1, none⟩) (show w.heap.size + 1 ≠ w.heap.size + 1 + 1 by omega) (.slice (some ⟨g1, 0, none⟩) n c1)).set 0 (.int .i64 p)).set 1 (.slice (some ⟨g1, 0, none⟩) n c1)
  have b2 : Below w.heap.size w (w1.setCell ⟨w.heap.size + 1 + 1, 1, none⟩ (.slice (some ⟨g1, 0, none⟩) n c1)) := b1.setCell (show w.heap.size ≤ w.heap.size + 1 + 1 by omega) _
  have b3 : Below w.heap.size w ((w1.setCell ⟨w.heap.size + 1 + 1, 1, none⟩ (.slice (some ⟨g1, 0, none⟩) n c1)).setCell ⟨w.heap.size + 1, 0, none⟩ (.int .i64 p)) := b2.setCell (show w.heap.size ≤ w.heap.size + 1 by omega) _
  have b4 : Below w.heap.size w (((w1.setCell ⟨w.heap.size + 1 + 1, 1, none⟩ (.slice (some ⟨g1, 0, none⟩) n c1)).setCell ⟨w.heap.size + 1, 0, none⟩ (.int .i64 p)).setCell ⟨w.heap.size + 1, 1, none⟩ (.slice (some ⟨g1, 0, none⟩) n c1)) := b3.setCell (show w.heap.size ≤ w.heap.size + 1 by omega) _
  have O4 := ((hO1.setOther (a := ⟨w.heap.size + 1 + 1, 1, none⟩) (show g1 ≠ w.heap.size + 1 + 1 by omega) (.slice (some ⟨g1, 0, none⟩) n c1)).setOther (a := ⟨w.heap.size + 1, 0, none⟩) (show g1 ≠ w.heap.size + 1 by omega) (.int .i64 p)).setOther (a := ⟨w.heap.size + 1, 1, none⟩) (show g1 ≠ w.heap.size + 1 by omega) (.slice (some ⟨g1, 0, none⟩) n c1)
  generalize (((w1.setCell ⟨w.heap.size + 1 + 1, 1, none⟩ (.slice (some ⟨g1, 0, none⟩) n c1)).setCell ⟨w.heap.size + 1, 0, none⟩ (.int .i64 p)).setCell ⟨w.heap.size + 1, 1, none⟩ (.slice (some ⟨g1, 0, none⟩) n c1)) = W2 at q4 b4 O4 ⊢
  have z0 := q4.cell (i := 0) (by omega)
  have z1 := q4.cell (i := 1) (by omega)
  simp at z0 z1
  (try simp only [Exit.inBlock, Exit.then])
  refine bodyPost_ret (by simp [results, Try.results45, go_sem, z0, z1]; try rfl) rfl ?_
  exact ⟨g1, c1, rfl, by omega, b4, O4⟩

set_option maxRecDepth 100000 in
theorem eqSp_c (p : Int) (v1 v2 : Value) (n : Nat) (X : Nat → Int) (w : World) (h1 : Ints w v1 n X) (h2 : Ints w v2 n X) :
    Calls Try.prog 48 #[dbl p v1, dbl p v2] w fun e w' => Makes w w' e (.bool true) := by
  have i1 : ∀ W, Below w.heap.size w W → Ints W v1 n X := fun W hb => h1.below hb
  have i2 : ∀ W, Below w.heap.size w W → Ints W v2 n X := fun W hb => h2.below hb
  obtain ⟨ao, c, ab, aoff, rfl, p2, p3, p4, p5⟩ := h1.out
  obtain ⟨bo, d, bb, boff, rfl, r2, r3, r4, r5⟩ := h2.out
  have I1 := Lib.hid i1
  have I2 := Lib.hid i2
  have hbb : ∀ o1 o2, Below w.heap.size w ((w.alloc o1).alloc o2) := fun o1 o2 => ((Below.refl _ _).alloc (Nat.le_refl _) _).alloc (by simp) _
  have HB := Lib.hid hbb
  have hpp : (p != p) = false := by simp
  clear h1 h2 i1 i2 p4 p5 r4 r5 hbb
  go_enter Try.func48, Try.ntmps48
  go_wp2_with fail
  refine Calls.reads' (wr := w) (eqInt64S_c _ _ _ _ _ _ _ (I1.out _ (HB.out _ _)) (I2.out _ (HB.out _ _))) _ fun q => ?_
  rw [eqB_refl]
  go_wp2
  go_ret
  exact ⟨rfl, Reads.below (HB.out _ _)⟩


theorem toSp_o (p : Int) (sv : Value) (n : Nat) (s : Nat → Int) (w : World) (h : Ints w sv n s) (hn : n ≤ 1048576) :
    Calls Try.prog 45 #[dbl p sv] w fun e w' => MadeD w w' e p n s :=
  (toSp_c p sv n s w h hn).mono fun e w' h => by
    obtain ⟨g, c, he, hg, hb, hO⟩ := h.out
    exact ⟨_, c, he, hb, ⟨Or.inr ⟨g, rfl, ⟨hg, hO.lt⟩, hO⟩⟩⟩

set_option maxRecDepth 100000 in
set_option maxHeartbeats 400000 in
theorem markSp_o (p : Int) (a : Option Addr) (B U c n : Nat) (X : Nat → Int) (k : Int) (w : World) (h : OI w B U a c n X) (h0 : 0 ≤ k) (hk : k ≤ 1099511627776) (hn : n ≤ 1099511627776) :
    Calls Try.prog 52 #[dbl p (.slice a n c), .int .i64 k] w fun e w' => e = .returned (.int .i64 (k + n)) ∧ Chg w w' (IV B U) := by
  have ha : Below w.heap.size w (w.alloc (.cells #[.int .i64 p, .slice a n c] 26)) := (Below.refl _ _).alloc (Nat.le_refl _) _
  have ho := h.kept ha
  have hc : Chg w (w.alloc (.cells #[.int .i64 p, .slice a n c] 26)) (IV B U) := Chg.of_below ha _
  clear ha
  go_enter Try.func52, Try.ntmps52
  go_wp2_with fail
  go_at_call 117
  refine (markI_o _ _ _ _ _ _ _ _ ho h0 hk hn).mono ?_
  rintro e w1 ⟨rfl, hc1, _⟩
  go_wp2
  go_ret
  exact ⟨rfl, hc.trans hc1⟩

end Go.Proofs.Ytnkflgigbielgaa
