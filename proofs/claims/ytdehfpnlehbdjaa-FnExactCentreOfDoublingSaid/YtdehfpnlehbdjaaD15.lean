/-
  Roots of the field's numbers, and which doublings divide, in both programs; the laws' own functions on doublings. No condition beside sizes.
-/
import Derived.Test.YtdehfpnlehbdjaaDJ
import Derived.Handy
set_option linter.unusedVariables false
set_option linter.unusedSimpArgs false
namespace Go.Proofs.Ytdehfpnlehbdjaa
open Go.RowKit

/-- x is a root of a -/
def rootB (P : Nat) (a : Int) (x : Nat) : Bool := ((x : Int) * (x : Int)) % (P : Int) == a
def hasRoot (P : Nat) (a : Int) : Bool := decide (fst (rootB P a) P < P)

/-- a doubling at a world: its steps, and what the test says of it -/
structure DV (w : World) (sv : Value) (p : Int) (n : Nat) (s : Nat → Int) : Prop where
  ints : Ints w sv n s
  p1 : 1 ≤ p
  p2 : p ≤ 1000
  le : n ≤ 4
  sm : Sm n s
theorem DV.below {w w' : World} {sv : Value} {p : Int} {n : Nat} {s : Nat → Int} (h : DV w sv p n s) (hb : Below w.heap.size w w') : DV w' sv p n s := ⟨h.ints.below hb, h.p1, h.p2, h.le, h.sm⟩
theorem dv_of {w : World} {sv : Value} {p : Int} {n : Nat} {s : Nat → Int} (h : Ints w sv n s) (hd : dblB p n s = true) : DV w sv p n s := by
  obtain ⟨h1, h2, h3⟩ := dblB_ok hd
  have := primeB_bd h1
  exact ⟨h, by omega, by omega, h2, fun i hi => by have := h3 i hi; omega⟩

def divB (p : Int) (n : Nat) (s : Nat → Int) : Bool := if n = 0 then true else if n = 1 then !hasRoot p.toNat (s 0) else false
theorem rootLt (P : Nat) (a : Int) : decide (idxB (rootB P a) P < 0) = !hasRoot P a := by
  unfold hasRoot idxB
  by_cases h : fst (rootB P a) P < P
  · rw [if_pos h, decide_eq_true h, decide_eq_false (by omega)]; rfl
  · rw [if_neg h, decide_eq_false h]; rfl

theorem boxKeepC {w W W' : World} {p : Int} {ao : Option Addr} {n c : Nat} {a : Addr} {v : Value} (ha : a.block < w.heap.size) (hb : Below W.heap.size W W') (h : BoxD w p ao n c W ∧ W.cell? a = some v) : BoxD w p ao n c W' ∧ W'.cell? a = some v :=
  ⟨boxKeep hb h.1, by rw [hb.cell (p := a) (by have := h.1.2.2.2.size; omega)]; exact h.2⟩
theorem boxBelowC {w W : World} {p : Int} {ao : Option Addr} {n c : Nat} {a : Addr} {v : Value} (h : BoxD w p ao n c W ∧ W.cell? a = some v) : Below w.heap.size w W := h.1.2.2.2
theorem boxStartC {w W : World} {p : Int} {ao : Option Addr} {n c : Nat} {a : Addr} {v : Value} (ha : a.block < w.heap.size) (h : BoxD w p ao n c W) (hc : w.cell? a = some v) : BoxD w p ao n c W ∧ W.cell? a = some v :=
  ⟨h, by rw [h.2.2.2.cell (p := a) ha]; exact hc⟩

/-! ### the laws' own functions -/

set_option maxRecDepth 100000 in
theorem szD_c (p : Int) (sv : Value) (n : Nat) (s : Nat → Int) (w : World) (h : Ints w sv n s) :
    Calls Try.prog 8 #[dbl p sv, .int .i64 1048576] w fun e w' => Makes w w' e (.int .i64 (szP 1048576 n)) := by
  obtain ⟨ao, c, b, o, rfl, p2, p3, p4, p5⟩ := h.out
  clear h p5 p4
  by_cases hn : n ≤ 1048576
  · have h0 : 0 ≤ szP 1048576 n := by unfold szP; rw [if_pos (by omega)]; omega
    go_enter Try.func8, Try.ntmps8
    go_wp2_with (go_at_call 30; refine (szInt64S_c _ _ _ _ _ (by omega) (by omega) (by omega)).mono ?_; rintro e w' ⟨rfl, rfl⟩)
    go_ret
    exact ⟨rfl, (Below.refl _ _).alloc (Nat.le_refl _) _⟩
  · have h0 : szP 1048576 n = -1 := by unfold szP; rw [if_neg (by omega)]
    go_enter Try.func8, Try.ntmps8
    go_wp2_with (go_at_call 30; refine (szInt64S_c _ _ _ _ _ (by omega) (by omega) (by omega)).mono ?_; rintro e w' ⟨rfl, rfl⟩)
    go_ret
    exact ⟨ret_i64 h0.symm, (Below.refl _ _).alloc (Nat.le_refl _) _⟩

/-- A copy of a doubling: new memory. -/
structure CopyD (w w' : World) (e : Ending) (p : Int) (n : Nat) (X : Nat → Int) : Prop where
  out : ∃ g c, e = .returned (dbl p (.slice (some ⟨g, 0, none⟩) n c)) ∧ w.heap.size ≤ g ∧ Below w.heap.size w w' ∧ Own w' 2 g c n (fun i => .int .i64 (X i))

set_option maxRecDepth 100000 in
set_option maxHeartbeats 1000000 in
theorem toD_c (p : Int) (sv : Value) (n : Nat) (s : Nat → Int) (w : World) (h : Ints w sv n s) (hn : n ≤ 1048576) :
    Calls Try.prog 11 #[dbl p sv] w fun e w' => CopyD w w' e p n s := by
  have hi : ∀ W, Below w.heap.size w W → Ints W sv n s := fun W hb => h.below hb
  obtain ⟨ao, c, b, o, rfl, p2, p3, p4, p5⟩ := h.out
  have HI := Lib.hid hi
  clear h p5 hi p4
  obtain ⟨W, hW⟩ : ∃ W, W = ((w.alloc (.cells #[.int .i64 p, .slice ao n c] 24)).alloc (.cells #[.int .i64 0, .slice none 0 0] 30)).alloc (.cells #[.int .i64 p, .slice none 0 0] 30) := ⟨_, rfl⟩
  have hbW : Below w.heap.size w W := hW ▸ (((Below.refl _ _).alloc (Nat.le_refl _) _).alloc (by simp) _).alloc (by simp; omega) _
  have hsW : W.heap.size = w.heap.size + 1 + 1 + 1 := by rw [hW]; simp
  have o2 : Own W 30 (w.heap.size + 1) 2 2 (fun i => if i = 0 then .int .i64 0 else .slice none 0 0) := by
    rw [hW]
    have h := Own.new (w.alloc (.cells #[.int .i64 p, .slice ao n c] 24)) 30 #[.int .i64 0, .slice none 0 0] (fun i => if i = 0 then .int .i64 0 else .slice none 0 0) (by simp) (fun i hi => by
      have : i = 0 ∨ i = 1 := by simp at hi; omega
      rcases this with rfl | rfl <;> rfl)
    simpa using h.alloc _
  have o3 : Own W 30 (w.heap.size + 1 + 1) 2 2 (fun i => if i = 0 then .int .i64 p else .slice none 0 0) := by
    rw [hW]
    have h := Own.new ((w.alloc (.cells #[.int .i64 p, .slice ao n c] 24)).alloc (.cells #[.int .i64 0, .slice none 0 0] 30)) 30 #[.int .i64 p, .slice none 0 0] (fun i => if i = 0 then .int .i64 p else .slice none 0 0) (by simp) (fun i hi => by
      have : i = 0 ∨ i = 1 := by simp at hi; omega
      rcases this with rfl | rfl <;> rfl)
    simpa using h
  go_enter Try.func11, Try.ntmps11
  go_wp2_with fail
  rw [← hW]
  refine (toInt64S_c _ _ _ _ (HI.out _ hbW) hn).mono ?_
  rintro e w1 ⟨g1, c1, rfl, hg1, hb1, hO1⟩
  have b1 := hbW.trans (hb1.mono hbW.size)
  have q2 := o2.kept hb1
  have q3 := o3.kept hb1
  have z20 := q2.cell (i := 0) (by omega)
  have z21 := q2.cell (i := 1) (by omega)
  have z30 := q3.cell (i := 0) (by omega)
  have z31 := q3.cell (i := 1) (by omega)
  have y20 := q2.frozen 0
  have y21 := q2.frozen 1
  have y31 := q3.frozen 1
  simp only [if_true, if_false, Nat.one_ne_zero] at z20 z21 z30 z31
  clear hW
  go_wp2
  have hg1' : w.heap.size + 1 + 1 + 1 ≤ g1 := by omega
  have q4 := ((q2.setOther (a := ⟨w.heap.size + 1 + 1, 1, none⟩) (show w.heap.size + 1 ≠ w.heap.size + 1 + 1 by omega) (.slice (some ⟨g1, 0, none⟩) n c1)).set 0 (.int .i64 p)).set 1 (.slice (some ⟨g1, 0, none⟩) n c1)
  have b2 : Below w.heap.size w (w1.setCell ⟨w.heap.size + 1 + 1, 1, none⟩ (.slice (some ⟨g1, 0, none⟩) n c1)) := b1.setCell (show w.heap.size ≤ w.heap.size + 1 + 1 by omega) _
  have b3 : Below w.heap.size w ((w1.setCell ⟨w.heap.size + 1 + 1, 1, none⟩ (.slice (some ⟨g1, 0, none⟩) n c1)).setCell ⟨w.heap.size + 1, 0, none⟩ (.int .i64 p)) := b2.setCell (show w.heap.size ≤ w.heap.size + 1 by omega) _
  have b4 : Below w.heap.size w (((w1.setCell ⟨w.heap.size + 1 + 1, 1, none⟩ (.slice (some ⟨g1, 0, none⟩) n c1)).setCell ⟨w.heap.size + 1, 0, none⟩ (.int .i64 p)).setCell ⟨w.heap.size + 1, 1, none⟩ (.slice (some ⟨g1, 0, none⟩) n c1)) := b3.setCell (show w.heap.size ≤ w.heap.size + 1 by omega) _
  have O4 := ((hO1.setOther (a := ⟨w.heap.size + 1 + 1, 1, none⟩) (show g1 ≠ w.heap.size + 1 + 1 by omega) (.slice (some ⟨g1, 0, none⟩) n c1)).setOther (a := ⟨w.heap.size + 1, 0, none⟩) (show g1 ≠ w.heap.size + 1 by omega) (.int .i64 p)).setOther (a := ⟨w.heap.size + 1, 1, none⟩) (show g1 ≠ w.heap.size + 1 by omega) (.slice (some ⟨g1, 0, none⟩) n c1)
  generalize (((w1.setCell ⟨w.heap.size + 1 + 1, 1, none⟩ (.slice (some ⟨g1, 0, none⟩) n c1)).setCell ⟨w.heap.size + 1, 0, none⟩ (.int .i64 p)).setCell ⟨w.heap.size + 1, 1, none⟩ (.slice (some ⟨g1, 0, none⟩) n c1)) = W2 at q4 b4 O4 ⊢
  have z0 := q4.cell (i := 0) (by omega)
  have z1 := q4.cell (i := 1) (by omega)
  simp at z0 z1
  (try simp only [Exit.inBlock, Exit.then])
  refine bodyPost_ret (by simp [results, Try.results11, go_sem, z0, z1]; try rfl) rfl ?_
  exact ⟨g1, c1, rfl, by omega, b4, O4⟩

set_option maxRecDepth 100000 in
theorem eqD_c (p : Int) (v1 v2 : Value) (n : Nat) (X : Nat → Int) (w : World) (h1 : Ints w v1 n X) (h2 : Ints w v2 n X) :
    Calls Try.prog 14 #[dbl p v1, dbl p v2] w fun e w' => Makes w w' e (.bool true) := by
  have i1 : ∀ W, Below w.heap.size w W → Ints W v1 n X := fun W hb => h1.below hb
  have i2 : ∀ W, Below w.heap.size w W → Ints W v2 n X := fun W hb => h2.below hb
  obtain ⟨ao, c, ab, aoff, rfl, p2, p3, p4, p5⟩ := h1.out
  obtain ⟨bo, d, bb, boff, rfl, r2, r3, r4, r5⟩ := h2.out
  have I1 := Lib.hid i1
  have I2 := Lib.hid i2
  have hbb : ∀ o1 o2, Below w.heap.size w ((w.alloc o1).alloc o2) := fun o1 o2 => ((Below.refl _ _).alloc (Nat.le_refl _) _).alloc (by simp) _
  have HB := Lib.hid hbb
  have hpp : (p != p) = false := by simp
  clear h1 h2 i1 i2 p4 p5 r4 r5 hbb
  go_enter Try.func14, Try.ntmps14
  go_wp2_with fail
  refine Calls.reads' (wr := w) (eqInt64S_c _ _ _ _ _ _ _ (I1.out _ (HB.out _ _)) (I2.out _ (HB.out _ _))) _ fun q => ?_
  rw [eqB_refl]
  go_wp2
  go_ret
  exact ⟨rfl, Reads.below (HB.out _ _)⟩

end Go.Proofs.Ytdehfpnlehbdjaa
