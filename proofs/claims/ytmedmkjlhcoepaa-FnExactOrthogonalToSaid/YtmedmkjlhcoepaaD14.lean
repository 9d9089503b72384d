/-
  Doublings: the test of a doubling and the code of elements, in both programs. No condition beside sizes.
-/
import Derived.Test.YtmedmkjlhcoepaaD13
set_option linter.unusedVariables false
set_option linter.unusedSimpArgs false
namespace Go.Proofs.Ytmedmkjlhcoepaa
open Go.RowKit

/-- a box that holds a doubling, behind w -/
abbrev BoxD (w : World) (p : Int) (ao : Option Addr) (n c : Nat) (W : World) : Prop :=
  W.cell? ⟨w.heap.size, 0, none⟩ = some (.int .i64 p) ∧ W.cell? ⟨w.heap.size, 1, none⟩ = some (.slice ao n c) ∧ w.heap.size < W.heap.size ∧ Below w.heap.size w W
theorem boxKeep {w W W' : World} {p : Int} {ao : Option Addr} {n c : Nat} (hb : Below W.heap.size W W') (h : BoxD w p ao n c W) : BoxD w p ao n c W' :=
  ⟨by rw [hb.cell (p := ⟨w.heap.size, 0, none⟩) h.2.2.1]; exact h.1, by rw [hb.cell (p := ⟨w.heap.size, 1, none⟩) h.2.2.1]; exact h.2.1, by have := hb.size; have := h.2.2.1; omega, h.2.2.2.trans (hb.mono h.2.2.2.size)⟩
theorem box0 (w : World) (p : Int) (ao : Option Addr) (n c : Nat) (t : TypeId) : BoxD w p ao n c (w.alloc (.cells #[.int .i64 p, .slice ao n c] t)) :=
  ⟨by simp, by simp, by simp, (Below.refl _ _).alloc (Nat.le_refl _) _⟩
theorem boxDrew {w W : World} {p : Int} {ao : Option Addr} {n c : Nat} (h : BoxD w p ao n c W) : BoxD w p ao n c W.drew :=
  boxKeep (W := W) ⟨rfl, rfl, rfl, Nat.le_refl _, fun _ _ => rfl⟩ h

theorem idx_neg {f : Nat → Int} {x : Int} : ∀ {n : Nat}, ¬ 0 ≤ idx f x n → ∀ j, j < n → f j ≠ x
  | 0, _, j, hj => absurd hj (Nat.not_lt_zero _)
  | n + 1, h, j, hj => by
    simp only [idx] at h
    by_cases h0 : 0 ≤ idx f x n
    · rw [if_pos h0] at h; exact absurd h0 h
    · rw [if_neg h0] at h
      by_cases h1 : f n = x
      · rw [if_pos h1] at h; omega
      · by_cases e : j = n
        · subst e; exact h1
        · exact idx_neg h0 j (by omega)

theorem dblB_noPrime {p : Int} {n : Nat} {s : Nat → Int} (h : primeB p = false) : dblB p n s = false := by unfold dblB; rw [h]; rfl
theorem dblB_big {p : Int} {n : Nat} {s : Nat → Int} (h : ¬ n ≤ 4) : dblB p n s = false := by unfold dblB; rw [decide_eq_false h]; simp
theorem dblB_out {p : Int} {n : Nat} {s : Nat → Int} (h : inPB 1 p n s = false) : dblB p n s = false := by unfold dblB; rw [h]; simp
theorem dblB_yes {p : Int} {n : Nat} {s : Nat → Int} (h1 : primeB p = true) (h2 : n ≤ 4) (h3 : inPB 1 p n s = true) : dblB p n s = true := by unfold dblB; rw [h1, h3, decide_eq_true h2]; rfl
theorem inPB_step {p : Int} {n : Nat} {s : Nat → Int} : inPB 1 p n s = (inPB 0 p n s && !decide (0 ≤ idx s 0 n)) := by
  cases h : inPB 1 p n s
  · cases h0 : inPB 0 p n s
    · rfl
    · by_cases hc : 0 ≤ idx s 0 n
      · rw [decide_eq_true hc]; rfl
      · exfalso
        have h1 := of_decide_eq_true h0
        have h2 := idx_neg hc
        exact (of_decide_eq_false h) fun i hi => by have := h1 i hi; have := h2 i hi; omega
  · have h1 := of_decide_eq_true h
    rw [show inPB 0 p n s = true from decide_eq_true fun i hi => by have := h1 i hi; omega, idx_none (f := s) (x := 0) fun j hj => by have := h1 j hj; omega]
    rfl

theorem Calls.pure {P : Program} {f : FuncId} {args : Array Value} {w : World} {n : Nat} {v : Value}
    (h : Calls P f args (w.drewN n) fun e w' => e = .returned v ∧ w.drewN n = w') : Calls P f args (w.drewN n) fun e w'' => e = .returned v ∧ ∃ m, w'' = w.drewN m :=
  Calls.reads (h.mono fun e w' h => ⟨h.1, 0, h.2.symm⟩)

end Go.Proofs.Ytmedmkjlhcoepaa
