/-
  The unit matrix and the elements of the basis, in both programs. No condition beside sizes.
-/
import Derived.Test.YtnkflgigbielgaaD24
set_option linter.unusedVariables false
set_option linter.unusedSimpArgs false
namespace Go.Proofs.Ytnkflgigbielgaa
open Go.RowKit

def dlt (i j : Nat) : Int := if j = i then 1 else 0
theorem dlt_in {p : Int} (hp : 2 ≤ p) (n i : Nat) : InP p n (dlt i) := fun j _ => by unfold dlt; split <;> omega

/-- a row of noughts with one number stored -/
theorem Own.made1 (w : World) (e : TypeId) (n k : Nat) (hm : n ≤ 9223372036854775807) :
    Own (w.alloc (.cells ((madeCells #[.int .i64 0] n).setIfInBounds k (.int .i64 1)) e)) e w.heap.size n n (fun i => .int .i64 (dlt k i)) := by
  have hs : (madeCells #[Value.int .i64 0] n).size = n := by simp [madeCells]
  have h := Own.new w e ((madeCells #[.int .i64 0] n).setIfInBounds k (.int .i64 1)) (fun i => .int .i64 (dlt k i)) (by simp [hs]; exact hm) (fun i hi => by
    rw [Array.size_setIfInBounds, hs] at hi
    rw [Array.getElem?_setIfInBounds]
    unfold dlt
    by_cases e : k = i
    · subst e; simp [hs, hi]
    · rw [if_neg e, if_neg (fun e2 => e e2.symm)]
      simp [madeCells, hi, Nat.mod_one])
  rw [Array.size_setIfInBounds, hs] at h
  exact h

end Go.Proofs.Ytnkflgigbielgaa
