/-
  The law on IsLoop returns true. No condition.
-/
import Derived.Test.YtnkflgigbielgaaTJ
set_option linter.unusedVariables false
set_option linter.unusedSimpArgs false
namespace Go.Proofs.Ytnkflgigbielgaa
open Go.RowKit

/-- What a law does: it returns true and turns nothing that was there. -/
structure Law (w w' : World) (e : Ending) : Prop where
  out : e = .returned (.bool true) ∧ Below w.heap.size w w'

theorem szP_big {tot : Nat} (h : ¬ tot ≤ 1048576) : szP 1048576 tot = -1 := by unfold szP; rw [if_neg (by omega)]
theorem szP_ok {tot : Nat} (h : tot ≤ 1048576) : 0 ≤ szP 1048576 tot := by unfold szP; rw [if_pos (by omega)]; omega

end Go.Proofs.Ytnkflgigbielgaa
