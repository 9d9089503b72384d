/-
  The law on CyclicForm returns true. No condition.
-/
import Derived.Test.YtnkflgigbielgaaD19
set_option linter.unusedVariables false
set_option linter.unusedSimpArgs false
namespace Go.Proofs.Ytnkflgigbielgaa
open Go.RowKit

theorem shapeC (c : Int) (x : Int) : ∃ a b, rC c x = .tuple #[.int .i64 a, .int .i64 b] := by unfold rC; split <;> exact ⟨_, _, rfl⟩

end Go.Proofs.Ytnkflgigbielgaa
