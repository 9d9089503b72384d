/-
  AssociatorOf, in both programs. No condition beside sizes.
-/
import Derived.Test.YtnkflgigbielgaaD20
set_option linter.unusedVariables false
set_option linter.unusedSimpArgs false
namespace Go.Proofs.Ytnkflgigbielgaa
open Go.RowKit

/-- A result that is an element, or nil and a code. -/
structure ResC (w w' : World) (e : Ending) (cc : Int) (n : Nat) (X : Nat → Int) : Prop where
  bel : Below w.heap.size w w'
  out : (cc = 0 ∧ ∃ g c, e = .returned (.tuple #[.slice (some ⟨g, 0, none⟩) (2 ^ n) c, .int .i64 0]) ∧ w.heap.size ≤ g ∧ Own w' 2 g c (2 ^ n) (fun i => .int .i64 (X i))) ∨
    (cc ≠ 0 ∧ e = .returned (.tuple #[.slice none 0 0, .int .i64 cc]))

end Go.Proofs.Ytnkflgigbielgaa
