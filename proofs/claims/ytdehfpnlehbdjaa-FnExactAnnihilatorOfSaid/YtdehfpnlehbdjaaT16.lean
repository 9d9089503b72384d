/-
  What the reference's functions on loops compute: order, nucleus. No condition beside sizes.
-/
import Derived.Test.YtdehfpnlehbdjaaT15
set_option linter.unusedVariables false
set_option linter.unusedSimpArgs false
namespace Go.Proofs.Ytdehfpnlehbdjaa
open Go.RowKit

/-- the place found, one more; or the code 5 -/
def ordV (n k : Nat) : Value := if k < n then .tuple #[.int .i64 ((k + 1 : Nat) : Int), .int .i64 0] else .tuple #[.int .i64 0, .int .i64 5]
def rO (code : Int) (n k : Nat) : Value := if code = 0 then ordV n k else .tuple #[.int .i64 0, .int .i64 code]

/-- A list and a code: where ok, a list in new memory and 0; else nil and 1. -/
structure ResI (w w' : World) (e : Ending) (ok : Bool) (n : Nat) (X : Nat → Int) : Prop where
  out : Below w.heap.size w w' ∧ ((ok = true ∧ ∃ g c, e = .returned (.tuple #[.slice (some ⟨g, 0, none⟩) n c, .int .i64 0]) ∧ w.heap.size ≤ g ∧ Own w' 2 g c n (fun i => .int .i64 (X i))) ∨ (ok = false ∧ e = .returned (.tuple #[.slice none 0 0, .int .i64 1])))

/-- x is in the nucleus -/
def nucX (G : Nat) (N : Nat → Nat → Nat) (x : Nat) : Bool := all2 G (fun y z => nucB N x y z)

end Go.Proofs.Ytdehfpnlehbdjaa
