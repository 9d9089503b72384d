/-
  Commutators and associators, in both programs. No condition beside sizes.
-/
import Derived.Test.YtnkflgigbielgaaD19
set_option linter.unusedVariables false
set_option linter.unusedSimpArgs false
namespace Go.Proofs.Ytnkflgigbielgaa
open Go.RowKit

def subF (p : Int) (X Y : Nat → Int) (i : Nat) : Int := (X i + -1 * Y i) % p

end Go.Proofs.Ytnkflgigbielgaa
