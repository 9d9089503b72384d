/-
  The reference's reflection of a vector. No condition beside sizes.
-/
import Derived.Test.YtnkflgigbielgaaSP4
set_option linter.unusedVariables false
set_option linter.unusedSimpArgs false
namespace Go.Proofs.Ytnkflgigbielgaa
open Go.RowKit

end Go.Proofs.Ytnkflgigbielgaa
