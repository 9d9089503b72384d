/-
  CyclicForm of the reference; the law on it. No condition.
-/
import Derived.Test.YtnkflgigbielgaaDJB
import Derived.Test.YtnkflgigbielgaaF11a
set_option linter.unusedVariables false
set_option linter.unusedSimpArgs false
namespace Go.Proofs.Ytnkflgigbielgaa
open Go.RowKit

end Go.Proofs.Ytnkflgigbielgaa
