/-
  CyclicForm of the reference; the law on it. No condition.
-/
import Derived.Test.YtfcloojemfencaaD18
import Derived.Test.YtfcloojemfencaaF11a
set_option linter.unusedVariables false
set_option linter.unusedSimpArgs false
namespace Go.Proofs.Ytfcloojemfencaa
open Go.RowKit

end Go.Proofs.Ytfcloojemfencaa
