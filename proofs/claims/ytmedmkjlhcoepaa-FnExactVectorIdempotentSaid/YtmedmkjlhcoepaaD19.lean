/-
  CyclicForm of the reference; the law on it. No condition.
-/
import Derived.Test.YtmedmkjlhcoepaaDJB
import Derived.Test.YtmedmkjlhcoepaaF11a
set_option linter.unusedVariables false
set_option linter.unusedSimpArgs false
namespace Go.Proofs.Ytmedmkjlhcoepaa
open Go.RowKit

end Go.Proofs.Ytmedmkjlhcoepaa
