/-
  CyclicForm of the reference; the law on it. No condition.
-/
import Derived.Test.YtnnacligfoonbaaDJB
import Derived.Test.YtnnacligfoonbaaF11a
set_option linter.unusedVariables false
set_option linter.unusedSimpArgs false
namespace Go.Proofs.Ytnnacligfoonbaa
open Go.RowKit

end Go.Proofs.Ytnnacligfoonbaa
