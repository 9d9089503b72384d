/-
  CyclicForm of the reference; the law on it. No condition.
-/
import Derived.Test.YtejbigdebjcomaaDoorDJB
import Derived.Test.YtejbigdebjcomaaDoorF11a
set_option linter.unusedVariables false
set_option linter.unusedSimpArgs false
set_option maxRecDepth 100000
namespace Go.Proofs.YtejbigdebjcomaaDoor
open Go.RowKit

end Go.Proofs.YtejbigdebjcomaaDoor
