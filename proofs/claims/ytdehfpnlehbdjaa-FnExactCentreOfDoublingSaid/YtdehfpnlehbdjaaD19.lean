/-
  CyclicForm of the reference; the law on it. No condition.
-/
import Derived.Test.YtdehfpnlehbdjaaDJB
import Derived.Test.YtdehfpnlehbdjaaF11a
set_option linter.unusedVariables false
set_option linter.unusedSimpArgs false
namespace Go.Proofs.Ytdehfpnlehbdjaa
open Go.RowKit

end Go.Proofs.Ytdehfpnlehbdjaa
