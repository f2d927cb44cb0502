/- StraitJoins: the law, spoil: paths, printed by a program of ours. -/
import Derived.Test.YtnphdnokedhhkaaFwY
import Derived.Test.YtnphdnokedhhkaaFwAbs
import Derived.Test.YtnphdnokedhhkaaFwW
import Derived.Test.YtnphdnokedhhkaaLwJnB
import Derived.KernelRfl
set_option maxRecDepth 100000
set_option maxHeartbeats 4000000
set_option linter.unusedSimpArgs false
set_option linter.unusedVariables false
namespace Go.Proofs.Ytnphdnokedhhkaa.Fw
open Go Go.RowKit

end Go.Proofs.Ytnphdnokedhhkaa.Fw
