/- fit, plain, samples, Pick: paths, printed by a program of ours. -/
import Derived.Test.YtaklelfdcbgebaaFwY
import Derived.Test.YtaklelfdcbgebaaFwAbs
import Derived.Test.YtaklelfdcbgebaaFwW
import Derived.Test.YtaklelfdcbgebaaLwWs
import Derived.KernelRfl
set_option maxRecDepth 100000
set_option maxHeartbeats 4000000
set_option linter.unusedSimpArgs false
set_option linter.unusedVariables false
namespace Go.Proofs.Ytaklelfdcbgebaa.Fw
open Go Go.RowKit

end Go.Proofs.Ytaklelfdcbgebaa.Fw
