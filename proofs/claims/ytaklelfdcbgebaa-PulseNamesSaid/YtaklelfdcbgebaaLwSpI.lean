/- Whole numbers for points and taps, chosen. -/
import Derived.Test.YtaklelfdcbgebaaLwSpH
set_option maxRecDepth 100000
set_option maxHeartbeats 4000000
set_option linter.unusedSimpArgs false
set_option linter.unusedVariables false
namespace Go.Proofs.Ytaklelfdcbgebaa.Fw
open Go Go.RowKit
end Go.Proofs.Ytaklelfdcbgebaa.Fw
