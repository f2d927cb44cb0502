/- numbers; samePoints. -/
import Derived.Test.YtaklelfdcbgebaaLwSpF
set_option maxRecDepth 100000
set_option maxHeartbeats 4000000
set_option linter.unusedSimpArgs false
set_option linter.unusedVariables false
namespace Go.Proofs.Ytaklelfdcbgebaa.Fw
open Go Go.RowKit
section
variable {σ : FuncId → Option (List AV → Option AV)} {L n : Nat}
end
end Go.Proofs.Ytaklelfdcbgebaa.Fw
