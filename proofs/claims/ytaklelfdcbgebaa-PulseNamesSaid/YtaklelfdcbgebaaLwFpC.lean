/- pulse: plain, samples, Pick; Shape of a pulse that may be. -/
import Derived.Test.YtaklelfdcbgebaaLwFpB
set_option maxRecDepth 100000
set_option maxHeartbeats 4000000
set_option exponentiation.threshold 4000
set_option linter.unusedSimpArgs false
set_option linter.unusedVariables false
namespace Go.Proofs.Ytaklelfdcbgebaa.Fw
open Go Go.RowKit
section
variable {L n : Nat}
variable {r f K : Nat} {t zr zi : Nat → Int} {ts : List Nat}
end
end Go.Proofs.Ytaklelfdcbgebaa.Fw
