/- pulse: fit, plain, samples, Pick: what they answer, in whole numbers. -/
import Derived.Test.YtaklelfdcbgebaaLwFpA
import Derived.Test.YtaklelfdcbgebaaLwSpI
set_option maxRecDepth 100000
set_option maxHeartbeats 4000000
set_option exponentiation.threshold 4000
set_option linter.unusedSimpArgs false
set_option linter.unusedVariables false
namespace Go.Proofs.Ytaklelfdcbgebaa.Fw
open Go Go.RowKit
section
variable {L n : Nat} {rate fore att : Int} {xs : List Int} {odd : Nat}
end
end Go.Proofs.Ytaklelfdcbgebaa.Fw
