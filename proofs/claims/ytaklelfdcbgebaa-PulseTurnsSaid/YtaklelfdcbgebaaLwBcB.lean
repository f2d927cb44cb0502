/- PulseBack: no other point at a point's own instant; the law's own run. -/
import Derived.Test.YtaklelfdcbgebaaLwFpC
import Derived.Test.YtaklelfdcbgebaaLwBcA
set_option maxRecDepth 100000
set_option maxHeartbeats 4000000
set_option exponentiation.threshold 4000
set_option linter.unusedSimpArgs false
set_option linter.unusedVariables false
namespace Go.Proofs.Ytaklelfdcbgebaa.Fw
open Go Go.RowKit
section
variable {r f K : Nat} {t z : Nat → Int} {ts : List Nat}
end
section
variable {L n : Nat} {rate fore att : Int} {xs ps : List Int} {odd : Nat}
end
end Go.Proofs.Ytaklelfdcbgebaa.Fw
