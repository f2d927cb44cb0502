/- pulse.Touch answers as the document's Touch does; PulseTouches holds for all plain arguments. -/
import Derived.Test.YtaklelfdcbgebaaLwTcC
set_option maxRecDepth 100000
set_option maxHeartbeats 4000000
set_option linter.unusedSimpArgs false
set_option linter.unusedVariables false
namespace Go.Proofs.Ytaklelfdcbgebaa.Fw
open Go Go.RowKit
section
variable {L n : Nat} {rate fore k att : Int} {ts : List Nat}
end
section
variable {L n : Nat} {rate fore at1 k att : Int} {xs : List Int} {odd : Nat}
end
end Go.Proofs.Ytaklelfdcbgebaa.Fw
