/- Rows; pulse.Shape where a point is not plain. -/
import Derived.Test.YtaklelfdcbgebaaLwSpG
set_option maxRecDepth 100000
set_option maxHeartbeats 4000000
set_option linter.unusedSimpArgs false
set_option linter.unusedVariables false
namespace Go.Proofs.Ytaklelfdcbgebaa.Fw
open Go Go.RowKit
section
variable {L n r mm : Nat} {fore : Int} {ts : List Nat} {zs : List (Nat × Nat)} {zr zi t : Nat → Int}
end
end Go.Proofs.Ytaklelfdcbgebaa.Fw
