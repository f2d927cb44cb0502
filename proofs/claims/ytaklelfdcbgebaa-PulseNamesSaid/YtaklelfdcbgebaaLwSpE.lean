/- The document's Shape, the sum of one sample. -/
import Derived.Test.YtaklelfdcbgebaaLwSpD
set_option maxRecDepth 100000
set_option maxHeartbeats 4000000
set_option linter.unusedSimpArgs false
set_option linter.unusedVariables false
set_option exponentiation.threshold 4000
namespace Go.Proofs.Ytaklelfdcbgebaa.Fw
open Go Go.RowKit
section
variable {L n r M : Nat} {fore : Int} {ts st : List Nat} {zs out : List (Nat × Nat)} {zr zi t : Nat → Int}
end
end Go.Proofs.Ytaklelfdcbgebaa.Fw
