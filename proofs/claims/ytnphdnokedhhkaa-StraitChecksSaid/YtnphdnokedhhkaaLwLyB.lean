/- lay and through add the same products in the same order; numbers; samePoints. -/
import Derived.Test.YtnphdnokedhhkaaLwLyA
set_option maxRecDepth 100000
set_option maxHeartbeats 4000000
set_option linter.unusedSimpArgs false
set_option linter.unusedVariables false
namespace Go.Proofs.Ytnphdnokedhhkaa.Fw
open Go Go.RowKit
section
variable {L n : Nat} {xs hs : List (Nat × Nat)}
end
end Go.Proofs.Ytnphdnokedhhkaa.Fw
