/- The nearest step of a grid: the machine's rounding, and floor with the rest. On the grid, or not. -/
import Derived.Test.YtnphdnokedhhkaaLwNrA
set_option maxRecDepth 100000
set_option maxHeartbeats 4000000
set_option exponentiation.threshold 4000
set_option linter.unusedSimpArgs false
set_option linter.unusedVariables false
namespace Go.Proofs.Ytnphdnokedhhkaa.Fw
open Go Go.RowKit
end Go.Proofs.Ytnphdnokedhhkaa.Fw
