/- To the nearest whole number: by the machine's way, and by floor and the rest. Plain law of floats. -/
import Derived.Test.YtnphdnokedhhkaaFwGr
import Derived.Test.YtnphdnokedhhkaaFwAbs
set_option maxRecDepth 100000
set_option maxHeartbeats 4000000
set_option exponentiation.threshold 4000
set_option linter.unusedSimpArgs false
set_option linter.unusedVariables false
namespace Go.Proofs.Ytnphdnokedhhkaa.Fw
open Go Go.RowKit
theorem canon_fin {w : Nat} (h : fin w) : canon w = w := by unfold canon; rw [fin_num h]; rfl
end Go.Proofs.Ytnphdnokedhhkaa.Fw
