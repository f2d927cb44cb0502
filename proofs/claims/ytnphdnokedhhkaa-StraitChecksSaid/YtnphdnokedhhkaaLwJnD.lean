/- StraitJoins: the law's own run. -/
import Derived.Test.YtnphdnokedhhkaaLwJnC
set_option maxRecDepth 100000
set_option maxHeartbeats 4000000
set_option linter.unusedSimpArgs false
set_option linter.unusedVariables false
namespace Go.Proofs.Ytnphdnokedhhkaa.Fw
open Go Go.RowKit
section
variable {L n : Nat}
theorem cutW {l : List (Nat × Nat)} : cutX (l.map celC) 0 (l.map celC).length = l.map celC := by
  rw [cutM, List.take_of_length_le (by rw [map_len]; exact Nat.le_refl _)]
theorem leAll {P : Prog} {C : Caller} {l : List (Nat × Nat)} : Con.holds P C (.le (0 + (l.map celC).length) (l.map celC).length) := by
  show _ ≤ _; omega
end
end Go.Proofs.Ytnphdnokedhhkaa.Fw
