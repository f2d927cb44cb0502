/- train: what each law asks first (closed); spoken for beside Raw, Taps, Laid. -/
import Derived.Test.YthcgeajojgecnaaLwTkD
set_option maxRecDepth 100000
set_option maxHeartbeats 4000000
set_option linter.unusedSimpArgs false
set_option linter.unusedVariables false
namespace Go.Proofs.Ythcgeajojgecnaa.Fw
open Go Go.RowKit
def awSem : List AV → Option AV
  | [] => some (.v (.bool true))
  | _ => none
theorem awSem_is {avs : List AV} {x : AV} (h : awSem avs = some x) : avs = [] ∧ x = .v (.bool true) := by
  unfold awSem at h
  split at h
  · cases h; exact ⟨rfl, rfl⟩
  · cases h
end Go.Proofs.Ythcgeajojgecnaa.Fw
