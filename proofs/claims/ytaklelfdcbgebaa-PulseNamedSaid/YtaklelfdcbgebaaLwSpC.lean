/- pulse.Shape: its loops, by what stands on the grid. -/
import Derived.Test.YtaklelfdcbgebaaLwSpA
import Derived.Test.YtaklelfdcbgebaaLwSpB
import Derived.Test.YtaklelfdcbgebaaLwChB
set_option maxRecDepth 100000
set_option maxHeartbeats 4000000
set_option linter.unusedSimpArgs false
set_option linter.unusedVariables false
set_option exponentiation.threshold 4000
namespace Go.Proofs.Ytaklelfdcbgebaa.Fw
open Go Go.RowKit
/-- z, t: the whole numbers of a row's component and of taps -/
def good (r T mm : Nat) (zr zi t : Nat → Int) (k i : Nat) (out : List (Nat × Nat)) : Prop :=
  out.length = mm ∧ ∀ m, m < mm → grid (accS r T zr t m k i) (out.getD m (0, 0)).1 ∧ grid (accS r T zi t m k i) (out.getD m (0, 0)).2
section
variable {L n r mm : Nat} {fore : Int} {ts : List Nat} {zs : List (Nat × Nat)} {zr zi t : Nat → Int}
end
end Go.Proofs.Ytaklelfdcbgebaa.Fw
