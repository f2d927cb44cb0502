/- PulseNear: one point made another; the law's own run. -/
import Derived.Test.YtaklelfdcbgebaaLwBcB
import Derived.Test.YtaklelfdcbgebaaLwTcD
import Derived.Test.YtaklelfdcbgebaaLwPNeA
set_option maxRecDepth 100000
set_option maxHeartbeats 4000000
set_option exponentiation.threshold 4000
set_option linter.unusedSimpArgs false
set_option linter.unusedVariables false
namespace Go.Proofs.Ytaklelfdcbgebaa.Fw
open Go Go.RowKit
theorem sumI_same {n : Nat} {f g : Nat → Int} (h : ∀ i, i < n → f i = g i) : sumI n f = sumI n g := by
  induction n with
  | zero => rfl
  | succ n ih => unfold sumI; rw [ih fun i hi => h i (by omega), h n (by omega)]
section
variable {L n : Nat} {rate fore att m : Int} {xs ps : List Int} {odd : Nat}
end
end Go.Proofs.Ytaklelfdcbgebaa.Fw
