/- PulseNear: one point made another; the law's own run. -/
import Derived.Test.YtaklelfdcbgebaaLwBcB
import Derived.Test.YtaklelfdcbgebaaLwTcD
import Derived.Test.YtaklelfdcbgebaaLwPNeA
set_option maxRecDepth 100000
set_option maxHeartbeats 4000000
set_option exponentiation.threshold 4000
set_option linter.unusedSimpArgs false
set_option linter.unusedVariables false
namespace Go.Proofs.Ytaklelfdcbgebaa.Fw
open Go Go.RowKit
theorem sumI_same {n : Nat} {f g : Nat → Int} (h : ∀ i, i < n → f i = g i) : sumI n f = sumI n g := by
  induction n with
  | zero => rfl
  | succ n ih => unfold sumI; rw [ih fun i hi => h i (by omega), h n (by omega)]
/-- a shape of a sum -/
theorem acc_sum {r T : Nat} {y z t : Nat → Int} {m K : Nat} : accS r T (fun k => y k + z k) t m K 0 = accS r T y t m K 0 + accS r T z t m K 0 := by
  have e : ∀ k i, term r (fun k => y k + z k) t m k i = term r y t m k i + term r z t m k i := fun k i => by
    unfold term
    split
    · exact Int.add_mul ..
    · rfl
  unfold accS
  show sumI K (fun k' => sumI T (term r (fun k => y k + z k) t m k')) + 0 = sumI K (fun k' => sumI T (term r y t m k')) + 0 + (sumI K (fun k' => sumI T (term r z t m k')) + 0)
  rw [Int.add_zero, Int.add_zero, Int.add_zero, ← sumI_add]
  refine sumI_same fun k hk => ?_
  rw [← sumI_add]
  exact sumI_same fun i hi => e k i
section
variable {L n : Nat} {rate fore att m : Int} {xs ps : List Int} {odd : Nat}
end
end Go.Proofs.Ytaklelfdcbgebaa.Fw
