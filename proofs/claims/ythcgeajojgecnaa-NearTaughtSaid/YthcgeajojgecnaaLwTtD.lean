/- TrainTaught: the law's loops: the taps, the calm row, the rough row. -/
import Derived.Test.YthcgeajojgecnaaLwTtC
set_option maxRecDepth 100000
set_option maxHeartbeats 4000000
set_option exponentiation.threshold 4000
set_option linter.unusedSimpArgs false
set_option linter.unusedVariables false
namespace Go.Proofs.Ythcgeajojgecnaa.Fw
open Go Go.RowKit
theorem tmod_le (x : Int) {m : Int} (hm : 0 < m) : (x.tmod m).natAbs < m.natAbs := by
  have h1 := Int.natAbs_tmod x m
  rw [h1]
  exact Nat.mod_lt _ (by omega)
section
variable {L n : Nat} {o ah : Int} {R G : Nat} {ps : List Int} {ns : List (Int × Int)}
end
section
variable {L n : Nat} {o g : Int} {R A w M : Nat} {ns : List (Int × Int)} {hs H zs : List (Nat × Nat)} {st : List Nat} {K J X : Nat → Int}
/-- what stands at a place of the calm row -/
def calmS (K X : Nat → Int) (R M A z t : Nat) : Int := if A ≤ t ∧ t < A + z then thruS K X R M (t - A) else 0
end
end Go.Proofs.Ythcgeajojgecnaa.Fw
