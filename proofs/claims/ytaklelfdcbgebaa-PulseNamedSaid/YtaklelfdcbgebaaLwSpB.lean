/- Points and taps on the grid: their products are exact; the sums of a shape, in whole numbers. -/
import Derived.Test.YtaklelfdcbgebaaLwTcB
set_option maxRecDepth 100000
set_option maxHeartbeats 4000000
set_option linter.unusedSimpArgs false
set_option linter.unusedVariables false
set_option exponentiation.threshold 4000
namespace Go.Proofs.Ytaklelfdcbgebaa.Fw
open Go Go.RowKit
/-- a sum of whole numbers -/
def sumI (n : Nat) (f : Nat → Int) : Int := match n with | 0 => 0 | n + 1 => sumI n f + f n
/-- what point k gives sample m by tap i -/
def term (r : Nat) (z t : Nat → Int) (m k i : Nat) : Int := if k * r + i = m then z k * t i else 0
/-- the program's sum at m after k points and i taps of the next -/
def accS (r T : Nat) (z t : Nat → Int) (m k i : Nat) : Int := sumI k (fun k' => sumI T (term r z t m k')) + sumI i (term r z t m k)
end Go.Proofs.Ytaklelfdcbgebaa.Fw
