/- lay and through add the same products in the same order; numbers; samePoints. -/
import Derived.Test.YtnphdnokedhhkaaLwLyA
set_option maxRecDepth 100000
set_option maxHeartbeats 4000000
set_option linter.unusedSimpArgs false
set_option linter.unusedVariables false
namespace Go.Proofs.Ytnphdnokedhhkaa.Fw
open Go Go.RowKit
def addP (p t : Nat × Nat) : Nat × Nat := (fadd p.1 t.1, fadd p.2 t.2)
/-- what comes of a filter at one place, after so many taps -/
def accL (hs xs : List (Nat × Nat)) (ap : Nat) (at' : Int) (o : Nat × Nat) : Nat → Nat × Nat
  | 0 => o
  | k + 1 => if 0 ≤ at' - (k * ap : Nat) ∧ at' - (k * ap : Nat) < xs.length then addP (accL hs xs ap at' o k) (timP (hs.getD k (0, 0)) (xs.getD (at' - (k * ap : Nat)).toNat (0, 0))) else accL hs xs ap at' o k
section
variable {L n : Nat} {xs hs : List (Nat × Nat)}
end
end Go.Proofs.Ytnphdnokedhhkaa.Fw
