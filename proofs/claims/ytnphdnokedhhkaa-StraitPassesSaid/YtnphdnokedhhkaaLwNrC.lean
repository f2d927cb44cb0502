/- The nearest step of 2^-12 of a number within the edge: both ways the same; on the grid. -/
import Derived.Test.YtnphdnokedhhkaaLwNrB
set_option maxRecDepth 100000
set_option maxHeartbeats 4000000
set_option exponentiation.threshold 4000
set_option linter.unusedSimpArgs false
set_option linter.unusedVariables false
namespace Go.Proofs.Ytnphdnokedhhkaa.Fw
open Go Go.RowKit
theorem fin_of_rk' {x : Nat} (h : isNaN x = false) (hb : (rk x).natAbs < 2 ^ 3000) : fin x := by
  unfold isNaN at h
  unfold rk at hb
  cases hr : Ieee.double.read x with
  | number s n i => exact ⟨s, n, i, hr, read_place hr⟩
  | nan s f => rw [hr] at h; cases h
  | infinity s =>
    rw [hr] at hb
    exfalso
    have e : (drk (.infinity s)).natAbs = 2 ^ 3000 := by
      show ((if s then -2 ^ 3000 else 2 ^ 3000 : Int)).natAbs = _
      cases s
      · rw [if_neg (by decide), Int.natAbs_pow]; rfl
      · rw [if_pos rfl, Int.natAbs_neg, Int.natAbs_pow]; rfl
    rw [e] at hb
    exact Nat.lt_irrefl _ hb
theorem edge_is : isNaN 13875590451928498176 = false ∧ rk 13875590451928498176 = - 2 ^ 1084 ∧ isNaN 4652218415073722368 = false ∧ rk 4652218415073722368 = 2 ^ 1084 :=
  ⟨by decide, of_decide_eq_true (by kernel_rfl), by decide, of_decide_eq_true (by kernel_rfl)⟩
end Go.Proofs.Ytnphdnokedhhkaa.Fw
