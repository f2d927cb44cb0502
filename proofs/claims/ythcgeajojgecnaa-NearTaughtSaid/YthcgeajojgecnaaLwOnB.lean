/- grid.On and the document's On: what they answer; spoken for. -/
import Derived.Test.YthcgeajojgecnaaLwOnA
import Derived.Test.YthcgeajojgecnaaLwAd
set_option maxRecDepth 100000
set_option maxHeartbeats 4000000
set_option exponentiation.threshold 4000
set_option linter.unusedSimpArgs false
set_option linter.unusedVariables false
namespace Go.Proofs.Ythcgeajojgecnaa.Fw
open Go Go.RowKit
section
variable {L n x : Nat} {k : Int}
theorem within_den : den ⟨fnOf, specAbs, L⟩ (n+1) 113 [.flt x] = some (.v (.bool (wi x))) := by
  unfold wi
  cases h : fge x 13875590451928498176 with
  | true => exact gw_0 h
  | false => exact gw_1 h
theorem on_den : den ⟨fnOf, specAbs, L⟩ (n+2) 103 [.flt x] = some (.v (.bool (onF x))) := by
  have h := call_den (@within_den L n x)
  unfold onF
  cases c : wi x with
  | true => rw [c] at h; exact gon_0 h rfl (call_den gfl_0)
  | false => rw [c] at h; exact gon_1 h rfl
theorem onr_den : den ⟨fnOf, specAbs, L⟩ (n+1) 93 [.flt x] = some (.v (.bool (onF x))) := by
  cases c : wi x with
  | true =>
    have h := c
    unfold wi at h
    rw [Bool.and_eq_true] at h
    obtain ⟨q1, _, _⟩ := up12_is c
    obtain ⟨_, q2, _⟩ := trunc_is q1 (up12_lt c)
    obtain ⟨o1, o2⟩ := on_iff c
    have e : onF x = feq (fofInt ((fv (up12 x)).tdiv (2 ^ 1074))) (up12 x) := by unfold onF; rw [c, o1, o2, Bool.true_and]
    rw [e]
    refine gor_1 h.1 (by rw [h.2]; rfl) ?_
    show (((ftoInt (up12 x) .i64).map (AV.int .i64)).map fun v => (v, ([] : Heap))) = _
    rw [q2]; rfl
  | false =>
    have e : onF x = false := by unfold onF; rw [c]; rfl
    rw [e]
    unfold wi at c
    cases h : fge x 13875590451928498176 with
    | false => exact gor_2 (k := 0) h
    | true =>
      rw [h, Bool.true_and] at c
      exact gor_0 (k := 0) h (by rw [c]; rfl)
end
def onSem : List AV → Option AV
  | [.flt a] => some (.v (.bool (onF a)))
  | _ => none
theorem onSem_is {avs : List AV} {r : AV} (h : onSem avs = some r) : ∃ a, avs = [.flt a] ∧ r = .v (.bool (onF a)) := by
  unfold onSem at h
  split at h
  · rename_i a; cases h; exact ⟨a, rfl, rfl⟩
  · cases h
def newO : FuncId → Option (List AV → Option AV)
  | 103 => some onSem
  | 93 => some onSem
  | _ => none
def specO : FuncId → Option (List AV → Option AV) := fun f => match newO f with | some g => some g | none => specAbs f
theorem spec_o : SpecOk Try.prog ⟨fnOf, specO, 0⟩ :=
  spec_addz (spec_abs 0 fnOf) (fun L => fnsOk _ _) follows newO fun f g h => by
    unfold newO at h
    split at h
    · cases h
      refine ⟨⟨_, Try.func103, ne_of_beq_false (by kernel_rfl), by kernel_rfl⟩, fun avs r h => ?_⟩
      obtain ⟨a, rfl, rfl⟩ := onSem_is h
      exact toldZ (P := ⟨fnOf, specAbs, 0⟩) (on_den (L := 0) (n := 0)) (WkT.refl _)
    · cases h
      refine ⟨⟨_, Try.func93, ne_of_beq_false (by kernel_rfl), by kernel_rfl⟩, fun avs r h => ?_⟩
      obtain ⟨a, rfl, rfl⟩ := onSem_is h
      exact toldZ (P := ⟨fnOf, specAbs, 0⟩) (onr_den (L := 0) (n := 0)) (WkT.refl _)
    · cases h
end Go.Proofs.Ythcgeajojgecnaa.Fw
