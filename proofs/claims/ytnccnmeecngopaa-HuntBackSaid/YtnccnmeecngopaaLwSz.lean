/- The document's size of a float, spoken for. -/
import Derived.Test.YtnccnmeecngopaaFwY
import Derived.Test.YtnccnmeecngopaaFwAbs
import Derived.Test.YtnccnmeecngopaaFwEy
import Derived.Test.YtnccnmeecngopaaFwGr
import Derived.KernelRfl
set_option maxRecDepth 100000
set_option maxHeartbeats 4000000
set_option linter.unusedSimpArgs false
set_option linter.unusedVariables false
namespace Go.Proofs.Ytnccnmeecngopaa.Fw
open Go Go.RowKit
def sizeF (a : Nat) : Nat := bif flt a 0 then fneg a else a
theorem sz39 (L n a : Nat) : den ⟨fnOf, specAbs, L⟩ (n+1) 39 [.flt a] = some (.flt (sizeF a)) := by
  unfold sizeF
  cases h : flt a 0 with
  | true =>
    have hd : denD ⟨fnOf, specAbs, L⟩ n 39 [.flt a] [(some 4, .b true)] = some (.flt (fneg a), [.b (flt a 0) true]) := by kernel_rfl
    exact denD_sound hd ⟨h, trivial⟩
  | false =>
    have hd : denD ⟨fnOf, specAbs, L⟩ n 39 [.flt a] [(some 4, .b false)] = some (.flt a, [.b (flt a 0) false]) := by kernel_rfl
    exact denD_sound hd ⟨h, trivial⟩
def sizeSem : List AV → Option AV
  | [.flt a] => some (.flt (sizeF a))
  | _ => none
def specS : FuncId → Option (List AV → Option AV) := fun f => if f = 39 then some sizeSem else specAbs f
theorem spec_s (L : Nat) : SpecOk Try.prog ⟨fnOf, specS, L⟩ :=
  spec_add (spec_abs 0 fnOf) (fun L => fnsOk _ _) follows 39 sizeSem ⟨_, Try.func39, ne_of_beq_false (by kernel_rfl), by kernel_rfl⟩ fun avs r h => by
    unfold sizeSem at h
    split at h
    · rename_i a
      cases h
      exact ⟨0, 1, sz39 0 0 a⟩
    · cases h
theorem sizeF_rk (a : Nat) : isNaN (sizeF a) = isNaN a ∧ rk (sizeF a) = ((rk a).natAbs : Int) := by
  have hz : rk 0 = 0 := by decide
  have hn : isNaN 0 = false := by decide
  have hs : sizeF a = bif (!isNaN a && !isNaN 0 && decide (rk a < rk 0)) then fneg a else a := by unfold sizeF; rw [flt_rk]
  rw [hn, hz] at hs
  cases h : isNaN a with
  | true =>
    rw [h] at hs
    have hs : sizeF a = a := hs
    rw [hs]
    exact ⟨h, by rw [rk_nan h]; rfl⟩
  | false =>
    rw [h] at hs
    by_cases h2 : rk a < 0
    · rw [decide_eq_true h2] at hs
      have hs : sizeF a = fneg a := hs
      obtain ⟨h3, h4⟩ := fneg_rk a
      rw [hs]
      exact ⟨by rw [h3, h], by rw [h4]; omega⟩
    · rw [decide_eq_false h2] at hs
      have hs : sizeF a = a := hs
      rw [hs]
      exact ⟨h, by omega⟩
end Go.Proofs.Ytnccnmeecngopaa.Fw
