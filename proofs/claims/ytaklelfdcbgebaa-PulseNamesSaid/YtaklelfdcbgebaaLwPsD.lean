/- Check's helpers spoken for: pulse.plain, the document's Plain and size. -/
import Derived.Test.YtaklelfdcbgebaaLwPsC
set_option maxRecDepth 100000
set_option maxHeartbeats 4000000
set_option exponentiation.threshold 4000
set_option linter.unusedSimpArgs false
set_option linter.unusedVariables false
namespace Go.Proofs.Ytaklelfdcbgebaa.Fw
open Go Go.RowKit
theorem den_Plain1 {L n x m : Nat} (hm : okM m) : den ⟨fnOf, specP1, L⟩ (n+1) 42 [.flt x, .flt m] = some (.v (.bool (plainF x m))) := by
  have hw := within_same (x := x) hm
  cases h : fle (absF x) m with
  | false =>
    rw [h] at hw
    have hp : plainF x m = false := by unfold plainF; rw [h]; rfl
    rw [hp]
    cases h1 : fge x (fneg m) with
    | false => exact qe_2 (k := 0) h1
    | true =>
      rw [h1] at hw
      have h2 : fle x m = false := by simpa using hw
      exact qe_0 (k := 0) h1 (by rw [h2]; rfl)
  | true =>
    rw [h] at hw
    simp only [Bool.and_eq_true] at hw
    obtain ⟨f1, f2, f3⟩ := mul64 hm h
    obtain ⟨k, hk, he⟩ := whole_same f1 f3
    have hp : plainF x m = feq (fmul x 4634204016564240384) (fofInt k) := by unfold plainF; rw [h, he]; rfl
    rw [hp]
    refine qe_1 hw.1 (by rw [hw.2]; rfl) ?_
    show (((ftoInt (fmul x 4634204016564240384) .i64).map (AV.int .i64)).map fun v => (v, ([] : Heap))) = _
    rw [hk]; rfl
def specP2 : FuncId → Option (List AV → Option AV) := fun f => if f = 42 then some plainSem else specP1 f
theorem spec_p2 (L : Nat) : SpecOk Try.prog ⟨fnOf, specP2, L⟩ :=
  spec_add0 (spec_p1 0) (fun L => fnsOk _ _) follows 42 plainSem ⟨_, Try.func42, ne_of_beq_false (by kernel_rfl), by kernel_rfl⟩ fun avs r h => by
    obtain ⟨x, m, rfl, hm, rfl⟩ := plainSem_is h
    exact ⟨0, 1, den_Plain1 hm⟩
theorem den_size2 {L n a : Nat} : den ⟨fnOf, specP2, L⟩ (n+1) 43 [.flt a] = some (.flt (szF a)) := by
  unfold szF
  cases h : flt a 0 with
  | true =>
    have hd : denD ⟨fnOf, specP2, L⟩ n 43 [.flt a] [(some 4, .b true)] = some (.flt (fneg a), [.b (flt a 0) true]) := by kernel_rfl
    exact denD_sound hd ⟨h, trivial⟩
  | false =>
    have hd : denD ⟨fnOf, specP2, L⟩ n 43 [.flt a] [(some 4, .b false)] = some (.flt a, [.b (flt a 0) false]) := by kernel_rfl
    exact denD_sound hd ⟨h, trivial⟩
/-- pulse.plain, the document's Plain and size are spoken for -/
def specP : FuncId → Option (List AV → Option AV) := fun f => if f = 43 then some sizeSem7 else specP2 f
theorem spec_p (L : Nat) : SpecOk Try.prog ⟨fnOf, specP, L⟩ :=
  spec_add0 (spec_p2 0) (fun L => fnsOk _ _) follows 43 sizeSem7 ⟨_, Try.func43, ne_of_beq_false (by kernel_rfl), by kernel_rfl⟩ fun avs r h => by
    unfold sizeSem7 at h
    split at h
    · cases h; exact ⟨0, 1, den_size2⟩
    · cases h
theorem szF_rk (a : Nat) : isNaN (szF a) = isNaN a ∧ rk (szF a) = ((rk a).natAbs : Int) := by
  have hz : rk 0 = 0 := by decide
  have hn : isNaN 0 = false := by decide
  have hs : szF a = bif (!isNaN a && !isNaN 0 && decide (rk a < rk 0)) then fneg a else a := by unfold szF; rw [flt_rk]
  rw [hn, hz] at hs
  cases h : isNaN a with
  | true =>
    rw [h] at hs
    have hs : szF a = a := hs
    rw [hs]
    exact ⟨h, by rw [rk_nan h]; rfl⟩
  | false =>
    rw [h] at hs
    by_cases h2 : rk a < 0
    · rw [decide_eq_true h2] at hs
      have hs : szF a = fneg a := hs
      obtain ⟨h3, h4⟩ := fneg_rk a
      rw [hs]
      exact ⟨by rw [h3, h], by rw [h4]; omega⟩
    · rw [decide_eq_false h2] at hs
      have hs : szF a = a := hs
      rw [hs]
      exact ⟨h, by omega⟩
end Go.Proofs.Ytaklelfdcbgebaa.Fw
