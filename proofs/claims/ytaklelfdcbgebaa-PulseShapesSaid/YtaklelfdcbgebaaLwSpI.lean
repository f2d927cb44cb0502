/- Whole numbers for points and taps, chosen. -/
import Derived.Test.YtaklelfdcbgebaaLwSpH
set_option maxRecDepth 100000
set_option maxHeartbeats 4000000
set_option linter.unusedSimpArgs false
set_option linter.unusedVariables false
namespace Go.Proofs.Ytaklelfdcbgebaa.Fw
open Go Go.RowKit
theorem total {K : Nat} {g : Nat → Nat} (h : ∀ k, k < K → ∃ a : Int, a.natAbs ≤ 8192 ∧ six a (g k)) : ∃ f : Nat → Int, (∀ k, (f k).natAbs ≤ 8192) ∧ ∀ k, k < K → six (f k) (g k) := by
  classical
  refine ⟨fun k => if c : k < K then Classical.choose (h k c) else 0, fun k => ?_, fun k hk => ?_⟩
  · show (dite _ _ _ : Int).natAbs ≤ _
    split
    · rename_i c; exact (Classical.choose_spec (h k c)).1
    · decide
  · show six (dite _ _ _ : Int) _
    rw [dif_pos hk]
    exact (Classical.choose_spec (h k hk)).2
theorem points_total {zs : List (Nat × Nat)} {k : Nat} (h : ∀ i, i < k → ptOK (zs.getD i (0, 0)) = true) :
    ∃ zr zi : Nat → Int, (∀ k, (zr k).natAbs ≤ 8192) ∧ (∀ k, (zi k).natAbs ≤ 8192) ∧ ∀ i, i < k → six (zr i) (zs.getD i (0, 0)).1 ∧ six (zi i) (zs.getD i (0, 0)).2 := by
  have hm : okM 4638707616191610880 := .inr rfl
  obtain ⟨zr, a1, a2⟩ := total (K := k) (g := fun i => (zs.getD i (0, 0)).1) fun i hi => by
    have := h i hi; unfold ptOK at this; rw [Bool.and_eq_true] at this; exact plainF_six hm this.1
  obtain ⟨zi, b1, b2⟩ := total (K := k) (g := fun i => (zs.getD i (0, 0)).2) fun i hi => by
    have := h i hi; unfold ptOK at this; rw [Bool.and_eq_true] at this; exact plainF_six hm this.2
  exact ⟨zr, zi, a1, b1, fun i hi => ⟨a2 i hi, b2 i hi⟩⟩
theorem taps_total {rate fore : Int} {ts : List Nat} (h : okAll rate fore ts = true) : ∃ t : Nat → Int, (∀ i, (t i).natAbs ≤ 8192) ∧ ∀ i, i < ts.length → six (t i) (ts.getD i 0) := by
  refine total (g := fun i => ts.getD i 0) fun i hi => ?_
  have := okAll_iff.1 h i hi
  unfold okC at this
  rw [Bool.and_eq_true] at this
  obtain ⟨m, h1, h2⟩ := plain_six this.1
  exact ⟨m, by omega, h1⟩
end Go.Proofs.Ytaklelfdcbgebaa.Fw
