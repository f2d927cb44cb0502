/- turned numbers: taps turned by quarters are taps. -/
import Derived.Test.YtnphdnokedhhkaaLwTcL
set_option maxRecDepth 100000
set_option maxHeartbeats 4000000
set_option exponentiation.threshold 4000
set_option linter.unusedSimpArgs false
set_option linter.unusedVariables false
namespace Go.Proofs.Ytnphdnokedhhkaa.Fw
open Go Go.RowKit
/-- turned by one quarter -/
def rot1 (z : Nat × Nat) : Nat × Nat := (fneg z.2, z.1)
def rotK : Nat → Nat × Nat → Nat × Nat
  | 0, z => z
  | k + 1, z => rot1 (rotK k z)
theorem six_neg {m : Int} {x : Nat} (h : six m x) : six (-m) (fneg x) := by
  obtain ⟨h1, h2⟩ := fneg_fin h.1
  exact ⟨h1, by rw [h2, h.2, Int.neg_mul]⟩
theorem absF_neg (x : Nat) : fle (absF (fneg x)) one = fle (absF x) one := by
  obtain ⟨h1, h2⟩ := fneg_rk x
  rw [fle_rk, fle_rk, (absF_rk _).1, (absF_rk _).2, (absF_rk _).1, (absF_rk _).2, h1, h2, Int.natAbs_neg]
theorem plainF_neg (x : Nat) : plainF (fneg x) one = plainF x one := by
  cases h : fle (absF x) one with
  | false => unfold plainF; rw [absF_neg, h]; rfl
  | true =>
    have h' : fle (absF (fneg x)) one = true := by rw [absF_neg]; exact h
    obtain ⟨f1, f2, _⟩ := mul64 okM_one h
    obtain ⟨g1, g2, _⟩ := mul64 okM_one h'
    obtain ⟨z1, z2⟩ := fint_zero f1
    obtain ⟨y1, y2⟩ := fint_zero g1
    obtain ⟨n1, n2⟩ := fneg_fin (plain_fin okM_one h).1
    unfold plainF
    rw [h, h', feq_fin z1 f1, feq_fin y1 g1, z2, y2, g2, f2, n2, Int.neg_mul, Int.neg_tdiv, Int.neg_mul]
    simp only [Bool.true_and]
    exact decide_eq_decide.2 ⟨fun h => by omega, fun h => by omega⟩
theorem okTap_rot (z : Nat × Nat) : okTap (rot1 z) = okTap z := by
  unfold okTap rot1
  simp only
  rw [plainF_neg, Bool.and_comm]
theorem getD_map {f : Nat × Nat → Nat × Nat} {zs : List (Nat × Nat)} {i : Nat} (h : i < zs.length) : (zs.map f).getD i (0, 0) = f (zs.getD i (0, 0)) := by
  rw [List.getD_eq_getElem?_getD, List.getElem?_map, List.getElem?_eq_getElem h, List.getD_eq_getElem?_getD, List.getElem?_eq_getElem h]; rfl
theorem sums_rot {zs : List (Nat × Nat)} (hl : zs.length ≤ 64) : ∀ i, i ≤ zs.length → (∀ j, j < i → okTap (zs.getD j (0, 0)) = true) → ∃ S : Int, 0 ≤ S ∧ S ≤ 128 * i ∧ six S (sP zs i) ∧ six S (sP (zs.map rot1) i)
  | 0, _, _ => ⟨0, by omega, by omega, six_zero, six_zero⟩
  | i + 1, hi, h => by
    obtain ⟨S, s1, s2, s3, s4⟩ := sums_rot hl i (by omega) fun j hj => h j (by omega)
    have hk := h i (by omega)
    unfold okTap at hk
    simp only [Bool.and_eq_true] at hk
    obtain ⟨m, hm, hb⟩ := plain_six hk.1
    obtain ⟨k, hk, hc⟩ := plain_six hk.2
    obtain ⟨a1, _⟩ := six_abs hm
    obtain ⟨b1, _⟩ := six_abs hk
    obtain ⟨c1, _⟩ := six_abs (six_neg hk)
    refine ⟨S + (m.natAbs + k.natAbs), by omega, by omega, six_add s3 (six_add a1 b1 (by omega)) (by omega), ?_⟩
    show six _ (fadd _ (fadd (absF ((zs.map rot1).getD i (0, 0)).1) (absF ((zs.map rot1).getD i (0, 0)).2)))
    rw [getD_map (by omega)]
    have e : S + ((m.natAbs : Int) + (k.natAbs : Int)) = S + (((-k).natAbs : Int) + (m.natAbs : Int)) := by omega
    rw [e]
    exact six_add s4 (six_add c1 a1 (by omega)) (by omega)
theorem taps_rot {zs : List (Nat × Nat)} (h : tapsF zs = true) : tapsF (zs.map rot1) = true := by
  obtain ⟨h1, h2, h3, h4⟩ := tapsF_is.1 h
  have hl : (zs.map rot1).length = zs.length := List.length_map ..
  obtain ⟨S, _, _, s1, s2⟩ := sums_rot h2 zs.length (Nat.le_refl _) h3
  refine tapsF_is.2 ⟨by rw [hl]; exact h1, by rw [hl]; exact h2, fun i hi => ?_, ?_⟩
  · rw [hl] at hi
    rw [getD_map hi, okTap_rot]; exact h3 i hi
  · rw [hl, six_fle s2 s1 fin4]; exact h4
theorem taps_rotK {zs : List (Nat × Nat)} (h : tapsF zs = true) : ∀ k, tapsF (zs.map (rotK k)) = true
  | 0 => by
    have : zs.map (rotK 0) = zs := by
      have e : rotK 0 = id := funext fun z => rfl
      rw [e, List.map_id]
    rw [this]; exact h
  | k + 1 => by
    have := taps_rot (taps_rotK h k)
    rw [List.map_map] at this
    exact this
end Go.Proofs.Ytnphdnokedhhkaa.Fw
