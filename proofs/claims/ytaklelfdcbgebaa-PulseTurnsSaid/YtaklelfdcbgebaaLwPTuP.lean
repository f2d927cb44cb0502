/- A pulse turned about, a pulse stretched: their sums. -/
import Derived.Test.YtaklelfdcbgebaaLwPNeB
import Derived.Test.YtaklelfdcbgebaaLwChC
set_option maxRecDepth 100000
set_option maxHeartbeats 4000000
set_option exponentiation.threshold 4000
set_option linter.unusedSimpArgs false
set_option linter.unusedVariables false
namespace Go.Proofs.Ytaklelfdcbgebaa.Fw
open Go Go.RowKit
theorem sumI_front {n : Nat} {g : Nat → Int} : sumI (n + 1) g = g 0 + sumI n (fun i => g (i + 1)) := by
  induction n with
  | zero => unfold sumI sumI; omega
  | succ n ih =>
    show sumI (n + 1) g + g (n + 1) = g 0 + (sumI n (fun i => g (i + 1)) + g (n + 1))
    rw [ih]; omega
theorem sumI_rev {g : Nat → Int} : ∀ {n : Nat}, sumI n (fun i => g (n - 1 - i)) = sumI n g
  | 0 => rfl
  | n + 1 => by
    rw [sumI_front]
    have e : sumI n (fun i => g (n + 1 - 1 - (i + 1))) = sumI n (fun i => g (n - 1 - i)) := sumI_same fun i hi => by
      show g _ = g _
      congr 1
      omega
    rw [e, sumI_rev]
    show g (n + 1 - 1 - 0) + sumI n g = sumI n g + g n
    rw [show n + 1 - 1 - 0 = n by omega]; omega
theorem sumT_sum (t : Nat → Int) : ∀ n, ((sumT t n : Nat) : Int) = sumI n fun i => ((t i).natAbs : Int)
  | 0 => rfl
  | n + 1 => by rw [sumT, Int.natCast_add, sumT_sum t n]; rfl
/-- every m-th place -/
theorem sumI_mult {m : Nat} (hm : 1 ≤ m) {g : Nat → Int} : ∀ T : Nat, sumI (T * m + 1) (fun j => if j % m = 0 then g (j / m) else 0) = sumI (T + 1) g
  | 0 => by
    rw [Nat.zero_mul]
    show (0 : Int) + (if 0 % m = 0 then g (0 / m) else 0) = 0 + g 0
    rw [if_pos (Nat.zero_mod m), Nat.zero_div]
  | T + 1 => by
    have gap : ∀ a, a < m → sumI (T * m + 1 + a) (fun j => if j % m = 0 then g (j / m) else 0) = sumI (T + 1) g := fun a => by
      induction a with
      | zero => intro _; exact sumI_mult hm T
      | succ a ih =>
        intro ha
        show sumI (T * m + 1 + a) (fun j => if j % m = 0 then g (j / m) else 0) + (if (T * m + 1 + a) % m = 0 then g ((T * m + 1 + a) / m) else 0) = _
        rw [ih (by omega), if_neg]
        · omega
        · rw [show T * m + 1 + a = (1 + a) + T * m by omega, Nat.add_mul_mod_self_right, Nat.mod_eq_of_lt (by omega)]
          omega
    have h := gap (m - 1) (by omega)
    rw [show T * m + 1 + (m - 1) = T * m + m by omega] at h
    have e : (T + 1) * m + 1 = (T * m + m) + 1 := by rw [Nat.add_mul, Nat.one_mul]
    rw [e]
    show sumI (T * m + m) (fun j => if j % m = 0 then g (j / m) else 0) + (if (T * m + m) % m = 0 then g ((T * m + m) / m) else 0) = sumI (T + 1) g + g (T + 1)
    rw [h, show T * m + m = (T + 1) * m by rw [Nat.add_mul, Nat.one_mul], Nat.mul_mod_left, if_pos rfl, Nat.mul_div_cancel _ (by omega)]
section
variable {r f T K M m : Nat} {z t : Nat → Int} {ts : List Nat}
/-- TURNED ABOUT: the same sums, the other way round -/
theorem acc_rev (hi : m < (K - 1) * r + T) : accS r T (fun k => z (K - 1 - k)) (fun i => t (T - 1 - i)) ((K - 1) * r + T - 1 - m) K 0 = accS r T z t m K 0 := by
  unfold accS
  show sumI K (fun k' => sumI T (term r (fun k => z (K - 1 - k)) (fun i => t (T - 1 - i)) ((K - 1) * r + T - 1 - m) k')) + 0 = sumI K (fun k' => sumI T (term r z t m k')) + 0
  rw [Int.add_zero, Int.add_zero, ← sumI_rev (n := K) (g := fun k' => sumI T (term r z t m k'))]
  refine sumI_same fun k hk => ?_
  show sumI T (term r (fun k => z (K - 1 - k)) (fun i => t (T - 1 - i)) ((K - 1) * r + T - 1 - m) k) = sumI T (term r z t m (K - 1 - k))
  rw [← sumI_rev (n := T) (g := term r z t m (K - 1 - k))]
  refine sumI_same fun i hi2 => ?_
  unfold term
  have e1 : (K - 1 - k) * r + k * r = (K - 1) * r := by rw [← Nat.add_mul]; congr 1; omega
  generalize (K - 1 - k) * r = a at *
  generalize k * r = b at *
  generalize (K - 1) * r = c at *
  by_cases h : a + (T - 1 - i) = m
  · rw [if_pos h, if_pos (by omega)]
  · rw [if_neg h, if_neg (by omega)]
/-- STRETCHED: the same sums, with noughts between -/
theorem acc_str (hm : 1 ≤ m) (hT : 1 ≤ T) {j : Nat} : accS (r * m) ((T - 1) * m + 1) z (fun j => if j % m = 0 then t (j / m) else 0) j K 0 = if j % m = 0 then accS r T z t (j / m) K 0 else 0 := by
  unfold accS
  show sumI K (fun k' => sumI ((T - 1) * m + 1) (term (r * m) z (fun j => if j % m = 0 then t (j / m) else 0) j k')) + 0 = if j % m = 0 then sumI K (fun k' => sumI T (term r z t (j / m) k')) + 0 else 0
  rw [Int.add_zero, Int.add_zero]
  have one : ∀ k, sumI ((T - 1) * m + 1) (term (r * m) z (fun j => if j % m = 0 then t (j / m) else 0) j k) = if j % m = 0 then sumI T (term r z t (j / m) k) else 0 := fun k => by
    have key := sumI_mult hm (g := fun i => if j % m = 0 then term r z t (j / m) k i else 0) (T - 1)
    rw [show T - 1 + 1 = T by omega] at key
    have e2 : sumI T (fun i => if j % m = 0 then term r z t (j / m) k i else 0) = if j % m = 0 then sumI T (term r z t (j / m) k) else 0 := by
      split
      · rfl
      · exact sumI_zero fun i hi => rfl
    rw [← e2, ← key]
    refine sumI_same fun q hq => ?_
    unfold term
    have hq2 : q = m * (q / m) + q % m := (Nat.div_add_mod q m).symm
    have hj2 : j = m * (j / m) + j % m := (Nat.div_add_mod j m).symm
    have hkr : k * (r * m) = m * (k * r) := by rw [Nat.mul_comm m, Nat.mul_assoc]
    by_cases c : q % m = 0
    · rw [if_pos c]
      by_cases d : k * (r * m) + q = j
      · have hj0 : j % m = 0 := by
          rw [← d, hkr]
          rw [hq2, c, Nat.add_zero, ← Nat.mul_add, Nat.mul_mod_right]
        have hdv : k * r + q / m = j / m := by
          rw [← d, hkr]
          conv => rhs; rw [hq2, c, Nat.add_zero, ← Nat.mul_add, Nat.mul_div_cancel_left _ (by omega)]
        rw [if_pos d, if_pos hj0, if_pos hdv]
        show z k * (if q % m = 0 then t (q / m) else 0) = _
        rw [if_pos c]
      · rw [if_neg d]
        split
        · rename_i hj0
          rw [if_neg]
          intro h
          apply d
          rw [hkr, hq2, c, Nat.add_zero, ← Nat.mul_add, h]
          rw [hj0, Nat.add_zero] at hj2
          exact hj2.symm
        · rfl
    · rw [if_neg c]
      split
      · show z k * (if q % m = 0 then t (q / m) else 0) = 0
        rw [if_neg c, Int.mul_zero]
      · rfl
  rw [sumI_same fun k hk => one k]
  split
  · rfl
  · exact sumI_zero fun k hk => rfl
end
/-- a turned pulse may be -/
theorem fit_rev {r f : Nat} {t : Nat → Int} {ts : List Nat} (hf : fitOk r f t ts) : fitOk r (ts.length - 1 - f) (fun i => t (ts.length - 1 - i)) ts.reverse := by
  obtain ⟨r1, r8, f1, f2, f3, f4, f5, f6, f7⟩ := hf
  refine ⟨r1, r8, by rw [List.length_reverse]; omega, by rw [List.length_reverse]; exact f2, fun i hi => ?_, fun i => f4 _, ?_, fun i hi hn hmod => ?_, ?_⟩
  · rw [List.length_reverse] at hi
    have e : ts.reverse.getD i 0 = ts.getD (ts.length - 1 - i) 0 := by
      rw [List.getD_eq_getElem?_getD, List.getElem?_reverse hi, ← List.getD_eq_getElem?_getD]
    rw [e]
    exact f3 _ (by omega)
  · show t (ts.length - 1 - (ts.length - 1 - f)) = 64
    rw [show ts.length - 1 - (ts.length - 1 - f) = f by omega]; exact f5
  · rw [List.length_reverse] at hi
    refine f6 _ (by omega) (by omega) ?_
    have e : ((ts.length - 1 - i : Nat) : Int) - (f : Int) = -((i : Int) - ((ts.length - 1 - f : Nat) : Int)) := by omega
    rw [e, Int.neg_tmod, hmod]; rfl
  · rw [List.length_reverse]
    have h1 := sumT_sum (fun i => t (ts.length - 1 - i)) ts.length
    have h2 := sumT_sum t ts.length
    have h3 := sumI_rev (n := ts.length) (g := fun i => ((t i).natAbs : Int))
    have e : (((sumT (fun i => t (ts.length - 1 - i)) ts.length : Nat) : Int)) = ((sumT t ts.length : Nat) : Int) := by rw [h1, h2]; exact h3
    omega
/-- a stretched pulse may be -/
theorem fit_str {r f m : Nat} {t : Nat → Int} {ts : List Nat} (hf : fitOk r f t ts) (hm : 1 ≤ m) (hr : r * m ≤ 8) (hl : (ts.length - 1) * m + 1 ≤ 64) : fitOk (r * m) (f * m) (fun j => if j % m = 0 then t (j / m) else 0) (gS m ts ((ts.length - 1) * m + 1)) := by
  obtain ⟨r1, r8, f1, f2, f3, f4, f5, f6, f7⟩ := hf
  have fl : f * m ≤ (ts.length - 1) * m := Nat.mul_le_mul_right _ (by omega)
  have rm : 1 * 1 ≤ r * m := Nat.mul_le_mul r1 hm
  have quot : ∀ j, j < (ts.length - 1) * m + 1 → j / m < ts.length := fun j hj => by
    have : j / m ≤ ts.length - 1 := by
      have h := Nat.div_le_div_right (c := m) (show j ≤ (ts.length - 1) * m by omega)
      rwa [Nat.mul_div_cancel _ (by omega)] at h
    omega
  refine ⟨by omega, hr, by rw [gS_len]; omega, by rw [gS_len]; exact hl, fun j hj => ?_, fun j => ?_, ?_, fun j hj hn hmod => ?_, ?_⟩
  · rw [gS_len] at hj
    have e : (gS m ts ((ts.length - 1) * m + 1)).getD j 0 = fS m ts j := by
      unfold gS
      rw [List.getD_eq_getElem?_getD, List.getElem?_map, List.getElem?_range hj]; rfl
    rw [e]
    unfold fS
    show six (if j % m = 0 then t (j / m) else 0) _
    split
    · exact f3 _ (quot j hj)
    · exact six_zero
  · show (if j % m = 0 then t (j / m) else 0).natAbs ≤ 64
    split
    · exact f4 _
    · decide
  · show (if (f * m) % m = 0 then t ((f * m) / m) else 0) = 64
    rw [Nat.mul_mod_left, if_pos rfl, Nat.mul_div_cancel _ (by omega)]; exact f5
  · show (if j % m = 0 then t (j / m) else 0) = 0
    rw [gS_len] at hj
    split
    · rename_i c
      have hj2 : j = j / m * m := by have := Nat.div_add_mod j m; rw [c, Nat.mul_comm] at this; omega
      refine f6 _ (quot j hj) (fun h => hn (by rw [hj2, h])) ?_
      have e : (j : Int) - ((f * m : Nat) : Int) = ((j / m : Nat) : Int) * (m : Int) - (f : Int) * (m : Int) := by
        rw [← Int.natCast_mul, ← Int.natCast_mul, ← hj2]
      rw [e, ← Int.sub_mul, Int.natCast_mul, Int.mul_comm _ (m : Int), Int.mul_comm (r : Int) (m : Int), Int.mul_tmod_mul_of_pos _ _ (by omega)] at hmod
      have hz : (m : Int) ≠ 0 := by omega
      rcases Int.mul_eq_zero.1 hmod with h | h
      · exact absurd h hz
      · exact h
    · rfl
  · rw [gS_len]
    have h1 := sumT_sum (fun j => if j % m = 0 then t (j / m) else 0) ((ts.length - 1) * m + 1)
    have h2 := sumT_sum t ts.length
    have h3 := sumI_mult hm (g := fun i => ((t i).natAbs : Int)) (ts.length - 1)
    rw [show ts.length - 1 + 1 = ts.length by omega] at h3
    have e : sumI ((ts.length - 1) * m + 1) (fun j => ((if j % m = 0 then t (j / m) else 0).natAbs : Int)) = sumI ((ts.length - 1) * m + 1) (fun j => if j % m = 0 then ((t (j / m)).natAbs : Int) else 0) := sumI_same fun j hj => by
      split
      · rfl
      · rfl
    have h4 : ((sumT (fun j => if j % m = 0 then t (j / m) else 0) ((ts.length - 1) * m + 1) : Nat) : Int) = ((sumT t ts.length : Nat) : Int) := by
      rw [h1, h2, ← h3]; exact e
    omega
end Go.Proofs.Ytaklelfdcbgebaa.Fw
