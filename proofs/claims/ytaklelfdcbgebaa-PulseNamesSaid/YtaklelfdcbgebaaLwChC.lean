/- pulse.Turned; pulse.Stretch and the document's Stretch. -/
import Derived.Test.YtaklelfdcbgebaaLwChB
set_option maxRecDepth 100000
set_option maxHeartbeats 4000000
set_option linter.unusedSimpArgs false
set_option linter.unusedVariables false
namespace Go.Proofs.Ytaklelfdcbgebaa.Fw
open Go Go.RowKit
section
variable {L n : Nat} {rate fore : Int} {ts : List Nat}
theorem turnedP_ok (hL : 64 ≤ L) (h : chkF rate fore ts = 0) : den ⟨fnOf, specL, L+1⟩ (n+2) 24 [.agg [.int .i64 rate, .int .i64 fore, .lst 1 (ts.map celF)]] = some (.tup [.agg [.int .i64 rate, .int .i64 (ts.length - 1 - fore), .own 1 (ts.reverse.map celF) true], .int .i64 0]) := by
  obtain ⟨r1, r2, r3, r4, r5, _⟩ := chkF_ok h
  have hc := spec_is (P := ⟨fnOf, specL, L+1⟩) (C := runF ⟨fnOf, specL, L+1⟩ (n+1)) (f := 28) rfl (chkSem_at rate fore ts)
  rw [h] at hc
  have hne : ts ≠ [] := by rintro rfl; simp at r4; omega
  have h1 := @clone_den specL (L+1) n ts hne (by simp only [most]; omega)
  have h2 := @reverse_run specL L n ts [1, 10] [13] (by omega) (by omega) (by omega)
  rw [← map_len (f := celF) (xs := ts)] at h2
  have := @tu_1 (L+1) (n+1) rate fore ts ts.reverse _ ts hc rfl (call_den h1) h2 (by show _ ≤ _; rw [show List.length _ = _ from map_len, show List.length (List.map celF ts.reverse) = _ from map_len, List.length_reverse]; exact Nat.le_refl _)
  rw [this, takeMap (by rw [map_len, List.length_reverse]), map_len, wrap_id (n := (ts.length : Int) - 1) (by omega), wrap_id (by omega)]
/-- a stretched pulse's tap -/
def fS (m : Nat) (ts : List Nat) (p : Nat) : Nat := if p % m = 0 then ts.getD (p / m) 0 else 0
def gS (m : Nat) (ts : List Nat) (N : Nat) : List Nat := (List.range N).map (fS m ts)
theorem gS_len {m N : Nat} : (gS m ts N).length = N := by unfold gS; rw [List.length_map, List.length_range]
theorem gS_up {m N : Nat} : gS m ts (N + 1) = gS m ts N ++ [fS m ts N] := by unfold gS; rw [List.range_succ, List.map_append]; rfl
/-- as far as 'i' taps are laid -/
def hS (m : Nat) (ts : List Nat) (N i : Nat) : List Nat := (List.range N).map fun p => if p % m = 0 ∧ p / m < i then ts.getD (p / m) 0 else 0
theorem hS_len {m N i : Nat} : (hS m ts N i).length = N := by unfold hS; rw [List.length_map, List.length_range]
theorem hS_at {m N i p : Nat} (h : p < N) : (hS m ts N i)[p]? = some (if p % m = 0 ∧ p / m < i then ts.getD (p / m) 0 else 0) := by
  unfold hS; rw [List.getElem?_map, List.getElem?_range h]; rfl
theorem hS_zero {m N : Nat} : hS m ts N 0 = List.replicate N 0 := by
  apply List.ext_getElem?
  intro p
  by_cases h : p < N
  · rw [hS_at h, if_neg (fun q => absurd q.2 (Nat.not_lt_zero _)), List.getElem?_replicate, if_pos h]
  · rw [List.getElem?_eq_none (by rw [hS_len]; omega), List.getElem?_eq_none (by rw [List.length_replicate]; omega)]
theorem hS_up {m N i : Nat} (hm : 0 < m) (h : i * m < N) : (hS m ts N i).set (i * m) (ts.getD i 0) = hS m ts N (i + 1) := by
  apply List.ext_getElem?
  intro p
  by_cases hp : p < N
  · rw [hS_at hp]
    by_cases h1 : p = i * m
    · subst h1
      rw [List.getElem?_set_self (by rw [hS_len]; omega), Nat.mul_mod_left, Nat.mul_div_cancel _ hm, if_pos ⟨rfl, by omega⟩]
    · rw [List.getElem?_set_ne (by omega), hS_at hp]
      by_cases h2 : p % m = 0 ∧ p / m < i
      · rw [if_pos h2, if_pos ⟨h2.1, by omega⟩]
      · rw [if_neg h2, if_neg]
        rintro ⟨h3, h4⟩
        have h5 : p / m = i := by
          by_cases h6 : p / m < i
          · exact absurd ⟨h3, h6⟩ h2
          · omega
        have := Nat.div_add_mod p m
        rw [h3, h5, Nat.add_zero, Nat.mul_comm] at this
        exact h1 this.symm
  · rw [List.getElem?_eq_none (by rw [List.length_set, hS_len]; omega), List.getElem?_eq_none (by rw [hS_len]; omega)]
theorem hS_end {m : Nat} (hm : 0 < m) (h0 : 0 < ts.length) : hS m ts ((ts.length - 1) * m + 1) ts.length = gS m ts ((ts.length - 1) * m + 1) := by
  unfold hS gS
  refine List.map_congr_left fun p hp => ?_
  have hp := List.mem_range.1 hp
  have : p / m < ts.length := by
    have : p / m ≤ ts.length - 1 := by
      rw [← Nat.mul_div_cancel (ts.length - 1) hm]
      exact Nat.div_le_div_right (by omega)
    omega
  unfold fS
  by_cases h : p % m = 0
  · rw [if_pos ⟨h, this⟩, if_pos h]
  · rw [if_neg (fun q => h q.1), if_neg h]
/-- what Stretch answers: 0, or why not -/
def strC (rate fore : Int) (ts : List Nat) (m : Int) : Int :=
  if chkF rate fore ts ≠ 0 then chkF rate fore ts else if m < 1 ∨ 8 < rate * m then 1 else if 64 < ((ts.length : Int) - 1) * m + 1 then 8 else 0
def strOut (rate fore : Int) (ts : List Nat) (m : Int) : AV :=
  if strC rate fore ts m = 0 then .tup [.agg [.int .i64 (rate * m), .int .i64 (fore * m), .own 1 ((gS m.toNat ts ((ts.length - 1) * m.toNat + 1)).map celF) true], .int .i64 0]
  else .tup [.agg [.int .i64 0, .int .i64 0, .nils], .int .i64 (strC rate fore ts m)]
theorem rate_m {r m : Int} (r1 : 1 ≤ r) (r2 : r ≤ 8) (hm : 1 ≤ m) : (m > (8 : Int).tdiv r ↔ 8 < r * m) ∧ (8 < m → 8 < r * m) := by
  have e : r = 1 ∨ r = 2 ∨ r = 3 ∨ r = 4 ∨ r = 5 ∨ r = 6 ∨ r = 7 ∨ r = 8 := by omega
  rcases e with rfl | rfl | rfl | rfl | rfl | rfl | rfl | rfl
  · rw [show (8 : Int).tdiv 1 = 8 by decide]; omega
  · rw [show (8 : Int).tdiv 2 = 4 by decide]; omega
  · rw [show (8 : Int).tdiv 3 = 2 by decide]; omega
  · rw [show (8 : Int).tdiv 4 = 2 by decide]; omega
  · rw [show (8 : Int).tdiv 5 = 1 by decide]; omega
  · rw [show (8 : Int).tdiv 6 = 1 by decide]; omega
  · rw [show (8 : Int).tdiv 7 = 1 by decide]; omega
  · rw [show (8 : Int).tdiv 8 = 1 by decide]; omega
theorem tdiv8 {r : Int} (r1 : 1 ≤ r) (r2 : r ≤ 8) : 1 ≤ (8 : Int).tdiv r ∧ (8 : Int).tdiv r ≤ 8 := by
  have e : r = 1 ∨ r = 2 ∨ r = 3 ∨ r = 4 ∨ r = 5 ∨ r = 6 ∨ r = 7 ∨ r = 8 := by omega
  rcases e with rfl | rfl | rfl | rfl | rfl | rfl | rfl | rfl <;> decide
theorem m_small {r m : Int} (r1 : 1 ≤ r) (hm : 1 ≤ m) (h : r * m ≤ 8) : m ≤ 8 := by
  have : 1 * m ≤ r * m := Int.mul_le_mul_of_nonneg_right r1 (by omega)
  omega
end
section
variable {L n : Nat} {rate fore : Int} {ts : List Nat} {M : Nat}
theorem stretchP_loop (hL : 64 ≤ L) (hM : 0 < M) (hM8 : M ≤ 8) (h0 : 0 < ts.length) (h64 : ts.length ≤ 64) {N : Nat} (hN : N = (ts.length - 1) * M + 1) :
    Con.holds ⟨fnOf, specL, L+1⟩ (runF ⟨fnOf, specL, L+1⟩ n) (.loop 0 [1, 2, 4, 8, 40, 41, 42] m26b0 [34] (stSt rate fore M ts (List.replicate N 0) N 0) (.exit 0) (stSt rate fore M ts (gS M ts N) N ts.length)) := by
  have hA : stSt rate fore M ts (List.replicate N 0) N 0 = (fun i : Nat => stSt rate fore M ts (hS M ts N i) N i) 0 := by
    show _ = stSt rate fore M ts (hS M ts N 0) N 0
    rw [hS_zero]
  rw [hA, hN, ← hS_end hM h0]
  refine loop0 (fun i : Nat => stSt rate fore M ts (hS M ts ((ts.length - 1) * M + 1) i) ((ts.length - 1) * M + 1) i) ts.length rfl (by omega) (fun i hi => ?_) ?_ (by simp)
  · have hw := wrapUp hi (by omega)
    have hb : i * M ≤ (ts.length - 1) * M := Nat.mul_le_mul_right _ (by omega)
    have hb2 : (ts.length - 1) * M ≤ 63 * 8 := Nat.mul_le_mul (by omega) hM8
    have hk : IntKind.wrap .i64 ((i : Int) * (M : Nat)) = ((i * M : Nat) : Int) := by
      rw [← Int.natCast_mul]; exact wrap_id (by omega)
    have hx : Con.holds ⟨fnOf, specL, L+1⟩ (runF ⟨fnOf, specL, L+1⟩ n) (.ix (.int .i64 (IntKind.wrap .i64 ((i : Int) * (M : Nat)))) ((ts.length - 1) * M + 1) (i * M)) := by
      rw [hk]; exact ix_at (by omega)
    have ha : Con.holds ⟨fnOf, specL, L+1⟩ (runF ⟨fnOf, specL, L+1⟩ n) (.at ((hS M ts ((ts.length - 1) * M + 1) i).map celF) (0 + i * M) [.flt ((hS M ts ((ts.length - 1) * M + 1) i).getD (i * M) 0)]) := by
      rw [Nat.zero_add]; exact atD_map (f := celF) (by rw [hS_len]; omega)
    have := @str_0 (L+1) n rate fore (M : Nat) ts (hS M ts ((ts.length - 1) * M + 1) i) [34] ((ts.length - 1) * M + 1) i _ _ _ (by rw [map_len]; exact dLt hi) (elD_map (f := celF) (d := 0) hi) hx ha
    rw [hw, Nat.zero_add] at this
    rw [this]
    unfold stSt
    rw [← hS_up hM (show i * M < (ts.length - 1) * M + 1 by omega), List.map_set]
    rfl
  · exact @str_1 (L+1) n rate fore (M : Nat) ts _ [34] ((ts.length - 1) * M + 1) ts.length (by rw [map_len]; exact dNlt)
/-- the inner loop of the document's Stretch: the noughts ahead of a tap -/
theorem stretchD_in (hL : 64 ≤ L) (hM : 0 < M) (hM8 : M ≤ 8) {i : Nat} (hi : i < ts.length) (h64 : ts.length ≤ 64) {st π : List Nat} {N : Nat} (hN : N = (if i = 0 then 0 else (i - 1) * M + 1)) :
    ∃ s', Con.holds ⟨fnOf, specL, L+1⟩ (runF ⟨fnOf, specL, L+1⟩ n) (.loop 0 [1, 2, 4, 7, 8, 9] m27b0 π (skSt rate fore M ts (gS M ts N) st N i 1) (.exit 2) s') ∧
      ∃ st k, s' = skSt rate fore M ts (gS M ts (i * M)) st (i * M) i k := by
  by_cases h0 : i = 0
  · subst h0
    rw [if_pos rfl] at hN
    subst hN
    rw [Nat.zero_mul]
    refine loopI (fun r s => s = skSt rate fore M ts (gS M ts 0) st 0 0 1) _ 0 (by simp) rfl (by omega) rfl (fun i s hi _ => absurd hi (by omega)) fun s hs => ?_
    subst hs
    by_cases h1 : M = 1
    · subst h1
      exact ⟨_, @skr_2 (L+1) n rate fore ((1 : Nat) : Int) ts (gS 1 ts 0) st (0 :: π) 0 0 1 (dF (by omega)), _, _, rfl⟩
    · exact ⟨_, @skr_1 (L+1) n rate fore (M : Nat) ts (gS M ts 0) st (0 :: π) 0 0 1 (dT (by omega)) (dF (by omega)), _, _, rfl⟩
  · rw [if_neg h0] at hN
    have hb : (i - 1) * M ≤ 63 * 8 := Nat.mul_le_mul (by omega) hM8
    have hi1 : i * M = (i - 1) * M + M := by
      obtain ⟨j, rfl⟩ : ∃ j, i = j + 1 := ⟨i - 1, by omega⟩
      rw [Nat.add_sub_cancel, Nat.add_mul, Nat.one_mul]
    refine loopI (fun r s => ∃ st, s = skSt rate fore M ts (gS M ts (N + r)) st (N + r) i (1 + r)) _ (M - 1) (by simp) rfl (by omega) ⟨st, rfl⟩ (fun r s hr hs => ?_) fun s hs => ?_
    · obtain ⟨st, rfl⟩ := hs
      have := @skr_0 (L+1) n rate fore (M : Nat) ts (gS M ts (N + r)) st (r :: π) (N + r) i (1 + r) (dT (by omega)) (dT (by omega)) (push_ok (by rw [map_len, gS_len]) (by simp only [most]; omega))
      rw [wrap_id (by omega)] at this
      refine ⟨_, this, 9 :: r :: π, ?_⟩
      have hf : fS M ts (N + r) = 0 := by
        unfold fS
        rw [if_neg]
        rw [hN, show (i - 1) * M + 1 + r = (1 + r) + (i - 1) * M by omega, Nat.add_mul_mod_self_right, Nat.mod_eq_of_lt (by omega)]
        omega
      unfold skSt
      rw [show N + (r + 1) = N + r + 1 by omega, gS_up, hf, List.map_append, show 1 + (r + 1) = 1 + r + 1 by omega]
      rfl
    · obtain ⟨st, rfl⟩ := hs
      have := @skr_2 (L+1) n rate fore (M : Nat) ts (gS M ts (N + (M - 1))) st ((M - 1) :: π) (N + (M - 1)) i (1 + (M - 1)) (dF (by omega))
      refine ⟨_, this, st, 1 + (M - 1), ?_⟩
      rw [show i * M = N + (M - 1) by omega]
      rfl
theorem stretchD_loop (hL : 64 ≤ L) (hM : 0 < M) (hM8 : M ≤ 8) (h0 : 0 < ts.length) (h64 : ts.length ≤ 64) :
    ∃ s', Con.holds ⟨fnOf, specL, L+1⟩ (runF ⟨fnOf, specL, L+1⟩ n) (.loop 0 [1, 2, 4, 7, 8] m27b1 [23] (sdSt rate fore M ts [] [23] 0 0) (.exit 0) s') ∧
      ∃ st, s' = sdSt rate fore M ts (gS M ts ((ts.length - 1) * M + 1)) st ((ts.length - 1) * M + 1) ts.length := by
  refine loopI (fun i s => ∃ st, s = sdSt rate fore M ts (gS M ts (if i = 0 then 0 else (i - 1) * M + 1)) st (if i = 0 then 0 else (i - 1) * M + 1) i) _ ts.length (by simp) rfl (by omega) ⟨[23], rfl⟩ (fun i s hi hs => ?_) fun s hs => ?_
  · obtain ⟨st, rfl⟩ := hs
    have hw := wrapUp hi (by omega)
    have hb : i * M ≤ 63 * 8 := Nat.mul_le_mul (by omega) hM8
    obtain ⟨s1, l1, st1, k, rfl⟩ := @stretchD_in L n rate fore ts M hL hM hM8 i hi h64 st [6, i, 23] _ rfl
    have := @sdr_0 (L+1) n rate fore (M : Nat) ts (gS M ts (if i = 0 then 0 else (i - 1) * M + 1)) st [23] (gS M ts (i * M)) st1 (if i = 0 then 0 else (i - 1) * M + 1) i (i * M) k _ (by rw [map_len]; exact dLt hi) l1 (elD_map (f := celF) (d := 0) hi) (push_ok (by rw [map_len, gS_len]) (by simp only [most]; omega))
    rw [hw] at this
    refine ⟨_, this, [14, i, 23], ?_⟩
    have hf : fS M ts (i * M) = ts.getD i 0 := by unfold fS; rw [Nat.mul_mod_left, if_pos rfl, Nat.mul_div_cancel _ hM]
    unfold sdSt
    rw [if_neg (by omega), Nat.add_sub_cancel, gS_up, hf, List.map_append]
    rfl
  · obtain ⟨st, rfl⟩ := hs
    rw [if_neg (by omega)]
    exact ⟨_, @sdr_1 (L+1) n rate fore (M : Nat) ts (gS M ts ((ts.length - 1) * M + 1)) st [23] [] [] ((ts.length - 1) * M + 1) ts.length 0 0 (by rw [map_len]; exact dNlt), st, rfl⟩
end
end Go.Proofs.Ytaklelfdcbgebaa.Fw
