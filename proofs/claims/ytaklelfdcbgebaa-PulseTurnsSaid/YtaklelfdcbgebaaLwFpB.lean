/- pulse: fit, plain, samples, Pick: what they answer, in whole numbers. -/
import Derived.Test.YtaklelfdcbgebaaLwFpA
import Derived.Test.YtaklelfdcbgebaaLwSpI
set_option maxRecDepth 100000
set_option maxHeartbeats 4000000
set_option exponentiation.threshold 4000
set_option linter.unusedSimpArgs false
set_option linter.unusedVariables false
namespace Go.Proofs.Ytaklelfdcbgebaa.Fw
open Go Go.RowKit
theorem six_of {a : Int} (h : a.natAbs < 2 ^ 53) : six a (fdiv (fofInt a) 4634204016564240384) := by
  obtain ⟨g1, g2⟩ := fofInt_exact h
  refine fdiv_pow2 (k := 6) g1 ?_ (by decide) (by decide) (V := a * 2 ^ 1068) ?_ (fits_grid h (by decide))
  · unfold stout
    rw [g2]
    by_cases h0 : a = 0
    · left; simp [h0]
    · right
      rw [Int.natAbs_mul, Int.natAbs_pow]
      calc (2 : Nat) ^ 600 ≤ 1 * 2 ^ 1074 := by rw [Nat.one_mul]; exact Nat.pow_le_pow_right (by decide) (by decide)
        _ ≤ a.natAbs * 2 ^ 1074 := Nat.mul_le_mul_right _ (by omega)
  · rw [g2, Int.mul_assoc, ← Int.pow_add]
theorem six_one : six 64 one := by
  have h := fofInt_exact (n := 1) (by decide)
  have e : fofInt 1 = one := by kernel_rfl
  rw [e] at h
  exact ⟨h.1, by rw [h.2, show (64 : Int) = 2 ^ 6 from rfl, ← Int.pow_add, Int.one_mul]⟩
theorem six_edge : six 8192 4638707616191610880 := by
  have h := fofInt_exact (n := 128) (by decide)
  have e : fofInt 128 = 4638707616191610880 := by kernel_rfl
  rw [e] at h
  exact ⟨h.1, by rw [h.2, show (8192 : Int) = 128 * 2 ^ 6 from rfl, Int.mul_assoc, ← Int.pow_add]⟩
theorem pos68 : (0 : Int) < 2 ^ 1068 := Int.pow_pos (by decide)
theorem six_le {a b : Int} {x y : Nat} (hx : six a x) (hy : six b y) : fle x y = decide (a ≤ b) := by
  rw [fle_fin hx.1 hy.1, hx.2, hy.2]
  exact decide_eq_decide.2 ⟨fun h => Int.le_of_mul_le_mul_right h pos68, fun h => Int.mul_le_mul_of_nonneg_right h (Int.le_of_lt pos68)⟩
theorem six_eq {a b : Int} {x y : Nat} (hx : six a x) (hy : six b y) : feq x y = decide (a = b) := by
  rw [feq_fin hx.1 hy.1, hx.2, hy.2]
  exact decide_eq_decide.2 ⟨fun h => Int.eq_of_mul_eq_mul_right (pow_ne 1068) h, fun h => by rw [h]⟩
theorem six_gtd {a b : Int} {x y : Nat} (hx : six a x) (hy : six b y) : fgt x y = decide (b < a) := by
  rw [fgt_fin hx.1 hy.1, hx.2, hy.2]
  exact decide_eq_decide.2 ⟨fun h => Int.lt_of_mul_lt_mul_right h (Int.le_of_lt pos68), fun h => Int.mul_lt_mul_of_pos_right h pos68⟩
/-- a number of sixty-fourths is plain -/
theorem six_plain {a b : Int} {x m : Nat} (hm : okM m) (hb : six b m) (h : six a x) (ha : (a.natAbs : Int) ≤ b) : plainF x m = true := by
  have h1 : fle (absF x) m = true := by rw [six_le (six_abs h).1 hb]; exact decide_eq_true ha
  obtain ⟨g1, g2, _⟩ := mul64 hm h1
  obtain ⟨k1, k2⟩ := fint_zero g1
  unfold plainF
  rw [h1, Bool.true_and, feq_fin k1 g1, k2, g2, h.2, Int.mul_assoc, ← Int.pow_add]
  refine decide_eq_true ?_
  rw [show (1068 + 6 : Nat) = 1074 from rfl, Int.mul_tdiv_cancel _ (pow_ne 1074)]
theorem okM_edge : okM 4638707616191610880 := .inr rfl
/-- sizes together -/
def sumT (t : Nat → Int) : Nat → Nat
  | 0 => 0
  | i + 1 => sumT t i + (t i).natAbs
theorem sumT_same {t u : Nat → Int} : ∀ {n : Nat}, (∀ i, i < n → t i = u i) → sumT t n = sumT u n
  | 0, _ => rfl
  | n + 1, h => by rw [sumT, sumT, sumT_same fun i hi => h i (by omega), h n (by omega)]
theorem sumT_up {t u : Nat → Int} {f : Nat} {c : Nat} (hf : ∀ i, i ≠ f → u i = t i) (hc : (u f).natAbs ≤ c) : ∀ n, sumT u n ≤ sumT t n + (if f < n then c else 0)
  | 0 => Nat.zero_le _
  | n + 1 => by
    have ih := sumT_up hf hc n
    rw [sumT, sumT]
    by_cases e : n = f
    · subst e
      rw [if_pos (Nat.lt_succ_self _)]
      rw [if_neg (Nat.lt_irrefl _)] at ih
      omega
    · rw [hf n e]
      by_cases c : f < n
      · rw [if_pos c] at ih; rw [if_pos (by omega)]; omega
      · rw [if_neg c] at ih; rw [if_neg (by omega)]; omega
/-- a pulse that may be, in whole numbers -/
def fitOk (r f : Nat) (t : Nat → Int) (ts : List Nat) : Prop :=
  1 ≤ r ∧ r ≤ 8 ∧ f < ts.length ∧ ts.length ≤ 64 ∧ (∀ i, i < ts.length → six (t i) (ts.getD i 0)) ∧ (∀ i, (t i).natAbs ≤ 64) ∧ t f = 64 ∧ (∀ i, i < ts.length → i ≠ f → ((i : Int) - (f : Int)).tmod r = 0 → t i = 0) ∧ sumT t ts.length ≤ 256
theorem sP_six {t : Nat → Int} {ts : List Nat} (h : ∀ i, i < ts.length → six (t i) (ts.getD i 0)) (hb : ∀ i, (t i).natAbs ≤ 64) (hl : ts.length ≤ 64) : ∀ {n}, n ≤ ts.length → six (sumT t n : Nat) (sP ts n) ∧ sumT t n ≤ 64 * n
  | 0, _ => ⟨six_zero, Nat.zero_le _⟩
  | n + 1, hn => by
    obtain ⟨a, b⟩ := sP_six h hb hl (n := n) (by omega)
    have := hb n
    refine ⟨?_, by rw [sumT]; omega⟩
    rw [sumT, Int.natCast_add]
    exact six_add a (six_abs (h n (by omega))).1 (by omega)
theorem fit_chk {r f : Nat} {t : Nat → Int} {ts : List Nat} (h : fitOk r f t ts) : chkF (r : Int) (f : Int) ts = 0 := by
  obtain ⟨h1, h2, h3, h4, h5, h6, h7, h8, h9⟩ := h
  unfold chkF
  rw [if_neg (by omega), if_neg (by omega), if_pos]
  refine ⟨?_, okAll_iff.2 fun i hi => ?_, ?_⟩
  · rw [Int.toNat_natCast, six_eq (h5 f h3) six_one, h7]; rfl
  · unfold okC
    have hp := six_plain okM_one six_one (h5 i hi) (by have := h6 i; omega)
    rw [hp, Bool.true_and]
    by_cases e : i = f
    · subst e; simp
    · by_cases c : ((i : Int) - (f : Int)).tmod r = 0
      · have z := h8 i hi e c
        have : feq (ts.getD i 0) 0 = true := by rw [six_eq (h5 i hi) six_zero, z]; rfl
        rw [this]; simp
      · have : (((i : Int) - (f : Int)).tmod r == 0) = false := by simpa using c
        rw [this]; simp
  · have h4' : six 256 4616189618054758400 := by
      have h := fofInt_exact (n := 4) (by decide)
      have e : fofInt 4 = 4616189618054758400 := by kernel_rfl
      rw [e] at h
      exact ⟨h.1, by rw [h.2, show (256 : Int) = 4 * 2 ^ 6 from rfl, Int.mul_assoc, ← Int.pow_add]⟩
    rw [six_gtd (sP_six h5 h6 h4 (Nat.le_refl _)).1 h4']
    exact decide_eq_false (by omega)
theorem mx7 {a : Int} (h : a.natAbs ≤ 64) : (if IntKind.wrap .i64 (0 - a) > a then IntKind.wrap .i64 (0 - a) else a) = (a.natAbs : Int) := by
  rw [wrap_id (by omega)]; split <;> omega
theorem tmod_le7 (x : Int) {m : Int} (hm : 0 < m) : (x.tmod m).natAbs < m.natAbs := by
  have h1 := Int.natAbs_tmod x m
  rw [h1]
  exact Nat.mod_lt _ (by omega)
theorem wrapU (x : Int) : 0 ≤ IntKind.wrap .u64 x := Int.emod_nonneg _ (by decide)
theorem wrapU_id {n : Nat} (h : n ≤ 1000) : IntKind.wrap .u64 (n : Int) = n := Int.emod_eq_of_lt (by omega) (by simp only [IntKind.bits]; omega)
section
variable {L n : Nat} {rate fore att : Int} {xs : List Int} {odd : Nat}
theorem fit_den (hm : xs.length ≤ 17592186044415) (hL : 64 ≤ L) : ∃ (r f : Nat) (ts : List Nat) (t : Nat → Int), den ⟨fnOf, specB, L+1⟩ (n+1) 32 [.agg [.int .i64 rate, .int .i64 fore, .lst 1 (xs.map celI), .flt odd, .int .i64 att]] = some (.agg [.int .i64 r, .int .i64 f, .own 1 (ts.map celF) true]) ∧ fitOk r f t ts := by
  have xl : (xs.map celI).length = xs.length := map_len
  obtain ⟨N, eN, N1, N64⟩ : ∃ N : Nat, (if 64 < (if ((xs.map celI).length : Int) > 1 then ((xs.map celI).length : Int) else 1) then 64 else (if ((xs.map celI).length : Int) > 1 then ((xs.map celI).length : Int) else 1)) = (N : Int) ∧ 1 ≤ N ∧ N ≤ 64 := by
    rw [xl]
    by_cases c : 1 < xs.length
    · by_cases d : 64 < xs.length
      · exact ⟨64, by rw [if_pos (show (xs.length : Int) > 1 by omega), if_pos (by omega)]; rfl, by omega, by omega⟩
      · exact ⟨xs.length, by rw [if_pos (show (xs.length : Int) > 1 by omega), if_neg (by omega)], by omega, by omega⟩
    · exact ⟨1, by rw [if_neg (show ¬ (xs.length : Int) > 1 by omega)]; rfl, by omega, by omega⟩
  obtain ⟨r, er, r1, r8⟩ : ∃ r : Nat, IntKind.wrap .i64 (1 + IntKind.wrap .i64 ((IntKind.wrap .u64 rate).tmod 8)) = (r : Int) ∧ 1 ≤ r ∧ r ≤ 8 := by
    have h1 := tmod_le7 (IntKind.wrap .u64 rate) (m := 8) (by decide)
    have h2 : 0 ≤ (IntKind.wrap .u64 rate).tmod 8 := Int.tmod_nonneg _ (wrapU rate)
    generalize (IntKind.wrap .u64 rate).tmod 8 = q at *
    rw [wrap_id (n := q) (by omega), wrap_id (by omega)]
    exact ⟨(1 + q).toNat, by omega, by omega, by omega⟩
  obtain ⟨f, ef, fN⟩ : ∃ f : Nat, IntKind.wrap .i64 ((IntKind.wrap .u64 fore).tmod (IntKind.wrap .u64 (N : Int))) = (f : Int) ∧ f < N := by
    rw [wrapU_id (by omega)]
    have h1 := tmod_le7 (IntKind.wrap .u64 fore) (m := (N : Int)) (by omega)
    have h2 : 0 ≤ (IntKind.wrap .u64 fore).tmod (N : Int) := Int.tmod_nonneg _ (wrapU fore)
    generalize (IntKind.wrap .u64 fore).tmod (N : Int) = q at *
    rw [wrap_id (n := q) (by omega)]
    exact ⟨q.toNat, by omega, by omega⟩
  have z0 : (if IntKind.wrap .i64 (0 - 0) > 0 then IntKind.wrap .i64 (0 - 0) else 0) = (0 : Int) := by decide
  have zz : IntKind.wrap .i64 (0 - 0) = 0 := by decide
  obtain ⟨s', q1, ts, st, left, t, rfl, l1, h0, hs, hx, hb, hz⟩ := loopJ (P := ⟨fnOf, specB, L+1⟩) (C := runF ⟨fnOf, specB, L+1⟩ n) (L := L) (d := 0) (live := [1, 2, 3, 4, 5, 6]) (π := [28]) (m := m32b0) (A := fitSt rate fore xs odd att N r f [] [28] 0 192 0) (x := .exit 0)
    (fun i s => ∃ ts st left t, s = fitSt rate fore xs odd att N r f ts st i left i ∧ ts.length = i ∧ 0 ≤ left ∧ (sumT t i : Int) + left = 192 ∧ (∀ j, j < i → six (t j) (ts.getD j 0)) ∧ (∀ j, (t j).natAbs ≤ 64) ∧ (∀ j, j < i → ((j : Int) - (f : Int)).tmod r = 0 → t j = 0))
    (fun s => ∃ ts st left t, s = fitSt rate fore xs odd att N r f ts st N left N ∧ ts.length = N ∧ 0 ≤ left ∧ (sumT t N : Int) + left = 192 ∧ (∀ j, j < N → six (t j) (ts.getD j 0)) ∧ (∀ j, (t j).natAbs ≤ 64) ∧ (∀ j, j < N → ((j : Int) - (f : Int)).tmod r = 0 → t j = 0)) N (by simp) rfl (by omega)
    ⟨[], [28], 192, fun _ => 0, rfl, rfl, by decide, by decide, fun j hj => absurd hj (Nat.not_lt_zero _), fun _ => Nat.zero_le _, fun j hj => absurd hj (Nat.not_lt_zero _)⟩ (fun i s hi hst => by
      obtain ⟨ts, st, left, t, rfl, l1, h0, hs, hx, hb, hz⟩ := hst
      have hN : decide ((i : Int) < (N : Int)) = true := dLt hi
      have hp : Con.holds ⟨fnOf, specB, L+1⟩ (runF ⟨fnOf, specB, L+1⟩ n) (.push i 1 8 (ts.map celF)) := push_ok (by rw [map_len, l1]) (by simp only [most]; omega)
      have hnz : Con.holds ⟨fnOf, specB, L+1⟩ (runF ⟨fnOf, specB, L+1⟩ n) (.nz (r : Int)) := by show (r : Int) ≠ 0; omega
      have wif : IntKind.wrap .i64 ((i : Int) - (f : Int)) = (i : Int) - f := wrap_id (by omega)
      have wl : IntKind.wrap .i64 left = left := wrap_id (by omega)
      have wz : IntKind.wrap .i64 (left - 0) = left := by rw [Int.sub_zero]; exact wl
      -- whatever is laid
      have fin : ∀ (y : Nat) (v left' : Int) (st' : List Nat), six v y → v.natAbs ≤ 64 → (((i : Int) - (f : Int)).tmod r = 0 → v = 0) → left' + v.natAbs = left → 0 ≤ left' →
          ∃ ts2 st2 left2 t2, fitSt rate fore xs odd att N r f (ts ++ [y]) st' (i + 1) left' (i + 1) = fitSt rate fore xs odd att N r f ts2 st2 (i + 1) left2 (i + 1) ∧ ts2.length = i + 1 ∧ 0 ≤ left2 ∧ (sumT t2 (i + 1) : Int) + left2 = 192 ∧ (∀ j, j < i + 1 → six (t2 j) (ts2.getD j 0)) ∧ (∀ j, (t2 j).natAbs ≤ 64) ∧ (∀ j, j < i + 1 → ((j : Int) - (f : Int)).tmod r = 0 → t2 j = 0) := fun y v left' st' hy hv hvz hle h0' => by
        refine ⟨_, _, _, fun j => if j = i then v else t j, rfl, by rw [List.length_append, l1]; rfl, h0', ?_, fun j hj => ?_, fun j => ?_, fun j hj hj2 => ?_⟩
        · have e : sumT (fun j => if j = i then v else t j) (i + 1) = sumT t i + v.natAbs := by
            rw [sumT, sumT_same (u := t) fun j hj => if_neg (by omega), if_pos rfl]
          rw [e]; omega
        · show six (if j = i then v else t j) _
          rw [getD_apps, l1]
          by_cases e : j = i
          · subst e; rw [if_pos rfl, if_neg (Nat.lt_irrefl _), Nat.sub_self]; exact hy
          · rw [if_neg e, if_pos (by omega)]; exact hx j (by omega)
        · show (if j = i then v else t j).natAbs ≤ 64
          split
          · exact hv
          · exact hb j
        · show (if j = i then v else t j) = 0
          by_cases e : j = i
          · subst e; rw [if_pos rfl]; exact hvz hj2
          · rw [if_neg e]; exact hz j (by omega) hj2
      have w1 : IntKind.wrap .i64 ((i : Int) + 1) = ((i + 1 : Nat) : Int) := wrapUp hi (by omega)
      have m1 : ∀ y : Nat, (ts.map celF) ++ [[.flt y]] = (ts ++ [y]).map celF := fun y => by rw [List.map_append]; rfl
      have done : ∀ (y k : Nat) (v left' e : Int), IntKind.wrap .i64 (left - e) = left' → six v y → v.natAbs ≤ 64 → (((i : Int) - (f : Int)).tmod r = 0 → v = 0) → left' + v.natAbs = left → 0 ≤ left' →
          (rnd 0 [1, 2, 3, 4, 5, 6] (bodyOf ⟨fnOf, specB, L+1⟩ (runF ⟨fnOf, specB, L+1⟩ n) 0 m32b0 (i :: [28]) (fitSt rate fore xs odd att N r f ts st i left i)) = some (.nrm, (.mk [(1, (.ptr (.mk 0 1 0) [0] 0 0)), (2, (.ptr (.mk 0 2 0) [1] 0 0)), (3, (.ptr (.mk 0 3 0) [9] 0 0)), (4, (.v (.int .i64 N))), (5, (.v (.int .i64 (IntKind.wrap .i64 (left - e))))), (6, (.v (.int .i64 (IntKind.wrap .i64 ((i : Int) + 1)))))] [((.mk 0 3 1003), (.mk [k, i, 28] ((List.map celF ts) ++ [[(.flt y)]]) 1 true)), ((.mk 0 2 1003), (.mk [28] [] 1 true)), ((.mk 0 1 0), (.mk [0] [[(.v (.int .i64 (rate))), (.v (.int .i64 (fore))), (.lst 1 (List.map celI xs)), (.flt (odd)), (.v (.int .i64 (att)))]] 5 false)), ((.mk 0 2 0), (.mk [1] [[(.v (.int .i64 0)), (.v (.int .i64 0)), (.slc (.mk 0 2 1003) [28] 1 0 0 false)]] 3 false)), ((.mk 0 3 0), (.mk [9] [[(.v (.int .i64 r)), (.v (.int .i64 f)), (.slc (.mk 0 3 1003) [k, i, 28] 1 0 (i + 1) false)]] 3 false))] 0))) →
          ∃ s', rnd 0 [1, 2, 3, 4, 5, 6] (bodyOf ⟨fnOf, specB, L+1⟩ (runF ⟨fnOf, specB, L+1⟩ n) 0 m32b0 (i :: [28]) (fitSt rate fore xs odd att N r f ts st i left i)) = some (.nrm, s') ∧
            ∃ ts st left t, s' = fitSt rate fore xs odd att N r f ts st (i + 1) left (i + 1) ∧ ts.length = i + 1 ∧ 0 ≤ left ∧ (sumT t (i + 1) : Int) + left = 192 ∧ (∀ j, j < i + 1 → six (t j) (ts.getD j 0)) ∧ (∀ j, (t j).natAbs ≤ 64) ∧ (∀ j, j < i + 1 → ((j : Int) - (f : Int)).tmod r = 0 → t j = 0) := fun y k v left' e he hy hv hvz hle h0' hr => by
        rw [he, w1, m1] at hr
        exact ⟨_, hr, fin y v left' [k, i, 28] hy hv hvz hle h0'⟩
      have none0 : ∀ k, _ → _ := fun k => done 0 k 0 left 0 wz six_zero (by decide) (fun _ => rfl) (by omega) h0
      by_cases hl : i < xs.length
      · have hln : decide ((i : Int) < ((xs.map celI).length : Int)) = true := by rw [xl]; exact dLt hl
        have hel : Con.holds ⟨fnOf, specB, L+1⟩ (runF ⟨fnOf, specB, L+1⟩ n) (.el (xs.map celI) (.int .i64 i) [.int .i64 (xs.getD i 0)]) := elD_map (f := celI) hl
        have hv := tmod_le7 (xs.getD i 0) (m := 65) (by decide)
        generalize hV : (xs.getD i 0).tmod 65 = v at hv
        have wn : IntKind.wrap .i64 (0 - v) = -v := by rw [wrap_id (by omega)]; omega
        by_cases c1 : left < v
        · by_cases c3 : ((i : Int) - (f : Int)).tmod r = 0
          · have := @fitb_0 (L+1) n rate fore att N r f left xs [] ts [] [] [] odd 0 0 i i 0 st [28] (xs.getD i 0) hN hln hel (by rw [hV]; exact dT c1) hnz (by rw [wif, c3]; rfl) hp
            rw [z0] at this
            exact none0 _ this
          · have := @fitb_1 (L+1) n rate fore att N r f left xs [] ts [] [] [] odd 0 0 i i 0 st [28] (xs.getD i 0) hN hln hel (by rw [hV]; exact dT c1) hnz (by rw [wif]; simpa using c3) hp
            rw [z0] at this
            exact none0 _ this
        · by_cases c2 : left < -v
          · by_cases c3 : ((i : Int) - (f : Int)).tmod r = 0
            · have := @fitb_2 (L+1) n rate fore att N r f left xs [] ts [] [] [] odd 0 0 i i 0 st [28] (xs.getD i 0) hN hln hel (by rw [hV]; exact dF (by omega)) (by rw [hV, wn]; exact dT c2) hnz (by rw [wif, c3]; rfl) hp
              rw [z0] at this
              exact none0 _ this
            · have := @fitb_3 (L+1) n rate fore att N r f left xs [] ts [] [] [] odd 0 0 i i 0 st [28] (xs.getD i 0) hN hln hel (by rw [hV]; exact dF (by omega)) (by rw [hV, wn]; exact dT c2) hnz (by rw [wif]; simpa using c3) hp
              rw [z0] at this
              exact none0 _ this
          · by_cases c3 : ((i : Int) - (f : Int)).tmod r = 0
            · have := @fitb_4 (L+1) n rate fore att N r f left xs [] ts [] [] [] odd 0 0 i i 0 st [28] (xs.getD i 0) hN hln hel (by rw [hV]; exact dF (by omega)) (by rw [hV, wn]; exact dF (by omega)) hnz (by rw [wif, c3]; rfl) hp
              rw [z0] at this
              exact none0 _ this
            · have := @fitb_5 (L+1) n rate fore att N r f left xs [] ts [] [] [] odd 0 0 i i 0 st [28] (xs.getD i 0) hN hln hel (by rw [hV]; exact dF (by omega)) (by rw [hV, wn]; exact dF (by omega)) hnz (by rw [wif]; simpa using c3) hp
              rw [hV, mx7 (by omega)] at this
              exact done _ _ v (left - v.natAbs) _ (wrap_id (by omega)) (six_of (by omega)) (by omega) (fun h => absurd h c3) (by omega) (by omega) this
      · have hln : decide ((i : Int) < ((xs.map celI).length : Int)) = false := by rw [xl]; exact dF (by omega)
        by_cases c3 : ((i : Int) - (f : Int)).tmod r = 0
        · have := @fitb_10 (L+1) n rate fore att N r f left xs [] ts [] [] [] odd 0 0 i i 0 st [28] hN hln (dF (by omega)) (by rw [zz]; exact dF (by omega)) hnz (by rw [wif, c3]; rfl) hp
          rw [z0] at this
          exact none0 _ this
        · have := @fitb_11 (L+1) n rate fore att N r f left xs [] ts [] [] [] odd 0 0 i i 0 st [28] hN hln (dF (by omega)) (by rw [zz]; exact dF (by omega)) hnz (by rw [wif]; simpa using c3) hp
          rw [z0] at this
          exact none0 _ this) (fun s hst => by
      obtain ⟨ts, st, left, t, rfl, h⟩ := hst
      exact ⟨_, @fitb_12 (L+1) n rate fore att N r f left xs [] ts [] [] [] odd 0 0 N N 0 st [28] dNlt, ts, st, left, t, rfl, h⟩)
  have tl : (ts.map celF).length = N := by rw [map_len, l1]
  have hat : Con.holds ⟨fnOf, specB, L+1⟩ (runF ⟨fnOf, specB, L+1⟩ n) (.at (ts.map celF) (0 + f) [.flt (ts.getD f 0)]) := by rw [Nat.zero_add]; exact atD_map (f := celF) (by omega)
  have hle : Con.holds ⟨fnOf, specB, L+1⟩ (runF ⟨fnOf, specB, L+1⟩ n) (.le N (List.length (List.set (ts.map celF) (0 + f) [.flt 4607182418800017408]))) := by show _ ≤ _; rw [List.length_set, tl]; exact Nat.le_refl _
  have := @fit_0 (L+1) n rate fore att N r f left xs [] ts [] [] [] odd 0 0 N N 0 st [] f (ts.getD f 0) (by rw [eN, wrapU_id (by omega)]; show (N : Int) ≠ 0; omega) (by rw [er, eN, ef]; exact q1) (ix_at fN) hat hle
  refine ⟨r, f, ts.set f one, fun i => if i = f then 64 else t i, ?_, r1, r8, by rw [List.length_set]; omega, by rw [List.length_set]; omega, fun i hi => ?_, fun i => ?_, if_pos rfl, fun i hi hn hmod => ?_, ?_⟩
  · rw [this, Nat.zero_add]
    have e : List.set (ts.map celF) f [.flt 4607182418800017408] = (ts.set f one).map celF := by rw [List.map_set]; rfl
    rw [e, takeMap (by rw [List.length_set, l1])]
  · rw [List.length_set] at hi
    rw [getD_sets (by omega)]
    show six (if i = f then 64 else t i) _
    by_cases e : f = i
    · subst e; rw [if_pos rfl, if_pos rfl]; exact six_one
    · rw [if_neg e, if_neg (fun h => e h.symm)]; exact hx i (by omega)
  · show (if i = f then 64 else t i).natAbs ≤ 64
    split
    · decide
    · exact hb i
  · show (if i = f then 64 else t i) = 0
    rw [if_neg hn]
    rw [List.length_set] at hi
    exact hz i (by omega) hmod
  · rw [List.length_set]
    have := sumT_up (t := t) (u := fun i => if i = f then 64 else t i) (f := f) (c := 64) (fun i hi => if_neg hi) (by show (if f = f then (64 : Int) else t f).natAbs ≤ 64; rw [if_pos rfl]; decide) ts.length
    rw [if_pos (by omega), l1] at this
    rw [l1]
    omega
end
end Go.Proofs.Ytaklelfdcbgebaa.Fw
