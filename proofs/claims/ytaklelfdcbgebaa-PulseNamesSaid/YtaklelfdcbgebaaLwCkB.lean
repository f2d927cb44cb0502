/- What pulse.Check and the document's Check answer, whatever the pulse; both spoken for. -/
import Derived.Test.YtaklelfdcbgebaaLwCkA
set_option maxRecDepth 100000
set_option maxHeartbeats 4000000
set_option exponentiation.threshold 4000
set_option linter.unusedSimpArgs false
set_option linter.unusedVariables false
namespace Go.Proofs.Ytaklelfdcbgebaa.Fw
open Go Go.RowKit
abbrev one : Nat := 4607182418800017408
/-- in parts of 2^-6 -/
def six (m : Int) (x : Nat) : Prop := fin x ∧ fv x = m * 2 ^ 1068
theorem okM_one : okM one := .inl rfl
theorem rk_one : rk one = 2 ^ 1074 := by kernel_rfl
theorem plain_six {x : Nat} (h : plainF x one = true) : ∃ m : Int, six m x ∧ m.natAbs ≤ 64 := by
  unfold plainF at h
  simp only [Bool.and_eq_true] at h
  obtain ⟨h1, h2⟩ := h
  obtain ⟨f1, f2, f3⟩ := mul64 okM_one h1
  obtain ⟨hf, _⟩ := plain_fin okM_one h1
  obtain ⟨z1, z2⟩ := fint_zero f1
  rw [feq_fin z1 f1, z2, f2] at h2
  simp only [decide_eq_true_eq] at h2
  refine ⟨(fv x * 2 ^ 6).tdiv (2 ^ 1074), ⟨hf, ?_⟩, ?_⟩
  · generalize (fv x * 2 ^ 6).tdiv (2 ^ 1074) = q at h2
    have e : q * 2 ^ 1074 = (q * 2 ^ 1068) * 2 ^ 6 := by rw [Int.mul_assoc, ← Int.pow_add]
    rw [e] at h2
    exact (Int.mul_eq_mul_right_iff (by decide)).1 h2.symm
  · rw [fle_rk, (absF_rk x).1, (absF_rk x).2, rk_one, rk_fin hf] at h1
    simp only [Bool.and_eq_true, decide_eq_true_eq] at h1
    have hb := h1.2
    generalize (fv x * 2 ^ 6).tdiv (2 ^ 1074) = q at h2
    have e : q * 2 ^ 1074 = (q * 2 ^ 1068) * 2 ^ 6 := by rw [Int.mul_assoc, ← Int.pow_add]
    rw [e] at h2
    have h3 : fv x = q * 2 ^ 1068 := (Int.mul_eq_mul_right_iff (by decide)).1 h2.symm
    rw [h3, Int.natAbs_mul, Int.natAbs_pow] at hb
    have hb' : q.natAbs * 2 ^ 1068 ≤ 64 * 2 ^ 1068 := by
      have e1 : (2 : Int) ^ 1074 = ((64 * 2 ^ 1068 : Nat) : Int) := by
        rw [Int.natCast_mul, Int.natCast_pow]
        have : (64 : Int) = 2 ^ 6 := by decide
        show (2 : Int) ^ 1074 = 64 * 2 ^ 1068
        rw [this, ← Int.pow_add]
      rw [e1] at hb
      exact Int.ofNat_le.1 hb
    exact Nat.le_of_mul_le_mul_right hb' (Nat.pow_pos (by decide))
theorem six_abs {m : Int} {x : Nat} (h : six m x) : six m.natAbs (absF x) ∧ six m.natAbs (szF x) := by
  have p : (0 : Int) < 2 ^ 1068 := Int.pow_pos (by decide)
  have hn : isNaN x = false := fin_num h.1
  have hr : rk x = m * 2 ^ 1068 := by rw [rk_fin h.1, h.2]
  have ha : ((m * 2 ^ 1068).natAbs : Int) = (m.natAbs : Int) * 2 ^ 1068 := by
    rw [Int.natAbs_mul, Int.natCast_mul]
    congr 1
  have key : ∀ y, isNaN y = false → rk y = ((rk x).natAbs : Int) → six m.natAbs y := fun y h1 h2 => by
    have hs := rk_small h.1
    have hf : fin y := fin_of_rk h1 (by rw [h2]; exact hs)
    exact ⟨hf, by rw [← rk_fin hf, h2, hr, ha]⟩
  exact ⟨key _ (by rw [(absF_rk x).1, hn]) (absF_rk x).2, key _ (by rw [(szF_rk x).1, hn]) (szF_rk x).2⟩
theorem six_add {m n : Int} {x y : Nat} (hx : six m x) (hy : six n y) (h : (m + n).natAbs < 2 ^ 53) : six (m + n) (fadd x y) := by
  have e : fv x + fv y = (m + n) * 2 ^ 1068 := by rw [hx.2, hy.2, Int.add_mul]
  obtain ⟨h1, h2⟩ := fadd_exact hx.1 hy.1 (by rw [e]; exact fits_grid h (by decide))
  exact ⟨h1, by rw [h2, e]⟩
theorem six_zero : six 0 0 := by
  have h := fofInt_exact (n := 0) (by decide)
  have e : fofInt 0 = 0 := by kernel_rfl
  rw [e] at h
  exact ⟨h.1, by rw [h.2]; simp⟩
theorem six_gt {m : Int} {x y c : Nat} (hx : six m x) (hy : six m y) (hc : fin c) : fgt x c = fgt y c := by
  rw [fgt_fin hx.1 hc, fgt_fin hy.1 hc, hx.2, hy.2]
def sP (ts : List Nat) : Nat → Nat
  | 0 => 0
  | i + 1 => fadd (sP ts i) (absF (ts.getD i 0))
def sD (ts : List Nat) : Nat → Nat
  | 0 => 0
  | i + 1 => fadd (sD ts i) (szF (ts.getD i 0))
theorem sums {ts : List Nat} (hl : ts.length ≤ 64) : ∀ i, i ≤ ts.length → (∀ j, j < i → plainF (ts.getD j 0) one = true) → ∃ S : Int, 0 ≤ S ∧ S ≤ 64 * i ∧ six S (sP ts i) ∧ six S (sD ts i)
  | 0, _, _ => ⟨0, by omega, by omega, six_zero, six_zero⟩
  | i + 1, hi, h => by
    obtain ⟨S, s1, s2, s3, s4⟩ := sums hl i (by omega) fun j hj => h j (by omega)
    obtain ⟨m, hm, hb⟩ := plain_six (h i (by omega))
    obtain ⟨a1, a2⟩ := six_abs hm
    exact ⟨S + m.natAbs, by omega, by omega, six_add s3 a1 (by omega), six_add s4 a2 (by omega)⟩
/-- may this tap stand at this place? -/
def okC (rate fore : Int) (i x : Nat) : Bool := plainF x one && !(((i : Int) != fore) && (((i : Int) - fore).tmod rate == 0) && !feq x 0)
def okD (rate fore : Int) (i x : Nat) : Bool := okC rate fore i x && !(((i : Int) == fore) && !feq x one)
def okAll (rate fore : Int) (ts : List Nat) : Bool := (List.range ts.length).all fun i => okC rate fore i (ts.getD i 0)
/-- what Check answers -/
def chkF (rate fore : Int) (ts : List Nat) : Int :=
  if rate < 1 ∨ 8 < rate ∨ fore < 0 ∨ (ts.length : Int) ≤ fore then 1
  else if 64 < ts.length then 8
  else if feq (ts.getD fore.toNat 0) one = true ∧ okAll rate fore ts = true ∧ fgt (sP ts ts.length) 4616189618054758400 = false then 0 else 8
theorem chkF_ok {rate fore : Int} {ts : List Nat} (h : chkF rate fore ts = 0) : 1 ≤ rate ∧ rate ≤ 8 ∧ 0 ≤ fore ∧ fore < ts.length ∧ ts.length ≤ 64 ∧ feq (ts.getD fore.toNat 0) one = true ∧ okAll rate fore ts = true ∧ fgt (sP ts ts.length) 4616189618054758400 = false := by
  unfold chkF at h
  split at h
  · cases h
  · split at h
    · cases h
    · split at h
      · rename_i h1 h2 h3
        exact ⟨by omega, by omega, by omega, by omega, by omega, h3⟩
      · cases h
section
variable {L n : Nat} {rate fore : Int} {ts : List Nat}
theorem ck_eq {s i x : Nat} {π : List Nat} (hi : i < ts.length) (hw : IntKind.wrap .i64 ((i : Int) - fore) = (i : Int) - fore) (hw1 : IntKind.wrap .i64 ((i : Int) + 1) = ((i + 1 : Nat) : Int)) :
    ck L n rate fore ts s i x π = bif okC rate fore i x then .go .nrm (ckSt rate fore ts (fadd s (absF x)) (i + 1)) else .out (.int .i64 8) := by
  unfold ck okC
  rw [if_pos (by rw [map_len]; exact dLt hi)]
  simp only [hw, hw1]
  cases plainF x one with
  | false => rfl
  | true =>
    cases ((i : Int) != fore) with
    | false => rfl
    | true =>
      cases (((i : Int) - fore).tmod rate == 0) with
      | false => rfl
      | true => cases feq x 0 <;> rfl
theorem cd_eq {s i x : Nat} {π : List Nat} (hi : i < ts.length) (hw : IntKind.wrap .i64 ((i : Int) - fore) = (i : Int) - fore) (hw1 : IntKind.wrap .i64 ((i : Int) + 1) = ((i + 1 : Nat) : Int)) :
    cd L n rate fore ts s i x π = bif okD rate fore i x then .go .nrm (cdSt rate fore ts (fadd s (szF x)) (i + 1)) else .out (.int .i64 8) := by
  have e1 : (((i : Int) - fore) == 0) = ((i : Int) == fore) := by
    by_cases h : (i : Int) = fore
    · have : (i : Int) - fore = 0 := by omega
      rw [this, beq_iff_eq.2 h]; rfl
    · rw [beq_eq_false_iff_ne.2 h, beq_eq_false_iff_ne.2 (by omega)]
  have e2 : (((i : Int) - fore) != 0) = ((i : Int) != fore) := by unfold bne; rw [e1]
  unfold cd okD okC
  rw [if_pos (by rw [map_len]; exact dLt hi)]
  simp only [hw, hw1, e1, e2]
  have e3 : ((i : Int) != fore) = !((i : Int) == fore) := rfl
  rw [e3]
  cases plainF x one with
  | false => rfl
  | true =>
    cases ((i : Int) == fore) with
    | true => cases feq x one <;> rfl
    | false =>
      cases (((i : Int) - fore).tmod rate == 0) with
      | false => rfl
      | true => cases feq x 0 <;> rfl
theorem ck_see {f i s : Nat} {π : List Nat} (hr : rate ≠ 0) (hl : ts.length ≤ 64) (hf : f < ts.length) (hi : i < ts.length) :
    seeZ 0 [1, 3, 41, 42, 43] m28.res (bodyOf ⟨fnOf, specP, L⟩ (runF ⟨fnOf, specP, L⟩ n) 0 m28b0 (i :: π) (ckSt rate f ts s i)) =
      some (bif okC rate f i (ts.getD i 0) then .go .nrm (ckSt rate f ts (fadd s (absF (ts.getD i 0))) (i + 1)) else .out (.int .i64 8)) := by
  have := @ck_ok L n rate f ts s i (ts.getD i 0) π (fun _ => elD_map hi) (fun _ _ _ => hr)
  rw [ck_eq hi (wrap_id (by omega)) (wrapUp hi (by omega))] at this
  exact this
theorem cd_see {f i s : Nat} {π : List Nat} (hr : rate ≠ 0) (hl : ts.length ≤ 64) (hf : f < ts.length) (hi : i < ts.length) :
    seeZ 0 [1, 3, 4] m29.res (bodyOf ⟨fnOf, specP, L⟩ (runF ⟨fnOf, specP, L⟩ n) 0 m29b0 (i :: π) (cdSt rate f ts s i)) =
      some (bif okD rate f i (ts.getD i 0) then .go .nrm (cdSt rate f ts (fadd s (szF (ts.getD i 0))) (i + 1)) else .out (.int .i64 8)) := by
  have := @cd_ok L n rate f ts s i (ts.getD i 0) π (fun _ => elD_map hi) (fun _ _ => hr)
  rw [cd_eq hi (wrap_id (by omega)) (wrapUp hi (by omega))] at this
  exact this
theorem firstI (p : Nat → Bool) (m : Nat) : (∀ i, i < m → p i = true) ∨ ∃ k, k < m ∧ (∀ i, i < k → p i = true) ∧ p k = false := by
  rcases firstBad p (List.range m) with h | ⟨k, hk, h1, h2⟩
  · exact .inl fun i hi => List.all_eq_true.1 h i (List.mem_range.2 hi)
  · refine .inr ⟨k, by simpa using hk, fun i hi => ?_, by simpa using h2⟩
    have := h1 i hi
    simpa using this
theorem okAll_iff : okAll rate fore ts = true ↔ ∀ i, i < ts.length → okC rate fore i (ts.getD i 0) = true := by
  unfold okAll
  rw [List.all_eq_true]
  exact ⟨fun h i hi => h i (List.mem_range.2 hi), fun h i hi => h i (List.mem_range.1 hi)⟩
theorem check_both (hL : 64 ≤ L) :
    den ⟨fnOf, specP, L+1⟩ (n+1) 28 [.agg [.int .i64 rate, .int .i64 fore, .lst 1 (ts.map celF)]] = some (.int .i64 (chkF rate fore ts)) ∧
    den ⟨fnOf, specP, L+1⟩ (n+1) 29 [.agg [.int .i64 rate, .int .i64 fore, .lst 1 (ts.map celF)]] = some (.int .i64 (chkF rate fore ts)) := by
  have hlen : (ts.map celF).length = ts.length := List.length_map ..
  by_cases c1 : rate < 1
  · rw [show chkF rate fore ts = 1 from if_pos (.inl c1)]
    exact ⟨ckn_0 (u := 0) (dT c1), cdn_0 (u := 0) (dT c1)⟩
  by_cases c2 : rate > 8
  · rw [show chkF rate fore ts = 1 from if_pos (.inr (.inl c2))]
    exact ⟨ckn_1 (u := 0) (dF c1) (dT c2), cdn_1 (u := 0) (dF c1) (dT c2)⟩
  by_cases c3 : fore < 0
  · rw [show chkF rate fore ts = 1 from if_pos (.inr (.inr (.inl c3)))]
    exact ⟨ckn_2 (u := 0) (dF c1) (dF c2) (dT c3), cdn_2 (u := 0) (dF c1) (dF c2) (dT c3)⟩
  by_cases c4 : fore ≥ (ts.length : Int)
  · rw [show chkF rate fore ts = 1 from if_pos (.inr (.inr (.inr c4)))]
    have b4 : decide (fore ≥ ((ts.map celF).length : Int)) = true := dT (by rw [hlen]; exact c4)
    exact ⟨ckn_3 (u := 0) (dF c1) (dF c2) (dF c3) b4, cdn_3 (u := 0) (dF c1) (dF c2) (dF c3) b4⟩
  have b4 : decide (fore ≥ ((ts.map celF).length : Int)) = false := dF (by rw [hlen]; exact c4)
  have hno : ¬ (rate < 1 ∨ 8 < rate ∨ fore < 0 ∨ (ts.length : Int) ≤ fore) := by omega
  by_cases c5 : ts.length > 64
  · rw [show chkF rate fore ts = 8 from by unfold chkF; rw [if_neg hno, if_pos c5]]
    have b5 : decide (((ts.map celF).length : Int) > 64) = true := dT (by rw [hlen]; omega)
    exact ⟨ckn_4 (u := 0) (dF c1) (dF c2) (dF c3) b4 b5, cdn_4 (u := 0) (dF c1) (dF c2) (dF c3) b4 b5⟩
  have b5 : decide (((ts.map celF).length : Int) > 64) = false := dF (by rw [hlen]; omega)
  obtain ⟨f, rfl⟩ : ∃ f : Nat, fore = f := ⟨fore.toNat, by omega⟩
  have hf : f < ts.length := by omega
  have hr : rate ≠ 0 := by omega
  have hE := elD_map (P := ⟨fnOf, specP, L+1⟩) (C := runF ⟨fnOf, specP, L+1⟩ n) (f := celF) (d := 0) hf
  have hch : chkF rate f ts = if feq (ts.getD f 0) one = true ∧ okAll rate f ts = true ∧ fgt (sP ts ts.length) 4616189618054758400 = false then 0 else 8 := by
    unfold chkF; rw [if_neg hno, if_neg c5]; rfl
  have fin4 : fin 4616189618054758400 := by
    have h := fofInt_exact (n := 4) (by decide)
    have e : fofInt 4 = 4616189618054758400 := by kernel_rfl
    rw [e] at h; exact h.1
  -- the document's loop
  have dloop : ∀ k, k ≤ ts.length → (∀ i, i < k → okD rate f i (ts.getD i 0) = true) → ∀ i, i < k →
      seeZ 0 [1, 3, 4] m29.res (bodyOf ⟨fnOf, specP, L+1⟩ (runF ⟨fnOf, specP, L+1⟩ n) 0 m29b0 (i :: [29]) (cdSt rate f ts (sD ts i) i)) = some (.go .nrm (cdSt rate f ts (sD ts (i + 1)) (i + 1))) := fun k hk h i hi => by
    rw [cd_see hr (by omega) hf (by omega), h i hi]; rfl
  have dbad : ∀ k, k < ts.length → (∀ i, i < k → okD rate f i (ts.getD i 0) = true) → okD rate f k (ts.getD k 0) = false →
      den ⟨fnOf, specP, L+1⟩ (n+1) 29 [.agg [.int .i64 rate, .int .i64 f, .lst 1 (ts.map celF)]] = some (.int .i64 8) := fun k hk h h2 => by
    obtain ⟨s1, hd, ho⟩ := loopZ (P := ⟨fnOf, specP, L+1⟩) (C := runF ⟨fnOf, specP, L+1⟩ n) (π := [29]) (fun i => cdSt rate f ts (sD ts i) i) k rfl (by omega) (dloop k (by omega) h)
      (by rw [cd_see hr (by omega) hf hk, h2]; rfl)
    exact cdt_5 (dF c1) (dF c2) (dF c3) b4 b5 hd ho
  cases hy : feq (ts.getD f 0) one with
  | false =>
    rw [hch, if_neg (by rw [hy]; simp)]
    refine ⟨ckn_5 (u := 0) (dF c1) (dF c2) (dF c3) b4 b5 hE (by show (!feq _ _) = true; rw [hy]; rfl), ?_⟩
    rcases firstI (fun i => okD rate f i (ts.getD i 0)) ts.length with h | ⟨k, hk, h1, h2⟩
    · have := h f hf
      unfold okD at this
      rw [hy] at this
      simp at this
    · exact dbad k hk h1 h2
  | true =>
    have same : ∀ i, okD rate f i (ts.getD i 0) = okC rate f i (ts.getD i 0) := fun i => by
      unfold okD
      by_cases h : i = f
      · subst h; rw [hy]; simp
      · have : ((i : Int) == (f : Int)) = false := by rw [beq_eq_false_iff_ne]; omega
        rw [this]; simp
    have cloop : ∀ k, k ≤ ts.length → (∀ i, i < k → okC rate f i (ts.getD i 0) = true) → ∀ i, i < k →
        seeZ 0 [1, 3, 41, 42, 43] m28.res (bodyOf ⟨fnOf, specP, L+1⟩ (runF ⟨fnOf, specP, L+1⟩ n) 0 m28b0 (i :: [41]) (ckSt rate f ts (sP ts i) i)) = some (.go .nrm (ckSt rate f ts (sP ts (i + 1)) (i + 1))) := fun k hk h i hi => by
      rw [ck_see hr (by omega) hf (by omega), h i hi]; rfl
    have hy' : (!feq (ts.getD f 0) one) = false := by rw [hy]; rfl
    rcases firstI (fun i => okC rate f i (ts.getD i 0)) ts.length with h | ⟨k, hk, h1, h2⟩
    · have hall : okAll rate f ts = true := okAll_iff.2 h
      have hpl : ∀ j, j < ts.length → plainF (ts.getD j 0) one = true := fun j hj => by
        have := h j hj
        unfold okC at this
        simp only [Bool.and_eq_true] at this
        exact this.1
      obtain ⟨S, _, _, g1, g2⟩ := sums (by omega) ts.length (Nat.le_refl _) hpl
      have hg := six_gt (c := 4616189618054758400) g1 g2 fin4
      have lc : Con.holds ⟨fnOf, specP, L+1⟩ (runF ⟨fnOf, specP, L+1⟩ n) (.loop 0 [1, 3, 41, 42, 43] m28b0 [41] (ckSt rate f ts 0 0) (.exit 0) (ckSt rate f ts (sP ts ts.length) ts.length)) := by
        refine loopX (fun i => ckSt rate f ts (sP ts i) i) ts.length rfl (by omega) (cloop _ (Nat.le_refl _) h) ?_ (by simp)
        have := @ck_5 (L+1) n rate f ts (sP ts ts.length) ts.length 0 [41] (dF (by rw [hlen]; omega))
        rw [this]
        rfl
      have ld : Con.holds ⟨fnOf, specP, L+1⟩ (runF ⟨fnOf, specP, L+1⟩ n) (.loop 0 [1, 3, 4] m29b0 [29] (cdSt rate f ts 0 0) (.exit 0) (cdSt rate f ts (sD ts ts.length) ts.length)) := by
        refine loopX (fun i => cdSt rate f ts (sD ts i) i) ts.length rfl (by omega) (dloop _ (Nat.le_refl _) (fun i hi => by rw [same]; exact h i hi)) ?_ (by simp)
        have := @cd_10 (L+1) n rate f ts (sD ts ts.length) ts.length 0 [29] (dF (by rw [hlen]; omega))
        rw [this]
        rfl
      cases hq : fgt (sP ts ts.length) 4616189618054758400 with
      | true =>
        rw [hch, if_neg (by rw [hq]; simp)]
        exact ⟨ckn_6 (dF c1) (dF c2) (dF c3) b4 b5 hE hy' lc hq, cdn_5 (dF c1) (dF c2) (dF c3) b4 b5 ld (by rw [← hg]; exact hq)⟩
      | false =>
        rw [hch, if_pos ⟨hy, hall, hq⟩]
        exact ⟨ckn_7 (dF c1) (dF c2) (dF c3) b4 b5 hE hy' lc hq, cdn_6 (dF c1) (dF c2) (dF c3) b4 b5 ld (by rw [← hg]; exact hq)⟩
    · have hall : okAll rate f ts ≠ true := fun h => by
        have := okAll_iff.1 h k hk
        rw [h2] at this; cases this
      rw [hch, if_neg (fun h => hall h.2.1)]
      obtain ⟨s1, hd, ho⟩ := loopZ (P := ⟨fnOf, specP, L+1⟩) (C := runF ⟨fnOf, specP, L+1⟩ n) (π := [41]) (fun i => ckSt rate f ts (sP ts i) i) k rfl (by omega) (cloop k (by omega) h1)
        (by rw [ck_see hr (by omega) hf hk, h2]; rfl)
      exact ⟨ckt_6 (dF c1) (dF c2) (dF c3) b4 b5 hE hy' hd ho, dbad k hk (fun i hi => by rw [same]; exact h1 i hi) (by rw [same]; exact h2)⟩
end
/-- Check, spoken for -/
def chkSem : List AV → Option AV
  | [.agg [.v (.int .i64 rate), .v (.int .i64 fore), .lst 1 els]] => (unL unF els).map fun ts => .int .i64 (chkF rate fore ts)
  | _ => none
theorem chkSem_is {avs : List AV} {r : AV} (h : chkSem avs = some r) : ∃ rate fore ts, avs = [.agg [.int .i64 rate, .int .i64 fore, .lst 1 (ts.map celF)]] ∧ r = .int .i64 (chkF rate fore ts) := by
  unfold chkSem at h
  split at h
  · rename_i rate fore els
    rw [Option.map_eq_some_iff] at h
    obtain ⟨ts, h1, rfl⟩ := h
    have := unL_inv (enc := celF) unF_is h1
    subst this
    exact ⟨rate, fore, ts, rfl, rfl⟩
  · cases h
theorem chkSem_at (rate fore : Int) (ts : List Nat) : chkSem [.agg [.int .i64 rate, .int .i64 fore, .lst 1 (ts.map celF)]] = some (.int .i64 (chkF rate fore ts)) := by
  simp only [chkSem, unF_L, Option.map_some]
/-- several functions more are spoken for -/
theorem spec_adds {P : Program} {fn : FuncId → Option FnM} {spec : FuncId → Option (List AV → Option AV)} (hS : SpecOk P ⟨fn, spec, 0⟩) (hF : ∀ L, FnsOk P ⟨fn, spec, L⟩) (hm : P.follows .mixedOrders = true) (δ : FuncId → Option (List AV → Option AV))
    (hd : ∀ f g, δ f = some g → FnIs P f ∧ ∀ avs r, g avs = some r → ∃ avs1 L k r1, All2 WiA avs avs1 ∧ den ⟨fn, spec, L⟩ k f avs1 = some r1 ∧ WkT r1 r) : SpecOk P ⟨fn, fun f => match δ f with | some g => some g | none => spec f, 0⟩ := by
  intro f g h
  simp only at h
  cases hq : δ f with
  | none => rw [hq] at h; exact hS f g h
  | some g' =>
    rw [hq] at h
    cases h
    obtain ⟨h1, h2⟩ := hd f g hq
    exact spec_add hS hF hm f g h1 h2 f g (by simp)
theorem told {P : Prog} {f : FuncId} {avs : List AV} {r : AV} (h : ∃ L k, den ⟨P.fn, P.spec, L⟩ k f avs = some r) : ∃ avs1 L k r1, All2 WiA avs avs1 ∧ den ⟨P.fn, P.spec, L⟩ k f avs1 = some r1 ∧ WkT r1 r := by
  obtain ⟨L, k, h⟩ := h
  exact ⟨avs, L, k, r, all2_refl WiA.refl _, h, WkT.refl _⟩
def newC : FuncId → Option (List AV → Option AV)
  | 28 => some chkSem
  | 29 => some chkSem
  | _ => none
/-- Check, too -/
def specC : FuncId → Option (List AV → Option AV) := fun f => match newC f with | some g => some g | none => specP f
theorem spec_c : SpecOk Try.prog ⟨fnOf, specC, 0⟩ :=
  spec_adds (spec_p 0) (fun L => fnsOk _ _) follows newC fun f g h => by
    unfold newC at h
    split at h
    · cases h
      refine ⟨⟨_, Try.func28, ne_of_beq_false (by kernel_rfl), by kernel_rfl⟩, fun avs r h => ?_⟩
      obtain ⟨rate, fore, ts, rfl, rfl⟩ := chkSem_is h
      exact told (P := ⟨fnOf, specP, 0⟩) ⟨65, 1, (check_both (L := 64) (n := 0) (by omega)).1⟩
    · cases h
      refine ⟨⟨_, Try.func29, ne_of_beq_false (by kernel_rfl), by kernel_rfl⟩, fun avs r h => ?_⟩
      obtain ⟨rate, fore, ts, rfl, rfl⟩ := chkSem_is h
      exact told (P := ⟨fnOf, specP, 0⟩) ⟨65, 1, (check_both (L := 64) (n := 0) (by omega)).2⟩
    · cases h
end Go.Proofs.Ytaklelfdcbgebaa.Fw
