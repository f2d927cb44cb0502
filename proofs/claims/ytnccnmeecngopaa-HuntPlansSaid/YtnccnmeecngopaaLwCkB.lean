/- pulse.Check and the document's Check answer the same, whatever the pulse. -/
import Derived.Test.YtnccnmeecngopaaLwCkA
set_option maxRecDepth 100000
set_option maxHeartbeats 4000000
set_option exponentiation.threshold 4000
set_option linter.unusedSimpArgs false
set_option linter.unusedVariables false
namespace Go.Proofs.Ytnccnmeecngopaa.Fw
open Go Go.RowKit
abbrev one : Nat := 4607182418800017408
/-- in parts of 2^-6 -/
def six (m : Int) (x : Nat) : Prop := fin x ∧ fv x = m * 2 ^ 1068
theorem okM_one : okM one := .inl rfl
theorem rk_one : rk one = 2 ^ 1074 := by kernel_rfl
theorem plain_six {x : Nat} (h : plainF x one = true) : ∃ m : Int, six m x ∧ m.natAbs ≤ 64 := by
  unfold plainF at h
  simp only [Bool.and_eq_true] at h
  obtain ⟨h1, h2⟩ := h
  obtain ⟨f1, f2, f3⟩ := mul64 okM_one h1
  obtain ⟨hf, _⟩ := plain_fin okM_one h1
  obtain ⟨z1, z2⟩ := fint_zero f1
  rw [feq_fin z1 f1, z2, f2] at h2
  simp only [decide_eq_true_eq] at h2
  refine ⟨(fv x * 2 ^ 6).tdiv (2 ^ 1074), ⟨hf, ?_⟩, ?_⟩
  · generalize (fv x * 2 ^ 6).tdiv (2 ^ 1074) = q at h2
    have e : q * 2 ^ 1074 = (q * 2 ^ 1068) * 2 ^ 6 := by rw [Int.mul_assoc, ← Int.pow_add]
    rw [e] at h2
    exact (Int.mul_eq_mul_right_iff (by decide)).1 h2.symm
  · rw [fle_rk, (absF_rk x).1, (absF_rk x).2, rk_one, rk_fin hf] at h1
    simp only [Bool.and_eq_true, decide_eq_true_eq] at h1
    have hb := h1.2
    generalize (fv x * 2 ^ 6).tdiv (2 ^ 1074) = q at h2
    have e : q * 2 ^ 1074 = (q * 2 ^ 1068) * 2 ^ 6 := by rw [Int.mul_assoc, ← Int.pow_add]
    rw [e] at h2
    have h3 : fv x = q * 2 ^ 1068 := (Int.mul_eq_mul_right_iff (by decide)).1 h2.symm
    rw [h3, Int.natAbs_mul, Int.natAbs_pow] at hb
    have hb' : q.natAbs * 2 ^ 1068 ≤ 64 * 2 ^ 1068 := by
      have e1 : (2 : Int) ^ 1074 = ((64 * 2 ^ 1068 : Nat) : Int) := by
        rw [Int.natCast_mul, Int.natCast_pow]
        have : (64 : Int) = 2 ^ 6 := by decide
        show (2 : Int) ^ 1074 = 64 * 2 ^ 1068
        rw [this, ← Int.pow_add]
      rw [e1] at hb
      exact Int.ofNat_le.1 hb
    exact Nat.le_of_mul_le_mul_right hb' (Nat.pow_pos (by decide))
theorem six_abs {m : Int} {x : Nat} (h : six m x) : six m.natAbs (absF x) ∧ six m.natAbs (szF x) := by
  have p : (0 : Int) < 2 ^ 1068 := Int.pow_pos (by decide)
  have hn : isNaN x = false := fin_num h.1
  have hr : rk x = m * 2 ^ 1068 := by rw [rk_fin h.1, h.2]
  have ha : ((m * 2 ^ 1068).natAbs : Int) = (m.natAbs : Int) * 2 ^ 1068 := by
    rw [Int.natAbs_mul, Int.natCast_mul]
    congr 1
  have key : ∀ y, isNaN y = false → rk y = ((rk x).natAbs : Int) → six m.natAbs y := fun y h1 h2 => by
    have hs := rk_small h.1
    have hf : fin y := fin_of_rk h1 (by rw [h2]; exact hs)
    exact ⟨hf, by rw [← rk_fin hf, h2, hr, ha]⟩
  exact ⟨key _ (by rw [(absF_rk x).1, hn]) (absF_rk x).2, key _ (by rw [(szF_rk x).1, hn]) (szF_rk x).2⟩
theorem six_add {m n : Int} {x y : Nat} (hx : six m x) (hy : six n y) (h : (m + n).natAbs < 2 ^ 53) : six (m + n) (fadd x y) := by
  have e : fv x + fv y = (m + n) * 2 ^ 1068 := by rw [hx.2, hy.2, Int.add_mul]
  obtain ⟨h1, h2⟩ := fadd_exact hx.1 hy.1 (by rw [e]; exact fits_grid h (by decide))
  exact ⟨h1, by rw [h2, e]⟩
theorem six_zero : six 0 0 := by
  have h := fofInt_exact (n := 0) (by decide)
  have e : fofInt 0 = 0 := by kernel_rfl
  rw [e] at h
  exact ⟨h.1, by rw [h.2]; simp⟩
theorem six_gt {m : Int} {x y c : Nat} (hx : six m x) (hy : six m y) (hc : fin c) : fgt x c = fgt y c := by
  rw [fgt_fin hx.1 hc, fgt_fin hy.1 hc, hx.2, hy.2]
def sP (ts : List Nat) : Nat → Nat
  | 0 => 0
  | i + 1 => fadd (sP ts i) (absF (ts.getD i 0))
def sD (ts : List Nat) : Nat → Nat
  | 0 => 0
  | i + 1 => fadd (sD ts i) (szF (ts.getD i 0))
theorem sums {ts : List Nat} (hl : ts.length ≤ 64) : ∀ i, i ≤ ts.length → (∀ j, j < i → plainF (ts.getD j 0) one = true) → ∃ S : Int, 0 ≤ S ∧ S ≤ 64 * i ∧ six S (sP ts i) ∧ six S (sD ts i)
  | 0, _, _ => ⟨0, by omega, by omega, six_zero, six_zero⟩
  | i + 1, hi, h => by
    obtain ⟨S, s1, s2, s3, s4⟩ := sums hl i (by omega) fun j hj => h j (by omega)
    obtain ⟨m, hm, hb⟩ := plain_six (h i (by omega))
    obtain ⟨a1, a2⟩ := six_abs hm
    exact ⟨S + m.natAbs, by omega, by omega, six_add s3 a1 (by omega), six_add s4 a2 (by omega)⟩
def celF (x : Nat) : List AV := [.flt x]
/-- may this tap stand at this place? -/
def okC (rate fore : Int) (i x : Nat) : Bool := plainF x one && !(((i : Int) != fore) && (((i : Int) - fore).tmod rate == 0) && !feq x 0)
def okD (rate fore : Int) (i x : Nat) : Bool := okC rate fore i x && !(((i : Int) == fore) && !feq x one)
section
variable {L n : Nat} {rate fore : Int}
theorem ck_eq {r : Int} {els : List (List AV)} {s i x : Nat} {π : List Nat} (hi : i < els.length) (hr : r = ((i : Int) - fore).tmod rate) :
    ck L n rate fore r els s i x π = bif okC rate fore i x then .go .nrm ⟨[(1, .ptr ⟨0,1,0⟩ [0] 0 0), (3, .flt (fadd s (absF x))), (41, .lst 1 els), (42, .int .i64 els.length), (43, .int .i64 (IntKind.wrap .i64 ((i : Int) + 1)))], ckH rate fore els, 0⟩ else .out (.int .i64 8) := by
  unfold ck okC
  rw [if_pos (dLt hi), ← hr]
  cases plainF x one with
  | false => rfl
  | true =>
    cases ((i : Int) != fore) with
    | false => rfl
    | true =>
      cases (r == 0) with
      | false => rfl
      | true => cases feq x 0 <;> rfl
theorem cd_eq {r : Int} {els : List (List AV)} {s i x : Nat} {π : List Nat} (hi : i < els.length) (hw : IntKind.wrap .i64 ((i : Int) - fore) = (i : Int) - fore) (hr : r = ((i : Int) - fore).tmod rate) :
    cd L n rate fore r els s i x π = bif okD rate fore i x then .go .nrm ⟨[(1, .ptr ⟨0,1,0⟩ [0] 0 0), (3, .flt (fadd s (szF x))), (4, .int .i64 (IntKind.wrap .i64 ((i : Int) + 1)))], ckH rate fore els, 0⟩ else .out (.int .i64 8) := by
  have e1 : (((i : Int) - fore) == 0) = ((i : Int) == fore) := by
    by_cases h : (i : Int) = fore
    · have : (i : Int) - fore = 0 := by omega
      rw [this, beq_iff_eq.2 h]; rfl
    · rw [beq_eq_false_iff_ne.2 h, beq_eq_false_iff_ne.2 (by omega)]
  have e2 : (((i : Int) - fore) != 0) = ((i : Int) != fore) := by unfold bne; rw [e1]
  unfold cd okD okC
  rw [if_pos (dLt hi), ← hr]
  simp only [hw, e1, e2]
  have e3 : ((i : Int) != fore) = !((i : Int) == fore) := rfl
  rw [e3]
  cases plainF x one with
  | false => rfl
  | true =>
    cases ((i : Int) == fore) with
    | true => cases feq x one <;> rfl
    | false =>
      cases (r == 0) with
      | false => rfl
      | true => cases feq x 0 <;> rfl
theorem any63 {i : Nat} {f : Nat} {H : Heap} {τ : List Nat} {C : Caller} (hr : ¬ rate = 0) (hi : i < 100) (hf : f < 100) :
    Con.holds ⟨fnOf, specP, L⟩ C (.any 0 τ (MO.mk (some 63) (.bin .rem .plain (.t 60) (.t 62)) (some (56, true)) []) [(60, .int .i64 (IntKind.wrap .i64 ((i : Int) - f))), (62, .int .i64 rate)] H (.int .i64 (((i : Int) - f).tmod rate)) H) := by
  rw [wrap_id (by omega)]
  simp [Con.holds, stepOp, opSem, Opd.ev, Env.get, binSem, intBin, hr]
theorem any68 {i : Nat} {f : Nat} {H : Heap} {τ : List Nat} {C : Caller} (hr : ¬ rate = 0) (hi : i < 100) (hf : f < 100) :
    Con.holds ⟨fnOf, specP, L⟩ C (.any 0 τ (MO.mk (some 68) (.bin .rem .plain (.t 65) (.t 67)) (some (64, true)) []) [(65, .int .i64 (IntKind.wrap .i64 ((i : Int) - f))), (67, .int .i64 rate)] H (.int .i64 (((i : Int) - f).tmod rate)) H) := by
  rw [wrap_id (by omega)]
  simp [Con.holds, stepOp, opSem, Opd.ev, Env.get, binSem, intBin, hr]
theorem celF_at {ts : List Nat} {i : Nat} (h : i < ts.length) : (ts.map celF)[i]? = some [.flt (ts.getD i 0)] := by
  rw [map_at (f := celF) h, List.getD_eq_getElem?_getD, List.getElem?_eq_getElem h]; rfl
theorem ck_see {ts : List Nat} {f i s : Nat} {π : List Nat} (hr : ¬ rate = 0) (hl : ts.length ≤ 64) (hf : f < ts.length) (hi : i < ts.length) :
    seeZ 0 [1, 3, 41, 42, 43] m40.res (bodyOf ⟨fnOf, specP, L⟩ (runF ⟨fnOf, specP, L⟩ n) 0 m40b0 (i :: π) (ckSt rate f (ts.map celF) s i)) =
      some (bif okC rate f i (ts.getD i 0) then .go .nrm (ckSt rate f (ts.map celF) (fadd s (absF (ts.getD i 0))) (i + 1)) else .out (.int .i64 8)) := by
  have hi' : i < (ts.map celF).length := by rw [List.length_map]; exact hi
  have := @ck_ok L n rate f (((i : Int) - f).tmod rate) (ts.map celF) s i (ts.getD i 0) π (fun _ => el_at (celF_at hi)) (fun _ _ _ => any63 hr (by omega) (by omega))
  rw [ck_eq hi' rfl, wrapUp hi (by omega)] at this
  exact this
theorem cd_see {ts : List Nat} {f i s : Nat} {π : List Nat} (hr : ¬ rate = 0) (hl : ts.length ≤ 64) (hf : f < ts.length) (hi : i < ts.length) :
    seeZ 0 [1, 3, 4] m41.res (bodyOf ⟨fnOf, specP, L⟩ (runF ⟨fnOf, specP, L⟩ n) 0 m41b0 (i :: π) (cdSt rate f (ts.map celF) s i)) =
      some (bif okD rate f i (ts.getD i 0) then .go .nrm (cdSt rate f (ts.map celF) (fadd s (szF (ts.getD i 0))) (i + 1)) else .out (.int .i64 8)) := by
  have hi' : i < (ts.map celF).length := by rw [List.length_map]; exact hi
  have := @cd_ok L n rate f (((i : Int) - f).tmod rate) (ts.map celF) s i (ts.getD i 0) π (fun _ => el_at (celF_at hi)) (fun _ _ => any68 hr (by omega) (by omega))
  rw [cd_eq hi' (wrap_id (by omega)) rfl, wrapUp hi (by omega)] at this
  exact this
/-- what Check answers -/
def Chk (rate fore : Int) (k : Nat) (c : Int) : Prop := c = 0 → 1 ≤ rate ∧ rate ≤ 8 ∧ 0 ≤ fore ∧ fore < k ∧ k ≤ 64
theorem firstI (p : Nat → Bool) (m : Nat) : (∀ i, i < m → p i = true) ∨ ∃ k, k < m ∧ (∀ i, i < k → p i = true) ∧ p k = false := by
  rcases firstBad p (List.range m) with h | ⟨k, hk, h1, h2⟩
  · exact .inl fun i hi => List.all_eq_true.1 h i (List.mem_range.2 hi)
  · refine .inr ⟨k, by simpa using hk, fun i hi => ?_, by simpa using h2⟩
    have := h1 i hi
    simpa using this
theorem check_both {ts : List Nat} (hL : 64 ≤ L) : ∃ c : Int, Chk rate fore ts.length c ∧
    den ⟨fnOf, specP, L+1⟩ (n+1) 40 [.agg [.int .i64 rate, .int .i64 fore, .lst 1 (ts.map celF)]] = some (.int .i64 c) ∧
    den ⟨fnOf, specP, L+1⟩ (n+1) 41 [.agg [.int .i64 rate, .int .i64 fore, .lst 1 (ts.map celF)]] = some (.int .i64 c) := by
  have hlen : (ts.map celF).length = ts.length := List.length_map ..
  have no : ∀ c : Int, c ≠ 0 → Chk rate fore ts.length c := fun c h h0 => absurd h0 h
  by_cases c1 : rate < 1
  · exact ⟨1, no 1 (by decide), ckn_0 (u := 0) (y := 0) (s := ⟨[], [], 0⟩) (dT c1), cdn_0 (u := 0) (y := 0) (s := ⟨[], [], 0⟩) (dT c1)⟩
  by_cases c2 : rate > 8
  · exact ⟨1, no 1 (by decide), ckn_1 (u := 0) (y := 0) (s := ⟨[], [], 0⟩) (dF c1) (dT c2), cdn_1 (u := 0) (y := 0) (s := ⟨[], [], 0⟩) (dF c1) (dT c2)⟩
  by_cases c3 : fore < 0
  · exact ⟨1, no 1 (by decide), ckn_2 (u := 0) (y := 0) (s := ⟨[], [], 0⟩) (dF c1) (dF c2) (dT c3), cdn_2 (u := 0) (y := 0) (s := ⟨[], [], 0⟩) (dF c1) (dF c2) (dT c3)⟩
  by_cases c4 : fore ≥ (ts.length : Int)
  · have b4 : decide (fore ≥ ((ts.map celF).length : Int)) = true := dT (by rw [hlen]; exact c4)
    exact ⟨1, no 1 (by decide), ckn_3 (u := 0) (y := 0) (s := ⟨[], [], 0⟩) (dF c1) (dF c2) (dF c3) b4, cdn_3 (u := 0) (y := 0) (s := ⟨[], [], 0⟩) (dF c1) (dF c2) (dF c3) b4⟩
  have b4 : decide (fore ≥ ((ts.map celF).length : Int)) = false := dF (by rw [hlen]; exact c4)
  by_cases c5 : ts.length > 64
  · have b5 : decide (((ts.map celF).length : Int) > 64) = true := dT (by rw [hlen]; omega)
    exact ⟨8, no 8 (by decide), ckn_4 (u := 0) (y := 0) (s := ⟨[], [], 0⟩) (dF c1) (dF c2) (dF c3) b4 b5, cdn_4 (u := 0) (y := 0) (s := ⟨[], [], 0⟩) (dF c1) (dF c2) (dF c3) b4 b5⟩
  have b5 : decide (((ts.map celF).length : Int) > 64) = false := dF (by rw [hlen]; omega)
  obtain ⟨f, rfl⟩ : ∃ f : Nat, fore = f := ⟨fore.toNat, by omega⟩
  have hf : f < ts.length := by omega
  have hr : ¬ rate = 0 := by omega
  have hE := el_at (P := ⟨fnOf, specP, L+1⟩) (C := runF ⟨fnOf, specP, L+1⟩ n) (celF_at hf)
  have fin4 : fin 4616189618054758400 := by
    have h := fofInt_exact (n := 4) (by decide)
    have e : fofInt 4 = 4616189618054758400 := by kernel_rfl
    rw [e] at h; exact h.1
  -- the document's loop
  have dloop : ∀ k, k ≤ ts.length → (∀ i, i < k → okD rate f i (ts.getD i 0) = true) → ∀ i, i < k →
      seeZ 0 [1, 3, 4] m41.res (bodyOf ⟨fnOf, specP, L+1⟩ (runF ⟨fnOf, specP, L+1⟩ n) 0 m41b0 (i :: [29]) (cdSt rate f (ts.map celF) (sD ts i) i)) = some (.go .nrm (cdSt rate f (ts.map celF) (sD ts (i + 1)) (i + 1))) := fun k hk h i hi => by
    rw [cd_see hr (by omega) hf (by omega), h i hi]; rfl
  have dbad : ∀ k, k < ts.length → (∀ i, i < k → okD rate f i (ts.getD i 0) = true) → okD rate f k (ts.getD k 0) = false →
      den ⟨fnOf, specP, L+1⟩ (n+1) 41 [.agg [.int .i64 rate, .int .i64 f, .lst 1 (ts.map celF)]] = some (.int .i64 8) := fun k hk h h2 => by
    obtain ⟨s1, hd, ho⟩ := loopZ (P := ⟨fnOf, specP, L+1⟩) (C := runF ⟨fnOf, specP, L+1⟩ n) (π := [29]) (fun i => cdSt rate f (ts.map celF) (sD ts i) i) k rfl (by omega) (dloop k (by omega) h)
      (by rw [cd_see hr (by omega) hf hk, h2]; rfl)
    exact cdt_5 (u := 0) (y := 0) (dF c1) (dF c2) (dF c3) b4 b5 hd ho
  cases hy : feq (ts.getD f 0) one with
  | false =>
    refine ⟨8, no 8 (by decide), ckn_5 (u := 0) (s := ⟨[], [], 0⟩) (dF c1) (dF c2) (dF c3) b4 b5 hE (by rw [hy]; rfl), ?_⟩
    rcases firstI (fun i => okD rate f i (ts.getD i 0)) ts.length with h | ⟨k, hk, h1, h2⟩
    · have := h f hf
      unfold okD at this
      rw [hy] at this
      simp at this
    · exact dbad k hk h1 h2
  | true =>
    have same : ∀ i, okD rate f i (ts.getD i 0) = okC rate f i (ts.getD i 0) := fun i => by
      unfold okD
      by_cases h : i = f
      · subst h; rw [hy]; simp
      · have : ((i : Int) == (f : Int)) = false := by rw [beq_eq_false_iff_ne]; omega
        rw [this]; simp
    have cloop : ∀ k, k ≤ ts.length → (∀ i, i < k → okC rate f i (ts.getD i 0) = true) → ∀ i, i < k →
        seeZ 0 [1, 3, 41, 42, 43] m40.res (bodyOf ⟨fnOf, specP, L+1⟩ (runF ⟨fnOf, specP, L+1⟩ n) 0 m40b0 (i :: [41]) (ckSt rate f (ts.map celF) (sP ts i) i)) = some (.go .nrm (ckSt rate f (ts.map celF) (sP ts (i + 1)) (i + 1))) := fun k hk h i hi => by
      rw [ck_see hr (by omega) hf (by omega), h i hi]; rfl
    rcases firstI (fun i => okC rate f i (ts.getD i 0)) ts.length with h | ⟨k, hk, h1, h2⟩
    · have hpl : ∀ j, j < ts.length → plainF (ts.getD j 0) one = true := fun j hj => by
        have := h j hj
        unfold okC at this
        simp only [Bool.and_eq_true] at this
        exact this.1
      obtain ⟨S, _, _, g1, g2⟩ := sums (by omega) ts.length (Nat.le_refl _) hpl
      have hg := six_gt (c := 4616189618054758400) g1 g2 fin4
      have lc : Con.holds ⟨fnOf, specP, L+1⟩ (runF ⟨fnOf, specP, L+1⟩ n) (.loop 0 [1, 3, 41, 42, 43] m40b0 [41] (ckSt rate f (ts.map celF) 0 0) (.exit 0) (ckEx rate f (ts.map celF) (sP ts ts.length))) := by
        refine loopX (fun i => ckSt rate f (ts.map celF) (sP ts i) i) ts.length rfl (by omega) (cloop _ (Nat.le_refl _) h) ?_ (by simp)
        have := @ck_5 (L+1) n rate f 0 (ts.map celF) (sP ts ts.length) ts.length 0 [41] (dF (by rw [hlen]; omega))
        rw [this]
        unfold ckEx ckSt
        rw [hlen]
        rfl
      have ld : Con.holds ⟨fnOf, specP, L+1⟩ (runF ⟨fnOf, specP, L+1⟩ n) (.loop 0 [1, 3, 4] m41b0 [29] (cdSt rate f (ts.map celF) 0 0) (.exit 0) (cdEx rate f (ts.map celF) (sD ts ts.length))) := by
        refine loopX (fun i => cdSt rate f (ts.map celF) (sD ts i) i) ts.length rfl (by omega) (dloop _ (Nat.le_refl _) (fun i hi => by rw [same]; exact h i hi)) ?_ (by simp)
        have := @cd_10 (L+1) n rate f 0 (ts.map celF) (sD ts ts.length) ts.length 0 [29] (dF (by rw [hlen]; omega))
        rw [this]
        unfold cdEx cdSt
        rw [hlen]
        rfl
      cases hq : fgt (sP ts ts.length) 4616189618054758400 with
      | true => exact ⟨8, no 8 (by decide), ckn_6 (s := ⟨[], [], 0⟩) (dF c1) (dF c2) (dF c3) b4 b5 hE (by rw [hy]; rfl) lc hq, cdn_5 (y := 0) (s := ⟨[], [], 0⟩) (dF c1) (dF c2) (dF c3) b4 b5 ld (by rw [← hg]; exact hq)⟩
      | false => exact ⟨0, fun _ => by omega, ckn_7 (s := ⟨[], [], 0⟩) (dF c1) (dF c2) (dF c3) b4 b5 hE (by rw [hy]; rfl) lc hq, cdn_6 (y := 0) (s := ⟨[], [], 0⟩) (dF c1) (dF c2) (dF c3) b4 b5 ld (by rw [← hg]; exact hq)⟩
    · obtain ⟨s1, hd, ho⟩ := loopZ (P := ⟨fnOf, specP, L+1⟩) (C := runF ⟨fnOf, specP, L+1⟩ n) (π := [41]) (fun i => ckSt rate f (ts.map celF) (sP ts i) i) k rfl (by omega) (cloop k (by omega) h1)
        (by rw [ck_see hr (by omega) hf hk, h2]; rfl)
      exact ⟨8, no 8 (by decide), ckt_6 (u := 0) (dF c1) (dF c2) (dF c3) b4 b5 hE (by rw [hy]; rfl) hd ho, dbad k hk (fun i hi => by rw [same]; exact h1 i hi) (by rw [same]; exact h2)⟩
theorem check_nil : ∃ c : Int, c ≠ 0 ∧ den ⟨fnOf, specP, L⟩ (n+1) 40 [.agg [.int .i64 rate, .int .i64 fore, .nils]] = some (.int .i64 c) ∧
    den ⟨fnOf, specP, L⟩ (n+1) 41 [.agg [.int .i64 rate, .int .i64 fore, .nils]] = some (.int .i64 c) := by
  by_cases c1 : rate < 1
  · exact ⟨1, by decide, ckx_0 (dT c1), cdx_0 (dT c1)⟩
  by_cases c2 : rate > 8
  · exact ⟨1, by decide, ckx_1 (dF c1) (dT c2), cdx_1 (dF c1) (dT c2)⟩
  by_cases c3 : fore < 0
  · exact ⟨1, by decide, ckx_2 (dF c1) (dF c2) (dT c3), cdx_2 (dF c1) (dF c2) (dT c3)⟩
  · exact ⟨1, by decide, ckx_3 (dF c1) (dF c2) (dF c3) (dT (by omega)), cdx_3 (dF c1) (dF c2) (dF c3) (dT (by omega))⟩
end
end Go.Proofs.Ytnccnmeecngopaa.Fw
