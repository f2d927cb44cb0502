/- HuntShifts: the document's Shift, whole: what it answers for any places. -/
import Derived.Test.YtnccnmeecngopaaLwShN
set_option maxRecDepth 100000
set_option maxHeartbeats 4000000
set_option linter.unusedSimpArgs false
set_option linter.unusedVariables false
namespace Go.Proofs.Ytnccnmeecngopaa.Fw
open Go Go.RowKit
theorem first_bad {α : Type} (p : α → Bool) : ∀ zs : List α, zs.all p = true ∨ ∃ k, ∃ h : k < zs.length, (∀ i (hi : i < k), p (zs[i]'(Nat.lt_trans hi h)) = true) ∧ p zs[k] = false
  | [] => .inl rfl
  | a :: r => by
    cases ha : p a with
    | false => exact .inr ⟨0, by simp, fun i hi => absurd hi (by omega), ha⟩
    | true =>
      rcases first_bad p r with h | ⟨k, hk, h1, h2⟩
      · left; simp [List.all_cons, ha]; simpa using h
      · right
        refine ⟨k + 1, by simp; omega, fun i hi => ?_, by simpa using h2⟩
        cases i with
        | zero => simpa using ha
        | succ i => simpa using h1 i (by omega)
theorem late_split {x y : Int} : (lateOk x y = true → decide (x < 0) = false ∧ decide (x > 65536) = false ∧ decide (y < -65536) = false ∧ decide (y > 65536) = false ∧ decide (WR x y < 0) = false ∧ decide (WR x y > 65536) = false) := by
  unfold lateOk
  simp only [Bool.and_eq_true, decide_eq_true_eq, decide_eq_false_iff_not]
  omega
theorem dryEls_cells : ∀ xs : List Int, dryEls (cellsI xs) = true
  | [] => rfl
  | x :: r => by show dryEls ([.int .i64 x] :: cellsI r) = true; simp [dryEls, dryL, AV.dry, dryEls_cells r]
theorem lens_cells : ∀ xs : List Int, lens 1 (cellsI xs) = true
  | [] => rfl
  | x :: r => by show lens 1 ([.int .i64 x] :: cellsI r) = true; simp [lens, allCell, lens_cells r]; rfl
section
variable {L n : Nat} {xs zs : List Int} {mk a b ln y : Int}

def rfAE (mk a b ln y : Int) (xs zs : List Int) (i : Nat) : St := ⟨[(1, .int .i64 y), (2, .ptr ⟨0,2,0⟩ [0] 0 0), (4, .ptr ⟨0,4,0⟩ [1] 0 0), (6, rfE6 zs.length), (7, .int .i64 i)], rfHE mk a b ln (cellsI xs) (cellsI zs), 0⟩
theorem rfE_up {π : List Nat} {i : Nat} (hm : zs.length ≤ 17592186044420) (hi : i < zs.length) (hok : lateOk zs[i] y = true) :
    rnd 0 [1, 2, 4, 6, 7] (bodyOf ⟨fnOf, specAbs, L⟩ (runF ⟨fnOf, specAbs, L⟩ n) 0 m13b1 (i :: π) (rfAE mk a b ln y xs zs i)) = some (.nrm, rfAE mk a b ln y xs zs (i + 1)) := by
  obtain ⟨h1, h2, h3, h4, h5, h6⟩ := late_split hok
  have ha : Con.holds ⟨fnOf, specAbs, L⟩ (runF ⟨fnOf, specAbs, L⟩ n) (.at (cellsI zs) (0 + i) [.int .i64 zs[i]]) := by rw [Nat.zero_add]; exact cellsI_at hi
  have := @rfE_6 L n mk a b ln zs[i] y (cellsI xs) (cellsI zs) zs.length i π (dlt hi) (ix_at hi) ha h1 h2 h3 h4 h5 h6
  rw [wrap_up hi (by omega)] at this
  exact this
theorem rfE_stop {π : List Nat} {i : Nat} (hi : i < zs.length) (hok : lateOk zs[i] y = false) : ∃ w69 w68 w67 w66 w65 w64 w63 w62 w61 w60 w59 w58 w57 w56 w55 w54 w53 w52 w51 w50 w49 w48 w47 w46 w45 w44 w43 w42 w41 w40 w39 w38 w37 w36 w35 w34 w33 w32 w31 w28 w27 w26 w25 w1 w2 w6 w7,
    rnd 0 [1, 2, 4, 6, 7] (bodyOf ⟨fnOf, specAbs, L⟩ (runF ⟨fnOf, specAbs, L⟩ n) 0 m13b1 (i :: π) (rfAE mk a b ln y xs zs i)) = some (.ret, rfE_st L n mk a b ln zs[i] y (cellsI xs) (cellsI zs) zs.length i π w69 w68 w67 w66 w65 w64 w63 w62 w61 w60 w59 w58 w57 w56 w55 w54 w53 w52 w51 w50 w49 w48 w47 w46 w45 w44 w43 w42 w41 w40 w39 w38 w37 w36 w35 w34 w33 w32 w31 w28 w27 w26 w25 w1 w2 w6 w7) := by
  have ha : Con.holds ⟨fnOf, specAbs, L⟩ (runF ⟨fnOf, specAbs, L⟩ n) (.at (cellsI zs) (0 + i) [.int .i64 zs[i]]) := by rw [Nat.zero_add]; exact cellsI_at hi
  have hx := ix_at (P := ⟨fnOf, specAbs, L⟩) (C := runF ⟨fnOf, specAbs, L⟩ n) hi
  cases h1 : decide (zs[i] < 0) with
  | true => exact rfE_0_x (dlt hi) hx ha h1
  | false =>
  cases h2 : decide (zs[i] > 65536) with
  | true => exact rfE_1_x (dlt hi) hx ha h1 h2
  | false =>
  cases h3 : decide (y < -65536) with
  | true => exact rfE_2_x (dlt hi) hx ha h1 h2 h3
  | false =>
  cases h4 : decide (y > 65536) with
  | true => exact rfE_3_x (dlt hi) hx ha h1 h2 h3 h4
  | false =>
  cases h5 : decide (IntKind.wrap .i64 (zs[i] + y) < 0) with
  | true => exact rfE_4_x (dlt hi) hx ha h1 h2 h3 h4 h5
  | false =>
  cases h6 : decide (IntKind.wrap .i64 (zs[i] + y) > 65536) with
  | true => exact rfE_5_x (dlt hi) hx ha h1 h2 h3 h4 h5 h6
  | false =>
    exfalso
    unfold lateOk at hok
    simp only [decide_eq_false_iff_not, Bool.and_eq_false_iff, WR] at *
    omega
theorem rfE_done {π : List Nat} :
    rnd 0 [1, 2, 4, 6, 7] (bodyOf ⟨fnOf, specAbs, L⟩ (runF ⟨fnOf, specAbs, L⟩ n) 0 m13b1 (zs.length :: π) (rfAE mk a b ln y xs zs zs.length)) = some (.exit 0, rfE_ex mk a b ln y (cellsI xs) (cellsI zs) zs.length) :=
  @rfE_7 L n mk a b ln 0 y (cellsI xs) (cellsI zs) zs.length zs.length π dnlt
theorem rfE_all {π : List Nat} (hm : zs.length ≤ 17592186044420) (hL : zs.length ≤ L) (hz : (zs.all fun x => lateOk x y) = true) :
    Con.holds ⟨fnOf, specAbs, L+1⟩ (runF ⟨fnOf, specAbs, L+1⟩ n) (.loop 0 [1, 2, 4, 6, 7] m13b1 π (rfAE mk a b ln y xs zs 0) (.exit 0) (rfE_ex mk a b ln y (cellsI xs) (cellsI zs) zs.length)) :=
  loop0 (rfAE mk a b ln y xs zs) zs.length rfl hL (fun i hi => rfE_up hm hi (List.all_eq_true.1 hz _ (List.getElem_mem hi))) rfE_done (by simp)
theorem rfE_one {π : List Nat} (hm : zs.length ≤ 17592186044420) (hL : zs.length ≤ L) {k : Nat} (hk : k < zs.length) (h1 : ∀ i (hi : i < k), lateOk (zs[i]'(Nat.lt_trans hi hk)) y = true) (h2 : lateOk zs[k] y = false) : ∃ w69 w68 w67 w66 w65 w64 w63 w62 w61 w60 w59 w58 w57 w56 w55 w54 w53 w52 w51 w50 w49 w48 w47 w46 w45 w44 w43 w42 w41 w40 w39 w38 w37 w36 w35 w34 w33 w32 w31 w28 w27 w26 w25 w1 w2 w6 w7,
    Con.holds ⟨fnOf, specAbs, L+1⟩ (runF ⟨fnOf, specAbs, L+1⟩ n) (.loop 0 [1, 2, 4, 6, 7] m13b1 π (rfAE mk a b ln y xs zs 0) .ret (rfE_st (L+1) n mk a b ln zs[k] y (cellsI xs) (cellsI zs) zs.length k π w69 w68 w67 w66 w65 w64 w63 w62 w61 w60 w59 w58 w57 w56 w55 w54 w53 w52 w51 w50 w49 w48 w47 w46 w45 w44 w43 w42 w41 w40 w39 w38 w37 w36 w35 w34 w33 w32 w31 w28 w27 w26 w25 w1 w2 w6 w7)) := by
  obtain ⟨w69, w68, w67, w66, w65, w64, w63, w62, w61, w60, w59, w58, w57, w56, w55, w54, w53, w52, w51, w50, w49, w48, w47, w46, w45, w44, w43, w42, w41, w40, w39, w38, w37, w36, w35, w34, w33, w32, w31, w28, w27, w26, w25, w1, w2, w6, w7, h⟩ := @rfE_stop (L+1) n xs zs mk a b ln y π k hk h2
  exact ⟨w69, w68, w67, w66, w65, w64, w63, w62, w61, w60, w59, w58, w57, w56, w55, w54, w53, w52, w51, w50, w49, w48, w47, w46, w45, w44, w43, w42, w41, w40, w39, w38, w37, w36, w35, w34, w33, w32, w31, w28, w27, w26, w25, w1, w2, w6, w7, loop0 (rfAE mk a b ln y xs zs) k rfl (by omega) (fun i hi => rfE_up hm (Nat.lt_trans hi hk) (h1 i hi)) h (by simp)⟩

def rfAN (mk a b ln y : Int) (xs zs : List Int) (i : Nat) : St := ⟨[(1, .int .i64 y), (2, .ptr ⟨0,2,0⟩ [0] 0 0), (4, .ptr ⟨0,4,0⟩ [1] 0 0), (6, rfN6 zs.length), (7, .int .i64 i)], rfHN mk a b ln (cellsI xs) (cellsI zs), 0⟩
theorem rfN_up {π : List Nat} {i : Nat} (hm : zs.length ≤ 17592186044420) (hi : i < zs.length) (hok : lateOk zs[i] y = true) :
    rnd 0 [1, 2, 4, 6, 7] (bodyOf ⟨fnOf, specAbs, L⟩ (runF ⟨fnOf, specAbs, L⟩ n) 0 m13b1 (i :: π) (rfAN mk a b ln y xs zs i)) = some (.nrm, rfAN mk a b ln y xs zs (i + 1)) := by
  obtain ⟨h1, h2, h3, h4, h5, h6⟩ := late_split hok
  have ha : Con.holds ⟨fnOf, specAbs, L⟩ (runF ⟨fnOf, specAbs, L⟩ n) (.at (cellsI zs) (0 + i) [.int .i64 zs[i]]) := by rw [Nat.zero_add]; exact cellsI_at hi
  have := @rfN_6 L n mk a b ln zs[i] y (cellsI xs) (cellsI zs) zs.length i π (dlt hi) (ix_at hi) ha h1 h2 h3 h4 h5 h6
  rw [wrap_up hi (by omega)] at this
  exact this
theorem rfN_stop {π : List Nat} {i : Nat} (hi : i < zs.length) (hok : lateOk zs[i] y = false) : ∃ w69 w68 w67 w66 w65 w64 w63 w62 w61 w60 w59 w58 w57 w56 w55 w54 w53 w52 w51 w50 w49 w48 w47 w46 w45 w44 w43 w42 w41 w40 w39 w38 w37 w36 w35 w34 w33 w32 w31 w28 w27 w26 w25 w1 w2 w6 w7,
    rnd 0 [1, 2, 4, 6, 7] (bodyOf ⟨fnOf, specAbs, L⟩ (runF ⟨fnOf, specAbs, L⟩ n) 0 m13b1 (i :: π) (rfAN mk a b ln y xs zs i)) = some (.ret, rfN_st L n mk a b ln zs[i] y (cellsI xs) (cellsI zs) zs.length i π w69 w68 w67 w66 w65 w64 w63 w62 w61 w60 w59 w58 w57 w56 w55 w54 w53 w52 w51 w50 w49 w48 w47 w46 w45 w44 w43 w42 w41 w40 w39 w38 w37 w36 w35 w34 w33 w32 w31 w28 w27 w26 w25 w1 w2 w6 w7) := by
  have ha : Con.holds ⟨fnOf, specAbs, L⟩ (runF ⟨fnOf, specAbs, L⟩ n) (.at (cellsI zs) (0 + i) [.int .i64 zs[i]]) := by rw [Nat.zero_add]; exact cellsI_at hi
  have hx := ix_at (P := ⟨fnOf, specAbs, L⟩) (C := runF ⟨fnOf, specAbs, L⟩ n) hi
  cases h1 : decide (zs[i] < 0) with
  | true => exact rfN_0_x (dlt hi) hx ha h1
  | false =>
  cases h2 : decide (zs[i] > 65536) with
  | true => exact rfN_1_x (dlt hi) hx ha h1 h2
  | false =>
  cases h3 : decide (y < -65536) with
  | true => exact rfN_2_x (dlt hi) hx ha h1 h2 h3
  | false =>
  cases h4 : decide (y > 65536) with
  | true => exact rfN_3_x (dlt hi) hx ha h1 h2 h3 h4
  | false =>
  cases h5 : decide (IntKind.wrap .i64 (zs[i] + y) < 0) with
  | true => exact rfN_4_x (dlt hi) hx ha h1 h2 h3 h4 h5
  | false =>
  cases h6 : decide (IntKind.wrap .i64 (zs[i] + y) > 65536) with
  | true => exact rfN_5_x (dlt hi) hx ha h1 h2 h3 h4 h5 h6
  | false =>
    exfalso
    unfold lateOk at hok
    simp only [decide_eq_false_iff_not, Bool.and_eq_false_iff, WR] at *
    omega
theorem rfN_done {π : List Nat} :
    rnd 0 [1, 2, 4, 6, 7] (bodyOf ⟨fnOf, specAbs, L⟩ (runF ⟨fnOf, specAbs, L⟩ n) 0 m13b1 (zs.length :: π) (rfAN mk a b ln y xs zs zs.length)) = some (.exit 0, rfN_ex mk a b ln y (cellsI xs) (cellsI zs) zs.length) :=
  @rfN_7 L n mk a b ln 0 y (cellsI xs) (cellsI zs) zs.length zs.length π dnlt
theorem rfN_all {π : List Nat} (hm : zs.length ≤ 17592186044420) (hL : zs.length ≤ L) (hz : (zs.all fun x => lateOk x y) = true) :
    Con.holds ⟨fnOf, specAbs, L+1⟩ (runF ⟨fnOf, specAbs, L+1⟩ n) (.loop 0 [1, 2, 4, 6, 7] m13b1 π (rfAN mk a b ln y xs zs 0) (.exit 0) (rfN_ex mk a b ln y (cellsI xs) (cellsI zs) zs.length)) :=
  loop0 (rfAN mk a b ln y xs zs) zs.length rfl hL (fun i hi => rfN_up hm hi (List.all_eq_true.1 hz _ (List.getElem_mem hi))) rfN_done (by simp)
theorem rfN_one {π : List Nat} (hm : zs.length ≤ 17592186044420) (hL : zs.length ≤ L) {k : Nat} (hk : k < zs.length) (h1 : ∀ i (hi : i < k), lateOk (zs[i]'(Nat.lt_trans hi hk)) y = true) (h2 : lateOk zs[k] y = false) : ∃ w69 w68 w67 w66 w65 w64 w63 w62 w61 w60 w59 w58 w57 w56 w55 w54 w53 w52 w51 w50 w49 w48 w47 w46 w45 w44 w43 w42 w41 w40 w39 w38 w37 w36 w35 w34 w33 w32 w31 w28 w27 w26 w25 w1 w2 w6 w7,
    Con.holds ⟨fnOf, specAbs, L+1⟩ (runF ⟨fnOf, specAbs, L+1⟩ n) (.loop 0 [1, 2, 4, 6, 7] m13b1 π (rfAN mk a b ln y xs zs 0) .ret (rfN_st (L+1) n mk a b ln zs[k] y (cellsI xs) (cellsI zs) zs.length k π w69 w68 w67 w66 w65 w64 w63 w62 w61 w60 w59 w58 w57 w56 w55 w54 w53 w52 w51 w50 w49 w48 w47 w46 w45 w44 w43 w42 w41 w40 w39 w38 w37 w36 w35 w34 w33 w32 w31 w28 w27 w26 w25 w1 w2 w6 w7)) := by
  obtain ⟨w69, w68, w67, w66, w65, w64, w63, w62, w61, w60, w59, w58, w57, w56, w55, w54, w53, w52, w51, w50, w49, w48, w47, w46, w45, w44, w43, w42, w41, w40, w39, w38, w37, w36, w35, w34, w33, w32, w31, w28, w27, w26, w25, w1, w2, w6, w7, h⟩ := @rfN_stop (L+1) n xs zs mk a b ln y π k hk h2
  exact ⟨w69, w68, w67, w66, w65, w64, w63, w62, w61, w60, w59, w58, w57, w56, w55, w54, w53, w52, w51, w50, w49, w48, w47, w46, w45, w44, w43, w42, w41, w40, w39, w38, w37, w36, w35, w34, w33, w32, w31, w28, w27, w26, w25, w1, w2, w6, w7, loop0 (rfAN mk a b ln y xs zs) k rfl (by omega) (fun i hi => rfN_up hm (Nat.lt_trans hi hk) (h1 i hi)) h (by simp)⟩

theorem shGood_all : shGood xs mk a b ln y = ([mk, a, b, ln] ++ xs).all fun x => lateOk x y := by
  simp [shGood, shC, okTo, Bool.and_assoc]
def rsA (mk a b ln y : Int) (xs : List Int) (p q r s : Int) : Nat → St
  | 0 => rsSt0 mk a b ln y (cellsI xs) p q r s 0
  | i + 1 => rsSt1 mk a b ln y (cellsI xs) p q r s [15, i, 50] (i + 1) (outTo xs y (i + 1)) (i + 1)
theorem rsA_zero {p q r s : Int} : rsA mk a b ln y xs p q r s 0 = rsSt0 mk a b ln y (cellsI xs) p q r s 0 := rfl
theorem rsA_succ {p q r s : Int} {i : Nat} : rsA mk a b ln y xs p q r s (i + 1) = rsSt1 mk a b ln y (cellsI xs) p q r s [15, i, 50] (i + 1) (outTo xs y (i + 1)) (i + 1) := rfl
theorem rs_round {p q r s : Int} {i : Nat} (hm : xs.length ≤ 17592186044415) (hi : i < xs.length) :
    rnd 0 [1, 2, 4, 8, 9] (bodyOf ⟨fnOf, specAbs, L⟩ (runF ⟨fnOf, specAbs, L⟩ n) 0 m13b0 (i :: [50]) (rsA mk a b ln y xs p q r s i)) = some (.nrm, rsA mk a b ln y xs p q r s (i + 1)) := by
  have hw := wrap_up hi (by omega)
  have he := el_at (P := ⟨fnOf, specAbs, L⟩) (C := runF ⟨fnOf, specAbs, L⟩ n) (cellsI_at hi)
  have hlt : decide ((i : Int) < ((cellsI xs).length : Int)) = true := by rw [cellsI_len]; exact dlt hi
  cases i with
  | zero =>
    have := @rs0_0 L n mk a b ln xs[0] y p q r s (cellsI xs) 0 [50] hlt he
    rw [hw] at this
    have h2 : outTo xs y 1 = [[.int .i64 (WR xs[0] y)]] := by rw [outTo_up hi]; simp [outTo, cellsI]
    rw [rsA_zero, rsA_succ, h2]
    exact this
  | succ i =>
    have := @rs1_0 L n mk a b ln xs[i+1] y p q r s (cellsI xs) (outTo xs y (i + 1)) (i+1) (i+1) [15, i, 50] [50] hlt he ⟨(outTo_len (by omega)).symm, by simp only [most]; omega⟩
    rw [hw] at this
    have h2 := outTo_up (y := y) hi
    rw [rsA_succ, rsA_succ, h2]
    exact this
theorem rs_loop {p q r s : Int} (hm : xs.length ≤ 17592186044415) (hL : xs.length ≤ L) (h0 : 0 < xs.length) :
    Con.holds ⟨fnOf, specAbs, L+1⟩ (runF ⟨fnOf, specAbs, L+1⟩ n) (.loop 0 [1, 2, 4, 8, 9] m13b0 [50] (rsSt0 mk a b ln y (cellsI xs) p q r s 0) (.exit 2)
      (rsEx mk a b ln y (cellsI xs) p q r s [15, xs.length - 1, 50] (cellsI xs).length (outTo xs y xs.length) (cellsI xs).length)) := by
  refine loop0 (rsA mk a b ln y xs p q r s) xs.length rfl hL (fun i hi => rs_round hm hi) ?_ (by simp)
  obtain ⟨m, hx⟩ : ∃ m, xs.length = m + 1 := ⟨xs.length - 1, by omega⟩
  rw [cellsI_len, hx, rsA_succ, Nat.add_sub_cancel]
  have := @rs1_1 (L+1) n mk a b ln 0 y p q r s (cellsI xs) (outTo xs y (m + 1)) (m + 1) (m + 1) [15, m, 50] [50] (by rw [cellsI_len, hx]; exact dnlt)
  exact this
theorem any24 {e : Env} {H : Heap} {C : Caller} {m : Nat} (h21 : (Opd.t 21).ev e = .slc ⟨0,20,0⟩ [13] 1 0 4 true) (h23 : (Opd.t 23).ev e = .lst 1 (cellsI xs)) {els : List (List AV)} (hH : H.row ⟨0,20,0⟩ [13] = some ⟨[13], els, 1, true⟩)
    (he : els.length = 4) (hm : xs.length ≤ 17592186044411) (h0 : 0 < xs.length) (hlen : (cellsI xs).length = m) :
    Con.holds ⟨fnOf, specAbs, L⟩ C (.any 0 [18] (MO.mk (some 24) (MOp.append 1 8 true (Opd.t 21) (Opd.t 23)) none []) e H (rfN6 (4 + m)) (H.set ⟨0,24,0⟩ ⟨[18], els ++ cellsI xs, 1, true⟩)) := by
  show opSem ⟨0, 24, 0⟩ [18] (MOp.append 1 8 true (Opd.t 21) (Opd.t 23)) e H = _
  subst hlen
  have hne : ¬ (cellsI xs).length = 0 := by rw [cellsI_len]; omega
  have hb : (4 + (cellsI xs).length) * 8 ≤ most := by rw [cellsI_len]; simp only [most]; omega
  have ht : List.take 4 els = els := List.take_of_length_le (by omega)
  simp only [opSem, h21, h23, srcEls, lens_cells, dryEls_cells, and_self, if_true, implies_true, hne, if_false, hH]
  rw [if_pos ⟨trivial, trivial, hb, by omega⟩]
  simp only [List.drop_zero, ht, rfN6]
theorem rf13 (hm : xs.length ≤ 17592186044411) (hL : xs.length ≤ L + 1) :
    den ⟨fnOf, specAbs, L+6⟩ (n+1) 13 [.agg [.int .i64 mk, .int .i64 a, .int .i64 b, .lst 1 (cellsI xs), .int .i64 ln], .int .i64 y] = some (shRes (shB xs y) mk a b ln y (shGood xs mk a b ln y)) := by
  rw [shGood_all]
  rcases Nat.eq_zero_or_pos xs.length with h0 | h0
  · obtain rfl := List.length_eq_zero_iff.1 h0
    rcases first_bad (fun x => lateOk x y) ([mk, a, b, ln] ++ []) with hz | ⟨k, hk, h1, h2⟩
    · rw [hz]
      exact @rfEg_0 (L+1) n mk a b ln 0 y (rfE_all (L := L+5) (zs := [mk, a, b, ln]) (xs := []) (by simp) (by simp) hz)
    · have hf : (([mk, a, b, ln] ++ []).all fun x => lateOk x y) = false := by
        rw [List.all_eq_false]; exact ⟨_, List.getElem_mem hk, by simp only [h2]; simp⟩
      rw [hf]
      obtain ⟨w69, w68, w67, w66, w65, w64, w63, w62, w61, w60, w59, w58, w57, w56, w55, w54, w53, w52, w51, w50, w49, w48, w47, w46, w45, w44, w43, w42, w41, w40, w39, w38, w37, w36, w35, w34, w33, w32, w31, w28, w27, w26, w25, w1, w2, w6, w7, h⟩ := @rfE_one (L+5) n [] [mk, a, b, ln] mk a b ln y [21] (by simp) (by simp) k hk h1 h2
      exact @rfEr_0 (L+1) n mk a b ln 0 y 0 0 [] w69 w68 w67 w66 w65 w64 w63 w62 w61 w60 w59 w58 w57 w56 w55 w54 w53 w52 w51 w50 w49 w48 w47 w46 w45 w44 w43 w42 w41 w40 w39 w38 w37 w36 w35 w34 w33 w32 w31 w28 w27 w26 w25 w1 w2 w6 w7 h
  · have hl : 4 + (cellsI xs).length = ([mk, a, b, ln] ++ xs).length := by rw [cellsI_len, List.length_append]; rfl
    rcases first_bad (fun x => lateOk x y) ([mk, a, b, ln] ++ xs) with hz | ⟨k, hk, h1, h2⟩
    · rw [hz]
      have := @rfNg_0 (L+6) n mk a b ln 0 y (cellsI xs) (outTo xs y xs.length) [15, xs.length - 1, 50] (any24 rfl rfl rfl rfl hm h0 rfl)
        (by rw [hl]; exact rfN_all (L := L+5) (zs := [mk, a, b, ln] ++ xs) (xs := xs) (by simp; omega) (by simp; omega) hz) (rs_loop (L := L+5) (by omega) (by omega) h0) (by show _ ≤ _; rw [cellsI_len, outTo_len (Nat.le_refl _)]; exact Nat.le_refl _)
      rw [this, cellsI_len, List.take_of_length_le (by rw [outTo_len (Nat.le_refl _)]; exact Nat.le_refl _)]
      unfold shB
      split
      · simp at h0
      · rfl
    · have hf : (([mk, a, b, ln] ++ xs).all fun x => lateOk x y) = false := by
        rw [List.all_eq_false]; exact ⟨_, List.getElem_mem hk, by simp only [h2]; simp⟩
      rw [hf]
      obtain ⟨w69, w68, w67, w66, w65, w64, w63, w62, w61, w60, w59, w58, w57, w56, w55, w54, w53, w52, w51, w50, w49, w48, w47, w46, w45, w44, w43, w42, w41, w40, w39, w38, w37, w36, w35, w34, w33, w32, w31, w28, w27, w26, w25, w1, w2, w6, w7, h⟩ := @rfN_one (L+5) n xs ([mk, a, b, ln] ++ xs) mk a b ln y [21] (by simp; omega) (by simp; omega) k hk h1 h2
      exact @rfNr_0 (L+6) n mk a b ln 0 y (cellsI xs) 0 0 [] w69 w68 w67 w66 w65 w64 w63 w62 w61 w60 w59 w58 w57 w56 w55 w54 w53 w52 w51 w50 w49 w48 w47 w46 w45 w44 w43 w42 w41 w40 w39 w38 w37 w36 w35 w34 w33 w32 w31 w28 w27 w26 w25 w1 w2 w6 w7 (any24 rfl rfl rfl rfl hm h0 rfl) (by rw [hl]; exact h)
end
end Go.Proofs.Ytnccnmeecngopaa.Fw
