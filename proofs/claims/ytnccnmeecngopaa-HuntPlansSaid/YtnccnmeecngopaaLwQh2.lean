/- HuntShifts: hunt.Shift, whole: what it answers for any places. | HuntShifts: hunt.Shift and the document's Shift, whole: what they answer for any places. | HuntShifts: the document's Shift, whole: what it answers for any places. | HuntShifts: the law's own run: both answers are the same, and nothing handed in is touched. -/
import Derived.Test.YtnccnmeecngopaaLwQh1
set_option maxRecDepth 100000
set_option maxHeartbeats 4000000
set_option linter.unusedSimpArgs false
set_option linter.unusedVariables false
namespace Go.Proofs.Ytnccnmeecngopaa.Fw
open Go Go.RowKit
theorem wrap_up {i m : Nat} (h : i < m) (hm : m ≤ 140737488355328) : IntKind.wrap .i64 ((i : Int) + 1) = ((i + 1 : Nat) : Int) := by
  rw [wrap_id (by omega)]; omega
abbrev WR (x y : Int) : Int := IntKind.wrap .i64 (x + y)
def lateOk (x y : Int) : Bool := decide (x ≥ 0) && decide (x ≤ 65536) && decide (y ≥ -65536) && decide (y ≤ 65536) && decide (WR x y ≥ 0) && decide (WR x y ≤ 65536)
theorem late37c {L n d : Nat} {x y : Int} {ok : Bool} {st6 st3 π : List Nat} : runF ⟨fnOf, specP, L⟩ (n+1) d π 37 [.int .i64 x, .ptr ⟨0,6,0⟩ st6 0 0, .ptr ⟨0,3,0⟩ st3 0 0] [(⟨0,6,0⟩, ⟨st6, [[.v (.bool ok)]], 1, true⟩), (⟨0,3,0⟩, ⟨st3, [[.int .i64 y]], 1, true⟩)] =
    some (.int .i64 (WR x y), [(⟨0,6,0⟩, ⟨st6, [[.v (.bool (ok && lateOk x y))]], 1, true⟩), (⟨0,3,0⟩, ⟨st3, [[.int .i64 y]], 1, true⟩)]) := by
  rw [late37_ok]
  unfold late37 lateOk WR
  split
  · split
    · split
      · split
        · split
          · split
            · rename_i h1 h2 h3 h4 h5 h6
              simp only [h1, h2, h3, h4, h5, h6, Bool.true_and]
            · rename_i h1 h2 h3 h4 h5 h6
              simp only [h1, h2, h3, h4, h5, Bool.eq_false_iff.2 h6, Bool.true_and, Bool.false_and]
          · rename_i h1 h2 h3 h4 h5
            simp only [h1, h2, h3, h4, Bool.eq_false_iff.2 h5, Bool.true_and, Bool.false_and]
        · rename_i h1 h2 h3 h4
          simp only [h1, h2, h3, Bool.eq_false_iff.2 h4, Bool.true_and, Bool.false_and]
      · rename_i h1 h2 h3
        simp only [h1, h2, Bool.eq_false_iff.2 h3, Bool.true_and, Bool.false_and]
    · rename_i h1 h2
      simp only [h1, Bool.eq_false_iff.2 h2, Bool.true_and, Bool.false_and]
  · rename_i h1
    simp only [Bool.eq_false_iff.2 h1, Bool.true_and, Bool.false_and]
theorem calli37 {L n : Nat} {x y : Int} {ok : Bool} {τ : List Nat} : Con.holds ⟨fnOf, specP, L⟩ (runF ⟨fnOf, specP, L⟩ (n+1)) (.calli 0 τ 37 [.int .i64 x, .ptr ⟨0,6,0⟩ [4] 0 0, .ptr ⟨0,3,0⟩ [1] 0 0] (HL ok y) (.int .i64 (WR x y)) (HL (ok && lateOk x y) y)) :=
  late37c
def cellsI (xs : List Int) : List (List AV) := xs.map fun x => [.int .i64 x]
theorem cellsI_at {xs : List Int} {i : Nat} (h : i < xs.length) : (cellsI xs)[i]? = some [.int .i64 xs[i]] := by
  unfold cellsI; rw [List.getElem?_map, List.getElem?_eq_getElem h]; rfl
theorem cellsI_len {xs : List Int} : (cellsI xs).length = xs.length := List.length_map ..
theorem take_up {α : Type} {xs : List α} {i : Nat} (h : i < xs.length) : xs.take (i + 1) = xs.take i ++ [xs[i]] := by
  rw [List.take_add_one, List.getElem?_eq_getElem h]; rfl
def okTo (c : Bool) (xs : List Int) (y : Int) (i : Nat) : Bool := c && (xs.take i).all fun x => lateOk x y
def outTo (xs : List Int) (y : Int) (i : Nat) : List (List AV) := cellsI ((xs.take i).map fun x => WR x y)
theorem outTo_len {xs : List Int} {y : Int} {i : Nat} (h : i ≤ xs.length) : (outTo xs y i).length = i := by
  unfold outTo; rw [cellsI_len, List.length_map, List.length_take]; omega
theorem okTo_up {c : Bool} {xs : List Int} {y : Int} {i : Nat} (h : i < xs.length) : okTo c xs y (i + 1) = (okTo c xs y i && lateOk xs[i] y) := by
  unfold okTo; rw [take_up h, List.all_append]; simp [Bool.and_assoc]
theorem outTo_up {xs : List Int} {y : Int} {i : Nat} (h : i < xs.length) : outTo xs y (i + 1) = outTo xs y i ++ [[.int .i64 (WR xs[i] y)]] := by
  unfold outTo cellsI; rw [take_up h, List.map_append, List.map_append]; rfl
def shA (xs : List Int) (mk a b ln y : Int) (c : Bool) : Nat → St
  | 0 => ⟨shEnv (cellsI xs) xs.length 0, shHp mk a b ln y c .nils, 0⟩
  | i + 1 => ⟨shEnv (cellsI xs) xs.length (i + 1), shHp mk a b ln y (okTo c xs y (i + 1)) (.slc ⟨0,45,0⟩ [10, i, 34] 1 0 (i + 1) false) ++ [(⟨0,45,0⟩, ⟨[10, i, 34], outTo xs y (i + 1), 1, true⟩)], 0⟩
theorem shA_zero {xs : List Int} {mk a b ln y : Int} {c : Bool} : shA xs mk a b ln y c 0 = ⟨shEnv (cellsI xs) xs.length 0, shHp mk a b ln y c .nils, 0⟩ := rfl
theorem shA_succ {xs : List Int} {mk a b ln y : Int} {c : Bool} {i : Nat} : shA xs mk a b ln y c (i + 1) = ⟨shEnv (cellsI xs) xs.length (i + 1), shHp mk a b ln y (okTo c xs y (i + 1)) (.slc ⟨0,45,0⟩ [10, i, 34] 1 0 (i + 1) false) ++ [(⟨0,45,0⟩, ⟨[10, i, 34], outTo xs y (i + 1), 1, true⟩)], 0⟩ := rfl
theorem dlt {i m : Nat} (h : i < m) : decide ((i : Int) < (m : Int)) = true := by simpa using h
theorem dnlt {m : Nat} : decide ((m : Int) < (m : Int)) = false := by simp
section
variable {L n : Nat} {xs : List Int} {mk a b ln y : Int}
theorem sh_round {c : Bool} {i : Nat} (hm : xs.length ≤ 17592186044415) (hi : i < xs.length) :
    rnd 0 [4, 6, 7, 8, 33, 34, 35] (bodyOf ⟨fnOf, specP, L⟩ (runF ⟨fnOf, specP, L⟩ (n+1)) 0 m12b0 (i :: [34]) (shA xs mk a b ln y c i)) = some (.nrm, shA xs mk a b ln y c (i + 1)) := by
  have hw := wrap_up hi (by omega)
  have he := el_at (P := ⟨fnOf, specP, L⟩) (C := runF ⟨fnOf, specP, L⟩ (n+1)) (cellsI_at hi)
  cases i with
  | zero =>
    have := @shr0_0 L (n+1) mk a b ln xs[0] y (cellsI xs) c (c && lateOk xs[0] y) xs.length 0 [34] (dlt hi) he calli37
    rw [hw] at this
    have h1 : okTo c xs y 1 = (c && lateOk xs[0] y) := by rw [okTo_up hi]; simp [okTo]
    have h2 : outTo xs y 1 = [[.int .i64 (WR xs[0] y)]] := by rw [outTo_up hi]; simp [outTo, cellsI]
    rw [shA_zero, shA_succ, h1, h2]
    exact this
  | succ i =>
    have := @shr1_0 L (n+1) mk a b ln xs[i+1] y (cellsI xs) (outTo xs y (i + 1)) (okTo c xs y (i+1)) (okTo c xs y (i+1) && lateOk xs[i+1] y) xs.length (i+1) (i+1) [10, i, 34] [34] (dlt hi) he calli37
      ⟨(outTo_len (by omega)).symm, by simp only [roomOk, most, reachBytes]; omega⟩
    rw [hw] at this
    have h1 := okTo_up (c := c) (y := y) hi
    have h2 := outTo_up (y := y) hi
    rw [shA_succ, shA_succ, h1, h2]
    exact this
end
end Go.Proofs.Ytnccnmeecngopaa.Fw
namespace Go.Proofs.Ytnccnmeecngopaa.Fw
open Go Go.RowKit
def shRes (X : AV) (mk a b ln y : Int) (good : Bool) : AV :=
  match good with
  | true => .tup [.agg [.int .i64 (WR mk y), .int .i64 (WR a y), .int .i64 (WR b y), X, .int .i64 (WR ln y)], .int .i64 0]
  | false => .tup [.agg [.int .i64 0, .int .i64 0, .int .i64 0, .nils, .int .i64 0], .int .i64 1]
def shB (xs : List Int) (y : Int) : AV := match xs with | [] => .nils | _ => .own 1 (outTo xs y xs.length) true
def shC (mk a b ln y : Int) : Bool := (((true && lateOk mk y) && lateOk a y) && lateOk b y) && lateOk ln y
def shGood (xs : List Int) (mk a b ln y : Int) : Bool := okTo (shC mk a b ln y) xs y xs.length
section
variable {L n : Nat} {xs : List Int} {mk a b ln y : Int}
theorem sh_loop {c : Bool} (hm : xs.length ≤ 17592186044415) (hL : xs.length ≤ L + 5) (h0 : 0 < xs.length) {mk a b ln : Int} :
    Con.holds ⟨fnOf, specP, L+6⟩ (runF ⟨fnOf, specP, L+6⟩ (n+1)) (.loop 0 [4, 6, 7, 8, 33, 34, 35] m12b0 [34] (shA xs mk a b ln y c 0) (.exit 0)
      ⟨(36, .v (.bool false)) :: shEnv (cellsI xs) (cellsI xs).length (cellsI xs).length, shHp mk a b ln y (okTo c xs y xs.length) (.slc ⟨0,45,0⟩ [10, xs.length - 1, 34] 1 0 (cellsI xs).length false) ++ [(⟨0,45,0⟩, ⟨[10, xs.length - 1, 34], outTo xs y xs.length, 1, true⟩)], 1⟩) := by
  refine loop0 (shA xs mk a b ln y c) xs.length (L := L + 5) rfl hL (fun i hi => sh_round hm hi) ?_ (by simp)
  obtain ⟨m, hx⟩ : ∃ m, xs.length = m + 1 := ⟨xs.length - 1, by omega⟩
  rw [cellsI_len, hx, shA_succ, Nat.add_sub_cancel, hx]
  exact shr1_1 (c := false) (x := 0) dnlt
theorem sh12w (hm : xs.length ≤ 17592186044415) (hL : xs.length ≤ L + 5) :
    den ⟨fnOf, specP, L+6⟩ (n+2) 12 [.agg [.int .i64 mk, .int .i64 a, .int .i64 b, .lst 1 (cellsI xs), .int .i64 ln], .int .i64 y] = some (shRes (shB xs y) mk a b ln y (shGood xs mk a b ln y)) := by
  rcases Nat.eq_zero_or_pos xs.length with h0 | h0
  · obtain rfl := List.length_eq_zero_iff.1 h0
    have hg : shGood [] mk a b ln y = shC mk a b ln y := by simp [shGood, okTo]
    rw [hg]
    cases hc : shC mk a b ln y with
    | true => exact @sh12e_1 (L+1) (n+1) mk a b ln y _ _ _ _ calli37 calli37 calli37 calli37 (by change (!shC mk a b ln y) = _; rw [hc]; rfl)
    | false => exact @sh12e_0 (L+1) (n+1) mk a b ln y _ _ _ _ calli37 calli37 calli37 calli37 (by change (!shC mk a b ln y) = _; rw [hc]; rfl)
  · have hl := sh_loop (L := L) (n := n) (y := y) (c := shC mk a b ln y) hm hL h0 (mk := WR mk y) (a := WR a y) (b := WR b y) (ln := WR ln y)
    rw [shA_zero, show shEnv (cellsI xs) xs.length 0 = shEnv (cellsI xs) (cellsI xs).length 0 by rw [cellsI_len]] at hl
    have ho := outTo_len (xs := xs) (y := y) (Nat.le_refl _)
    cases hc : shGood xs mk a b ln y with
    | true =>
      have := @sh12b_1 (L+6) (n+1) mk a b ln y (cellsI xs) (outTo xs y xs.length) _ _ _ _ (okTo (shC mk a b ln y) xs y xs.length) 0 [10, xs.length - 1, 34] calli37 calli37 calli37 calli37 hl
        (by change (!shGood xs mk a b ln y) = _; rw [hc]; rfl) (by show _ ≤ _; rw [cellsI_len, ho]; exact Nat.le_refl _)
      rw [this, cellsI_len, List.take_of_length_le (by rw [ho]; exact Nat.le_refl _)]
      unfold shB
      split
      · simp at h0
      · rfl
    | false =>
      exact @sh12b_0 (L+6) (n+1) mk a b ln y (cellsI xs) (outTo xs y xs.length) _ _ _ _ (okTo (shC mk a b ln y) xs y xs.length) 0 [10, xs.length - 1, 34] calli37 calli37 calli37 calli37 hl
        (by change (!shGood xs mk a b ln y) = _; rw [hc]; rfl)
end
end Go.Proofs.Ytnccnmeecngopaa.Fw
namespace Go.Proofs.Ytnccnmeecngopaa.Fw
open Go Go.RowKit
theorem first_bad {α : Type} (p : α → Bool) : ∀ zs : List α, zs.all p = true ∨ ∃ k, ∃ h : k < zs.length, (∀ i (hi : i < k), p (zs[i]'(Nat.lt_trans hi h)) = true) ∧ p zs[k] = false
  | [] => .inl rfl
  | a :: r => by
    cases ha : p a with
    | false => exact .inr ⟨0, by simp, fun i hi => absurd hi (by omega), ha⟩
    | true =>
      rcases first_bad p r with h | ⟨k, hk, h1, h2⟩
      · left; simp [List.all_cons, ha]; simpa using h
      · right
        refine ⟨k + 1, by simp; omega, fun i hi => ?_, by simpa using h2⟩
        cases i with
        | zero => simpa using ha
        | succ i => simpa using h1 i (by omega)
theorem late_split {x y : Int} : (lateOk x y = true → decide (x < 0) = false ∧ decide (x > 65536) = false ∧ decide (y < -65536) = false ∧ decide (y > 65536) = false ∧ decide (WR x y < 0) = false ∧ decide (WR x y > 65536) = false) := by
  unfold lateOk
  simp only [Bool.and_eq_true, decide_eq_true_eq, decide_eq_false_iff_not]
  omega
theorem dryEls_cells : ∀ xs : List Int, dryEls (cellsI xs) = true
  | [] => rfl
  | x :: r => by show dryEls ([.int .i64 x] :: cellsI r) = true; simp [dryEls, dryL, AV.dry, dryEls_cells r]
theorem lens_cells : ∀ xs : List Int, lens 1 (cellsI xs) = true
  | [] => rfl
  | x :: r => by show lens 1 ([.int .i64 x] :: cellsI r) = true; simp [lens, allCell, lens_cells r]; rfl
section
variable {L n : Nat} {xs zs : List Int} {mk a b ln y : Int}

def rfAE (mk a b ln y : Int) (xs zs : List Int) (i : Nat) : St := ⟨[(1, .int .i64 y), (2, .ptr ⟨0,2,0⟩ [0] 0 0), (4, .ptr ⟨0,4,0⟩ [1] 0 0), (6, rfE6 zs.length), (7, .int .i64 i)], rfHE mk a b ln (cellsI xs) (cellsI zs), 0⟩
theorem rfE_up {π : List Nat} {i : Nat} (hm : zs.length ≤ 17592186044420) (hi : i < zs.length) (hok : lateOk zs[i] y = true) :
    rnd 0 [1, 2, 4, 6, 7] (bodyOf ⟨fnOf, specP, L⟩ (runF ⟨fnOf, specP, L⟩ n) 0 m13b1 (i :: π) (rfAE mk a b ln y xs zs i)) = some (.nrm, rfAE mk a b ln y xs zs (i + 1)) := by
  obtain ⟨h1, h2, h3, h4, h5, h6⟩ := late_split hok
  have ha : Con.holds ⟨fnOf, specP, L⟩ (runF ⟨fnOf, specP, L⟩ n) (.at (cellsI zs) (0 + i) [.int .i64 zs[i]]) := by rw [Nat.zero_add]; exact cellsI_at hi
  have := @rfE_6 L n mk a b ln zs[i] y (cellsI xs) (cellsI zs) zs.length i π (dlt hi) (ix_at hi) ha h1 h2 h3 h4 h5 h6
  rw [wrap_up hi (by omega)] at this
  exact this
theorem rfE_stop {π : List Nat} {i : Nat} (hi : i < zs.length) (hok : lateOk zs[i] y = false) : ∃ w69 w68 w67 w66 w65 w64 w63 w62 w61 w60 w59 w58 w57 w56 w55 w54 w53 w52 w51 w50 w49 w48 w47 w46 w45 w44 w43 w42 w41 w40 w39 w38 w37 w36 w35 w34 w33 w32 w31 w28 w27 w26 w25 w1 w2 w6 w7,
    rnd 0 [1, 2, 4, 6, 7] (bodyOf ⟨fnOf, specP, L⟩ (runF ⟨fnOf, specP, L⟩ n) 0 m13b1 (i :: π) (rfAE mk a b ln y xs zs i)) = some (.ret, rfE_st L n mk a b ln zs[i] y (cellsI xs) (cellsI zs) zs.length i π w69 w68 w67 w66 w65 w64 w63 w62 w61 w60 w59 w58 w57 w56 w55 w54 w53 w52 w51 w50 w49 w48 w47 w46 w45 w44 w43 w42 w41 w40 w39 w38 w37 w36 w35 w34 w33 w32 w31 w28 w27 w26 w25 w1 w2 w6 w7) := by
  have ha : Con.holds ⟨fnOf, specP, L⟩ (runF ⟨fnOf, specP, L⟩ n) (.at (cellsI zs) (0 + i) [.int .i64 zs[i]]) := by rw [Nat.zero_add]; exact cellsI_at hi
  have hx := ix_at (P := ⟨fnOf, specP, L⟩) (C := runF ⟨fnOf, specP, L⟩ n) hi
  cases h1 : decide (zs[i] < 0) with
  | true => exact rfE_0_x (dlt hi) hx ha h1
  | false =>
  cases h2 : decide (zs[i] > 65536) with
  | true => exact rfE_1_x (dlt hi) hx ha h1 h2
  | false =>
  cases h3 : decide (y < -65536) with
  | true => exact rfE_2_x (dlt hi) hx ha h1 h2 h3
  | false =>
  cases h4 : decide (y > 65536) with
  | true => exact rfE_3_x (dlt hi) hx ha h1 h2 h3 h4
  | false =>
  cases h5 : decide (IntKind.wrap .i64 (zs[i] + y) < 0) with
  | true => exact rfE_4_x (dlt hi) hx ha h1 h2 h3 h4 h5
  | false =>
  cases h6 : decide (IntKind.wrap .i64 (zs[i] + y) > 65536) with
  | true => exact rfE_5_x (dlt hi) hx ha h1 h2 h3 h4 h5 h6
  | false =>
    exfalso
    unfold lateOk at hok
    simp only [decide_eq_false_iff_not, Bool.and_eq_false_iff, WR] at *
    omega
theorem rfE_done {π : List Nat} :
    rnd 0 [1, 2, 4, 6, 7] (bodyOf ⟨fnOf, specP, L⟩ (runF ⟨fnOf, specP, L⟩ n) 0 m13b1 (zs.length :: π) (rfAE mk a b ln y xs zs zs.length)) = some (.exit 0, rfE_ex mk a b ln y (cellsI xs) (cellsI zs) zs.length) :=
  @rfE_7 L n mk a b ln 0 y (cellsI xs) (cellsI zs) zs.length zs.length π dnlt
theorem rfE_all {π : List Nat} (hm : zs.length ≤ 17592186044420) (hL : zs.length ≤ L) (hz : (zs.all fun x => lateOk x y) = true) :
    Con.holds ⟨fnOf, specP, L+1⟩ (runF ⟨fnOf, specP, L+1⟩ n) (.loop 0 [1, 2, 4, 6, 7] m13b1 π (rfAE mk a b ln y xs zs 0) (.exit 0) (rfE_ex mk a b ln y (cellsI xs) (cellsI zs) zs.length)) :=
  loop0 (rfAE mk a b ln y xs zs) zs.length rfl hL (fun i hi => rfE_up hm hi (List.all_eq_true.1 hz _ (List.getElem_mem hi))) rfE_done (by simp)
theorem rfE_one {π : List Nat} (hm : zs.length ≤ 17592186044420) (hL : zs.length ≤ L) {k : Nat} (hk : k < zs.length) (h1 : ∀ i (hi : i < k), lateOk (zs[i]'(Nat.lt_trans hi hk)) y = true) (h2 : lateOk zs[k] y = false) : ∃ w69 w68 w67 w66 w65 w64 w63 w62 w61 w60 w59 w58 w57 w56 w55 w54 w53 w52 w51 w50 w49 w48 w47 w46 w45 w44 w43 w42 w41 w40 w39 w38 w37 w36 w35 w34 w33 w32 w31 w28 w27 w26 w25 w1 w2 w6 w7,
    Con.holds ⟨fnOf, specP, L+1⟩ (runF ⟨fnOf, specP, L+1⟩ n) (.loop 0 [1, 2, 4, 6, 7] m13b1 π (rfAE mk a b ln y xs zs 0) .ret (rfE_st (L+1) n mk a b ln zs[k] y (cellsI xs) (cellsI zs) zs.length k π w69 w68 w67 w66 w65 w64 w63 w62 w61 w60 w59 w58 w57 w56 w55 w54 w53 w52 w51 w50 w49 w48 w47 w46 w45 w44 w43 w42 w41 w40 w39 w38 w37 w36 w35 w34 w33 w32 w31 w28 w27 w26 w25 w1 w2 w6 w7)) := by
  obtain ⟨w69, w68, w67, w66, w65, w64, w63, w62, w61, w60, w59, w58, w57, w56, w55, w54, w53, w52, w51, w50, w49, w48, w47, w46, w45, w44, w43, w42, w41, w40, w39, w38, w37, w36, w35, w34, w33, w32, w31, w28, w27, w26, w25, w1, w2, w6, w7, h⟩ := @rfE_stop (L+1) n xs zs mk a b ln y π k hk h2
  exact ⟨w69, w68, w67, w66, w65, w64, w63, w62, w61, w60, w59, w58, w57, w56, w55, w54, w53, w52, w51, w50, w49, w48, w47, w46, w45, w44, w43, w42, w41, w40, w39, w38, w37, w36, w35, w34, w33, w32, w31, w28, w27, w26, w25, w1, w2, w6, w7, loop0 (rfAE mk a b ln y xs zs) k rfl (by omega) (fun i hi => rfE_up hm (Nat.lt_trans hi hk) (h1 i hi)) h (by simp)⟩

def rfAN (mk a b ln y : Int) (xs zs : List Int) (i : Nat) : St := ⟨[(1, .int .i64 y), (2, .ptr ⟨0,2,0⟩ [0] 0 0), (4, .ptr ⟨0,4,0⟩ [1] 0 0), (6, rfN6 zs.length), (7, .int .i64 i)], rfHN mk a b ln (cellsI xs) (cellsI zs), 0⟩
theorem rfN_up {π : List Nat} {i : Nat} (hm : zs.length ≤ 17592186044420) (hi : i < zs.length) (hok : lateOk zs[i] y = true) :
    rnd 0 [1, 2, 4, 6, 7] (bodyOf ⟨fnOf, specP, L⟩ (runF ⟨fnOf, specP, L⟩ n) 0 m13b1 (i :: π) (rfAN mk a b ln y xs zs i)) = some (.nrm, rfAN mk a b ln y xs zs (i + 1)) := by
  obtain ⟨h1, h2, h3, h4, h5, h6⟩ := late_split hok
  have ha : Con.holds ⟨fnOf, specP, L⟩ (runF ⟨fnOf, specP, L⟩ n) (.at (cellsI zs) (0 + i) [.int .i64 zs[i]]) := by rw [Nat.zero_add]; exact cellsI_at hi
  have := @rfN_6 L n mk a b ln zs[i] y (cellsI xs) (cellsI zs) zs.length i π (dlt hi) (ix_at hi) ha h1 h2 h3 h4 h5 h6
  rw [wrap_up hi (by omega)] at this
  exact this
theorem rfN_stop {π : List Nat} {i : Nat} (hi : i < zs.length) (hok : lateOk zs[i] y = false) : ∃ w69 w68 w67 w66 w65 w64 w63 w62 w61 w60 w59 w58 w57 w56 w55 w54 w53 w52 w51 w50 w49 w48 w47 w46 w45 w44 w43 w42 w41 w40 w39 w38 w37 w36 w35 w34 w33 w32 w31 w28 w27 w26 w25 w1 w2 w6 w7,
    rnd 0 [1, 2, 4, 6, 7] (bodyOf ⟨fnOf, specP, L⟩ (runF ⟨fnOf, specP, L⟩ n) 0 m13b1 (i :: π) (rfAN mk a b ln y xs zs i)) = some (.ret, rfN_st L n mk a b ln zs[i] y (cellsI xs) (cellsI zs) zs.length i π w69 w68 w67 w66 w65 w64 w63 w62 w61 w60 w59 w58 w57 w56 w55 w54 w53 w52 w51 w50 w49 w48 w47 w46 w45 w44 w43 w42 w41 w40 w39 w38 w37 w36 w35 w34 w33 w32 w31 w28 w27 w26 w25 w1 w2 w6 w7) := by
  have ha : Con.holds ⟨fnOf, specP, L⟩ (runF ⟨fnOf, specP, L⟩ n) (.at (cellsI zs) (0 + i) [.int .i64 zs[i]]) := by rw [Nat.zero_add]; exact cellsI_at hi
  have hx := ix_at (P := ⟨fnOf, specP, L⟩) (C := runF ⟨fnOf, specP, L⟩ n) hi
  cases h1 : decide (zs[i] < 0) with
  | true => exact rfN_0_x (dlt hi) hx ha h1
  | false =>
  cases h2 : decide (zs[i] > 65536) with
  | true => exact rfN_1_x (dlt hi) hx ha h1 h2
  | false =>
  cases h3 : decide (y < -65536) with
  | true => exact rfN_2_x (dlt hi) hx ha h1 h2 h3
  | false =>
  cases h4 : decide (y > 65536) with
  | true => exact rfN_3_x (dlt hi) hx ha h1 h2 h3 h4
  | false =>
  cases h5 : decide (IntKind.wrap .i64 (zs[i] + y) < 0) with
  | true => exact rfN_4_x (dlt hi) hx ha h1 h2 h3 h4 h5
  | false =>
  cases h6 : decide (IntKind.wrap .i64 (zs[i] + y) > 65536) with
  | true => exact rfN_5_x (dlt hi) hx ha h1 h2 h3 h4 h5 h6
  | false =>
    exfalso
    unfold lateOk at hok
    simp only [decide_eq_false_iff_not, Bool.and_eq_false_iff, WR] at *
    omega
theorem rfN_done {π : List Nat} :
    rnd 0 [1, 2, 4, 6, 7] (bodyOf ⟨fnOf, specP, L⟩ (runF ⟨fnOf, specP, L⟩ n) 0 m13b1 (zs.length :: π) (rfAN mk a b ln y xs zs zs.length)) = some (.exit 0, rfN_ex mk a b ln y (cellsI xs) (cellsI zs) zs.length) :=
  @rfN_7 L n mk a b ln 0 y (cellsI xs) (cellsI zs) zs.length zs.length π dnlt
theorem rfN_all {π : List Nat} (hm : zs.length ≤ 17592186044420) (hL : zs.length ≤ L) (hz : (zs.all fun x => lateOk x y) = true) :
    Con.holds ⟨fnOf, specP, L+1⟩ (runF ⟨fnOf, specP, L+1⟩ n) (.loop 0 [1, 2, 4, 6, 7] m13b1 π (rfAN mk a b ln y xs zs 0) (.exit 0) (rfN_ex mk a b ln y (cellsI xs) (cellsI zs) zs.length)) :=
  loop0 (rfAN mk a b ln y xs zs) zs.length rfl hL (fun i hi => rfN_up hm hi (List.all_eq_true.1 hz _ (List.getElem_mem hi))) rfN_done (by simp)
theorem rfN_one {π : List Nat} (hm : zs.length ≤ 17592186044420) (hL : zs.length ≤ L) {k : Nat} (hk : k < zs.length) (h1 : ∀ i (hi : i < k), lateOk (zs[i]'(Nat.lt_trans hi hk)) y = true) (h2 : lateOk zs[k] y = false) : ∃ w69 w68 w67 w66 w65 w64 w63 w62 w61 w60 w59 w58 w57 w56 w55 w54 w53 w52 w51 w50 w49 w48 w47 w46 w45 w44 w43 w42 w41 w40 w39 w38 w37 w36 w35 w34 w33 w32 w31 w28 w27 w26 w25 w1 w2 w6 w7,
    Con.holds ⟨fnOf, specP, L+1⟩ (runF ⟨fnOf, specP, L+1⟩ n) (.loop 0 [1, 2, 4, 6, 7] m13b1 π (rfAN mk a b ln y xs zs 0) .ret (rfN_st (L+1) n mk a b ln zs[k] y (cellsI xs) (cellsI zs) zs.length k π w69 w68 w67 w66 w65 w64 w63 w62 w61 w60 w59 w58 w57 w56 w55 w54 w53 w52 w51 w50 w49 w48 w47 w46 w45 w44 w43 w42 w41 w40 w39 w38 w37 w36 w35 w34 w33 w32 w31 w28 w27 w26 w25 w1 w2 w6 w7)) := by
  obtain ⟨w69, w68, w67, w66, w65, w64, w63, w62, w61, w60, w59, w58, w57, w56, w55, w54, w53, w52, w51, w50, w49, w48, w47, w46, w45, w44, w43, w42, w41, w40, w39, w38, w37, w36, w35, w34, w33, w32, w31, w28, w27, w26, w25, w1, w2, w6, w7, h⟩ := @rfN_stop (L+1) n xs zs mk a b ln y π k hk h2
  exact ⟨w69, w68, w67, w66, w65, w64, w63, w62, w61, w60, w59, w58, w57, w56, w55, w54, w53, w52, w51, w50, w49, w48, w47, w46, w45, w44, w43, w42, w41, w40, w39, w38, w37, w36, w35, w34, w33, w32, w31, w28, w27, w26, w25, w1, w2, w6, w7, loop0 (rfAN mk a b ln y xs zs) k rfl (by omega) (fun i hi => rfN_up hm (Nat.lt_trans hi hk) (h1 i hi)) h (by simp)⟩

theorem shGood_all : shGood xs mk a b ln y = ([mk, a, b, ln] ++ xs).all fun x => lateOk x y := by
  simp [shGood, shC, okTo, Bool.and_assoc]
def rsA (mk a b ln y : Int) (xs : List Int) (p q r s : Int) : Nat → St
  | 0 => rsSt0 mk a b ln y (cellsI xs) p q r s 0
  | i + 1 => rsSt1 mk a b ln y (cellsI xs) p q r s [15, i, 50] (i + 1) (outTo xs y (i + 1)) (i + 1)
theorem rsA_zero {p q r s : Int} : rsA mk a b ln y xs p q r s 0 = rsSt0 mk a b ln y (cellsI xs) p q r s 0 := rfl
theorem rsA_succ {p q r s : Int} {i : Nat} : rsA mk a b ln y xs p q r s (i + 1) = rsSt1 mk a b ln y (cellsI xs) p q r s [15, i, 50] (i + 1) (outTo xs y (i + 1)) (i + 1) := rfl
theorem rs_round {p q r s : Int} {i : Nat} (hm : xs.length ≤ 17592186044415) (hi : i < xs.length) :
    rnd 0 [1, 2, 4, 8, 9] (bodyOf ⟨fnOf, specP, L⟩ (runF ⟨fnOf, specP, L⟩ n) 0 m13b0 (i :: [50]) (rsA mk a b ln y xs p q r s i)) = some (.nrm, rsA mk a b ln y xs p q r s (i + 1)) := by
  have hw := wrap_up hi (by omega)
  have he := el_at (P := ⟨fnOf, specP, L⟩) (C := runF ⟨fnOf, specP, L⟩ n) (cellsI_at hi)
  have hlt : decide ((i : Int) < ((cellsI xs).length : Int)) = true := by rw [cellsI_len]; exact dlt hi
  cases i with
  | zero =>
    have := @rs0_0 L n mk a b ln xs[0] y p q r s (cellsI xs) 0 [50] hlt he
    rw [hw] at this
    have h2 : outTo xs y 1 = [[.int .i64 (WR xs[0] y)]] := by rw [outTo_up hi]; simp [outTo, cellsI]
    rw [rsA_zero, rsA_succ, h2]
    exact this
  | succ i =>
    have := @rs1_0 L n mk a b ln xs[i+1] y p q r s (cellsI xs) (outTo xs y (i + 1)) (i+1) (i+1) [15, i, 50] [50] hlt he ⟨(outTo_len (by omega)).symm, by simp only [roomOk, most]; omega⟩
    rw [hw] at this
    have h2 := outTo_up (y := y) hi
    rw [rsA_succ, rsA_succ, h2]
    exact this
theorem rs_loop {p q r s : Int} (hm : xs.length ≤ 17592186044415) (hL : xs.length ≤ L) (h0 : 0 < xs.length) :
    Con.holds ⟨fnOf, specP, L+1⟩ (runF ⟨fnOf, specP, L+1⟩ n) (.loop 0 [1, 2, 4, 8, 9] m13b0 [50] (rsSt0 mk a b ln y (cellsI xs) p q r s 0) (.exit 2)
      (rsEx mk a b ln y (cellsI xs) p q r s [15, xs.length - 1, 50] (cellsI xs).length (outTo xs y xs.length) (cellsI xs).length)) := by
  refine loop0 (rsA mk a b ln y xs p q r s) xs.length rfl hL (fun i hi => rs_round hm hi) ?_ (by simp)
  obtain ⟨m, hx⟩ : ∃ m, xs.length = m + 1 := ⟨xs.length - 1, by omega⟩
  rw [cellsI_len, hx, rsA_succ, Nat.add_sub_cancel]
  have := @rs1_1 (L+1) n mk a b ln 0 y p q r s (cellsI xs) (outTo xs y (m + 1)) (m + 1) (m + 1) [15, m, 50] [50] (by rw [cellsI_len, hx]; exact dnlt)
  exact this
theorem any24 {e : Env} {H : Heap} {C : Caller} {m : Nat} (h21 : (Opd.t 21).ev e = .slc ⟨0,20,0⟩ [13] 1 0 4 true) (h23 : (Opd.t 23).ev e = .lst 1 (cellsI xs)) {els : List (List AV)} (hH : H.row ⟨0,20,0⟩ [13] = some ⟨[13], els, 1, true⟩)
    (he : els.length = 4) (hm : xs.length ≤ 17592186044411) (h0 : 0 < xs.length) (hlen : (cellsI xs).length = m) :
    Con.holds ⟨fnOf, specP, L⟩ C (.any 0 [18] (MO.mk (some 24) (MOp.append 1 8 true (Opd.t 21) (Opd.t 23)) none []) e H (rfN6 (4 + m)) (H.set ⟨0,24,0⟩ ⟨[18], els ++ cellsI xs, 1, true⟩)) := by
  show opSem ⟨0, 24, 0⟩ [18] (MOp.append 1 8 true (Opd.t 21) (Opd.t 23)) e H = _
  subst hlen
  have hne : ¬ (cellsI xs).length = 0 := by rw [cellsI_len]; omega
  have hb : roomOk (4 + (cellsI xs).length) 8 := .inl (by rw [cellsI_len]; simp only [most]; omega)
  have ht : List.take 4 els = els := List.take_of_length_le (by omega)
  simp only [opSem, h21, h23, srcEls, lens_cells, dryEls_cells, and_self, if_true, implies_true, hne, if_false, hH]
  rw [if_pos ⟨trivial, trivial, hb, by omega⟩]
  simp only [List.drop_zero, ht, rfN6]
theorem rf13 (hm : xs.length ≤ 17592186044411) (hL : xs.length ≤ L + 1) :
    den ⟨fnOf, specP, L+6⟩ (n+1) 13 [.agg [.int .i64 mk, .int .i64 a, .int .i64 b, .lst 1 (cellsI xs), .int .i64 ln], .int .i64 y] = some (shRes (shB xs y) mk a b ln y (shGood xs mk a b ln y)) := by
  rw [shGood_all]
  rcases Nat.eq_zero_or_pos xs.length with h0 | h0
  · obtain rfl := List.length_eq_zero_iff.1 h0
    rcases first_bad (fun x => lateOk x y) ([mk, a, b, ln] ++ []) with hz | ⟨k, hk, h1, h2⟩
    · rw [hz]
      exact @rfEg_0 (L+1) n mk a b ln 0 y (rfE_all (L := L+5) (zs := [mk, a, b, ln]) (xs := []) (by simp) (by simp) hz)
    · have hf : (([mk, a, b, ln] ++ []).all fun x => lateOk x y) = false := by
        rw [List.all_eq_false]; exact ⟨_, List.getElem_mem hk, by simp only [h2]; simp⟩
      rw [hf]
      obtain ⟨w69, w68, w67, w66, w65, w64, w63, w62, w61, w60, w59, w58, w57, w56, w55, w54, w53, w52, w51, w50, w49, w48, w47, w46, w45, w44, w43, w42, w41, w40, w39, w38, w37, w36, w35, w34, w33, w32, w31, w28, w27, w26, w25, w1, w2, w6, w7, h⟩ := @rfE_one (L+5) n [] [mk, a, b, ln] mk a b ln y [21] (by simp) (by simp) k hk h1 h2
      exact @rfEr_0 (L+1) n mk a b ln 0 y 0 0 [] w69 w68 w67 w66 w65 w64 w63 w62 w61 w60 w59 w58 w57 w56 w55 w54 w53 w52 w51 w50 w49 w48 w47 w46 w45 w44 w43 w42 w41 w40 w39 w38 w37 w36 w35 w34 w33 w32 w31 w28 w27 w26 w25 w1 w2 w6 w7 h
  · have hl : 4 + (cellsI xs).length = ([mk, a, b, ln] ++ xs).length := by rw [cellsI_len, List.length_append]; rfl
    rcases first_bad (fun x => lateOk x y) ([mk, a, b, ln] ++ xs) with hz | ⟨k, hk, h1, h2⟩
    · rw [hz]
      have := @rfNg_0 (L+6) n mk a b ln 0 y (cellsI xs) (outTo xs y xs.length) [15, xs.length - 1, 50] (any24 rfl rfl rfl rfl hm h0 rfl)
        (by rw [hl]; exact rfN_all (L := L+5) (zs := [mk, a, b, ln] ++ xs) (xs := xs) (by simp; omega) (by simp; omega) hz) (rs_loop (L := L+5) (by omega) (by omega) h0) (by show _ ≤ _; rw [cellsI_len, outTo_len (Nat.le_refl _)]; exact Nat.le_refl _)
      rw [this, cellsI_len, List.take_of_length_le (by rw [outTo_len (Nat.le_refl _)]; exact Nat.le_refl _)]
      unfold shB
      split
      · simp at h0
      · rfl
    · have hf : (([mk, a, b, ln] ++ xs).all fun x => lateOk x y) = false := by
        rw [List.all_eq_false]; exact ⟨_, List.getElem_mem hk, by simp only [h2]; simp⟩
      rw [hf]
      obtain ⟨w69, w68, w67, w66, w65, w64, w63, w62, w61, w60, w59, w58, w57, w56, w55, w54, w53, w52, w51, w50, w49, w48, w47, w46, w45, w44, w43, w42, w41, w40, w39, w38, w37, w36, w35, w34, w33, w32, w31, w28, w27, w26, w25, w1, w2, w6, w7, h⟩ := @rfN_one (L+5) n xs ([mk, a, b, ln] ++ xs) mk a b ln y [21] (by simp; omega) (by simp; omega) k hk h1 h2
      exact @rfNr_0 (L+6) n mk a b ln 0 y (cellsI xs) 0 0 [] w69 w68 w67 w66 w65 w64 w63 w62 w61 w60 w59 w58 w57 w56 w55 w54 w53 w52 w51 w50 w49 w48 w47 w46 w45 w44 w43 w42 w41 w40 w39 w38 w37 w36 w35 w34 w33 w32 w31 w28 w27 w26 w25 w1 w2 w6 w7 (any24 rfl rfl rfl rfl hm h0 rfl) (by rw [hl]; exact h)
end
end Go.Proofs.Ytnccnmeecngopaa.Fw
namespace Go.Proofs.Ytnccnmeecngopaa.Fw
open Go Go.RowKit
theorem bne_same {x : Int} : (x != x) = false := by simp
theorem cutX_all {els : List (List AV)} : cutX els 0 els.length = els := List.take_length
section
variable {L n : Nat} {xs zs : List Int} {mk a b ln y p q r s e : Int}
def smA (p q r s : Int) (els : List (List AV)) (i : Nat) : St := ⟨[(2, .ptr ⟨0,2,0⟩ [0] 0 0), (3, .ptr ⟨0,3,0⟩ [1] 0 0), (5, .int .i64 i)], [(⟨0,2,0⟩, ⟨[0], [[.int .i64 p, .int .i64 q, .int .i64 r, .lst 1 els, .int .i64 s]], 5, false⟩), (⟨0,3,0⟩, ⟨[1], [[.int .i64 p, .int .i64 q, .int .i64 r, .lst 1 els, .int .i64 s]], 5, false⟩)], 0⟩
theorem sm14w (hm : zs.length ≤ 17592186044415) (hL : zs.length ≤ L) :
    den ⟨fnOf, specP, L+1⟩ (n+1) 14 [.agg [.int .i64 p, .int .i64 q, .int .i64 r, .lst 1 (cellsI zs), .int .i64 s], .agg [.int .i64 p, .int .i64 q, .int .i64 r, .lst 1 (cellsI zs), .int .i64 s]] = some (.v (.bool true)) := by
  refine @sm14l_5 (L+1) n p q r s (cellsI zs) bne_same bne_same bne_same bne_same bne_same ?_
  refine loop0 (smA p q r s (cellsI zs)) (cellsI zs).length rfl (by rw [cellsI_len]; exact hL) (fun i hi => ?_) ?_ (by simp)
  · have hi' : i < zs.length := by rw [cellsI_len] at hi; exact hi
    have := @sm0_1 (L+1) n zs[i] p q r s (cellsI zs) i [43] (dlt hi) (el_at (cellsI_at hi')) bne_same
    rw [wrap_up hi (by rw [cellsI_len]; omega)] at this
    exact this
  · exact @sm0_2 (L+1) n 0 p q r s (cellsI zs) (cellsI zs).length [43] dnlt
end
end Go.Proofs.Ytnccnmeecngopaa.Fw
