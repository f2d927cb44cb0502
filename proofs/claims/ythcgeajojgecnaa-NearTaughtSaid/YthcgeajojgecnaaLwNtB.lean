/- near: step, owns, taps, at, Echo, taken, Off, as plain numbers, where all is well. -/
import Derived.Test.YthcgeajojgecnaaLwNtA
set_option maxRecDepth 100000
set_option maxHeartbeats 4000000
set_option exponentiation.threshold 4000
set_option linter.unusedSimpArgs false
set_option linter.unusedVariables false
namespace Go.Proofs.Ythcgeajojgecnaa.Fw
open Go Go.RowKit
theorem grid6_128 : grid6 8192 4638707616191610880 := by
  have h128 : fofInt 128 = 4638707616191610880 := by kernel_rfl
  obtain ⟨g1, g2⟩ := fofInt_exact (n := 128) (by decide)
  rw [h128] at g1 g2
  exact intv_grid6 (X := 128) ⟨g1, g2⟩
theorem fmax2_or (a b : Nat) (ha : fin a) (hb : fin b) : fmax2 a b = a ∨ fmax2 a b = b := by
  unfold fmax2
  rw [ford_fin ha hb]
  cases compare (fv a) (fv b) with
  | lt => exact .inr rfl
  | gt => exact .inl rfl
  | eq =>
    show (if (Ieee.double.read a).neg = true then b else a) = a ∨ (if (Ieee.double.read a).neg = true then b else a) = b
    split
    · exact .inr rfl
    · exact .inl rfl
theorem max_low {a b : Nat} (ha : fin a) (hb : fin b) (la : (fv a).natAbs < 2 ^ 1074) (lb : (fv b).natAbs < 2 ^ 1074) : fge (fmax2 a b) 4607182418800017408 = false := by
  have h1 : fofInt 1 = 4607182418800017408 := by kernel_rfl
  obtain ⟨g1, g2⟩ := fofInt_exact (n := 1) (by decide)
  rw [h1] at g1 g2
  have c : (2 : Int) ^ 1074 = ((2 ^ 1074 : Nat) : Int) := by rw [Int.natCast_pow]; rfl
  have key : ∀ x : Nat, fin x → (fv x).natAbs < 2 ^ 1074 → fge x 4607182418800017408 = false := fun x hx lx => by
    rw [fge_fin hx g1, g2, Int.one_mul, c]
    refine decide_eq_false ?_
    generalize 2 ^ 1074 = B at *
    omega
  rcases fmax2_or a b ha hb with e | e
  · rw [e]; exact key a ha la
  · rw [e]; exact key b hb lb
section
variable {L n : Nat}
theorem nstep_den {m Y : Int} {x y : Nat} (h : grid6 m x) (hm : m.natAbs < 2 ^ 53) (hy : grid6 Y y) (hle : (m.natAbs : Int) ≤ Y) : den ⟨fnOf, specN, L⟩ (n+2) 102 [.flt x, .flt y] = some (.v (.bool true)) := by
  have h1 : fle (absF x) y = true := by rw [grid6_le (grid6_abs h) hy]; exact decide_eq_true hle
  have := @nst_0 L (n+1) [] [] [] [] [] 0 0 x y 0 0 0 0 false [] [] _ h1 (call_den (@ntr_0 L n [] [] [] [] [] 0 0 _ 0 0 0 0 0 false [] []))
  rw [whole64 h hm] at this
  exact this
theorem owns_den {zs : List (Nat × Nat)} {X : Nat → Int} (hz : ∀ t, intv (X t) (zs.getD t (0, 0)).1 ∧ (zs.getD t (0, 0)).2 = 0 ∧ (X t).natAbs ≤ 128) (hl : zs.length ≤ 100000) (hL : zs.length ≤ L) : den ⟨fnOf, specN, L+1⟩ (n+3) 85 [.lst 1 (zs.map celC)] = some (.v (.bool true)) := by
  have zl : (zs.map celC).length = zs.length := map_len
  refine @now_0 (L+1) (n+2) zs [] [] [] [] 0 0 0 0 0 0 zs.length 0 false [] [] ?_
  refine loopX (res := m85.res) (fun i => nowSt zs i) zs.length rfl hL (fun i hi => ?_) ?_ (by simp)
  · obtain ⟨h1, h2, h3⟩ := hz i
    have s1 := @nstep_den (L+1) n _ _ _ _ (intv_grid6 h1) (by omega) grid6_128 (by omega)
    have s2 := @nstep_den (L+1) n _ _ _ _ grid6_zero (by decide) grid6_128 (by decide)
    rw [← h2] at s2
    have := @nowb_2 (L+1) (n+2) zs [] [] [] [] 0 0 0 0 0 0 i 0 false [] [4] (zs.getD i (0, 0)) true true (by rw [zl]; exact dLt hi) (elD_map (f := celC) hi) (call_den s1) rfl (call_den s2) rfl
    rw [wrapUp hi (by omega)] at this
    exact this
  · exact @nowb_3 (L+1) (n+2) zs [] [] [] [] 0 0 0 0 0 0 zs.length 0 false [] [4] (by rw [zl]; exact dNlt)
/-- the sizes together, as the program adds them -/
def sumN (zs : List (Nat × Nat)) : Nat → Nat
  | 0 => 0
  | i + 1 => fadd (sumN zs i) (fadd (absF (zs.getD i (0, 0)).1) (absF (zs.getD i (0, 0)).2))
theorem sumN_is {zs : List (Nat × Nat)} {K J : Nat → Int} (h : tapL K J zs) (hb : sumA K J zs.length ≤ 256) : ∀ {i}, i ≤ zs.length → grid6 (sumA K J i) (sumN zs i)
  | 0, _ => grid6_zero
  | i + 1, hi => by
    obtain ⟨a, b⟩ := h i (by omega)
    have ih := sumN_is h hb (i := i) (by omega)
    have h1 := sumA_le (K := K) (J := J) hi
    have e : ((sumA K J (i + 1) : Nat) : Int) = (sumA K J i : Nat) + (((K i).natAbs : Int) + ((J i).natAbs : Int)) := by
      show ((sumA K J i + (K i).natAbs + (J i).natAbs : Nat) : Int) = _
      omega
    have e2 : sumA K J (i + 1) = sumA K J i + (K i).natAbs + (J i).natAbs := rfl
    rw [e]
    exact grid6_add ih (grid6_add (grid6_abs a) (grid6_abs b) (by omega)) (by omega)
theorem ntaps_den {zs : List (Nat × Nat)} {K J : Nat → Int} (h : tapL K J zs) (hA : areT K J zs.length) (hl : zs.length ≤ 64) (hL : 64 ≤ L) : den ⟨fnOf, specN, L+1⟩ (n+3) 84 [.lst 1 (zs.map celC)] = some (.v (.bool true)) := by
  have zl : (zs.map celC).length = zs.length := map_len
  have hs : fle (sumN zs zs.length) 4616189618054758400 = true := by
    rw [grid6_le (sumN_is h hA.2 (Nat.le_refl _)) grid6_four]
    exact decide_eq_true (by have := hA.2; omega)
  have key := @ntp_0 (L+1) (n+2) zs [] [] [] [] 0 0 (sumN zs zs.length) 0 0 0 zs.length 0 false [] [] ?_ (by rw [zl]; exact dT (by omega))
  · rw [hs] at key; exact key
  refine loopX (res := m84.res) (fun i => ntpSt zs (sumN zs i) i) zs.length rfl (by omega) (fun i hi => ?_) ?_ (by simp)
  · obtain ⟨a, b⟩ := h i hi
    have hB := hA.1 i hi
    unfold tapB at hB
    simp only [Bool.and_eq_true, decide_eq_true_eq] at hB
    have s1 := @nstep_den (L+1) n _ _ _ _ a (by omega) grid6_one (by omega)
    have s2 := @nstep_den (L+1) n _ _ _ _ b (by omega) grid6_one (by omega)
    have := @ntpb_2 (L+1) (n+2) zs [] [] [] [] 0 0 (sumN zs i) 0 0 0 i 0 false [] [5] (zs.getD i (0, 0)) true true (by rw [zl]; exact dLt hi) (elD_map (f := celC) hi) (call_den s1) rfl (call_den s2) rfl
    rw [wrapUp hi (by omega)] at this
    exact this
  · exact @ntpb_3 (L+1) (n+2) zs [] [] [] [] 0 0 (sumN zs zs.length) 0 0 0 zs.length 0 false [] [5] (by rw [zl]; exact dNlt)
variable {hs os : List (Nat × Nat)} {K J X : Nat → Int} {t : Nat}
theorem at_den (hh : tapL K J hs) (hb : ∀ i, i < hs.length → (K i).natAbs ≤ 64 ∧ (J i).natAbs ≤ 64) (hm : hs.length ≤ 64) (hz : ∀ t, intv (X t) (os.getD t (0, 0)).1 ∧ (os.getD t (0, 0)).2 = 0 ∧ (X t).natAbs ≤ 128) (ht : t < os.length) (hlz : os.length ≤ 100000) (hL : 64 ≤ L) :
    ∃ a b, den ⟨fnOf, specN, L+1⟩ (n+2) 98 [.lst 1 (os.map celC), .lst 1 (hs.map celC), .int .i64 t] = some (.cpx a b) ∧ grid6 (thruS K X 1 hs.length t) a ∧ grid6 (thruS J X 1 hs.length t) b := by
  have hl : (hs.map celC).length = hs.length := map_len
  have ol : (os.map celC).length = os.length := map_len
  have bK : ∀ {i}, i ≤ hs.length → (thruS K X 1 i t).natAbs ≤ i * 8192 := thru_abs (fun i hi => (hb i hi).1) fun t => (hz t).2.2
  have bJ : ∀ {i}, i ≤ hs.length → (thruS J X 1 i t).natAbs ≤ i * 8192 := thru_abs (fun i hi => (hb i hi).2) fun t => (hz t).2.2
  obtain ⟨s', q1, x, y, rfl, gx, gy⟩ := loopJ (P := ⟨fnOf, specN, L+1⟩) (C := runF ⟨fnOf, specN, L+1⟩ (n+1)) (L := L) (d := 0) (live := [0, 2, 7, 11, 12, 13]) (π := [5]) (m := m98b0) (A := natSt os hs t 0 0 0) (x := .exit 0)
    (fun i s => ∃ x y, s = natSt os hs t x y i ∧ grid6 (thruS K X 1 i t) x ∧ grid6 (thruS J X 1 i t) y) (fun s => ∃ x y, s = natSt os hs t x y hs.length ∧ grid6 (thruS K X 1 hs.length t) x ∧ grid6 (thruS J X 1 hs.length t) y) hs.length (by simp) rfl (by omega)
    ⟨0, 0, rfl, grid6_zero, grid6_zero⟩ (fun i s hi hst => by
      obtain ⟨x, y, rfl, gx, gy⟩ := hst
      have d2 : Con.holds ⟨fnOf, specN, L+1⟩ (runF ⟨fnOf, specN, L+1⟩ (n+1)) (.el (hs.map celC) (.int .i64 i) [.cpx (hs.getD i (0, 0)).1 (hs.getD i (0, 0)).2]) := elD_map (f := celC) hi
      obtain ⟨g1, g2⟩ := hh i hi
      obtain ⟨b1, b2⟩ := hb i hi
      have hs1 := bK (i := i) (by omega)
      have hs2 := bJ (i := i) (by omega)
      by_cases hit : i ≤ t
      · have w2 : IntKind.wrap .i64 ((t : Int) - (i : Int)) = ((t - i : Nat) : Int) := by rw [show (t : Int) - (i : Int) = ((t - i : Nat) : Int) by omega, wrap_id (by omega)]
        have d1 : Con.holds ⟨fnOf, specN, L+1⟩ (runF ⟨fnOf, specN, L+1⟩ (n+1)) (.el (os.map celC) (.int .i64 (IntKind.wrap .i64 ((t : Int) - (i : Int)))) [.cpx (os.getD (t - i) (0, 0)).1 (os.getD (t - i) (0, 0)).2]) := by rw [w2]; exact elD_map (f := celC) (by omega)
        have dm := @nmu_0 (L+1) n [] [] [] [] [] 0 0 (os.getD (t - i) (0, 0)).1 (os.getD (t - i) (0, 0)).2 (hs.getD i (0, 0)).1 (hs.getD i (0, 0)).2 0 0 false [] []
        have := @natb_0 (L+1) (n+1) [] hs os [] [] 0 t x y 0 0 i 0 false [] [5] (hs.getD i (0, 0)) (os.getD (t - i) (0, 0)) _ _ (by rw [hl]; exact dLt hi) d2 (by rw [w2]; exact dT (by omega)) (by rw [w2, ol]; exact dT (by omega)) d1 (call_den dm)
        rw [wrapUp hi (by omega)] at this
        obtain ⟨z1, z2, z3⟩ := hz (t - i)
        refine ⟨_, this, _, _, rfl, ?_, ?_⟩
        · have p1 : (K i * X (t - i)).natAbs ≤ 8192 := by rw [Int.natAbs_mul]; exact Nat.mul_le_mul b1 z3
          have e : thruS K X 1 (i + 1) t = thruS K X 1 i t + (K i * X (t - i) - J i * 0) := by
            show sg _ (i + 1) = _
            rw [sg, Nat.mul_one, if_pos hit, Int.mul_zero, Int.sub_zero]; rfl
          rw [e, z2]
          exact grid6_add gx (grid6_sub (grid6_mul g1 z1 (by omega)) (grid6_mul g2 intv_nought (by simp)) (by simp; omega)) (by simp; omega)
        · have p1 : (J i * X (t - i)).natAbs ≤ 8192 := by rw [Int.natAbs_mul]; exact Nat.mul_le_mul b2 z3
          have e : thruS J X 1 (i + 1) t = thruS J X 1 i t + (K i * 0 + J i * X (t - i)) := by
            show sg _ (i + 1) = _
            rw [sg, Nat.mul_one, if_pos hit, Int.mul_zero, Int.zero_add]; rfl
          rw [e, z2]
          exact grid6_add gy (grid6_add (grid6_mul g1 intv_nought (by simp)) (grid6_mul g2 z1 (by omega)) (by simp; omega)) (by simp; omega)
      · have w2 : IntKind.wrap .i64 ((t : Int) - (i : Int)) = (t : Int) - (i : Int) := wrap_id (by omega)
        have := @natb_2 (L+1) (n+1) [] hs os [] [] 0 t x y 0 0 i 0 false [] [5] (hs.getD i (0, 0)) (by rw [hl]; exact dLt hi) d2 (by rw [w2]; exact dF (by omega))
        rw [wrapUp hi (by omega)] at this
        have st : ∀ Q : Nat → Int, thruS Q X 1 (i + 1) t = thruS Q X 1 i t := fun Q => by
          show sg _ (i + 1) = _
          rw [sg, Nat.mul_one, if_neg hit, Int.add_zero]; rfl
        exact ⟨_, this, _, _, rfl, by rw [st]; exact gx, by rw [st]; exact gy⟩) (fun s hst => by
      obtain ⟨x, y, rfl, gx, gy⟩ := hst
      exact ⟨_, @natb_3 (L+1) (n+1) [] hs os [] [] 0 t x y 0 0 hs.length 0 false [] [5] (by rw [hl]; exact dNlt), x, y, rfl, gx, gy⟩)
  exact ⟨x, y, @nat_0 (L+1) (n+1) [] hs os [] [] 0 t x y 0 0 hs.length 0 false [] [] q1, gx, gy⟩
/-- Echo of a training -/
theorem echo_den (hh : tapL K J hs) (hA : areT K J hs.length) (hm : hs.length ≤ 64) (hz : ∀ t, intv (X t) (os.getD t (0, 0)).1 ∧ (os.getD t (0, 0)).2 = 0 ∧ (X t).natAbs ≤ 128) (hlz : os.length ≤ 65536) (hL : 65536 ≤ L) :
    ∃ ys : List (Nat × Nat), den ⟨fnOf, specN, L+1⟩ (n+4) 65 [.lst 1 (os.map celC), .lst 1 (hs.map celC), .int .i64 os.length] = some (.tup [.own 1 (ys.map celC) true, .int .i64 0]) ∧ ys.length = os.length ∧
      ∀ t, t < os.length → grid6 (thruS K X 1 hs.length t) (ys.getD t (0, 0)).1 ∧ grid6 (thruS J X 1 hs.length t) (ys.getD t (0, 0)).2 := by
  have ol : (os.map celC).length = os.length := map_len
  have hb : ∀ i, i < hs.length → (K i).natAbs ≤ 64 ∧ (J i).natAbs ≤ 64 := fun i hi => by
    have hB := hA.1 i hi
    unfold tapB at hB
    simpa only [Bool.and_eq_true, decide_eq_true_eq] using hB
  obtain ⟨s', q1, ys, rfl, l1, hy⟩ := loopJ (P := ⟨fnOf, specN, L+1⟩) (C := runF ⟨fnOf, specN, L+1⟩ (n+3)) (L := L) (d := 0) (live := [0, 1, 8, 33, 34]) (π := [28]) (m := m65b0) (A := necSt os hs (List.replicate os.length (0, 0)) os.length 0) (x := .exit 1)
    (fun j s => ∃ ys, s = necSt os hs ys os.length j ∧ ys.length = os.length ∧ ∀ t, t < j → grid6 (thruS K X 1 hs.length t) (ys.getD t (0, 0)).1 ∧ grid6 (thruS J X 1 hs.length t) (ys.getD t (0, 0)).2)
    (fun s => ∃ ys, s = necSt os hs ys os.length os.length ∧ ys.length = os.length ∧ ∀ t, t < os.length → grid6 (thruS K X 1 hs.length t) (ys.getD t (0, 0)).1 ∧ grid6 (thruS J X 1 hs.length t) (ys.getD t (0, 0)).2) os.length (by simp) rfl (by omega)
    ⟨_, rfl, List.length_replicate .., fun t ht => absurd ht (Nat.not_lt_zero _)⟩ (fun j s hj hst => by
      obtain ⟨ys, rfl, l1, hy⟩ := hst
      obtain ⟨a, b, hd, ga, gb⟩ := @at_den L (n+1) hs os K J X j hh hb hm hz hj (by omega) (by omega)
      have ha : Con.holds ⟨fnOf, specN, L+1⟩ (runF ⟨fnOf, specN, L+1⟩ (n+3)) (.at (ys.map celC) (0 + j) [.cpx (ys.getD j (0, 0)).1 (ys.getD j (0, 0)).2]) := by rw [Nat.zero_add]; exact atD_map (f := celC) (by omega)
      have := @necb_0 (L+1) (n+3) ys hs os [] [] 0 0 0 0 0 0 j os.length false [] [28] a b j (ys.getD j (0, 0)) (dLt hj) (call_den hd) (ix_at hj) ha
      rw [wrapUp hj (by omega), Nat.zero_add] at this
      refine ⟨_, this, ys.set j (a, b), ?_, by rw [List.length_set, l1], fun t ht => ?_⟩
      · unfold necSt
        rw [List.map_set]
        rfl
      · rw [getD_sets (by omega)]
        by_cases e : j = t
        · subst e; rw [if_pos rfl]; exact ⟨ga, gb⟩
        · rw [if_neg e]; exact hy t (by omega)) (fun s hst => by
      obtain ⟨ys, rfl, l1, hy⟩ := hst
      exact ⟨_, @necb_1 (L+1) (n+3) ys hs os [] [] 0 0 0 0 0 0 os.length os.length false [] [28] dNlt, ys, rfl, l1, hy⟩)
  have hmk : Con.holds ⟨fnOf, specN, L+1⟩ (runF ⟨fnOf, specN, L+1⟩ (n+3)) (.mk os.length os.length true (List.map celC (List.replicate os.length (0, 0))) (os.length : Int) (os.length : Int) 16 [.cpx 0 0]) :=
    mk_ok (f := celC) (a := (0, 0)) rfl (by simp only [most]; omega) (by simp only [most]; omega)
  have := @nec_5 (L+1) (n+3) ys hs os [] [] 0 os.length 0 0 0 0 os.length os.length false [] [] true true os.length (by rw [ol]; exact dF (by omega)) (dF (by omega)) (dF (by omega)) (call_den (@owns_den L n os X hz (by omega) (by omega))) rfl (call_den (@ntaps_den L n hs K J hh hA hm (by omega))) rfl hmk q1 (by show _ ≤ _; rw [show List.length (ys.map celC) = _ from map_len]; omega)
  rw [tkMap l1.symm] at this
  exact ⟨ys, this, l1, hy⟩
theorem taken_den {a b x y : Nat} {c : Bool} (h0 : c = false) (h1 : onF (fadd a x) = true) (h2 : onF (fadd b y) = true) : den ⟨fnOf, specN, L⟩ (n+1) 87 [.agg [.cpx a b, .v (.bool c)], .cpx x y] = some (.agg [.cpx (fadd a x) (fadd b y), .v (.bool false)]) := by
  subst h0
  exact @ntk_3 L n [] [] [] [] [] 0 0 x y a b 0 0 false [] [] rfl (by rw [h1]; rfl) (by rw [h2]; rfl)
variable {ss : List ((Nat × Nat) × Bool)} {νR νI : Nat → Int}
/-- Off, where nothing but a small disturbance came beside the echo -/
theorem off_den (hh : tapL K J hs) (hA : areT K J hs.length) (hm : hs.length ≤ 64) (hz : ∀ t, intv (X t) (os.getD t (0, 0)).1 ∧ (os.getD t (0, 0)).2 = 0 ∧ (X t).natAbs ≤ 128) (hlz : os.length ≤ 65536) (hL : 65536 ≤ L) (hss : ss.length = os.length)
    (hc : ∀ i, i < ss.length → mayF (ss.getD i ((0, 0), false)) = true)
    (hv : ∀ t, t < os.length → (ss.getD t ((0, 0), false)).2 = false ∧ grid (64 * thruS K X 1 hs.length t + νR t) (ss.getD t ((0, 0), false)).1.1 ∧ grid (64 * thruS J X 1 hs.length t + νI t) (ss.getD t ((0, 0), false)).1.2 ∧ (νR t).natAbs ≤ 4095 ∧ (νI t).natAbs ≤ 4095) :
    ∃ rs : List ((Nat × Nat) × Bool), den ⟨fnOf, specN, L+1⟩ (n+6) 46 [.lst 2 (ss.map celS), .lst 1 (os.map celC), .lst 1 (hs.map celC)] = some (.tup [.own 2 (rs.map celS) true, .int .i64 0]) ∧ rs.length = os.length ∧
      ∀ t, t < os.length → (rs.getD t ((0, 0), false)).2 = false ∧ grid (νR t) (rs.getD t ((0, 0), false)).1.1 ∧ grid (νI t) (rs.getD t ((0, 0), false)).1.2 := by
  have sl : (ss.map celS).length = ss.length := map_len
  have ol : (os.map celC).length = os.length := map_len
  obtain ⟨ys, hd, yl, hy⟩ := @echo_den L n hs os K J X hh hA hm hz hlz hL
  have yml : List.length (ys.map celC) = ys.length := map_len
  obtain ⟨s', q1, rs, rfl, l1, hr⟩ := loopJ (P := ⟨fnOf, specN, L+1⟩) (C := runF ⟨fnOf, specN, L+1⟩ (n+4)) (L := L) (d := 0) (live := [3, 12, 14, 47, 48, 49]) (π := [38]) (m := m81b0) (A := nboSt ss ys os.length (List.replicate os.length ((0, 0), false)) 0) (x := .exit 0)
    (fun j s => ∃ rs, s = nboSt ss ys os.length rs j ∧ rs.length = os.length ∧ ∀ t, t < j → (rs.getD t ((0, 0), false)).2 = false ∧ grid (νR t) (rs.getD t ((0, 0), false)).1.1 ∧ grid (νI t) (rs.getD t ((0, 0), false)).1.2)
    (fun s => ∃ rs, s = nboSt ss ys os.length rs os.length ∧ rs.length = os.length ∧ ∀ t, t < os.length → (rs.getD t ((0, 0), false)).2 = false ∧ grid (νR t) (rs.getD t ((0, 0), false)).1.1 ∧ grid (νI t) (rs.getD t ((0, 0), false)).1.2) os.length (by simp) rfl (by omega)
    ⟨_, rfl, List.length_replicate .., fun t ht => absurd ht (Nat.not_lt_zero _)⟩ (fun j s hj hst => by
      obtain ⟨rs, rfl, l1, hr⟩ := hst
      obtain ⟨v0, v1, v2, v3, v4⟩ := hv j hj
      obtain ⟨y1, y2⟩ := hy j hj
      have g1 : grid (νR j) (fadd (ss.getD j ((0, 0), false)).1.1 (fneg (ys.getD j (0, 0)).1)) := by
        have := grid_add v1 (grid6_grid (grid6_neg y1)) (by rw [show 64 * thruS K X 1 hs.length j + νR j + 64 * -thruS K X 1 hs.length j = νR j by omega]; omega)
        rw [show 64 * thruS K X 1 hs.length j + νR j + 64 * -thruS K X 1 hs.length j = νR j by omega] at this
        exact this
      have g2 : grid (νI j) (fadd (ss.getD j ((0, 0), false)).1.2 (fneg (ys.getD j (0, 0)).2)) := by
        have := grid_add v2 (grid6_grid (grid6_neg y2)) (by rw [show 64 * thruS J X 1 hs.length j + νI j + 64 * -thruS J X 1 hs.length j = νI j by omega]; omega)
        rw [show 64 * thruS J X 1 hs.length j + νI j + 64 * -thruS J X 1 hs.length j = νI j by omega] at this
        exact this
      have dt := @taken_den (L+1) (n+3) _ _ _ _ _ v0 (grid_may g1 (by omega)).1 (grid_may g2 (by omega)).1
      have dn := @nom_0 (L+1) (n+3) [] [] [] [] [] 0 0 0 0 (ys.getD j (0, 0)).1 (ys.getD j (0, 0)).2 0 0 false [] []
      have ha : Con.holds ⟨fnOf, specN, L+1⟩ (runF ⟨fnOf, specN, L+1⟩ (n+4)) (.at (rs.map celS) (0 + j) [.cpx (rs.getD j ((0, 0), false)).1.1 (rs.getD j ((0, 0), false)).1.2, .v (.bool (rs.getD j ((0, 0), false)).2)]) := by rw [Nat.zero_add]; exact atD_map (f := celS) (by omega)
      have hay : Con.holds ⟨fnOf, specN, L+1⟩ (runF ⟨fnOf, specN, L+1⟩ (n+4)) (.at (ys.map celC) (0 + j) [.cpx (ys.getD j (0, 0)).1 (ys.getD j (0, 0)).2]) := by rw [Nat.zero_add]; exact atD_map (f := celC) (by omega)
      have := @nbob_0 (L+1) (n+4) ys [] [] ss rs 0 0 0 0 0 0 j os.length false [] [38] (ss.getD j ((0, 0), false)) j (ys.getD j (0, 0)) _ _ _ _ false j (rs.getD j ((0, 0), false)) (by rw [sl]; exact dLt (by omega)) (elD_map (f := celS) (by omega)) (by rw [yml]; exact ix_at (by omega)) hay (call_den dn) (call_den dt) (ix_at hj) ha
      rw [wrapUp hj (by omega), Nat.zero_add] at this
      refine ⟨_, this, rs.set j ((fadd (ss.getD j ((0, 0), false)).1.1 (fneg (ys.getD j (0, 0)).1), fadd (ss.getD j ((0, 0), false)).1.2 (fneg (ys.getD j (0, 0)).2)), false), ?_, by rw [List.length_set, l1], fun t ht => ?_⟩
      · unfold nboSt
        rw [List.map_set]
        rfl
      · rw [getD_sets (by omega)]
        by_cases e : j = t
        · subst e; rw [if_pos rfl]; exact ⟨rfl, g1, g2⟩
        · rw [if_neg e]; exact hr t (by omega)) (fun s hst => by
      obtain ⟨rs, rfl, l1, hr⟩ := hst
      exact ⟨_, @nbob_1 (L+1) (n+4) ys [] [] ss rs 0 0 0 0 0 0 os.length os.length false [] [38] (by rw [sl, hss]; exact dNlt), rs, rfl, l1, hr⟩)
  have hmk : Con.holds ⟨fnOf, specN, L+1⟩ (runF ⟨fnOf, specN, L+1⟩ (n+4)) (.mk os.length os.length true (List.map celS (List.replicate os.length ((0, 0), false))) ((ss.map celS).length : Int) ((ss.map celS).length : Int) 24 [.cpx 0 0, .v (.bool false)]) := by
    rw [sl, hss]
    exact mk_ok (f := celS) (a := ((0, 0), false)) rfl (by simp only [most]; omega) (by simp only [most]; omega)
  have hck := spec_is (P := ⟨fnOf, specN, L+1⟩) (C := runF ⟨fnOf, specN, L+1⟩ (n+4)) (f := 73) rfl (chkSemS_at ss)
  have hc0 : (chkW ss).2 = 0 := (chkW_is ss).1.1.2 ⟨by omega, hc⟩
  have hd' := call_den (P := ⟨fnOf, specN, L+1⟩) hd
  rw [show ((os.length : Nat) : Int) = ((ss.map celS).length : Int) by rw [sl, hss]] at hd'
  have := @nbo_4 (L+1) (n+4) ys hs os ss rs 0 0 0 0 0 0 os.length os.length false [] [] (chkW ss).1 (chkW ss).2 ys 0 os.length (by rw [sl]; exact dF (by omega)) (by rw [ol]; exact dF (by omega)) hck (by rw [hc0]; rfl) hd' rfl hmk q1 (by show _ ≤ _; rw [show List.length (rs.map celS) = _ from map_len]; omega)
  rw [tkMap l1.symm] at this
  have fin := @nof_0 (L+1) (n+5) [] hs os ss [] 0 0 0 0 0 0 0 0 false [] [] rs 0 (call_den this) leSelf
  rw [tkMap map_len] at fin
  exact ⟨rs, fin, l1, hr⟩
end
end Go.Proofs.Ythcgeajojgecnaa.Fw
