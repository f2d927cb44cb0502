/- TrainTaught: the law's loops: the taps, the calm row, the rough row. -/
import Derived.Test.YtldkgfbgndkbdaaLwTtC
set_option maxRecDepth 100000
set_option maxHeartbeats 4000000
set_option exponentiation.threshold 4000
set_option linter.unusedSimpArgs false
set_option linter.unusedVariables false
namespace Go.Proofs.Ytldkgfbgndkbdaa.Fw
open Go Go.RowKit
def Kp (ps : List Int) (i : Nat) : Int := (IntKind.wrap .i64 (ps.getD (2 * i) 0)).tmod 65
def Jp (ps : List Int) (i : Nat) : Int := (IntKind.wrap .i64 (ps.getD (2 * i + 1) 0)).tmod 65
def tapZ (ps : List Int) (i : Nat) : Nat × Nat := (fdiv (fofInt (Kp ps i)) 4634204016564240384, fdiv (fofInt (Jp ps i)) 4634204016564240384)
theorem tmod_le (x : Int) {m : Int} (hm : 0 < m) : (x.tmod m).natAbs < m.natAbs := by
  have h1 := Int.natAbs_tmod x m
  rw [h1]
  exact Nat.mod_lt _ (by omega)
theorem KJ_small (ps : List Int) (i : Nat) : (Kp ps i).natAbs ≤ 64 ∧ (Jp ps i).natAbs ≤ 64 := by
  have h1 := tmod_le (IntKind.wrap .i64 (ps.getD (2 * i) 0)) (m := 65) (by decide)
  have h2 := tmod_le (IntKind.wrap .i64 (ps.getD (2 * i + 1) 0)) (m := 65) (by decide)
  unfold Kp Jp
  omega
theorem tapZ_is (ps : List Int) (i : Nat) : grid6 (Kp ps i) (tapZ ps i).1 ∧ grid6 (Jp ps i) (tapZ ps i).2 := by
  obtain ⟨h1, h2⟩ := KJ_small ps i
  have a1 : (Kp ps i).natAbs < 2 ^ 53 := by omega
  have a2 : (Jp ps i).natAbs < 2 ^ 53 := by omega
  obtain ⟨g1, g2⟩ := fofInt_exact a1
  obtain ⟨g3, g4⟩ := fofInt_exact a2
  exact ⟨whole_div6 a1 g1 g2, whole_div6 a2 g3 g4⟩
theorem taps_tab (ps : List Int) (k : Nat) : tapL (Kp ps) (Jp ps) (tab (tapZ ps) k) := by
  intro j hj
  rw [tab_len] at hj
  rw [tab_at hj]
  exact tapZ_is ps j
section
variable {L n : Nat} {o ah : Int} {R G : Nat} {ps : List Int} {ns : List (Int × Int)}
theorem taps_loop (hR8 : R ≤ 8) (hG : G ≤ 4096) (hL : 64 ≤ L) : ∃ k hs st, Con.holds ⟨fnOf, specU, L+1⟩ (runF ⟨fnOf, specU, L+1⟩ (n+1)) (.loop 0 [1, 2, 3, 4, 9, 10] m9b2 [9] (tthSt o R G ah ps ns [] [9] 0 0) (.exit 0) (tthSt o R G ah ps ns hs st k (2 * k))) ∧
    hs.take k = tab (tapZ ps) k ∧ k ≤ hs.length ∧ k ≤ 64 ∧ (k ≠ 0 → k * R ≤ G + R ∧ areT (Kp ps) (Jp ps) k) := by
  have pl : (ps.map celJ).length = ps.length := map_len
  -- the rounds' calls
  have ask : ∀ i, i < 64 → Con.holds ⟨fnOf, specU, L+1⟩ (runF ⟨fnOf, specU, L+1⟩ (n+1)) (.spec 35 [.lst 1 (cutX ((tab (tapZ ps) i).map celC ++ [[.cpx (tapZ ps i).1 (tapZ ps i).2]]) 0 (i + 1))] (.v (.bool (decide (areT (Kp ps) (Jp ps) (i + 1)))))) := fun i hi => by
    have e : cutX ((tab (tapZ ps) i).map celC ++ [[.cpx (tapZ ps i).1 (tapZ ps i).2]]) 0 (i + 1) = (tab (tapZ ps) (i + 1)).map celC := by
      have : (tab (tapZ ps) i).map celC ++ [[.cpx (tapZ ps i).1 (tapZ ps i).2]] = (tab (tapZ ps) (i + 1)).map celC := by rw [tab_up, List.map_append]; rfl
      rw [this]; exact tkMap tab_len.symm
    rw [e]
    have d := @areTaps_den 65536 0 (tab (tapZ ps) (i + 1)) (Kp ps) (Jp ps) (taps_tab ps _) (fun q _ => by have := KJ_small ps q; omega) (by rw [tab_len]; omega) (by omega)
    rw [tab_len] at d
    have e2 : decide (1 ≤ i + 1 ∧ areT (Kp ps) (Jp ps) (i + 1)) = decide (areT (Kp ps) (Jp ps) (i + 1)) := decide_eq_decide.2 ⟨fun h => h.2, fun h => ⟨by omega, h⟩⟩
    rw [e2] at d
    exact spec_is (P := ⟨fnOf, specU, L+1⟩) (C := runF ⟨fnOf, specU, L+1⟩ (n+1)) (f := 35) rfl d
  have el : ∀ i, i < ps.length → Con.holds ⟨fnOf, specU, L+1⟩ (runF ⟨fnOf, specU, L+1⟩ (n+1)) (.el (ps.map celJ) (.int .i64 i) [.int .i8 (ps.getD i 0)]) := fun i hi => elD_map (f := celJ) hi
  have tp : ∀ i, Con.holds ⟨fnOf, specU, L+1⟩ (runF ⟨fnOf, specU, L+1⟩ (n+1)) (.call 34 [.int .i8 (ps.getD (2 * i) 0), .int .i8 (ps.getD (2 * i + 1) 0)] (.cpx (tapZ ps i).1 (tapZ ps i).2)) := fun i => call_den (@tta_0 (L+1) n 0 0 0 0 0 [] [] [] [] [] [] [] 0 0 0 0 0 0 0 [] [] [] (ps.getD (2 * i) 0) (ps.getD (2 * i + 1) 0))
  have hp : ∀ i, i < 64 → Con.holds ⟨fnOf, specU, L+1⟩ (runF ⟨fnOf, specU, L+1⟩ (n+1)) (.push i 1 16 ((tab (tapZ ps) i).map celC)) := fun i hi => push_ok (by rw [map_len, tab_len]) (by simp only [most]; omega)
  have w2 : ∀ i : Nat, IntKind.wrap .i64 (((2 * i : Nat) : Int) + 1) = ((2 * i + 1 : Nat) : Int) ∨ 64 < i := fun i => by
    by_cases h : i ≤ 64
    · left; rw [show ((2 * i : Nat) : Int) + 1 = ((2 * i + 1 : Nat) : Int) by omega, wrap_id (by omega)]
    · right; omega
  have w3 : ∀ i : Nat, i ≤ 64 → IntKind.wrap .i64 (IntKind.wrap .i64 ((i : Int) + 1) * (R : Int)) = (((i + 1) * R : Nat) : Int) ∧ IntKind.wrap .i64 ((G : Int) + (R : Int)) = ((G + R : Nat) : Int) := fun i hi => by
    have hle : (i + 1) * R ≤ 65 * 8 := Nat.mul_le_mul (by omega) hR8
    rw [wrap_id (n := (i : Int) + 1) (by omega), show ((i : Int) + 1) * (R : Int) = (((i + 1) * R : Nat) : Int) by rw [Int.natCast_mul]; rfl, wrap_id (by omega), show (G : Int) + (R : Int) = ((G + R : Nat) : Int) by omega, wrap_id (by omega)]
    exact ⟨rfl, rfl⟩
  have lel : ∀ i, Con.holds ⟨fnOf, specU, L+1⟩ (runF ⟨fnOf, specU, L+1⟩ (n+1)) (.le (0 + (i + 1)) (List.length ((tab (tapZ ps) i).map celC ++ [[.cpx (tapZ ps i).1 (tapZ ps i).2]]))) := fun i => by
    show _ ≤ _
    rw [List.length_append, show List.length ((tab (tapZ ps) i).map celC) = i from by rw [map_len, tab_len]]
    simp
  rcases firstN (fun i => decide (2 * i + 1 < ps.length) && decide (i < 64) && decide ((i + 1) * R ≤ G + R) && decide (areT (Kp ps) (Jp ps) (i + 1))) 65 with hall | ⟨k, hk, hgo, hno⟩
  · have := hall 64 (by omega)
    simp at this
  have hgo : ∀ i, i < k → 2 * i + 1 < ps.length ∧ i < 64 ∧ (i + 1) * R ≤ G + R ∧ areT (Kp ps) (Jp ps) (i + 1) := fun i hi => by
    have := hgo i hi
    simp only [Bool.and_eq_true, decide_eq_true_eq] at this
    exact ⟨this.1.1.1, this.1.1.2, this.1.2, this.2⟩
  have k64 : k ≤ 64 := by omega
  have fin1 : k ≠ 0 → k * R ≤ G + R ∧ areT (Kp ps) (Jp ps) k := fun h0 => by
    obtain ⟨_, _, a, b⟩ := hgo (k - 1) (by omega)
    rw [show k - 1 + 1 = k by omega] at a b
    exact ⟨a, b⟩
  obtain ⟨s', q1, hs, st, rfl, e1, e2⟩ := loopJ (P := ⟨fnOf, specU, L+1⟩) (C := runF ⟨fnOf, specU, L+1⟩ (n+1)) (L := L) (d := 0) (live := [1, 2, 3, 4, 9, 10]) (π := [9]) (m := m9b2) (A := tthSt o R G ah ps ns [] [9] 0 0) (x := .exit 0)
    (fun i s => ∃ st, s = tthSt o R G ah ps ns (tab (tapZ ps) i) st i (2 * i)) (fun s => ∃ hs st, s = tthSt o R G ah ps ns hs st k (2 * k) ∧ hs.take k = tab (tapZ ps) k ∧ k ≤ hs.length) k (by simp) rfl (by omega) ⟨[9], rfl⟩ (fun i s hi hst => by
      obtain ⟨st, rfl⟩ := hst
      obtain ⟨a1, a2, a3, a4⟩ := hgo i hi
      have w2' := (w2 i).resolve_right (by omega)
      obtain ⟨w3', w4'⟩ := w3 i (by omega)
      have hask := ask i a2
      rw [decide_eq_true a4] at hask
      have := @tth_1 (L+1) (n+1) o R G ah 0 ps ns (tab (tapZ ps) i) [] [] [] [] 0 0 (2 * i) i i 0 0 st [] [9] (ps.getD (2 * i) 0) (ps.getD (2 * i + 1) 0) (tapZ ps i).1 (tapZ ps i).2 true
        (by rw [w2', pl]; exact dT (by omega)) (dT (by omega)) (by rw [w3', w4']; exact dT (by omega)) (el _ (by omega)) (by rw [w2']; exact el _ (by omega)) (tp i) (hp i a2) hask (lel i) rfl
      have w5 : IntKind.wrap .i64 (((2 * i : Nat) : Int) + 2) = ((2 * (i + 1) : Nat) : Int) := by rw [show ((2 * i : Nat) : Int) + 2 = ((2 * (i + 1) : Nat) : Int) by omega, wrap_id (by omega)]
      rw [w5] at this
      refine ⟨_, seeZ_go this, [36, i, 9], ?_⟩
      unfold tthSt
      rw [tab_up, List.map_append]
      rfl) (fun s hst => by
      obtain ⟨st, rfl⟩ := hst
      have lk : (tab (tapZ ps) k).take k = tab (tapZ ps) k := List.take_of_length_le (by rw [tab_len]; exact Nat.le_refl _)
      have ll : k ≤ (tab (tapZ ps) k).length := by rw [tab_len]; exact Nat.le_refl _
      have w2' := (w2 k).resolve_right (by omega)
      by_cases c1 : 2 * k + 1 < ps.length
      · by_cases c2 : k < 64
        · obtain ⟨w3', w4'⟩ := w3 k (by omega)
          by_cases c3 : (k + 1) * R ≤ G + R
          · have c4 : ¬ areT (Kp ps) (Jp ps) (k + 1) := by
              have h : (decide (2 * k + 1 < ps.length) && decide (k < 64) && decide ((k + 1) * R ≤ G + R) && decide (areT (Kp ps) (Jp ps) (k + 1))) = false := hno
              rw [decide_eq_true c1, decide_eq_true c2, decide_eq_true c3] at h
              simpa using h
            have hask := ask k c2
            rw [decide_eq_false c4] at hask
            have w6 : IntKind.wrap .i64 (((k + 1 : Nat) : Int) - 1) = ((k : Nat) : Int) := by rw [show ((k + 1 : Nat) : Int) - 1 = (k : Int) by omega, wrap_id (by omega)]
            have hsl : Con.holds ⟨fnOf, specU, L+1⟩ (runF ⟨fnOf, specU, L+1⟩ (n+1)) (.sl (some 1) (.slc ⟨0,9,1000⟩ ([36, k] ++ [9]) 1 0 (k + 1) false) none (some (.int .i64 (IntKind.wrap .i64 (((k + 1 : Nat) : Int) - 1)))) none (.slc ⟨0,9,1000⟩ [36, k, 9] 1 0 k false)) := by
              rw [w6]
              have := @sl_zero ⟨fnOf, specU, L+1⟩ (runF ⟨fnOf, specU, L+1⟩ (n+1)) 1 k 0 (k + 1) ⟨0,9,1000⟩ [36, k, 9] false (by omega)
              rw [Bool.false_and] at this
              exact this
            refine ⟨_, seeZ_go (@tth_0 (L+1) (n+1) o R G ah 0 ps ns (tab (tapZ ps) k) [] [] [] [] 0 0 (2 * k) k k 0 0 st [36, k, 9] [9] (ps.getD (2 * k) 0) (ps.getD (2 * k + 1) 0) (tapZ ps k).1 (tapZ ps k).2 false
              (by rw [w2', pl]; exact dT (by omega)) (dT (by omega)) (by rw [w3', w4']; exact dT (by omega)) (el _ (by omega)) (by rw [w2']; exact el _ (by omega)) (tp k) (hp k c2) hask (lel k) rfl hsl), tab (tapZ ps) (k + 1), [36, k, 9], ?_, ?_, ?_⟩
            · unfold tthSt
              rw [tab_up, List.map_append]
              rfl
            · rw [tab_up, List.take_append_of_le_length ll, lk]
            · rw [tab_len]; omega
          · exact ⟨_, seeZ_go (@tth_2 (L+1) (n+1) o R G ah 0 ps ns (tab (tapZ ps) k) [] [] [] [] 0 0 (2 * k) k k 0 0 st [] [9] (by rw [w2', pl]; exact dT (by omega)) (dT (by omega)) (by rw [w3', w4']; exact dF (by omega))), _, st, rfl, lk, ll⟩
        · exact ⟨_, seeZ_go (@tth_3 (L+1) (n+1) o R G ah 0 ps ns (tab (tapZ ps) k) [] [] [] [] 0 0 (2 * k) k k 0 0 st [] [9] (by rw [w2', pl]; exact dT (by omega)) (dF (by omega))), _, st, rfl, lk, ll⟩
      · exact ⟨_, seeZ_go (@tth_4 (L+1) (n+1) o R G ah 0 ps ns (tab (tapZ ps) k) [] [] [] [] 0 0 (2 * k) k k 0 0 st [] [9] (by rw [w2', pl]; exact dF (by omega))), _, st, rfl, lk, ll⟩)
  exact ⟨k, hs, st, q1, e1, e2, k64, fin1⟩
end
section
variable {L n : Nat} {o g : Int} {R A w M : Nat} {ns : List (Int × Int)} {hs H zs : List (Nat × Nat)} {st : List Nat} {K J X : Nat → Int}
/-- what stands at a place of the calm row -/
def calmS (K X : Nat → Int) (R M A z t : Nat) : Int := if A ≤ t ∧ t < A + z then thruS K X R M (t - A) else 0
theorem calm_loop (hH : hs.take w = H) (hw : w ≤ hs.length) (hh : tapL K J H) (hb : ∀ i, i < H.length → (K i).natAbs ≤ 64 ∧ (J i).natAbs ≤ 64) (hm : H.length ≤ 64) (hR8 : R ≤ 8) (hz : ∀ t, intv (X t) (zs.getD t (0, 0)).1 ∧ (zs.getD t (0, 0)).2 = 0 ∧ (X t).natAbs ≤ 128)
    (hA : A ≤ 99) (hlz : zs.length ≤ 13000) (hL : 13000 ≤ L) : ∃ xs, Con.holds ⟨fnOf, specU, L+1⟩ (runF ⟨fnOf, specU, L+1⟩ (n+1)) (.loop 0 [2, 3, 4, 9, 11, 12, 14, 15] m9b1 [48] (ttcSt o R g A ns hs zs st w (A + zs.length) (List.replicate (A + zs.length) ((0, 0), false)) 0) (.exit 2) (ttcSt o R g A ns hs zs st w (A + zs.length) xs zs.length)) ∧
      xs.length = A + zs.length ∧ ∀ t, (xs.getD t ((0, 0), false)).2 = false ∧ grid6 (calmS K X R H.length A zs.length t) (xs.getD t ((0, 0), false)).1.1 ∧ grid6 (calmS J X R H.length A zs.length t) (xs.getD t ((0, 0), false)).1.2 := by
  have zl : (zs.map celC).length = zs.length := map_len
  have ch : cutX (hs.map celC) 0 w = H.map celC := by rw [cutM, hH]
  have cz : cutX (zs.map celC) 0 (List.length (zs.map celC)) = zs.map celC := cutAll
  obtain ⟨s', q1, xs, rfl, l1, hx⟩ := loopJ (P := ⟨fnOf, specU, L+1⟩) (C := runF ⟨fnOf, specU, L+1⟩ (n+1)) (L := L) (d := 0) (live := [2, 3, 4, 9, 11, 12, 14, 15]) (π := [48]) (m := m9b1) (A := ttcSt o R g A ns hs zs st w (A + zs.length) (List.replicate (A + zs.length) ((0, 0), false)) 0) (x := .exit 2)
    (fun j s => ∃ xs, s = ttcSt o R g A ns hs zs st w (A + zs.length) xs j ∧ xs.length = A + zs.length ∧ ∀ t, (xs.getD t ((0, 0), false)).2 = false ∧ grid6 (calmS K X R H.length A j t) (xs.getD t ((0, 0), false)).1.1 ∧ grid6 (calmS J X R H.length A j t) (xs.getD t ((0, 0), false)).1.2)
    (fun s => ∃ xs, s = ttcSt o R g A ns hs zs st w (A + zs.length) xs zs.length ∧ xs.length = A + zs.length ∧ ∀ t, (xs.getD t ((0, 0), false)).2 = false ∧ grid6 (calmS K X R H.length A zs.length t) (xs.getD t ((0, 0), false)).1.1 ∧ grid6 (calmS J X R H.length A zs.length t) (xs.getD t ((0, 0), false)).1.2) zs.length (by simp) rfl (by omega)
    ⟨_, rfl, List.length_replicate, fun t => by
      have e : (List.replicate (A + zs.length) (((0, 0), false) : (Nat × Nat) × Bool)).getD t ((0, 0), false) = ((0, 0), false) := by
        rw [List.getD_eq_getElem?_getD, List.getElem?_replicate]; split <;> rfl
      rw [e]
      unfold calmS
      rw [if_neg (by omega), if_neg (by omega)]
      exact ⟨rfl, grid6_zero, grid6_zero⟩⟩ (fun j s hj hst => by
      obtain ⟨xs, rfl, l1, hx⟩ := hst
      obtain ⟨a, b, d, ga, gb⟩ := @answer_den L n H zs K J X R j hh hb hm hR8 hz hj (by omega) (by omega)
      have wA : IntKind.wrap .i64 ((A : Int) + (j : Int)) = ((A + j : Nat) : Int) := by rw [show (A : Int) + (j : Int) = ((A + j : Nat) : Int) by omega, wrap_id (by omega)]
      have ha : Con.holds ⟨fnOf, specU, L+1⟩ (runF ⟨fnOf, specU, L+1⟩ (n+1)) (.at (xs.map celS) (0 + (A + j)) [.cpx (xs.getD (A + j) ((0, 0), false)).1.1 (xs.getD (A + j) ((0, 0), false)).1.2, .v (.bool (xs.getD (A + j) ((0, 0), false)).2)]) := by rw [Nat.zero_add]; exact atD_map (f := celS) (by omega)
      have := @ttc_0 (L+1) (n+1) o R g 0 A [] ns hs zs [] xs [] (A + zs.length) 0 0 j w 0 0 st [] [48] a b (A + j) (xs.getD (A + j) ((0, 0), false)) (by rw [zl]; exact dLt hj) (by rw [ch, cz]; exact call_den d) (by show _ ≤ _; rw [show List.length (hs.map celC) = _ from map_len]; omega) leOut (by rw [wA]; exact ix_at (by omega)) ha
      rw [wrapUp hj (by omega), Nat.zero_add, (hx (A + j)).1] at this
      refine ⟨_, this, xs.set (A + j) ((a, b), false), ?_, by rw [List.length_set, l1], fun t => ?_⟩
      · unfold ttcSt
        rw [List.map_set]
        rfl
      · rw [getD_sets (by omega)]
        by_cases e : A + j = t
        · subst e
          rw [if_pos rfl]
          unfold calmS
          rw [if_pos (by omega), if_pos (by omega), Nat.add_sub_cancel_left]
          exact ⟨rfl, ga, gb⟩
        · rw [if_neg e]
          have := hx t
          unfold calmS at this ⊢
          by_cases c : A ≤ t ∧ t < A + j
          · rw [if_pos c, if_pos c] at this
            rw [if_pos (by omega), if_pos (by omega)]
            exact this
          · rw [if_neg c, if_neg c] at this
            rw [if_neg (by omega), if_neg (by omega)]
            exact this) (fun s hst => by
      obtain ⟨xs, rfl, l1, hx⟩ := hst
      exact ⟨_, @ttc_1 (L+1) (n+1) o R g 0 A [] ns hs zs [] xs [] (A + zs.length) 0 0 zs.length w 0 0 st [] [48] (by rw [zl]; exact dNlt), xs, rfl, l1, hx⟩)
  exact ⟨xs, q1, l1, hx⟩
/-- the disturbance at a place -/
def nzR (ns : List (Int × Int)) (t : Nat) : Int := (ns.getD (t % ns.length) (0, 0)).1.tmod 4096
def nzI (ns : List (Int × Int)) (t : Nat) : Int := (ns.getD (t % ns.length) (0, 0)).2.tmod 4096
theorem rough_loop {xs : List ((Nat × Nat) × Bool)} {cR cI : Nat → Int} (hx : ∀ t, (xs.getD t ((0, 0), false)).2 = false ∧ grid (cR t) (xs.getD t ((0, 0), false)).1.1 ∧ grid (cI t) (xs.getD t ((0, 0), false)).1.2) (hc : ∀ t, (cR t).natAbs ≤ 2 ^ 21 ∧ (cI t).natAbs ≤ 2 ^ 21)
    (hl : xs.length ≤ 14000) (hL : 14000 ≤ L) : ∃ (ys : List ((Nat × Nat) × Bool)) (q : Nat) (νR νI : Nat → Int), Con.holds ⟨fnOf, specU, L+1⟩ (runF ⟨fnOf, specU, L+1⟩ (n+1)) (.loop 0 [2, 3, 9, 11, 14, 16, 17] m9b0 [54] (ttrSt o R g A ns hs st w xs.length xs xs xs.length 0) (.exit 4) (ttrSt o R g A ns hs st w xs.length xs ys xs.length q)) ∧
      ys.length = xs.length ∧ ∀ t, (ys.getD t ((0, 0), false)).2 = false ∧ grid (cR t + νR t) (ys.getD t ((0, 0), false)).1.1 ∧ grid (cI t + νI t) (ys.getD t ((0, 0), false)).1.2 ∧ (νR t).natAbs ≤ 4095 ∧ (νI t).natAbs ≤ 4095 := by
  have nl : (ns.map celZ).length = ns.length := map_len
  by_cases h0 : ns.length = 0
  · refine ⟨xs, 0, fun _ => 0, fun _ => 0, ?_, rfl, fun t => ⟨(hx t).1, by rw [Int.add_zero]; exact (hx t).2.1, by rw [Int.add_zero]; exact (hx t).2.2, Nat.zero_le _, Nat.zero_le _⟩⟩
    have e2 : rnd 0 [2, 3, 9, 11, 14, 16, 17] (bodyOf ⟨fnOf, specU, L+1⟩ (runF ⟨fnOf, specU, L+1⟩ (n+1)) 0 m9b0 (0 :: [54]) (ttrSt o R g A ns hs st w xs.length xs xs xs.length 0)) = some (.exit 4, ttrSt o R g A ns hs st w xs.length xs xs xs.length 0) := by
      by_cases hz : xs.length = 0
      · exact @ttr_2 (L+1) (n+1) o R g 0 A [] ns hs [] [] xs xs xs.length 0 0 0 w xs.length 0 st [] [54] (dF (by omega))
      · exact @ttr_1 (L+1) (n+1) o R g 0 A [] ns hs [] [] xs xs xs.length 0 0 0 w xs.length 0 st [] [54] (dT (by omega)) (by rw [nl]; exact dF (by omega))
    exact loop0 (fun _ => ttrSt o R g A ns hs st w xs.length xs xs xs.length 0) 0 rfl (Nat.zero_le _) (fun i hi => absurd hi (Nat.not_lt_zero _)) e2 (by simp)
  · have small : ∀ t, (nzR ns t).natAbs ≤ 4095 ∧ (nzI ns t).natAbs ≤ 4095 := fun t => by
      have h1 := tmod_le (ns.getD (t % ns.length) (0, 0)).1 (m := 4096) (by decide)
      have h2 := tmod_le (ns.getD (t % ns.length) (0, 0)).2 (m := 4096) (by decide)
      unfold nzR nzI
      omega
    obtain ⟨s', q1, ys, rfl, l1, hy⟩ := loopJ (P := ⟨fnOf, specU, L+1⟩) (C := runF ⟨fnOf, specU, L+1⟩ (n+1)) (L := L) (d := 0) (live := [2, 3, 9, 11, 14, 16, 17]) (π := [54]) (m := m9b0) (A := ttrSt o R g A ns hs st w xs.length xs xs xs.length 0) (x := .exit 4)
      (fun j s => ∃ ys, s = ttrSt o R g A ns hs st w xs.length xs ys xs.length j ∧ ys.length = xs.length ∧ ∀ t, (ys.getD t ((0, 0), false)).2 = false ∧ grid (cR t + if t < j then nzR ns t else 0) (ys.getD t ((0, 0), false)).1.1 ∧ grid (cI t + if t < j then nzI ns t else 0) (ys.getD t ((0, 0), false)).1.2)
      (fun s => ∃ ys, s = ttrSt o R g A ns hs st w xs.length xs ys xs.length xs.length ∧ ys.length = xs.length ∧ ∀ t, (ys.getD t ((0, 0), false)).2 = false ∧ grid (cR t + if t < xs.length then nzR ns t else 0) (ys.getD t ((0, 0), false)).1.1 ∧ grid (cI t + if t < xs.length then nzI ns t else 0) (ys.getD t ((0, 0), false)).1.2) xs.length (by simp) rfl (by omega)
      ⟨xs, rfl, rfl, fun t => by rw [if_neg (Nat.not_lt_zero _), if_neg (Nat.not_lt_zero _), Int.add_zero, Int.add_zero]; exact hx t⟩ (fun j s hj hst => by
        obtain ⟨ys, rfl, l1, hy⟩ := hst
        have ht : ((j : Int).tmod ((ns.length : Nat) : Int)) = ((j % ns.length : Nat) : Int) := by rw [Int.ofNat_tmod]
        have d1 : Con.holds ⟨fnOf, specU, L+1⟩ (runF ⟨fnOf, specU, L+1⟩ (n+1)) (.el (ns.map celZ) (.int .i64 ((j : Int).tmod (((ns.map celZ).length : Nat) : Int))) [.int .i32 (ns.getD (j % ns.length) (0, 0)).1, .int .i32 (ns.getD (j % ns.length) (0, 0)).2]) := by
          rw [nl, ht]; exact elD_map (f := celZ) (Nat.mod_lt _ (by omega))
        have ha : Con.holds ⟨fnOf, specU, L+1⟩ (runF ⟨fnOf, specU, L+1⟩ (n+1)) (.at (ys.map celS) (0 + j) [.cpx (ys.getD j ((0, 0), false)).1.1 (ys.getD j ((0, 0), false)).1.2, .v (.bool (ys.getD j ((0, 0), false)).2)]) := by rw [Nat.zero_add]; exact atD_map (f := celS) (by omega)
        have hnz : Con.holds ⟨fnOf, specU, L+1⟩ (runF ⟨fnOf, specU, L+1⟩ (n+1)) (.nz (((ns.map celZ).length : Nat) : Int)) := by rw [nl]; show _ ≠ _; omega
        have := @ttr_0 (L+1) (n+1) o R g 0 A [] ns hs [] [] xs ys xs.length 0 0 j w xs.length 0 st [] [54] (ns.getD (j % ns.length) (0, 0)) j (ys.getD j ((0, 0), false)) j (ys.getD j ((0, 0), false)) (dLt hj) (by rw [nl]; exact dT (by omega)) hnz d1 (ix_at hj) ha (ix_at hj) ha
        rw [wrapUp hj (by omega), Nat.zero_add, (hy j).1] at this
        refine ⟨_, this, ys.set j ((fadd (ys.getD j ((0, 0), false)).1.1 (fdiv (fofInt ((ns.getD (j % ns.length) (0, 0)).1.tmod 4096)) 4661225614328463360), fadd (ys.getD j ((0, 0), false)).1.2 (fdiv (fofInt ((ns.getD (j % ns.length) (0, 0)).2.tmod 4096)) 4661225614328463360)), false), ?_, by rw [List.length_set, l1], fun t => ?_⟩
        · unfold ttrSt
          rw [List.map_set]
          rfl
        · rw [getD_sets (by omega)]
          by_cases e : j = t
          · subst e
            rw [if_pos rfl, if_pos (Nat.lt_succ_self _), if_pos (Nat.lt_succ_self _)]
            obtain ⟨_, g1, g2⟩ := hy j
            rw [if_neg (Nat.lt_irrefl _), Int.add_zero] at g1 g2
            obtain ⟨s1, s2⟩ := small j
            obtain ⟨c1, c2⟩ := hc j
            refine ⟨rfl, grid_add g1 (grid_parts (by show (nzR ns j).natAbs < _; omega)) (by show (cR j + nzR ns j).natAbs < _; omega), grid_add g2 (grid_parts (by show (nzI ns j).natAbs < _; omega)) (by show (cI j + nzI ns j).natAbs < _; omega)⟩
          · rw [if_neg e]
            have := hy t
            by_cases c : t < j
            · rw [if_pos c, if_pos c] at this
              rw [if_pos (by omega), if_pos (by omega)]
              exact this
            · rw [if_neg c, if_neg c] at this
              rw [if_neg (by omega), if_neg (by omega)]
              exact this) (fun s hst => by
        obtain ⟨ys, rfl, l1, hy⟩ := hst
        exact ⟨_, @ttr_2 (L+1) (n+1) o R g 0 A [] ns hs [] [] xs ys xs.length 0 0 xs.length w xs.length 0 st [] [54] dNlt, ys, rfl, l1, hy⟩)
    refine ⟨ys, xs.length, fun t => if t < xs.length then nzR ns t else 0, fun t => if t < xs.length then nzI ns t else 0, q1, l1, fun t => ⟨(hy t).1, (hy t).2.1, (hy t).2.2, ?_, ?_⟩⟩
    · show (if t < xs.length then nzR ns t else 0).natAbs ≤ 4095
      split
      · exact (small t).1
      · exact Nat.zero_le _
    · show (if t < xs.length then nzI ns t else 0).natAbs ≤ 4095
      split
      · exact (small t).2
      · exact Nat.zero_le _
end
end Go.Proofs.Ytldkgfbgndkbdaa.Fw
