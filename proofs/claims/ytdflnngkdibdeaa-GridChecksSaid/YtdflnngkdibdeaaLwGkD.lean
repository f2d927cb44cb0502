/- GridChecks: numbers, both Checks, the law's run. -/
import Derived.Test.YtdflnngkdibdeaaLwGkC
set_option maxRecDepth 100000
set_option maxHeartbeats 4000000
set_option exponentiation.threshold 4000
set_option linter.unusedSimpArgs false
set_option linter.unusedVariables false
namespace Go.Proofs.Ytdflnngkdibdeaa.Fw
open Go Go.RowKit
/-- may a sample be? -/
def mayF (s : (Nat × Nat) × Bool) : Bool := if s.2 then feq s.1.1 0 && feq s.1.2 0 else onF s.1.1 && onF s.1.2
def numAt (xs : List Int) (j : Nat) : Nat × Nat := (canon (xs.getD (2 * j) 0).toNat, canon (xs.getD (2 * j + 1) 0).toNat)
def samAt (bs : List Bool) (zs : List (Nat × Nat)) (i : Nat) : (Nat × Nat) × Bool := (zs.getD i (0, 0), decide (i < bs.length) && bs.getD i false)
section
variable {L n : Nat}
theorem numbersG_den {xs : List Int} (hm : xs.length ≤ 17592186044415) (hL : xs.length ≤ L) :
    den ⟨fnOf, specG, L+1⟩ (n+2) 10 [.lst 1 (xs.map celU)] = some (.own 1 ((tab (numAt xs) (xs.length / 2)).map celC) true) := by
  have hl : (xs.map celU).length = xs.length := map_len
  obtain ⟨s', h1, st, rfl⟩ := loopJ (P := ⟨fnOf, specG, L+1⟩) (C := runF ⟨fnOf, specG, L+1⟩ (n+1)) (L := L) (d := 0) (live := [0, 3, 4]) (π := [3]) (m := m10b0) (A := gnuSt xs [] [3] 0 0)
    (fun j s => ∃ st, s = gnuSt xs (tab (numAt xs) j) st j (2 * j)) (fun s => ∃ st, s = gnuSt xs (tab (numAt xs) (xs.length / 2)) st (xs.length / 2) (2 * (xs.length / 2))) (xs.length / 2) (x := .exit 0) (by simp) rfl (by omega) ⟨[3], rfl⟩
    (fun j s hj hs => by
      obtain ⟨st, rfl⟩ := hs
      have hp : Con.holds ⟨fnOf, specG, L+1⟩ (runF ⟨fnOf, specG, L+1⟩ (n+1)) (.push j 1 16 ((tab (numAt xs) j).map celC)) := push_ok (by rw [map_len, tab_len]) (by simp only [most]; omega)
      have hw : IntKind.wrap .i64 (((2 * j : Nat) : Int) + 1) = ((2 * j + 1 : Nat) : Int) := by rw [wrap_id (by omega)]; rfl
      have hw2 : IntKind.wrap .i64 (((2 * j : Nat) : Int) + 2) = ((2 * (j + 1) : Nat) : Int) := by rw [wrap_id (by omega)]; omega
      have e1 : Con.holds ⟨fnOf, specG, L+1⟩ (runF ⟨fnOf, specG, L+1⟩ (n+1)) (.el (xs.map celU) (.int .i64 ((2 * j : Nat) : Int)) [.int .u64 (xs.getD (2 * j) 0)]) := elD_map (f := celU) (by omega)
      have e2 : Con.holds ⟨fnOf, specG, L+1⟩ (runF ⟨fnOf, specG, L+1⟩ (n+1)) (.el (xs.map celU) (.int .i64 (IntKind.wrap .i64 (((2 * j : Nat) : Int) + 1))) [.int .u64 (xs.getD (2 * j + 1) 0)]) := by rw [hw]; exact elD_map (f := celU) (by omega)
      have := @gnb_0 (L+1) (n+1) xs (tab (numAt xs) j) st (j :: [3]) j (2 * j) _ _ _ _ (by rw [hw, hl]; exact dLt (by omega)) e1 (call_den gfu_0) e2 (call_den gfu_0) hp
      rw [hw2] at this
      refine ⟨_, this, [19, j, 3], ?_⟩
      unfold gnuSt
      rw [tab_up, List.map_append]
      rfl)
    (fun s hs => by
      obtain ⟨st, rfl⟩ := hs
      exact ⟨_, @gnb_1 (L+1) (n+1) xs (tab (numAt xs) (xs.length / 2)) st (xs.length / 2 :: [3]) (xs.length / 2) (2 * (xs.length / 2)) (by rw [hl, wrap_id (by omega)]; exact dF (by omega)), st, rfl⟩)
  have := @gnu_0 (L+1) (n+1) xs (tab (numAt xs) (xs.length / 2)) st [] (xs.length / 2) (2 * (xs.length / 2)) h1 (by show _ ≤ _; rw [show List.length _ = _ from map_len, tab_len]; exact Nat.le_refl _)
  rw [this, tkMap tab_len.symm]
theorem may_den {s : (Nat × Nat) × Bool} : den ⟨fnOf, specG, L⟩ (n+1) 30 [.agg [.cpx s.1.1 s.1.2, .v (.bool s.2)]] = some (.v (.bool (mayF s))) ∧ den ⟨fnOf, specG, L⟩ (n+1) 29 [.agg [.cpx s.1.1 s.1.2, .v (.bool s.2)]] = some (.v (.bool (mayF s))) := by
  obtain ⟨⟨a, b⟩, c⟩ := s
  unfold mayF
  cases c with
  | true =>
    refine ⟨gma_0 rfl, ?_⟩
    show den _ _ _ _ = some (.v (.bool (feq a 0 && feq b 0)))
    cases h : feq a 0 with
    | true => exact gMa_0 rfl h
    | false => exact gMa_1 rfl h
  | false =>
    show den _ _ _ _ = some (.v (.bool (onF a && onF b))) ∧ den _ _ _ _ = some (.v (.bool (onF a && onF b)))
    cases h : onF a with
    | true => exact ⟨gma_1 rfl h, gMa_2 rfl h⟩
    | false => exact ⟨gma_2 rfl h, gMa_3 rfl h⟩
theorem checks_den (ss : List ((Nat × Nat) × Bool)) (hL : 65536 ≤ L) : ∃ k e : Int, den ⟨fnOf, specG, L+1⟩ (n+2) 11 [.lst 2 (ss.map celS)] = some (.tup [.int .i64 k, .int .i64 e]) ∧ den ⟨fnOf, specG, L+1⟩ (n+2) 12 [.lst 2 (ss.map celS)] = some (.tup [.int .i64 k, .int .i64 e]) := by
  have hl : (ss.map celS).length = ss.length := map_len
  by_cases hbig : 65536 < ss.length
  · exact ⟨0, 1, gcd_0 (i := 0) (π := []) (by rw [hl]; exact dT (by omega)), gpd_0 (i := 0) (π := []) (by rw [hl]; exact dT (by omega))⟩
  · have g0 : decide (((ss.map celS).length : Int) > 65536) = false := by rw [hl]; exact dF (by omega)
    have d0 : ((0, 0), false) = (((0, 0), false) : (Nat × Nat) × Bool) := rfl
    have r1 : ∀ i, i < ss.length → mayF (ss.getD i ((0, 0), false)) = true → seeZ 0 [0, 4] m11.res (bodyOf ⟨fnOf, specG, L+1⟩ (runF ⟨fnOf, specG, L+1⟩ (n+1)) 0 m11b0 (i :: [6]) (gcdSt ss i)) = some (.go .nrm (gcdSt ss (i + 1))) := fun i hi hm => by
      have := @gcb_1 (L+1) (n+1) ss i [6] (ss.getD i ((0, 0), false)) true (by rw [hl]; exact dLt hi) (elD_map (f := celS) hi) (by rw [← hm]; exact call_den may_den.2) rfl
      rw [wrapUp hi (by omega)] at this
      exact this
    have r2 : ∀ i, i < ss.length → mayF (ss.getD i ((0, 0), false)) = true → seeZ 0 [9, 10, 11] m12.res (bodyOf ⟨fnOf, specG, L+1⟩ (runF ⟨fnOf, specG, L+1⟩ (n+1)) 0 m12b0 (i :: [8]) (gcpSt ss i)) = some (.go .nrm (gcpSt ss (i + 1))) := fun i hi hm => by
      have := @gpb_1 (L+1) (n+1) ss i [8] (ss.getD i ((0, 0), false)) true (by rw [hl]; exact dLt hi) (elD_map (f := celS) hi) (by rw [← hm]; exact call_den may_den.1) rfl
      rw [wrapUp hi (by omega)] at this
      exact this
    rcases firstN (fun i => mayF (ss.getD i ((0, 0), false))) ss.length with hall | ⟨k, hk, hp, hb⟩
    · refine ⟨0, 0, gcd_1 (i := ss.length) (π := []) g0 ?_, gpd_1 (i := ss.length) (π := []) g0 ?_⟩
      · exact loopX (res := m11.res) (fun i => gcdSt ss i) ss.length rfl (by omega) (fun i hi => r1 i hi (hall i hi)) (@gcb_2 (L+1) (n+1) ss ss.length [6] (by rw [hl]; exact dNlt)) (by simp)
      · exact loopX (res := m12.res) (fun i => gcpSt ss i) ss.length rfl (by omega) (fun i hi => r2 i hi (hall i hi)) (@gpb_2 (L+1) (n+1) ss ss.length [8] (by rw [hl]; exact dNlt)) (by simp)
    · have hb : mayF (ss.getD k ((0, 0), false)) = false := hb
      have m1 := (@may_den (L+1) n (ss.getD k ((0, 0), false))).1
      have m2 := (@may_den (L+1) n (ss.getD k ((0, 0), false))).2
      rw [hb] at m1 m2
      obtain ⟨s1, a1, b1⟩ := loopZ (P := ⟨fnOf, specG, L+1⟩) (C := runF ⟨fnOf, specG, L+1⟩ (n+1)) (π := [6]) (res := m11.res) (fun i => gcdSt ss i) k rfl (by omega) (fun i hi => r1 i (by omega) (hp i hi))
        (@gcb_0 (L+1) (n+1) ss k [6] (ss.getD k ((0, 0), false)) false (by rw [hl]; exact dLt hk) (elD_map (f := celS) hk) (call_den m2) rfl)
      obtain ⟨s2, a2, b2⟩ := loopZ (P := ⟨fnOf, specG, L+1⟩) (C := runF ⟨fnOf, specG, L+1⟩ (n+1)) (π := [8]) (res := m12.res) (fun i => gcpSt ss i) k rfl (by omega) (fun i hi => r2 i (by omega) (hp i hi))
        (@gpb_0 (L+1) (n+1) ss k [8] (ss.getD k ((0, 0), false)) false (by rw [hl]; exact dLt hk) (elD_map (f := celS) hk) (call_den m1) rfl)
      exact ⟨k, 7, gct_1 (i := 0) (π := []) g0 a1 b1, gpt_1 (i := 0) (π := []) g0 a2 b2⟩
theorem room24 {o : Nat} (h : o ≤ 8796093022207) : roomOk o 24 := by
  by_cases c : o * 24 ≤ most
  · exact .inl c
  · refine .inr ⟨?_, by omega⟩
    simp only [most] at c
    omega
theorem law_checks {xs : List Int} {bs : List Bool} (hx : xs.length ≤ 17592186043904) (hL : xs.length + 70000 ≤ L) :
    den ⟨fnOf, specG, L+1⟩ (n+3) 4 [.lst 1 (xs.map celU), .lst 1 (bs.map celB)] = some (.v (.bool true)) := by
  have h0 := @numbersG_den L n xs (by omega) (by omega)
  have hzl : (tab (numAt xs) (xs.length / 2)).length = xs.length / 2 := tab_len
  generalize tab (numAt xs) (xs.length / 2) = zs at h0 hzl
  have hz : (zs.map celC).length = zs.length := map_len
  have hbl : (bs.map celB).length = bs.length := map_len
  obtain ⟨s', h1, st, rfl⟩ := loopJ (P := ⟨fnOf, specG, L+1⟩) (C := runF ⟨fnOf, specG, L+1⟩ (n+2)) (L := L) (d := 0) (live := [1, 5, 6, 7]) (π := [6]) (m := m4b0) (A := gkSt bs zs zs.length [] [6] 0 0)
    (fun j s => ∃ st, s = gkSt bs zs zs.length (tab (samAt bs zs) j) st j j) (fun s => ∃ st, s = gkSt bs zs zs.length (tab (samAt bs zs) zs.length) st zs.length zs.length) zs.length (x := .exit 0) (by simp) rfl (by omega) ⟨[6], rfl⟩
    (fun j s hj hs => by
      obtain ⟨st, rfl⟩ := hs
      have hp : Con.holds ⟨fnOf, specG, L+1⟩ (runF ⟨fnOf, specG, L+1⟩ (n+2)) (.push j 1 24 ((tab (samAt bs zs) j).map celS)) := push_ok2 (by rw [map_len, tab_len]) (room24 (by omega))
      have ha : Con.holds ⟨fnOf, specG, L+1⟩ (runF ⟨fnOf, specG, L+1⟩ (n+2)) (.at (zs.map celC) (0 + j) [.cpx (zs.getD j (0, 0)).1 (zs.getD j (0, 0)).2]) := by rw [Nat.zero_add]; exact atD_map (f := celC) hj
      have hw := wrapUp hj (by omega)
      refine ⟨gkSt bs zs zs.length (tab (samAt bs zs) (j + 1)) [21, j, 6] (j + 1) (j + 1), ?_, [21, j, 6], rfl⟩
      by_cases hb : j < bs.length
      · have := @gkb_0 (L+1) (n+2) [] bs zs (tab (samAt bs zs) j) st [6] zs.length j j 0 j (zs.getD j (0, 0)) (bs.getD j false) (dLt hj) (ix_at hj) ha (by rw [hbl]; exact dLt hb) (elD_map (f := celB) hb) hp
        rw [hw] at this
        rw [this]
        unfold gkSt
        rw [tab_up, List.map_append, show samAt bs zs j = (zs.getD j (0, 0), bs.getD j false) by unfold samAt; rw [decide_eq_true hb, Bool.true_and]]
        rfl
      · have := @gkb_1 (L+1) (n+2) [] bs zs (tab (samAt bs zs) j) st [6] zs.length j j 0 j (zs.getD j (0, 0)) (dLt hj) (ix_at hj) ha (by rw [hbl]; exact dF (by omega)) hp
        rw [hw] at this
        rw [this]
        unfold gkSt
        rw [tab_up, List.map_append, show samAt bs zs j = (zs.getD j (0, 0), false) by unfold samAt; rw [decide_eq_false hb, Bool.false_and]]
        rfl)
    (fun s hs => by
      obtain ⟨st, rfl⟩ := hs
      exact ⟨_, @gkb_2 (L+1) (n+2) [] bs zs (tab (samAt bs zs) zs.length) st [6] zs.length zs.length zs.length 0 dNlt, st, rfl⟩)
  have hsl : (tab (samAt bs zs) zs.length).length = zs.length := tab_len
  generalize tab (samAt bs zs) zs.length = ss at h1 hsl
  obtain ⟨k, e, c1, c2⟩ := @checks_den L n ss (by omega)
  have hs : (ss.map celS).length = ss.length := map_len
  have cS : cutX (ss.map celS) 0 zs.length = ss.map celS := by rw [cutM, List.take_of_length_le (by omega)]
  have eT : (ss.map celS) ++ [[(AV.cpx 4635118810238550016 0), (.v (.bool false))]] = (ss ++ [((4635118810238550016, 0), false)]).map celS := by rw [List.map_append]; rfl
  have cT : cutX ((ss ++ [((4635118810238550016, 0), false)]).map celS) 0 zs.length = ss.map celS := by
    rw [cutM, List.take_append_of_le_length (by omega), List.take_of_length_le (by omega)]
  have hcat : Con.holds ⟨fnOf, specG, L+1⟩ (runF ⟨fnOf, specG, L+1⟩ (n+2)) (.cat 2 24 true (ss.map celS)) := cat_ok2 (fun _ => ⟨rfl, rfl⟩) (fun _ => rfl) (room24 (by omega))
  have hpu : Con.holds ⟨fnOf, specG, L+1⟩ (runF ⟨fnOf, specG, L+1⟩ (n+2)) (.push (List.length (ss.map celS)) 1 24 (ss.map celS)) := push_ok2 rfl (room24 (by omega))
  have hat : Con.holds ⟨fnOf, specG, L+1⟩ (runF ⟨fnOf, specG, L+1⟩ (n+2)) (.at ((ss ++ [((4635118810238550016, 0), false)]).map celS) (0 + zs.length) [.cpx 4635118810238550016 0, .v (.bool false)]) := by
    rw [Nat.zero_add, ← hsl]
    have := atD_map (P := ⟨fnOf, specG, L+1⟩) (C := runF ⟨fnOf, specG, L+1⟩ (n+2)) (f := celS) (d := ((0, 0), false)) (xs := ss ++ [((4635118810238550016, 0), false)]) (i := ss.length) (by simp)
    rw [getD_apps, if_neg (Nat.lt_irrefl _), Nat.sub_self] at this
    exact this
  have l2 : Con.holds ⟨fnOf, specG, L+1⟩ (runF ⟨fnOf, specG, L+1⟩ (n+2)) (.sl (some 2) (.slc ⟨0,44,0⟩ [15] 2 0 (zs.length + 1) false) none (some (.int .i64 ((zs.length : Nat) : Int))) none (.slc ⟨0,44,0⟩ [15] 2 0 zs.length false)) := sl_zero (by omega)
  have := @gkl_0 (L+1) (n+2) xs bs zs ss st [] zs.length zs.length zs.length zs.length zs k e k e zs.length ((4635118810238550016, 0), false)
    (call_den h0) (by rw [hz]; exact h1) (by rw [cS]; exact hcat) (by show _ ≤ _; omega) (by rw [cS]; exact hpu) (by rw [cS]; exact call_den c1) (by rw [cS, hs, hsl]; exact l2)
    (by rw [cS, eT, cT]; exact call_den c2) (by show _ ≤ _; rw [cS, eT, map_len]; simp; omega) (by simp) (by simp) (by rw [cS, hs, hsl]; exact ix_at (by omega)) (by rw [cS, eT]; exact hat)
  rw [this]
  have : (feq 4635118810238550016 4635118810238550016 && feq 0 0) = true := by decide
  show some (AV.v (.bool (feq 4635118810238550016 4635118810238550016 && feq 0 0))) = _
  rw [this]
end
end Go.Proofs.Ytdflnngkdibdeaa.Fw
