/- pulse: plain, samples, Pick; Shape of a pulse that may be. -/
import Derived.Test.YtaklelfdcbgebaaLwFpB
set_option maxRecDepth 100000
set_option maxHeartbeats 4000000
set_option exponentiation.threshold 4000
set_option linter.unusedSimpArgs false
set_option linter.unusedVariables false
namespace Go.Proofs.Ytaklelfdcbgebaa.Fw
open Go Go.RowKit
def zR (ps : List Int) (j : Nat) : Int := (ps.getD (2 * j) 0).tmod 4097
def zI (ps : List Int) (j : Nat) : Int := (ps.getD (2 * j + 1) 0).tmod 4097
def plZ (ps : List Int) (j : Nat) : Nat × Nat := (fdiv (fofInt (zR ps j)) 4634204016564240384, fdiv (fofInt (zI ps j)) 4634204016564240384)
theorem z_small (ps : List Int) (j : Nat) : (zR ps j).natAbs ≤ 4096 ∧ (zI ps j).natAbs ≤ 4096 := by
  have h1 := tmod_le7 (ps.getD (2 * j) 0) (m := 4097) (by decide)
  have h2 := tmod_le7 (ps.getD (2 * j + 1) 0) (m := 4097) (by decide)
  unfold zR zI
  omega
theorem plZ_six (ps : List Int) (j : Nat) : six (zR ps j) (plZ ps j).1 ∧ six (zI ps j) (plZ ps j).2 := by
  obtain ⟨a, b⟩ := z_small ps j
  exact ⟨six_of (by omega), six_of (by omega)⟩
def smL (zs : List (Nat × Nat)) (k : Nat) : List ((Nat × Nat) × Bool) := tab (fun i => (zs.getD i (0, 0), false)) k
section
variable {L n : Nat}
theorem plain_den {ps : List Int} {m : Nat} (hm : m ≤ 1000) (hL : 1000 ≤ L) : den ⟨fnOf, specB, L+1⟩ (n+1) 33 [.lst 1 (ps.map celI), .int .i64 m] = some (.own 1 ((tab (plZ ps) (min (ps.length / 2) m)).map celC) true) := by
  have pl : (ps.map celI).length = ps.length := map_len
  generalize hK : min (ps.length / 2) m = K
  obtain ⟨s', q1, st, rfl⟩ := loopJ (P := ⟨fnOf, specB, L+1⟩) (C := runF ⟨fnOf, specB, L+1⟩ n) (L := L) (d := 0) (live := [0, 1, 5, 6]) (π := [3]) (m := m33b0) (A := plnSt ps m [] [3] 0 0) (x := .exit 0)
    (fun i s => ∃ st, s = plnSt ps m (tab (plZ ps) i) st i (2 * i)) (fun s => ∃ st, s = plnSt ps m (tab (plZ ps) K) st K (2 * K)) K (by simp) rfl (by omega) ⟨[3], rfl⟩ (fun i s hi hst => by
      obtain ⟨st, rfl⟩ := hst
      have w1 : IntKind.wrap .i64 (((2 * i : Nat) : Int) + 1) = ((2 * i + 1 : Nat) : Int) := by rw [wrap_id (by omega)]; omega
      have w2 : IntKind.wrap .i64 (((2 * i : Nat) : Int) + 2) = ((2 * (i + 1) : Nat) : Int) := by rw [wrap_id (by omega)]; omega
      have e1 : Con.holds ⟨fnOf, specB, L+1⟩ (runF ⟨fnOf, specB, L+1⟩ n) (.el (ps.map celI) (.int .i64 ((2 * i : Nat) : Int)) [.int .i64 (ps.getD (2 * i) 0)]) := elD_map (f := celI) (by omega)
      have e2 : Con.holds ⟨fnOf, specB, L+1⟩ (runF ⟨fnOf, specB, L+1⟩ n) (.el (ps.map celI) (.int .i64 ((2 * i + 1 : Nat) : Int)) [.int .i64 (ps.getD (2 * i + 1) 0)]) := elD_map (f := celI) (by omega)
      have hp : Con.holds ⟨fnOf, specB, L+1⟩ (runF ⟨fnOf, specB, L+1⟩ n) (.push i 1 16 ((tab (plZ ps) i).map celC)) := push_ok (by rw [map_len, tab_len]) (by simp only [most]; omega)
      have := @plnb_0 (L+1) n 0 0 0 m 0 0 0 [] ps [] (tab (plZ ps) i) [] [] 0 0 0 (2 * i) i i st [3] (ps.getD (2 * i) 0) (ps.getD (2 * i + 1) 0) (by rw [w1, pl]; exact dT (by omega)) (dT (by omega)) e1 (by rw [w1]; exact e2) hp
      rw [w2] at this
      refine ⟨_, this, [29, i, 3], ?_⟩
      unfold plnSt
      rw [tab_up, List.map_append]
      rfl) (fun s hst => by
      obtain ⟨st, rfl⟩ := hst
      have w1 : IntKind.wrap .i64 (((2 * K : Nat) : Int) + 1) = ((2 * K + 1 : Nat) : Int) := by rw [wrap_id (by omega)]; omega
      by_cases c : 2 * K + 1 < ps.length
      · exact ⟨_, @plnb_1 (L+1) n 0 0 0 m 0 0 0 [] ps [] (tab (plZ ps) K) [] [] 0 0 0 (2 * K) K K st [3] (by rw [w1, pl]; exact dT (by omega)) (dF (by omega)), st, rfl⟩
      · exact ⟨_, @plnb_2 (L+1) n 0 0 0 m 0 0 0 [] ps [] (tab (plZ ps) K) [] [] 0 0 0 (2 * K) K K st [3] (by rw [w1, pl]; exact dF (by omega)), st, rfl⟩)
  have := @pln_0 (L+1) n 0 0 0 m 0 0 0 [] ps [] (tab (plZ ps) K) [] [] 0 0 0 (2 * K) K 0 st [] q1 (by show _ ≤ _; rw [show List.length ((tab (plZ ps) K).map celC) = _ from map_len, tab_len]; exact Nat.le_refl _)
  rw [takeMap tab_len.symm] at this
  exact this
theorem samples_den {zs : List (Nat × Nat)} (hm : zs.length ≤ 100000) (hL : zs.length ≤ L) : den ⟨fnOf, specB, L+1⟩ (n+1) 35 [.lst 1 (zs.map celC), .int .i64 0] = some (.own 2 ((smL zs zs.length).map celS) true) := by
  have zl : (zs.map celC).length = zs.length := map_len
  obtain ⟨s', q1, st, rfl⟩ := loopJ (P := ⟨fnOf, specB, L+1⟩) (C := runF ⟨fnOf, specB, L+1⟩ n) (L := L) (d := 0) (live := [0, 1, 5, 6]) (π := [3]) (m := m35b0) (A := smpSt zs [] [3] 0 0) (x := .exit 0)
    (fun i s => ∃ st, s = smpSt zs (smL zs i) st i i) (fun s => ∃ st, s = smpSt zs (smL zs zs.length) st zs.length zs.length) zs.length (by simp) rfl hL ⟨[3], rfl⟩ (fun i s hi hst => by
      obtain ⟨st, rfl⟩ := hst
      have hp : Con.holds ⟨fnOf, specB, L+1⟩ (runF ⟨fnOf, specB, L+1⟩ n) (.push i 1 24 ((smL zs i).map celS)) := push_ok (by rw [map_len]; exact tab_len.symm) (by simp only [most]; omega)
      have := @smpb_0 (L+1) n 0 0 0 0 0 0 0 [] [] [] zs (smL zs i) [] 0 0 0 i i 0 st [3] (zs.getD i (0, 0)) (by rw [zl]; exact dLt hi) (elD_map (f := celC) hi) hp
      rw [wrapUp hi (by omega)] at this
      refine ⟨_, this, [24, i, 3], ?_⟩
      unfold smpSt smL
      rw [tab_up, List.map_append]
      rfl) (fun s hst => by
      obtain ⟨st, rfl⟩ := hst
      exact ⟨_, @smpb_1 (L+1) n 0 0 0 0 0 0 0 [] [] [] zs (smL zs zs.length) [] 0 0 0 zs.length zs.length 0 st [3] (by rw [zl]; exact dNlt), st, rfl⟩)
  have := @smp_0 (L+1) n 0 0 0 0 0 0 0 [] [] [] zs (smL zs zs.length) [] 0 0 0 zs.length zs.length 0 st [] q1 (by show _ ≤ _; rw [show List.length ((smL zs zs.length).map celS) = _ from map_len]; unfold smL; rw [tab_len]; exact Nat.le_refl _)
  rw [takeMap (f := celS) (xs := smL zs zs.length) (by unfold smL; rw [tab_len])] at this
  exact this
variable {r f K : Nat} {t zr zi : Nat → Int} {ts : List Nat}
theorem pick_den {ss : List ((Nat × Nat) × Bool)} (hf : fitOk r f t ts) (hK : K ≤ 1000) (hin : K ≠ 0 → f + (K - 1) * r < ss.length) (hs : ss.length ≤ 65536) (hL : 1000 ≤ L) :
    ∃ rs : List ((Nat × Nat) × Bool), den ⟨fnOf, specB, L+1⟩ (n+1) 34 [.agg [.int .i64 r, .int .i64 f, .lst 1 (ts.map celF)], .lst 2 (ss.map celS), .int .i64 f, .int .i64 K] = some (.tup [.own 2 (rs.map celS) true, .int .i64 0]) ∧ rs.length = K ∧
      ∀ k, k < K → rs.getD k ((0, 0), false) = ss.getD (f + k * r) ((0, 0), false) := by
  have sl : (ss.map celS).length = ss.length := map_len
  have hc0 := fit_chk hf
  obtain ⟨r1, r8, f1, f2, _⟩ := hf
  have hin2 : ∀ k, k < K → f + k * r < ss.length := fun k hk => by
    have h1 := hin (by omega)
    have h2 : k * r ≤ (K - 1) * r := Nat.mul_le_mul_right _ (by omega)
    omega
  obtain ⟨s', q1, rs, rfl, l1, hx⟩ := loopJ (P := ⟨fnOf, specB, L+1⟩) (C := runF ⟨fnOf, specB, L+1⟩ n) (L := L) (d := 0) (live := [1, 2, 4, 11, 55, 56]) (π := [48]) (m := m34b0) (A := pckSt r f ts ss f (List.replicate K ((0, 0), false)) K 0) (x := .exit 0)
    (fun j s => ∃ rs, s = pckSt r f ts ss f rs K j ∧ rs.length = K ∧ ∀ k, k < j → rs.getD k ((0, 0), false) = ss.getD (f + k * r) ((0, 0), false)) (fun s => ∃ rs, s = pckSt r f ts ss f rs K K ∧ rs.length = K ∧ ∀ k, k < K → rs.getD k ((0, 0), false) = ss.getD (f + k * r) ((0, 0), false)) K (by simp) rfl (by omega)
    ⟨_, rfl, List.length_replicate .., fun k hk => absurd hk (Nat.not_lt_zero _)⟩ (fun j s hj hst => by
      obtain ⟨rs, rfl, l1, hx⟩ := hst
      have hb := hin2 j hj
      have wi : IntKind.wrap .i64 ((f : Int) + IntKind.wrap .i64 ((j : Int) * (r : Int))) = ((f + j * r : Nat) : Int) := by
        have e : (j : Int) * (r : Int) = ((j * r : Nat) : Int) := by rw [Int.natCast_mul]
        rw [e]
        generalize j * r = q at hb
        rw [wrap_id (n := ((q : Nat) : Int)) (by omega), wrap_id (by omega)]; omega
      have e1 : Con.holds ⟨fnOf, specB, L+1⟩ (runF ⟨fnOf, specB, L+1⟩ n) (.el (ss.map celS) (.int .i64 ((f + j * r : Nat) : Int)) [.cpx (ss.getD (f + j * r) ((0, 0), false)).1.1 (ss.getD (f + j * r) ((0, 0), false)).1.2, .v (.bool (ss.getD (f + j * r) ((0, 0), false)).2)]) := elD_map (f := celS) hb
      have ha : Con.holds ⟨fnOf, specB, L+1⟩ (runF ⟨fnOf, specB, L+1⟩ n) (.at (rs.map celS) (0 + j) [.cpx (rs.getD j ((0, 0), false)).1.1 (rs.getD j ((0, 0), false)).1.2, .v (.bool (rs.getD j ((0, 0), false)).2)]) := by rw [Nat.zero_add]; exact atD_map (f := celS) (by omega)
      have := @pckb_0 (L+1) n r f 0 f 0 0 0 [] [] ts [] ss rs 0 0 0 j K 0 [] [48] (ss.getD (f + j * r) ((0, 0), false)) j (rs.getD j ((0, 0), false)) (dLt hj) (by rw [wi]; exact e1) (ix_at hj) ha
      rw [wrapUp hj (by omega), Nat.zero_add] at this
      refine ⟨_, this, rs.set j (ss.getD (f + j * r) ((0, 0), false)), ?_, by rw [List.length_set, l1], fun k hk => ?_⟩
      · unfold pckSt
        rw [List.map_set]
        rfl
      · rw [getD_sets (by omega)]
        by_cases e : j = k
        · subst e; rw [if_pos rfl]
        · rw [if_neg e]; exact hx k (by omega)) (fun s hst => by
      obtain ⟨rs, rfl, l1, hx⟩ := hst
      exact ⟨_, @pckb_1 (L+1) n r f 0 f 0 0 0 [] [] ts [] ss rs 0 0 0 K K 0 [] [48] dNlt, rs, rfl, l1, hx⟩)
  have hc := spec_is (P := ⟨fnOf, specB, L+1⟩) (C := runF ⟨fnOf, specB, L+1⟩ n) (f := 28) rfl (chkSem_at (r : Int) (f : Int) ts)
  rw [hc0] at hc
  have hmk : Con.holds ⟨fnOf, specB, L+1⟩ (runF ⟨fnOf, specB, L+1⟩ n) (.mk K K true (List.map celS (List.replicate K ((0, 0), false))) (K : Int) (K : Int) 24 [.cpx 0 0, .v (.bool false)]) :=
    mk_ok (f := celS) (a := ((0, 0), false)) rfl (by simp only [most]; omega) (by simp only [most]; omega)
  have hle : Con.holds ⟨fnOf, specB, L+1⟩ (runF ⟨fnOf, specB, L+1⟩ n) (.le K (List.length (rs.map celS))) := by show _ ≤ _; rw [show List.length (rs.map celS) = _ from map_len, l1]; exact Nat.le_refl _
  have key : den ⟨fnOf, specB, L+1⟩ (n+1) 34 [.agg [.int .i64 r, .int .i64 f, .lst 1 (ts.map celF)], .lst 2 (ss.map celS), .int .i64 f, .int .i64 K] = some (.tup [.own 2 (List.take K (rs.map celS)) true, .int .i64 0]) := by
    by_cases h0 : K = 0
    · exact @pck_7 (L+1) n r f 0 f K 0 0 [] [] ts [] ss rs 0 0 0 K K 0 [] [] 0 K hc rfl (by rw [sl]; exact dF (by omega)) (dF (by omega)) (dF (by omega)) (dF (by omega)) hmk q1 hle
    · have h1 := hin h0
      have w1 : IntKind.wrap .i64 ((K : Int) - 1) = ((K - 1 : Nat) : Int) := by rw [show (K : Int) - 1 = ((K - 1 : Nat) : Int) by omega, wrap_id (by omega)]
      have w2 : IntKind.wrap .i64 ((ss.length : Int) - 1) = ((ss.length - 1 : Nat) : Int) := by rw [show (ss.length : Int) - 1 = ((ss.length - 1 : Nat) : Int) by omega, wrap_id (by omega)]
      have w3 : IntKind.wrap .i64 (((ss.length - 1 : Nat) : Int) - (f : Int)) = ((ss.length - 1 - f : Nat) : Int) := by rw [show ((ss.length - 1 : Nat) : Int) - (f : Int) = ((ss.length - 1 - f : Nat) : Int) by omega, wrap_id (by omega)]
      have w4 : IntKind.wrap .i64 (((ss.length - 1 - f : Nat) : Int).tdiv (r : Int)) = (((ss.length - 1 - f) / r : Nat) : Int) := by
        rw [show ((ss.length - 1 - f : Nat) : Int).tdiv (r : Int) = (((ss.length - 1 - f) / r : Nat) : Int) from (Int.ofNat_tdiv _ _).symm]
        have hd := Nat.div_le_self (ss.length - 1 - f) r
        generalize (ss.length - 1 - f) / r = q at hd
        rw [wrap_id (by omega)]
      have h2 : K - 1 ≤ (ss.length - 1 - f) / r := (Nat.le_div_iff_mul_le (by omega)).2 (by omega)
      exact @pck_6 (L+1) n r f 0 f K 0 0 [] [] ts [] ss rs 0 0 0 K K 0 [] [] 0 K hc rfl (by rw [sl]; exact dF (by omega)) (dF (by omega)) (dF (by omega)) (dT (by omega)) (by rw [sl]; exact dF (by omega)) (by show (r : Int) ≠ 0; omega) (by rw [sl, w1, w2, w3, w4]; exact dF (by generalize (ss.length - 1 - f) / r = q at h2; omega)) hmk q1 hle
  rw [takeMap l1.symm] at key
  exact ⟨rs, key, l1, hx⟩
/-- how long a shape is -/
def shLen (r T K : Nat) : Nat := if K = 0 then 0 else (K - 1) * r + T
theorem len_fit (hf : fitOk r f t ts) (hK : K ≤ 1000) : lenF (r : Int) (f : Int) ts (K : Int) = (((shLen r ts.length K : Nat) : Int), 0) := by
  have hc := fit_chk hf
  obtain ⟨r1, r8, f1, f2, _⟩ := hf
  unfold lenF shLen
  rw [if_neg (by rw [hc]; decide)]
  by_cases h0 : K = 0
  · subst h0; rfl
  · have e : ((K : Int) - 1) * (r : Int) = (((K - 1) * r : Nat) : Int) := by rw [Int.natCast_mul]; congr 1; omega
    have h1 : (K - 1) * r ≤ 1000 * 8 := Nat.mul_le_mul (by omega) r8
    rw [if_neg (by omega), e, if_neg (by omega), if_neg h0]
    rfl
/-- Shape of a pulse that may be -/
theorem shape_fit {C : Caller} {zs : List (Nat × Nat)} (hf : fitOk r f t ts) (hK : zs.length ≤ 1000) (hz : ∀ k, (zr k).natAbs ≤ 8192) (hy : ∀ k, (zi k).natAbs ≤ 8192)
    (h1 : ∀ k, k < zs.length → six (zr k) (zs.getD k (0, 0)).1 ∧ six (zi k) (zs.getD k (0, 0)).2) :
    ∃ out, Con.holds ⟨fnOf, specB, L⟩ C (.spec 18 [.agg [.int .i64 r, .int .i64 f, .lst 1 (ts.map celF)], .lst 1 (zs.map celC)] (.tup [.own 1 (out.map celC) true, .int .i64 0])) ∧ good r ts.length (shLen r ts.length zs.length) zr zi t zs.length 0 out := by
  have hl := len_fit hf hK
  obtain ⟨r1, r8, f1, f2, f3, f4, _⟩ := hf
  obtain ⟨out, h2, h3⟩ := @shape_den 65536 0 r (shLen r ts.length zs.length) (f : Int) ts zs zr zi t hz hy (fun i => by have := f4 i; omega) (Nat.le_refl _) hl (fun k hk => ⟨six_plain okM_edge six_edge (h1 k hk).1 (by have := hz k; omega), six_plain okM_edge six_edge (h1 k hk).2 (by have := hy k; omega)⟩) h1 f3
  exact ⟨out, ⟨_, rfl, h2⟩, h3⟩
end
end Go.Proofs.Ytaklelfdcbgebaa.Fw
