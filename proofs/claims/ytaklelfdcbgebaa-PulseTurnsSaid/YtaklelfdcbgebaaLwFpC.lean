/- pulse: plain, samples, Pick; Shape of a pulse that may be. -/
import Derived.Test.YtaklelfdcbgebaaLwFpB
set_option maxRecDepth 100000
set_option maxHeartbeats 4000000
set_option exponentiation.threshold 4000
set_option linter.unusedSimpArgs false
set_option linter.unusedVariables false
namespace Go.Proofs.Ytaklelfdcbgebaa.Fw
open Go Go.RowKit
def zR (ps : List Int) (j : Nat) : Int := (ps.getD (2 * j) 0).tmod 4097
def zI (ps : List Int) (j : Nat) : Int := (ps.getD (2 * j + 1) 0).tmod 4097
def plZ (ps : List Int) (j : Nat) : Nat × Nat := (fdiv (fofInt (zR ps j)) 4634204016564240384, fdiv (fofInt (zI ps j)) 4634204016564240384)
theorem z_small (ps : List Int) (j : Nat) : (zR ps j).natAbs ≤ 4096 ∧ (zI ps j).natAbs ≤ 4096 := by
  have h1 := tmod_le7 (ps.getD (2 * j) 0) (m := 4097) (by decide)
  have h2 := tmod_le7 (ps.getD (2 * j + 1) 0) (m := 4097) (by decide)
  unfold zR zI
  omega
theorem plZ_six (ps : List Int) (j : Nat) : six (zR ps j) (plZ ps j).1 ∧ six (zI ps j) (plZ ps j).2 := by
  obtain ⟨a, b⟩ := z_small ps j
  exact ⟨six_of (by omega), six_of (by omega)⟩
section
variable {L n : Nat}
theorem plain_den {ps : List Int} {m : Nat} (hm : m ≤ 1000) (hL : 1000 ≤ L) : den ⟨fnOf, specB, L+1⟩ (n+1) 33 [.lst 1 (ps.map celI), .int .i64 m] = some (.own 1 ((tab (plZ ps) (min (ps.length / 2) m)).map celC) true) := by
  have pl : (ps.map celI).length = ps.length := map_len
  generalize hK : min (ps.length / 2) m = K
  obtain ⟨s', q1, st, rfl⟩ := loopJ (P := ⟨fnOf, specB, L+1⟩) (C := runF ⟨fnOf, specB, L+1⟩ n) (L := L) (d := 0) (live := [0, 1, 5, 6]) (π := [3]) (m := m33b0) (A := plnSt ps m [] [3] 0 0) (x := .exit 0)
    (fun i s => ∃ st, s = plnSt ps m (tab (plZ ps) i) st i (2 * i)) (fun s => ∃ st, s = plnSt ps m (tab (plZ ps) K) st K (2 * K)) K (by simp) rfl (by omega) ⟨[3], rfl⟩ (fun i s hi hst => by
      obtain ⟨st, rfl⟩ := hst
      have w1 : IntKind.wrap .i64 (((2 * i : Nat) : Int) + 1) = ((2 * i + 1 : Nat) : Int) := by rw [wrap_id (by omega)]; omega
      have w2 : IntKind.wrap .i64 (((2 * i : Nat) : Int) + 2) = ((2 * (i + 1) : Nat) : Int) := by rw [wrap_id (by omega)]; omega
      have e1 : Con.holds ⟨fnOf, specB, L+1⟩ (runF ⟨fnOf, specB, L+1⟩ n) (.el (ps.map celI) (.int .i64 ((2 * i : Nat) : Int)) [.int .i64 (ps.getD (2 * i) 0)]) := elD_map (f := celI) (by omega)
      have e2 : Con.holds ⟨fnOf, specB, L+1⟩ (runF ⟨fnOf, specB, L+1⟩ n) (.el (ps.map celI) (.int .i64 ((2 * i + 1 : Nat) : Int)) [.int .i64 (ps.getD (2 * i + 1) 0)]) := elD_map (f := celI) (by omega)
      have hp : Con.holds ⟨fnOf, specB, L+1⟩ (runF ⟨fnOf, specB, L+1⟩ n) (.push i 1 16 ((tab (plZ ps) i).map celC)) := push_ok (by rw [map_len, tab_len]) (by simp only [most]; omega)
      have := @plnb_0 (L+1) n 0 0 0 m 0 0 0 [] ps [] (tab (plZ ps) i) [] [] 0 0 0 (2 * i) i i st [3] (ps.getD (2 * i) 0) (ps.getD (2 * i + 1) 0) (by rw [w1, pl]; exact dT (by omega)) (dT (by omega)) e1 (by rw [w1]; exact e2) hp
      rw [w2] at this
      refine ⟨_, this, [29, i, 3], ?_⟩
      unfold plnSt
      rw [tab_up, List.map_append]
      rfl) (fun s hst => by
      obtain ⟨st, rfl⟩ := hst
      have w1 : IntKind.wrap .i64 (((2 * K : Nat) : Int) + 1) = ((2 * K + 1 : Nat) : Int) := by rw [wrap_id (by omega)]; omega
      by_cases c : 2 * K + 1 < ps.length
      · exact ⟨_, @plnb_1 (L+1) n 0 0 0 m 0 0 0 [] ps [] (tab (plZ ps) K) [] [] 0 0 0 (2 * K) K K st [3] (by rw [w1, pl]; exact dT (by omega)) (dF (by omega)), st, rfl⟩
      · exact ⟨_, @plnb_2 (L+1) n 0 0 0 m 0 0 0 [] ps [] (tab (plZ ps) K) [] [] 0 0 0 (2 * K) K K st [3] (by rw [w1, pl]; exact dF (by omega)), st, rfl⟩)
  have := @pln_0 (L+1) n 0 0 0 m 0 0 0 [] ps [] (tab (plZ ps) K) [] [] 0 0 0 (2 * K) K 0 st [] q1 (by show _ ≤ _; rw [show List.length ((tab (plZ ps) K).map celC) = _ from map_len, tab_len]; exact Nat.le_refl _)
  rw [takeMap tab_len.symm] at this
  exact this
variable {r f K : Nat} {t zr zi : Nat → Int} {ts : List Nat}
/-- how long a shape is -/
def shLen (r T K : Nat) : Nat := if K = 0 then 0 else (K - 1) * r + T
theorem len_fit (hf : fitOk r f t ts) (hK : K ≤ 1000) : lenF (r : Int) (f : Int) ts (K : Int) = (((shLen r ts.length K : Nat) : Int), 0) := by
  have hc := fit_chk hf
  obtain ⟨r1, r8, f1, f2, _⟩ := hf
  unfold lenF shLen
  rw [if_neg (by rw [hc]; decide)]
  by_cases h0 : K = 0
  · subst h0; rfl
  · have e : ((K : Int) - 1) * (r : Int) = (((K - 1) * r : Nat) : Int) := by rw [Int.natCast_mul]; congr 1; omega
    have h1 : (K - 1) * r ≤ 1000 * 8 := Nat.mul_le_mul (by omega) r8
    rw [if_neg (by omega), e, if_neg (by omega), if_neg h0]
    rfl
/-- Shape of a pulse that may be -/
theorem shape_fit {C : Caller} {zs : List (Nat × Nat)} (hf : fitOk r f t ts) (hK : zs.length ≤ 1000) (hz : ∀ k, (zr k).natAbs ≤ 8192) (hy : ∀ k, (zi k).natAbs ≤ 8192)
    (h1 : ∀ k, k < zs.length → six (zr k) (zs.getD k (0, 0)).1 ∧ six (zi k) (zs.getD k (0, 0)).2) :
    ∃ out, Con.holds ⟨fnOf, specB, L⟩ C (.spec 18 [.agg [.int .i64 r, .int .i64 f, .lst 1 (ts.map celF)], .lst 1 (zs.map celC)] (.tup [.own 1 (out.map celC) true, .int .i64 0])) ∧ good r ts.length (shLen r ts.length zs.length) zr zi t zs.length 0 out := by
  have hl := len_fit hf hK
  obtain ⟨r1, r8, f1, f2, f3, f4, _⟩ := hf
  obtain ⟨out, h2, h3⟩ := @shape_den 65536 0 r (shLen r ts.length zs.length) (f : Int) ts zs zr zi t hz hy (fun i => by have := f4 i; omega) (Nat.le_refl _) hl (fun k hk => ⟨six_plain okM_edge six_edge (h1 k hk).1 (by have := hz k; omega), six_plain okM_edge six_edge (h1 k hk).2 (by have := hy k; omega)⟩) h1 f3
  exact ⟨out, ⟨_, rfl, h2⟩, h3⟩
end
end Go.Proofs.Ytaklelfdcbgebaa.Fw
