/- PulseNear: one point made another; the law's own run. -/
import Derived.Test.YtaklelfdcbgebaaLwBcB
import Derived.Test.YtaklelfdcbgebaaLwTcD
import Derived.Test.YtaklelfdcbgebaaLwPNeA
set_option maxRecDepth 100000
set_option maxHeartbeats 4000000
set_option exponentiation.threshold 4000
set_option linter.unusedSimpArgs false
set_option linter.unusedVariables false
namespace Go.Proofs.Ytaklelfdcbgebaa.Fw
open Go Go.RowKit
theorem sumI_same {n : Nat} {f g : Nat → Int} (h : ∀ i, i < n → f i = g i) : sumI n f = sumI n g := by
  induction n with
  | zero => rfl
  | succ n ih => unfold sumI; rw [ih fun i hi => h i (by omega), h n (by omega)]
/-- a shape of a sum -/
theorem acc_sum {r T : Nat} {y z t : Nat → Int} {m K : Nat} : accS r T (fun k => y k + z k) t m K 0 = accS r T y t m K 0 + accS r T z t m K 0 := by
  have e : ∀ k i, term r (fun k => y k + z k) t m k i = term r y t m k i + term r z t m k i := fun k i => by
    unfold term
    split
    · exact Int.add_mul ..
    · rfl
  unfold accS
  show sumI K (fun k' => sumI T (term r (fun k => y k + z k) t m k')) + 0 = sumI K (fun k' => sumI T (term r y t m k')) + 0 + (sumI K (fun k' => sumI T (term r z t m k')) + 0)
  rw [Int.add_zero, Int.add_zero, Int.add_zero, ← sumI_add]
  refine sumI_same fun k hk => ?_
  rw [← sumI_add]
  exact sumI_same fun i hi => e k i
/-- one point alone -/
def oneZ (A : Nat) (k : Nat) : Int := if k = A then 64 else 0
theorem acc_one {r T A K m : Nat} {t : Nat → Int} (hA : A < K) : accS r T (oneZ A) t m K 0 = if A * r ≤ m ∧ m < A * r + T then 64 * t (m - A * r) else 0 := by
  unfold accS
  show sumI K (fun k' => sumI T (term r (oneZ A) t m k')) + 0 = _
  rw [Int.add_zero, sumI_one (j := A) hA]
  · split
    · rename_i h
      rw [sumI_one (j := m - A * r) (by omega)]
      · unfold term oneZ
        rw [if_pos (by omega), if_pos rfl]
      · intro i hi hn
        unfold term
        rw [if_neg (by omega)]
    · rename_i h
      refine sumI_zero fun i hi => ?_
      unfold term
      rw [if_neg (by omega)]
  · intro k hk hn
    refine sumI_zero fun i hi => ?_
    unfold term oneZ
    rw [if_neg hn, Int.zero_mul]
    split <;> rfl
section
variable {L n : Nat} {rate fore att m : Int} {xs ps : List Int} {odd : Nat}
theorem law_near (hm : xs.length ≤ 17592186044415) (hL : 70000 ≤ L) :
    den ⟨fnOf, specB, L+1⟩ (n+2) 10 [.agg [.int .i64 rate, .int .i64 fore, .lst 1 (xs.map celI), .flt odd, .int .i64 att], .lst 1 (ps.map celI), .int .i64 m] = some (.v (.bool true)) := by
  obtain ⟨r, f, ts, t, d1, hf⟩ := @fit_den L n rate fore att xs odd hm (by omega)
  have d2 := @plain_den L n ps 200 (by omega) (by omega)
  generalize hKe : min (ps.length / 2) 200 = K at d2
  have hK : K ≤ 200 := by omega
  obtain ⟨zs, hzs⟩ : ∃ zs, zs = tab (plZ ps) K := ⟨_, rfl⟩
  rw [← hzs] at d2
  have zl : zs.length = K := by rw [hzs, tab_len]
  have zml : (zs.map celC).length = K := by rw [map_len, zl]
  by_cases hK0 : K = 0
  · exact @pNe_0 (L+1) (n+1) rate fore att m 0 0 0 xs ps [] [] [] [] [] [] [] odd 0 0 0 0 0 [] [] r f ts zs (call_den d1) (call_den d2) (by rw [zml, hK0]; rfl)
  have hsix : ∀ k, k < zs.length → six (zR ps k) (zs.getD k (0, 0)).1 ∧ six (zI ps k) (zs.getD k (0, 0)).2 := fun k hk => by
    rw [hzs, tab_at (by omega)]; exact plZ_six ps k
  obtain ⟨A, eA, hA⟩ : ∃ A : Nat, IntKind.wrap .i64 ((IntKind.wrap .u64 m).tmod (IntKind.wrap .u64 ((zs.map celC).length : Int))) = (A : Int) ∧ A < K := by
    rw [zml, wrapU_id (by omega)]
    have h1 := tmod_le7 (IntKind.wrap .u64 m) (m := (K : Int)) (by omega)
    have h2 : 0 ≤ (IntKind.wrap .u64 m).tmod (K : Int) := Int.tmod_nonneg _ (wrapU m)
    generalize (IntKind.wrap .u64 m).tmod (K : Int) = q at *
    rw [wrap_id (n := q) (by omega)]
    exact ⟨q.toNat, by omega, by omega⟩
  obtain ⟨ws, hws⟩ : ∃ ws, ws = zs.set A (fadd (zs.getD A (0, 0)).1 4607182418800017408, fadd (zs.getD A (0, 0)).2 0) := ⟨_, rfl⟩
  have wl : ws.length = K := by rw [hws, List.length_set, zl]
  have h6 : ∀ k, k < ws.length → six (zR ps k + oneZ A k) (ws.getD k (0, 0)).1 ∧ six (zI ps k) (ws.getD k (0, 0)).2 := fun k hk => by
    obtain ⟨a, b⟩ := hsix k (by omega)
    have hb := z_small ps k
    rw [hws, getD_sets (by omega)]
    unfold oneZ
    by_cases e : A = k
    · subst e
      rw [if_pos rfl, if_pos rfl]
      refine ⟨six_add a six_one (by omega), ?_⟩
      have := six_add b six_zero (by omega)
      rw [Int.add_zero] at this
      exact this
    · rw [if_neg e, if_neg (fun h => e h.symm), Int.add_zero]
      exact ⟨a, b⟩
  have o64 : ∀ k, (oneZ A k).natAbs ≤ 64 := fun k => by unfold oneZ; split <;> decide
  obtain ⟨us, d3, ul, hu⟩ := @shape_fit (L+1) r f t (zR ps) (zI ps) ts (runF ⟨fnOf, specB, L+1⟩ (n+1)) zs hf (by omega) (fun k => by have := z_small ps k; omega) (fun k => by have := z_small ps k; omega) hsix
  obtain ⟨vs, d4, vl, hv⟩ := @shape_fit (L+1) r f t (fun k => zR ps k + oneZ A k) (zI ps) ts (runF ⟨fnOf, specB, L+1⟩ (n+1)) ws hf (by omega) (fun k => by have := z_small ps k; have := o64 k; show (zR ps k + oneZ A k).natAbs ≤ 8192; omega) (fun k => by have := z_small ps k; omega) h6
  rw [zl] at hu ul
  rw [wl] at hv vl
  have hlen := len_fit hf (show K ≤ 1000 by omega)
  obtain ⟨r1, r8, f1, f2, f3, f4, f5, f6, f7⟩ := id hf
  have hKr : (K - 1) * r ≤ 199 * 8 := Nat.mul_le_mul (by omega) r8
  have hAr : A * r ≤ (K - 1) * r := Nat.mul_le_mul_right _ (by omega)
  have hsh : shLen r ts.length K = (K - 1) * r + ts.length := by unfold shLen; rw [if_neg hK0]
  have uml : (us.map celC).length = us.length := map_len
  have vml : List.length (vs.map celC) = us.length := by rw [show List.length (vs.map celC) = _ from map_len, vl, ul]
  have tml : (ts.map celF).length = ts.length := map_len
  have hacc : ∀ i, accS r ts.length (fun k => zR ps k + oneZ A k) t i K 0 = accS r ts.length (zR ps) t i K 0 + if A * r ≤ i ∧ i < A * r + ts.length then 64 * t (i - A * r) else 0 := fun i => by rw [acc_sum, acc_one hA]
  have ct : cutX (ts.map celF) 0 (List.length (ts.map celF)) = ts.map celF := cutAll
  have cz : cutX (zs.map celC) 0 (List.length (zs.map celC)) = zs.map celC := cutAll
  -- the loop
  have eAr : (A : Int) * (r : Int) = ((A * r : Nat) : Int) := by rw [Int.natCast_mul]
  have q1 : Con.holds ⟨fnOf, specB, L+1⟩ (runF ⟨fnOf, specB, L+1⟩ (n+1)) (.loop 0 [2, 7, 8, 10, 12, 14] m10b0 [65] (pneSt A r f ts zs us vs 0) (.exit 0) (pneSt A r f ts zs us vs us.length)) := by
    refine loopX (res := m10.res) (fun i => pneSt A r f ts zs us vs i) us.length rfl (by omega) (fun i hi => ?_) ?_ (by simp)
    · obtain ⟨gu1, gu2⟩ := hu i (by omega)
      obtain ⟨gv1, gv2⟩ := hv i (by omega)
      rw [hacc] at gv1
      have b1 := @acc_low r f K t (zR ps) ts hf (fun k => (z_small ps k).1) i
      have b2 := @acc_low r f K t (zI ps) ts hf (fun k => (z_small ps k).2) i
      generalize hAR : A * r = AR at *
      have w1 : IntKind.wrap .i64 ((A : Int) * (r : Int)) = (AR : Int) := by rw [eAr, wrap_id (by omega)]
      have w2 : IntKind.wrap .i64 ((AR : Int) + (((ts.map celF).length : Nat) : Int)) = ((AR + ts.length : Nat) : Int) := by rw [tml, wrap_id (by omega)]; omega
      have hix : Con.holds ⟨fnOf, specB, L+1⟩ (runF ⟨fnOf, specB, L+1⟩ (n+1)) (.ix (.int .i64 i) (List.length (us.map celC)) i) := by rw [show List.length (us.map celC) = _ from uml]; exact ix_at hi
      have hat : Con.holds ⟨fnOf, specB, L+1⟩ (runF ⟨fnOf, specB, L+1⟩ (n+1)) (.at (us.map celC) (0 + i) [.cpx (us.getD i (0, 0)).1 (us.getD i (0, 0)).2]) := by rw [Nat.zero_add]; exact atD_map (f := celC) hi
      have hvx : Con.holds ⟨fnOf, specB, L+1⟩ (runF ⟨fnOf, specB, L+1⟩ (n+1)) (.ix (.int .i64 i) (List.length (vs.map celC)) i) := by rw [vml]; exact ix_at hi
      have hva : Con.holds ⟨fnOf, specB, L+1⟩ (runF ⟨fnOf, specB, L+1⟩ (n+1)) (.at (vs.map celC) (0 + i) [.cpx (vs.getD i (0, 0)).1 (vs.getD i (0, 0)).2]) := by rw [Nat.zero_add]; exact atD_map (f := celC) (by omega)
      -- who touches it
      obtain ⟨a, b, htch, hab⟩ : ∃ a b : Int, tchF (r : Int) (f : Int) ts (K : Int) (i : Int) = (a, b, 0) ∧ ((a ≤ (A : Int) ∧ (A : Int) < b) ↔ (AR ≤ i ∧ i < AR + ts.length)) := by
        have hi2 : ¬ ((i : Int) < 0 ∨ ((shLen r ts.length K : Nat) : Int) ≤ (i : Int)) := by omega
        unfold tchF
        rw [hlen, if_neg (by simp), if_neg hi2]
        refine ⟨_, _, rfl, ?_⟩
        obtain ⟨t1, t2⟩ := @touch_iff (i : Int) (A : Int) (r : Int) (ts.length : Int) (by omega) (by omega) (by omega) (by omega) (by omega)
        have t1 : 0 ≤ (i : Int) - (A : Int) * (r : Int) ↔ (A : Int) < hiF (r : Int) (i : Int) := t1
        have t2 : (i : Int) - (A : Int) * (r : Int) < (ts.length : Int) ↔ frF (r : Int) (i : Int) ts.length ≤ (A : Int) := t2
        rw [eAr] at t1 t2
        generalize hiF (r : Int) (i : Int) = hi3 at *
        generalize frF (r : Int) (i : Int) ts.length = fr at *
        unfold tT
        split
        · show (fr ≤ (A : Int) ∧ (A : Int) < min (K : Int) hi3) ↔ _
          omega
        · show ((0 : Int) ≤ (A : Int) ∧ (A : Int) < 0) ↔ _
          omega
      have hsp : Con.holds ⟨fnOf, specB, L+1⟩ (runF ⟨fnOf, specB, L+1⟩ (n+1)) (.spec 15 [.agg [.int .i64 r, .int .i64 f, .lst 1 (cutX (ts.map celF) 0 (List.length (ts.map celF)))], .int .i64 ((zs.map celC).length : Int), .int .i64 i] (.tup [.int .i64 a, .int .i64 b, .int .i64 0])) := by
        have := (@touch_both 65537 0 (r : Int) (f : Int) (K : Int) (i : Int) ts (by omega)).1
        rw [htch] at this
        rw [ct, zml]
        exact ⟨_, rfl, this⟩
      have hlt : decide ((i : Int) < ((us.map celC).length : Int)) = true := by rw [uml]; exact dLt hi
      have same : ¬ (AR ≤ i ∧ i < AR + ts.length) → feq (us.getD i (0, 0)).1 (vs.getD i (0, 0)).1 = true ∧ feq (us.getD i (0, 0)).2 (vs.getD i (0, 0)).2 = true := fun h => by
        rw [if_neg h, Int.add_zero] at gv1
        rw [grid_eq gu1 gv1, grid_eq gu2 gv2]
        exact ⟨decide_eq_true rfl, decide_eq_true rfl⟩
      by_cases c1 : AR ≤ i
      · by_cases c2 : i < AR + ts.length
        · have hab' := hab.2 ⟨c1, c2⟩
          rw [if_pos ⟨c1, c2⟩] at gv1
          have ht6 := f3 (i - AR) (by omega)
          have ht4 := f4 (i - AR)
          have g1 := grid_sub gv1 gu1 (by omega)
          have g2 := grid_sub gv2 gu2 (by omega)
          rw [show accS r ts.length (zR ps) t i K 0 + 64 * t (i - AR) - accS r ts.length (zR ps) t i K 0 = t (i - AR) * 64 by omega] at g1
          rw [Int.sub_self] at g2
          have e1 := grid_six g1 ht6
          have e2 : feq (fsub (vs.getD i (0, 0)).2 (us.getD i (0, 0)).2) 0 = true := by rw [grid_eq g2 grid_zero0]; exact decide_eq_true rfl
          have w3 : IntKind.wrap .i64 ((i : Int) - (AR : Int)) = ((i - AR : Nat) : Int) := by rw [show (i : Int) - (AR : Int) = ((i - AR : Nat) : Int) by omega, wrap_id (by omega)]
          have htx : Con.holds ⟨fnOf, specB, L+1⟩ (runF ⟨fnOf, specB, L+1⟩ (n+1)) (.ix (.int .i64 (IntKind.wrap .i64 ((i : Int) - IntKind.wrap .i64 ((A : Int) * (r : Int))))) (List.length (ts.map celF)) (i - AR)) := by rw [w1, w3, show List.length (ts.map celF) = _ from tml]; exact ix_at (by omega)
          have hta : Con.holds ⟨fnOf, specB, L+1⟩ (runF ⟨fnOf, specB, L+1⟩ (n+1)) (.at (ts.map celF) (0 + (i - AR)) [.flt (ts.getD (i - AR) 0)]) := by rw [Nat.zero_add]; exact atD_map (f := celF) (by omega)
          have d3' : decide ((i : Int) < IntKind.wrap .i64 (IntKind.wrap .i64 ((A : Int) * (r : Int)) + (((ts.map celF).length : Nat) : Int))) = true := by rw [w1, w2]; exact dT (by omega)
          have := @pneb_7 (L+1) (n+1) r 0 0 0 A f 0 [] [] [] ts zs us vs [] [] 0 0 0 i 0 0 [] [65] a b 0 i (vs.getD i (0, 0)) i (us.getD i (0, 0)) (i - AR) (ts.getD (i - AR) 0) hlt hsp leOut (by rw [w1]; exact dT (by omega)) rfl (dT hab'.1) (by rw [d3', dT hab'.2]; rfl) (by rw [d3']; rfl) d3' hvx hva hix hat htx hta (by rw [e1, e2]; rfl)
          rw [wrapUp hi (by omega)] at this
          exact this
        · obtain ⟨s1, s2⟩ := same (by omega)
          have d3' : decide ((i : Int) < IntKind.wrap .i64 (IntKind.wrap .i64 ((A : Int) * (r : Int)) + (((ts.map celF).length : Nat) : Int))) = false := by rw [w1, w2]; exact dF (by omega)
          by_cases c3 : a ≤ (A : Int)
          · have c4 : ¬ (A : Int) < b := fun h => by have := hab.1 ⟨c3, h⟩; omega
            have := @pneb_5 (L+1) (n+1) r 0 0 0 A f 0 [] [] [] ts zs us vs [] [] 0 0 0 i 0 0 [] [65] a b 0 i (us.getD i (0, 0)) i (vs.getD i (0, 0)) hlt hsp leOut (by rw [w1]; exact dT (by omega)) rfl (dT c3) (by rw [d3', dF c4]; rfl) (by rw [d3']; rfl) hix hat hvx hva (by rw [s1, s2]; rfl) d3'
            rw [wrapUp hi (by omega)] at this
            exact this
          · have := @pneb_13 (L+1) (n+1) r 0 0 0 A f 0 [] [] [] ts zs us vs [] [] 0 0 0 i 0 0 [] [65] a b 0 i (us.getD i (0, 0)) i (vs.getD i (0, 0)) hlt hsp leOut (by rw [w1]; exact dT (by omega)) rfl (dF c3) (by rw [d3']; rfl) (by rw [d3']; rfl) hix hat hvx hva (by rw [s1, s2]; rfl) d3'
            rw [wrapUp hi (by omega)] at this
            exact this
      · obtain ⟨s1, s2⟩ := same (by omega)
        by_cases c3 : a ≤ (A : Int)
        · have c4 : ¬ (A : Int) < b := fun h => by have := hab.1 ⟨c3, h⟩; omega
          have := @pneb_20 (L+1) (n+1) r 0 0 0 A f 0 [] [] [] ts zs us vs [] [] 0 0 0 i 0 0 [] [65] a b 0 i (us.getD i (0, 0)) i (vs.getD i (0, 0)) hlt hsp leOut (by rw [w1]; exact dF (by omega)) rfl (dT c3) (by rw [dF c4]; rfl) hix hat hvx hva (by rw [s1, s2]; rfl)
          rw [wrapUp hi (by omega)] at this
          exact this
        · have := @pneb_22 (L+1) (n+1) r 0 0 0 A f 0 [] [] [] ts zs us vs [] [] 0 0 0 i 0 0 [] [65] a b 0 i (us.getD i (0, 0)) i (vs.getD i (0, 0)) hlt hsp leOut (by rw [w1]; exact dF (by omega)) rfl (dF c3) hix hat hvx hva (by rw [s1, s2]; rfl)
          rw [wrapUp hi (by omega)] at this
          exact this
    · exact @pneb_23 (L+1) (n+1) r 0 0 0 A f 0 [] [] [] ts zs us vs [] [] 0 0 0 us.length 0 0 [] [65] (by rw [uml]; exact dNlt)
  have hcat : Con.holds ⟨fnOf, specB, L+1⟩ (runF ⟨fnOf, specB, L+1⟩ (n+1)) (.cat 1 16 true (cutX (zs.map celC) 0 (List.length (zs.map celC)))) := by rw [cz]; exact catC_ok (by simp only [most]; omega)
  have hax : Con.holds ⟨fnOf, specB, L+1⟩ (runF ⟨fnOf, specB, L+1⟩ (n+1)) (.ix (.int .i64 (A : Int)) (List.length (zs.map celC)) A) := by rw [show List.length (zs.map celC) = K from zml]; exact ix_at hA
  have haa : Con.holds ⟨fnOf, specB, L+1⟩ (runF ⟨fnOf, specB, L+1⟩ (n+1)) (.at (zs.map celC) (0 + A) [.cpx (zs.getD A (0, 0)).1 (zs.getD A (0, 0)).2]) := by rw [Nat.zero_add]; exact atD_map (f := celC) (by omega)
  have eset : List.set (zs.map celC) (0 + A) [.cpx (fadd (zs.getD A (0, 0)).1 4607182418800017408) (fadd (zs.getD A (0, 0)).2 0)] = ws.map celC := by rw [Nat.zero_add, hws, List.map_set]; rfl
  have cw : cutX (ws.map celC) 0 (List.length (zs.map celC)) = ws.map celC := tkMap (by rw [show List.length (zs.map celC) = K from zml, wl])
  have hle : Con.holds ⟨fnOf, specB, L+1⟩ (runF ⟨fnOf, specB, L+1⟩ (n+1)) (.le (0 + (zs.map celC).length) (List.length (ws.map celC))) := by show _ ≤ _; rw [zml, show List.length (ws.map celC) = _ from map_len, wl]; omega
  exact @pNe_4 (L+1) (n+1) rate fore att m A f r xs ps [] ts zs us vs [] [] odd 0 0 us.length 0 0 [] [] r f ts zs A (zs.getD A (0, 0)) A (zs.getD A (0, 0)) us 0 vs 0
    (call_den d1) (call_den d2) (by rw [zml]; simpa using hK0) (by rw [zml, wrapU_id (by omega)]; show (K : Int) ≠ 0; omega) hcat leOut (by rw [eA, cz]; exact hax) (by rw [cz]; exact haa) (by rw [eA, cz]; exact hax) (by rw [cz]; exact haa) (by rw [ct, cz]; exact d3) leOut (by rw [cz, eset, ct, cw]; exact d4) (by rw [cz, eset]; exact hle) rfl rfl (by rw [uml, vml]; simp) (by rw [eA]; exact q1)
end
end Go.Proofs.Ytaklelfdcbgebaa.Fw
