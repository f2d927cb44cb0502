/- PulseLinear: sums and quarters; the law's own run. -/
import Derived.Test.YtaklelfdcbgebaaLwPNeB
import Derived.Test.YtaklelfdcbgebaaLwPLiA
set_option maxRecDepth 100000
set_option maxHeartbeats 4000000
set_option exponentiation.threshold 4000
set_option linter.unusedSimpArgs false
set_option linter.unusedVariables false
namespace Go.Proofs.Ytaklelfdcbgebaa.Fw
open Go Go.RowKit
/-- turned by quarters -/
def tq : Nat → Nat × Nat → Nat × Nat
  | 0, z => z
  | k + 1, z => (fneg (tq k z).2, (tq k z).1)
def tI : Nat → Int × Int → Int × Int
  | 0, z => z
  | k + 1, z => (-(tI k z).2, (tI k z).1)
theorem tq_fv {e : Int} {z : Nat × Nat} {w : Int × Int} (h1 : fin z.1 ∧ fv z.1 = w.1 * e) (h2 : fin z.2 ∧ fv z.2 = w.2 * e) : ∀ k, (fin (tq k z).1 ∧ fv (tq k z).1 = (tI k w).1 * e) ∧ (fin (tq k z).2 ∧ fv (tq k z).2 = (tI k w).2 * e)
  | 0 => ⟨h1, h2⟩
  | k + 1 => by
    obtain ⟨a, b⟩ := tq_fv h1 h2 k
    obtain ⟨c, d⟩ := fneg_fin b.1
    refine ⟨⟨c, ?_⟩, a⟩
    show fv (fneg (tq k z).2) = -(tI k w).2 * e
    rw [d, b.2, Int.neg_mul]
theorem tI_low {w : Int × Int} {B : Nat} (h1 : w.1.natAbs ≤ B) (h2 : w.2.natAbs ≤ B) : ∀ k, (tI k w).1.natAbs ≤ B ∧ (tI k w).2.natAbs ≤ B
  | 0 => ⟨h1, h2⟩
  | k + 1 => by
    obtain ⟨a, b⟩ := tI_low h1 h2 k
    exact ⟨by show (-(tI k w).2).natAbs ≤ B; omega, a⟩
theorem acc_neg {r T : Nat} {z t : Nat → Int} {m K : Nat} : accS r T (fun k => -z k) t m K 0 = -accS r T z t m K 0 := by
  have h := @acc_sum r T z (fun k => -z k) t m K
  have e : (fun k => z k + -z k) = fun _ => (0 : Int) := by funext k; omega
  rw [e] at h
  have z0 : accS r T (fun _ => (0 : Int)) t m K 0 = 0 := by
    unfold accS
    show sumI K (fun k' => sumI T (term r (fun _ => (0 : Int)) t m k')) + 0 = 0
    rw [sumI_zero fun k hk => sumI_zero fun i hi => ?_]; rfl
    unfold term
    rw [Int.zero_mul]
    split <;> rfl
  omega
/-- a turned row's shape is turned -/
theorem acc_turn {r T : Nat} {y z t : Nat → Int} {m K : Nat} : ∀ q, accS r T (fun k => (tI q (y k, z k)).1) t m K 0 = (tI q (accS r T y t m K 0, accS r T z t m K 0)).1 ∧ accS r T (fun k => (tI q (y k, z k)).2) t m K 0 = (tI q (accS r T y t m K 0, accS r T z t m K 0)).2
  | 0 => ⟨rfl, rfl⟩
  | q + 1 => by
    obtain ⟨a, b⟩ := @acc_turn r T y z t m K q
    refine ⟨?_, a⟩
    show accS r T (fun k => -(tI q (y k, z k)).2) t m K 0 = -(tI q (accS r T y t m K 0, accS r T z t m K 0)).2
    rw [acc_neg, b]
section
variable {L n : Nat} {rate fore att m : Int} {xs ps qs : List Int} {odd : Nat}
theorem law_linear (hm : xs.length ≤ 17592186044415) (hL : 70000 ≤ L) (hm8 : 0 ≤ m ∧ m ≤ 255) :
    den ⟨fnOf, specB, L+1⟩ (n+2) 9 [.agg [.int .i64 rate, .int .i64 fore, .lst 1 (xs.map celI), .flt odd, .int .i64 att], .lst 1 (ps.map celI), .lst 1 (qs.map celI), .int .u8 m] = some (.v (.bool true)) := by
  obtain ⟨r, f, ts, t, d1, hf⟩ := @fit_den L n rate fore att xs odd hm (by omega)
  have d2 := @plain_den L n ps 300 (by omega) (by omega)
  generalize hKe : min (ps.length / 2) 300 = Ka at d2
  have hKa : Ka ≤ 300 := by omega
  obtain ⟨zs, hzs⟩ : ∃ zs, zs = tab (plZ ps) Ka := ⟨_, rfl⟩
  rw [← hzs] at d2
  have zl : zs.length = Ka := by rw [hzs, tab_len]
  have zml : (zs.map celC).length = Ka := by rw [map_len, zl]
  have d3 := @plain_den L n qs Ka (by omega) (by omega)
  generalize hKe2 : min (qs.length / 2) Ka = K at d3
  have hK : K ≤ Ka := by omega
  obtain ⟨us, hus⟩ : ∃ us, us = tab (plZ qs) K := ⟨_, rfl⟩
  rw [← hus] at d3
  have ul : us.length = K := by rw [hus, tab_len]
  have uml : List.length (us.map celC) = K := by rw [show List.length (us.map celC) = _ from map_len, ul]
  obtain ⟨q, eq, hq⟩ : ∃ q : Nat, IntKind.wrap .i64 (m.tmod 4) = (q : Int) ∧ q ≤ 3 := by
    have h1 := tmod_le7 m (m := 4) (by decide)
    have h2 : 0 ≤ m.tmod 4 := Int.tmod_nonneg _ hm8.1
    rw [wrap_id (by omega)]
    exact ⟨(m.tmod 4).toNat, by omega, by omega⟩
  obtain ⟨r1, r8, f1, f2, f3, f4, f5, f6, f7⟩ := id hf
  -- the three rows
  have z6 : ∀ k, k < K → six (zR ps k) (zs.getD k (0, 0)).1 ∧ six (zI ps k) (zs.getD k (0, 0)).2 := fun k hk => by rw [hzs, tab_at (by omega)]; exact plZ_six ps k
  have u6 : ∀ k, k < K → six (zR qs k) (us.getD k (0, 0)).1 ∧ six (zI qs k) (us.getD k (0, 0)).2 := fun k hk => by rw [hus, tab_at (by omega)]; exact plZ_six qs k
  let sF : Nat → Nat × Nat := fun k => (fadd (zs.getD k (0, 0)).1 (us.getD k (0, 0)).1, fadd (zs.getD k (0, 0)).2 (us.getD k (0, 0)).2)
  let tF : Nat → Nat × Nat := fun k => tq q (zs.getD k (0, 0))
  have zb := z_small ps
  have ub := z_small qs
  -- the loop that makes them
  have inner : ∀ (j : Nat) (ss bs : List (Nat × Nat)) (st τ : List Nat) (w v : Nat) (z : Nat × Nat), Con.holds ⟨fnOf, specB, L+1⟩ (runF ⟨fnOf, specB, L+1⟩ (n+1)) (.loop 0 [3, 9, 10, 11, 12, 13, 14, 15, 16] m9b2 [23, j, 24] (pl2St m r f ts zs K us ss st w bs τ v j z.1 z.2 0) (.exit 2) (pl2St m r f ts zs K us ss st w bs τ v j (tq q z).1 (tq q z).2 q)) := fun j ss bs st τ w v z => by
    refine loop0 (fun k => pl2St m r f ts zs K us ss st w bs τ v j (tq k z).1 (tq k z).2 k) q rfl (by omega) (fun k hk => ?_) ?_ (by simp)
    · have := @pl2_0 (L+1) (n+1) r 0 0 m 0 f [] [] [] ts zs us [] bs ss [] [] [] [] 0 K 0 j w v (tq k z).1 (tq k z).2 k st τ [] [23, j, 24] (by rw [eq]; exact dLt hk)
      rw [wrapUp hk (by omega)] at this
      exact this
    · exact @pl2_1 (L+1) (n+1) r 0 0 m 0 f [] [] [] ts zs us [] bs ss [] [] [] [] 0 K 0 j w v (tq q z).1 (tq q z).2 q st τ [] [23, j, 24] (by rw [eq]; exact dNlt)
  obtain ⟨s', q3, st, τ, rfl⟩ := loopJ (P := ⟨fnOf, specB, L+1⟩) (C := runF ⟨fnOf, specB, L+1⟩ (n+1)) (L := L) (d := 0) (live := [3, 9, 10, 11, 12, 13, 14]) (π := [24]) (m := m9b3) (A := pl3St m r f ts zs K us [] [24] 0 [] [24] 0 0) (x := .exit 0)
    (fun i s => ∃ st τ, s = pl3St m r f ts zs K us (tab sF i) st i (tab tF i) τ i i) (fun s => ∃ st τ, s = pl3St m r f ts zs K us (tab sF K) st K (tab tF K) τ K K) K (by simp) rfl (by omega) ⟨[24], [24], rfl⟩ (fun j s hj hst => by
      obtain ⟨st, τ, rfl⟩ := hst
      have hzx : Con.holds ⟨fnOf, specB, L+1⟩ (runF ⟨fnOf, specB, L+1⟩ (n+1)) (.ix (.int .i64 j) K j) := ix_at hj
      have hza : Con.holds ⟨fnOf, specB, L+1⟩ (runF ⟨fnOf, specB, L+1⟩ (n+1)) (.at (zs.map celC) (0 + j) [.cpx (zs.getD j (0, 0)).1 (zs.getD j (0, 0)).2]) := by rw [Nat.zero_add]; exact atD_map (f := celC) (by omega)
      have hux : Con.holds ⟨fnOf, specB, L+1⟩ (runF ⟨fnOf, specB, L+1⟩ (n+1)) (.ix (.int .i64 j) (List.length (us.map celC)) j) := by rw [uml]; exact ix_at hj
      have hua : Con.holds ⟨fnOf, specB, L+1⟩ (runF ⟨fnOf, specB, L+1⟩ (n+1)) (.at (us.map celC) (0 + j) [.cpx (us.getD j (0, 0)).1 (us.getD j (0, 0)).2]) := by rw [Nat.zero_add]; exact atD_map (f := celC) (by omega)
      have p1 : Con.holds ⟨fnOf, specB, L+1⟩ (runF ⟨fnOf, specB, L+1⟩ (n+1)) (.push j 1 16 ((tab sF j).map celC)) := push_ok (by rw [map_len, tab_len]) (by simp only [most]; omega)
      have p2 : Con.holds ⟨fnOf, specB, L+1⟩ (runF ⟨fnOf, specB, L+1⟩ (n+1)) (.push j 1 16 ((tab tF j).map celC)) := push_ok (by rw [map_len, tab_len]) (by simp only [most]; omega)
      have e1 : (tab sF j).map celC ++ [[.cpx (fadd (zs.getD j (0, 0)).1 (us.getD j (0, 0)).1) (fadd (zs.getD j (0, 0)).2 (us.getD j (0, 0)).2)]] = (tab sF (j + 1)).map celC := by rw [tab_up, List.map_append]; rfl
      have e2 : (tab tF j).map celC ++ [[.cpx (tq q (zs.getD j (0, 0))).1 (tq q (zs.getD j (0, 0))).2]] = (tab tF (j + 1)).map celC := by rw [tab_up, List.map_append]; rfl
      have hin := inner j (tab sF (j + 1)) (tab tF j) [15, j, 24] τ (j + 1) j (zs.getD j (0, 0))
      have := @pl3_0 (L+1) (n+1) r 0 0 m 0 f [] [] [] ts zs us (tab sF (j + 1)) (tab tF j) (tab sF j) [] [] [] [] 0 K (j + 1) j j j (tq q (zs.getD j (0, 0))).1 (tq q (zs.getD j (0, 0))).2 q st τ [15, j, 24] [24] j (zs.getD j (0, 0)) j (us.getD j (0, 0)) j (zs.getD j (0, 0)) (dLt hj) hzx hza hux hua p1 hzx hza (by rw [e1]; exact hin) p2
      rw [wrapUp hj (by omega), e2] at this
      exact ⟨_, this, [15, j, 24], [27, j, 24], rfl⟩) (fun s hst => by
      obtain ⟨st, τ, rfl⟩ := hst
      exact ⟨_, @pl3_1 (L+1) (n+1) r 0 0 m 0 f [] [] [] ts zs us [] (tab tF K) (tab sF K) [] [] [] [] 0 K 0 K K K 0 0 0 st τ [] [24] dNlt, st, τ, rfl⟩)
  -- the four shapes
  have zt : (zs.take K).length = K := by rw [List.length_take]; omega
  have ztd : ∀ k, k < K → (zs.take K).getD k (0, 0) = zs.getD k (0, 0) := fun k hk => by
    rw [List.getD_eq_getElem?_getD, List.getElem?_take_of_lt hk, ← List.getD_eq_getElem?_getD]
  obtain ⟨o1, h1, l1, g1⟩ := @shape_fit (L+1) r f t (zR ps) (zI ps) ts (runF ⟨fnOf, specB, L+1⟩ (n+1)) (zs.take K) hf (by omega) (fun k => by have := zb k; omega) (fun k => by have := zb k; omega) (fun k hk => by rw [ztd k (by omega)]; exact z6 k (by omega))
  obtain ⟨o2, h2, l2, g2⟩ := @shape_fit (L+1) r f t (zR qs) (zI qs) ts (runF ⟨fnOf, specB, L+1⟩ (n+1)) us hf (by omega) (fun k => by have := ub k; omega) (fun k => by have := ub k; omega) (fun k hk => u6 k (by omega))
  obtain ⟨o3, h3, l3, g3⟩ := @shape_fit (L+1) r f t (fun k => zR ps k + zR qs k) (fun k => zI ps k + zI qs k) ts (runF ⟨fnOf, specB, L+1⟩ (n+1)) (tab sF K) hf (by rw [tab_len]; omega) (fun k => by have := zb k; have := ub k; show (zR ps k + zR qs k).natAbs ≤ 8192; omega) (fun k => by have := zb k; have := ub k; show (zI ps k + zI qs k).natAbs ≤ 8192; omega) (fun k hk => by
    rw [tab_len] at hk
    rw [tab_at hk]
    have := zb k
    have := ub k
    exact ⟨six_add (z6 k hk).1 (u6 k hk).1 (by omega), six_add (z6 k hk).2 (u6 k hk).2 (by omega)⟩)
  obtain ⟨o4, h4, l4, g4⟩ := @shape_fit (L+1) r f t (fun k => (tI q (zR ps k, zI ps k)).1) (fun k => (tI q (zR ps k, zI ps k)).2) ts (runF ⟨fnOf, specB, L+1⟩ (n+1)) (tab tF K) hf (by rw [tab_len]; omega) (fun k => Nat.le_trans (tI_low (w := (zR ps k, zI ps k)) (B := 4096) (zb k).1 (zb k).2 q).1 (by decide)) (fun k => Nat.le_trans (tI_low (w := (zR ps k, zI ps k)) (B := 4096) (zb k).1 (zb k).2 q).2 (by decide)) (fun k hk => by
    rw [tab_len] at hk
    rw [tab_at hk]
    exact tq_fv (e := 2 ^ 1068) (w := (zR ps k, zI ps k)) (z6 k hk).1 (z6 k hk).2 q)
  rw [zt] at l1 g1
  rw [ul] at l2 g2
  rw [tab_len] at l3 g3 l4 g4
  have hsh : shLen r ts.length K ≤ 4000 := by
    unfold shLen
    split
    · omega
    · have : (K - 1) * r ≤ 299 * 8 := Nat.mul_le_mul (by omega) r8
      omega
  generalize hM : shLen r ts.length K = M at *
  have m1 : (o1.map celC).length = M := by rw [map_len, l1]
  have m2 : (o2.map celC).length = M := by rw [map_len, l2]
  have m3 : (o3.map celC).length = M := by rw [map_len, l3]
  have m4 : (o4.map celC).length = M := by rw [map_len, l4]
  -- the loop that compares
  have turn2 : ∀ (i : Nat) (z : Nat × Nat), Con.holds ⟨fnOf, specB, L+1⟩ (runF ⟨fnOf, specB, L+1⟩ (n+1)) (.loop 0 [3, 17, 19, 21, 23, 25, 26, 27] m9b0 [10, i, 93] (pl0St m o1 o2 o3 o4 i z.1 z.2 0) (.exit 6) (pl0St m o1 o2 o3 o4 i (tq q z).1 (tq q z).2 q)) := fun i z => by
    refine loop0 (fun k => pl0St m o1 o2 o3 o4 i (tq k z).1 (tq k z).2 k) q rfl (by omega) (fun k hk => ?_) ?_ (by simp)
    · have := @pl0_0 (L+1) (n+1) 0 0 0 m 0 0 [] [] [] [] [] o1 o2 o3 o4 [] [] [] [] 0 0 0 i 0 0 (tq k z).1 (tq k z).2 k [] [] [] [10, i, 93] (by rw [eq]; exact dLt hk)
      rw [wrapUp hk (by omega)] at this
      exact this
    · exact @pl0_1 (L+1) (n+1) 0 0 0 m 0 0 [] [] [] [] [] o1 o2 o3 o4 [] [] [] [] 0 0 0 i 0 0 (tq q z).1 (tq q z).2 q [] [] [] [10, i, 93] (by rw [eq]; exact dNlt)
  have q1 : Con.holds ⟨fnOf, specB, L+1⟩ (runF ⟨fnOf, specB, L+1⟩ (n+1)) (.loop 0 [3, 17, 19, 21, 23, 25] m9b1 [93] (pl1St m o1 o2 o3 o4 0) (.exit 4) (pl1St m o1 o2 o3 o4 M)) := by
    refine loopX (res := m9.res) (fun i => pl1St m o1 o2 o3 o4 i) M rfl (by omega) (fun i hi => ?_) ?_ (by simp)
    · obtain ⟨a1, b1⟩ := g1 i hi
      obtain ⟨a2, b2⟩ := g2 i hi
      obtain ⟨a3, b3⟩ := g3 i hi
      obtain ⟨a4, b4⟩ := g4 i hi
      have n1 := @acc_low r f K t (zR ps) ts hf (fun k => (zb k).1) i
      have n2 := @acc_low r f K t (zI ps) ts hf (fun k => (zb k).2) i
      have n3 := @acc_low r f K t (zR qs) ts hf (fun k => (ub k).1) i
      have n4 := @acc_low r f K t (zI qs) ts hf (fun k => (ub k).2) i
      rw [acc_sum] at a3 b3
      rw [(acc_turn q).1] at a4
      rw [(acc_turn q).2] at b4
      have c1 := grid_add a1 a2 (by omega)
      have c2 := grid_add b1 b2 (by omega)
      obtain ⟨c3, c4⟩ := tq_fv (e := 2 ^ 1062) (w := (accS r ts.length (zR ps) t i K 0, accS r ts.length (zI ps) t i K 0)) a1 b1 q
      have e1 : feq (o3.getD i (0, 0)).1 (fadd (o1.getD i (0, 0)).1 (o2.getD i (0, 0)).1) = true := by rw [grid_eq a3 c1]; exact decide_eq_true rfl
      have e2 : feq (o3.getD i (0, 0)).2 (fadd (o1.getD i (0, 0)).2 (o2.getD i (0, 0)).2) = true := by rw [grid_eq b3 c2]; exact decide_eq_true rfl
      have e3 : feq (o4.getD i (0, 0)).1 (tq q (o1.getD i (0, 0))).1 = true := by rw [grid_eq a4 c3]; exact decide_eq_true rfl
      have e4 : feq (o4.getD i (0, 0)).2 (tq q (o1.getD i (0, 0))).2 = true := by rw [grid_eq b4 c4]; exact decide_eq_true rfl
      have ix : ∀ (o : List (Nat × Nat)), (o.map celC).length = M → Con.holds ⟨fnOf, specB, L+1⟩ (runF ⟨fnOf, specB, L+1⟩ (n+1)) (.ix (.int .i64 i) (List.length (o.map celC)) i) := fun o ho => by rw [show List.length (o.map celC) = M from ho]; exact ix_at hi
      have av : ∀ (o : List (Nat × Nat)), o.length = M → Con.holds ⟨fnOf, specB, L+1⟩ (runF ⟨fnOf, specB, L+1⟩ (n+1)) (.at (o.map celC) (0 + i) [.cpx (o.getD i (0, 0)).1 (o.getD i (0, 0)).2]) := fun o ho => by rw [Nat.zero_add]; exact atD_map (f := celC) (by omega)
      have := @pl1_2 (L+1) (n+1) 0 0 0 m 0 0 [] [] [] [] [] o1 o2 o3 o4 [] [] [] [] 0 0 0 i 0 0 (tq q (o1.getD i (0, 0))).1 (tq q (o1.getD i (0, 0))).2 q [] [] [] [93] i (o1.getD i (0, 0)) i (o3.getD i (0, 0)) i (o1.getD i (0, 0)) i (o2.getD i (0, 0)) i (o4.getD i (0, 0))
        (by rw [m1]; exact dLt hi) (ix o1 m1) (av o1 l1) (turn2 i (o1.getD i (0, 0))) (ix o3 m3) (av o3 l3) (ix o1 m1) (av o1 l1) (ix o2 m2) (av o2 l2) (by rw [e1, e2]; rfl) (ix o4 m4) (av o4 l4) (by rw [e3, e4]; rfl)
      rw [wrapUp hi (by omega)] at this
      exact this
    · exact @pl1_3 (L+1) (n+1) 0 0 0 m 0 0 [] [] [] [] [] o1 o2 o3 o4 [] [] [] [] 0 0 0 M 0 0 0 0 0 [] [] [] [93] (by rw [m1]; exact dNlt)
  have ct : cutX (ts.map celF) 0 (List.length (ts.map celF)) = ts.map celF := cutAll
  have cz : cutX (zs.map celC) 0 K = (zs.take K).map celC := cutM
  have cu : cutX (us.map celC) 0 (List.length (us.map celC)) = us.map celC := cutAll
  have cs : cutX ((tab sF K).map celC) 0 K = (tab sF K).map celC := tkMap tab_len.symm
  have cq : cutX ((tab tF K).map celC) 0 K = (tab tF K).map celC := tkMap tab_len.symm
  have hsl : Con.holds ⟨fnOf, specB, L+1⟩ (runF ⟨fnOf, specB, L+1⟩ (n+1)) (.sl (some 1) (.slc ⟨0, 33, 0⟩ [1, 9] 1 0 (List.length (zs.map celC)) false) none (some (.int .i64 ((us.map celC).length : Int))) none (.slc ⟨0, 33, 0⟩ [1, 9] 1 0 K false)) := by
    have := @sl_zero ⟨fnOf, specB, L+1⟩ (runF ⟨fnOf, specB, L+1⟩ (n+1)) 1 K 0 (List.length (zs.map celC)) ⟨0, 33, 0⟩ [1, 9] false (by rw [show List.length (zs.map celC) = Ka from zml]; exact hK)
    rw [show ((us.map celC).length : Int) = (K : Int) by rw [show (us.map celC).length = K from uml]]
    exact this
  have leT : ∀ (o : List (Nat × Nat)), o.length = K → Con.holds ⟨fnOf, specB, L+1⟩ (runF ⟨fnOf, specB, L+1⟩ (n+1)) (.le (0 + K) (List.length (o.map celC))) := fun o ho => by show _ ≤ _; rw [show List.length (o.map celC) = _ from map_len, ho]; omega
  have leZ : Con.holds ⟨fnOf, specB, L+1⟩ (runF ⟨fnOf, specB, L+1⟩ (n+1)) (.le (0 + K) (List.length (zs.map celC))) := by show _ ≤ _; rw [show List.length (zs.map celC) = Ka from zml]; omega
  exact @pLi_7 (L+1) (n+1) rate fore att m r f xs ps qs ts zs us [] (tab tF K) (tab sF K) o1 o2 o3 o4 odd K 0 K K K M 0 0 st τ [] [] r f ts zs us o1 0 o2 0 o3 0 o4 0
    (call_den d1) (call_den d2) (by rw [zml]; exact call_den d3) hsl q3 (by rw [ct, cz]; exact h1) leOut leZ (by rw [ct, cu]; exact h2) leOut (by rw [ct, cs]; exact h3) (leT _ tab_len) (by rw [ct, cq]; exact h4) (leT _ tab_len) rfl rfl rfl rfl (by rw [m1, m2]; simp) (by rw [m3, m1]; simp) (by rw [m4, m1]; simp) q1
end
end Go.Proofs.Ytaklelfdcbgebaa.Fw
