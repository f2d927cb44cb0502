/- PulseBack: no other point at a point's own instant; the law's own run. -/
import Derived.Test.YtaklelfdcbgebaaLwFpC
import Derived.Test.YtaklelfdcbgebaaLwBcA
set_option maxRecDepth 100000
set_option maxHeartbeats 4000000
set_option exponentiation.threshold 4000
set_option linter.unusedSimpArgs false
set_option linter.unusedVariables false
namespace Go.Proofs.Ytaklelfdcbgebaa.Fw
open Go Go.RowKit
theorem sumI_weigh {n B : Nat} {g t : Nat → Int} (h : ∀ i, i < n → (g i).natAbs ≤ B * (t i).natAbs) : (sumI n g).natAbs ≤ B * sumT t n := by
  induction n with
  | zero => exact Nat.zero_le _
  | succ n ih =>
    have a := ih fun i hi => h i (by omega)
    have b := h n (by omega)
    unfold sumI
    rw [sumT, Nat.mul_add]
    omega
section
variable {r f K : Nat} {t z : Nat → Int} {ts : List Nat}
/-- AT ITS OWN INSTANT: the point -/
theorem own_point (hf : fitOk r f t ts) {k : Nat} (hk : k < K) : accS r ts.length z t (k * r + f) K 0 = z k * 64 := by
  obtain ⟨r1, r8, f1, f2, f3, f4, f5, f6, f7⟩ := hf
  rw [acc_same (by omega)]
  unfold accD
  rw [sumI_one (j := f) f1]
  · rw [if_pos]
    · rw [Nat.add_sub_cancel, Nat.mul_div_cancel _ (by omega), f5]
    · rw [Nat.add_sub_cancel, Nat.mul_mod_left, Nat.mul_div_cancel _ (by omega)]
      exact ⟨Nat.le_add_left .., rfl, hk⟩
  · intro i hi hn
    split
    · rename_i h
      obtain ⟨h1, h2, h3⟩ := h
      rw [f6 i hi hn, Int.mul_zero]
      have e : k * r + f - i = (k * r + f - i) / r * r := by
        have := Nat.div_add_mod (k * r + f - i) r
        rw [h2, Nat.mul_comm] at this; omega
      generalize (k * r + f - i) / r = q at e
      have e2 : (i : Int) - (f : Int) = (r : Int) * ((k : Int) - (q : Int)) := by
        rw [Int.mul_sub, Int.mul_comm (r : Int) k, Int.mul_comm (r : Int) q, ← Int.natCast_mul, ← Int.natCast_mul]
        omega
      rw [e2, Int.mul_tmod_right]
    · rfl
theorem acc_low (hf : fitOk r f t ts) (hz : ∀ k, (z k).natAbs ≤ 4096) (m : Nat) : (accS r ts.length z t m K 0).natAbs ≤ 1048576 := by
  obtain ⟨r1, r8, f1, f2, f3, f4, f5, f6, f7⟩ := hf
  rw [acc_same (by omega)]
  unfold accD
  have := sumI_weigh (n := ts.length) (B := 4096) (t := t) (g := fun i' => if i' ≤ m ∧ (m - i') % r = 0 ∧ (m - i') / r < K then z ((m - i') / r) * t i' else 0) (fun i hi => by
    show (if i ≤ m ∧ (m - i) % r = 0 ∧ (m - i) / r < K then z ((m - i) / r) * t i else 0).natAbs ≤ _
    split
    · rw [Int.natAbs_mul]; exact Nat.mul_le_mul_right _ (hz _)
    · exact Nat.zero_le _)
  omega
end
theorem grid_256 : grid 1048576 4643211215818981376 := ⟨⟨_, _, _, show Ieee.double.read 4643211215818981376 = .number false (2 ^ 52) (-44) by decide, by decide⟩, of_decide_eq_true (by kernel_rfl)⟩
theorem grid_m256 : grid (-1048576) 13866583252673757184 := ⟨⟨_, _, _, show Ieee.double.read 13866583252673757184 = .number true (2 ^ 52) (-44) by decide, by decide⟩, of_decide_eq_true (by kernel_rfl)⟩
/-- a number of the grid that is a number of sixty-fourths -/
theorem grid_six {a : Int} {x y : Nat} (hx : grid (a * 64) x) (hy : six a y) : feq x y = true := by
  rw [feq_fin hx.1 hy.1, hx.2, hy.2]
  refine decide_eq_true ?_
  rw [Int.mul_assoc, show (64 : Int) = 2 ^ 6 from rfl, ← Int.pow_add]
section
variable {L n : Nat} {rate fore att : Int} {xs ps : List Int} {odd : Nat}
theorem law_back (hm : xs.length ≤ 17592186044415) (hL : 70000 ≤ L) :
    den ⟨fnOf, specB, L+1⟩ (n+2) 8 [.agg [.int .i64 rate, .int .i64 fore, .lst 1 (xs.map celI), .flt odd, .int .i64 att], .lst 1 (ps.map celI)] = some (.v (.bool true)) := by
  obtain ⟨r, f, ts, t, d1, hf⟩ := @fit_den L n rate fore att xs odd hm (by omega)
  have d2 := @plain_den L n ps 400 (by omega) (by omega)
  generalize hKe : min (ps.length / 2) 400 = K at d2
  have hK : K ≤ 400 := by omega
  obtain ⟨zs, hzs⟩ : ∃ zs, zs = tab (plZ ps) K := ⟨_, rfl⟩
  rw [← hzs] at d2
  have zl : zs.length = K := by rw [hzs, tab_len]
  have zml : (zs.map celC).length = K := by rw [map_len, zl]
  have hsix : ∀ k, k < zs.length → six (zR ps k) (zs.getD k (0, 0)).1 ∧ six (zI ps k) (zs.getD k (0, 0)).2 := fun k hk => by
    rw [hzs, tab_at (by omega)]; exact plZ_six ps k
  obtain ⟨us, d3, ul, hu⟩ := @shape_fit (L+1) r f t (zR ps) (zI ps) ts (runF ⟨fnOf, specB, L+1⟩ (n+1)) zs hf (by omega) (fun k => by have := z_small ps k; omega) (fun k => by have := z_small ps k; omega) hsix
  rw [zl] at hu ul
  have hlen := len_fit hf (show K ≤ 1000 by omega)
  have hc := fit_chk hf
  obtain ⟨r1, r8, f1, f2, f3, f4, f5, f6, f7⟩ := id hf
  have hKr : K ≠ 0 → (K - 1) * r ≤ 399 * 8 := fun h => Nat.mul_le_mul (by omega) r8
  have hsh : shLen r ts.length K = if K = 0 then 0 else (K - 1) * r + ts.length := rfl
  have ubound : us.length ≤ 4000 := by
    rw [ul, hsh]
    split
    · omega
    · rename_i h; have := hKr h; omega
  have d4 := @samples_den L n us (by omega) (by omega)
  have sml : (smL us us.length).length = us.length := tab_len
  obtain ⟨rs, d5, rl, hr⟩ := @pick_den L n r f K t ts (smL us us.length) hf (by omega) (fun h => by rw [sml, ul, hsh, if_neg h]; omega) (by omega) (by omega)
  have uml : (us.map celC).length = us.length := map_len
  have rml : List.length (rs.map celS) = K := by rw [show List.length (rs.map celS) = _ from map_len, rl]
  have inM : ∀ k, k < K → k * r + f < us.length := fun k hk => by
    rw [ul, hsh, if_neg (by omega)]
    have : k * r ≤ (K - 1) * r := Nat.mul_le_mul_right _ (by omega)
    omega
  have rat : ∀ k, k < K → rs.getD k ((0, 0), false) = (us.getD (k * r + f) (0, 0), false) := fun k hk => by
    rw [hr k hk, Nat.add_comm f]
    unfold smL
    rw [tab_at (inM k hk)]
  have q1 : Con.holds ⟨fnOf, specB, L+1⟩ (runF ⟨fnOf, specB, L+1⟩ (n+1)) (.loop 0 [6, 7, 11, 13] m8b1 [72] (bc1St zs us rs 0) (.exit 0) (bc1St zs us rs K)) := by
    refine loopX (res := m8.res) (fun i => bc1St zs us rs i) K rfl (by omega) (fun i hi => ?_) ?_ (by simp)
    · have e := rat i hi
      obtain ⟨g1, g2⟩ := hu (i * r + f) (by rw [← ul]; exact inM i hi)
      rw [own_point hf hi] at g1 g2
      obtain ⟨s1, s2⟩ := hsix i (by omega)
      have hix : Con.holds ⟨fnOf, specB, L+1⟩ (runF ⟨fnOf, specB, L+1⟩ (n+1)) (.ix (.int .i64 i) (List.length (rs.map celS)) i) := by rw [rml]; exact ix_at hi
      have hat : Con.holds ⟨fnOf, specB, L+1⟩ (runF ⟨fnOf, specB, L+1⟩ (n+1)) (.at (rs.map celS) (0 + i) [.cpx (rs.getD i ((0, 0), false)).1.1 (rs.getD i ((0, 0), false)).1.2, .v (.bool (rs.getD i ((0, 0), false)).2)]) := by rw [Nat.zero_add]; exact atD_map (f := celS) (by omega)
      have hzx : Con.holds ⟨fnOf, specB, L+1⟩ (runF ⟨fnOf, specB, L+1⟩ (n+1)) (.ix (.int .i64 i) (List.length (zs.map celC)) i) := by rw [show List.length (zs.map celC) = K from zml]; exact ix_at hi
      have hza : Con.holds ⟨fnOf, specB, L+1⟩ (runF ⟨fnOf, specB, L+1⟩ (n+1)) (.at (zs.map celC) (0 + i) [.cpx (zs.getD i (0, 0)).1 (zs.getD i (0, 0)).2]) := by rw [Nat.zero_add]; exact atD_map (f := celC) (by omega)
      have := @bc1_2 (L+1) (n+1) 0 0 0 0 0 0 [] [] [] zs us rs [] 0 0 0 i 0 0 [] [72] i (rs.getD i ((0, 0), false)) i (rs.getD i ((0, 0), false)) i (zs.getD i (0, 0)) (by rw [zml]; exact dLt hi) hix hat (by rw [e]) hix hat hzx hza (by rw [e, grid_six g1 s1, grid_six g2 s2]; rfl)
      rw [wrapUp hi (by omega)] at this
      exact this
    · exact @bc1_3 (L+1) (n+1) 0 0 0 0 0 0 [] [] [] zs us rs [] 0 0 0 K 0 0 [] [72] (by rw [zml]; exact dNlt)
  have q0 : Con.holds ⟨fnOf, specB, L+1⟩ (runF ⟨fnOf, specB, L+1⟩ (n+1)) (.loop 0 [7, 14] m8b0 [74] (bc0St us 0) (.exit 2) (bc0St us us.length)) := by
    refine loopX (res := m8.res) (fun i => bc0St us i) us.length rfl (by omega) (fun i hi => ?_) ?_ (by simp)
    · obtain ⟨g1, g2⟩ := hu i (by omega)
      have a1 := @acc_low r f K t (zR ps) ts hf (fun k => (z_small ps k).1) i
      have a2 := @acc_low r f K t (zI ps) ts hf (fun k => (z_small ps k).2) i
      have hix : Con.holds ⟨fnOf, specB, L+1⟩ (runF ⟨fnOf, specB, L+1⟩ (n+1)) (.ix (.int .i64 i) (List.length (us.map celC)) i) := by rw [show List.length (us.map celC) = _ from uml]; exact ix_at hi
      have hat : Con.holds ⟨fnOf, specB, L+1⟩ (runF ⟨fnOf, specB, L+1⟩ (n+1)) (.at (us.map celC) (0 + i) [.cpx (us.getD i (0, 0)).1 (us.getD i (0, 0)).2]) := by rw [Nat.zero_add]; exact atD_map (f := celC) hi
      have c1 : fle (us.getD i (0, 0)).1 4643211215818981376 = true := by rw [grid_le g1 grid_256]; exact decide_eq_true (by omega)
      have c2 : fge (us.getD i (0, 0)).1 13866583252673757184 = true := by rw [grid_ge g1 grid_m256]; exact decide_eq_true (by omega)
      have c3 : fle (us.getD i (0, 0)).2 4643211215818981376 = true := by rw [grid_le g2 grid_256]; exact decide_eq_true (by omega)
      have c4 : fge (us.getD i (0, 0)).2 13866583252673757184 = true := by rw [grid_ge g2 grid_m256]; exact decide_eq_true (by omega)
      have := @bc0_1 (L+1) (n+1) 0 0 0 0 0 0 [] [] [] [] us [] [] 0 0 0 i 0 0 [] [74] i (us.getD i (0, 0)) i (us.getD i (0, 0)) i (us.getD i (0, 0)) i (us.getD i (0, 0)) (by rw [uml]; exact dLt hi) hix hat c1 hix hat c2 hix hat c3 hix hat (by rw [c4]; rfl)
      rw [wrapUp hi (by omega)] at this
      exact this
    · exact @bc0_5 (L+1) (n+1) 0 0 0 0 0 0 [] [] [] [] us [] [] 0 0 0 us.length 0 0 [] [74] (by rw [uml]; exact dNlt)
  have cz : cutX (zs.map celC) 0 (List.length (zs.map celC)) = zs.map celC := cutAll
  have ct : cutX (ts.map celF) 0 (List.length (ts.map celF)) = ts.map celF := cutAll
  have cu : cutX (us.map celC) 0 (List.length (us.map celC)) = us.map celC := cutAll
  have csm : cutX ((smL us us.length).map celS) 0 (List.length ((smL us us.length).map celS)) = (smL us us.length).map celS := cutAll
  have hcat : Con.holds ⟨fnOf, specB, L+1⟩ (runF ⟨fnOf, specB, L+1⟩ (n+1)) (.cat 1 16 true (cutX (zs.map celC) 0 (List.length (zs.map celC)))) := by rw [cz]; exact catC_ok (by simp only [most]; omega)
  have hlsp := spec_is (P := ⟨fnOf, specB, L+1⟩) (C := runF ⟨fnOf, specB, L+1⟩ (n+1)) (f := 13) rfl (lenSem_at (r : Int) (f : Int) ts (K : Int))
  rw [hlen] at hlsp
  have hck := spec_is (P := ⟨fnOf, specB, L+1⟩) (C := runF ⟨fnOf, specB, L+1⟩ (n+1)) (f := 28) rfl (chkSem_at (r : Int) (f : Int) ts)
  rw [hc] at hck
  exact @bc_6 (L+1) (n+1) rate fore att 0 0 0 xs ps [] zs us rs [] odd 0 0 K 0 us.length [] [] r f ts zs us 0 (shLen r ts.length K : Nat) 0 (smL us us.length) rs 0 0
    (call_den d1) (call_den d2) hcat leOut (by rw [ct, cz, cz]; exact d3) leOut (by rw [cz]; exact leOut) (by rw [ct, zml]; exact hlsp) (by rw [cu]; exact call_den d4) leOut (by rw [ct, csm, zml]; exact call_den d5) leOut (by rw [ct]; exact hck) rfl rfl rfl rfl (by rw [uml, ul]; simp) (by rw [rml, zml]; simp) q1 q0
end
end Go.Proofs.Ytaklelfdcbgebaa.Fw
