/- StraitLinear: sums, quarters: whole numbers; the loops. | StraitLinear: the law's whole run. -/
import Derived.Test.YtnphdnokedhhkaaLwM1
set_option maxRecDepth 100000
set_option maxHeartbeats 4000000
set_option exponentiation.threshold 4000
set_option linter.unusedSimpArgs false
set_option linter.unusedVariables false
namespace Go.Proofs.Ytnphdnokedhhkaa.Fw
open Go Go.RowKit
def rotI : Nat → CI → CI
  | 0, a => a
  | k + 1, a => (-(rotI k a).2, (rotI k a).1)
theorem grid_neg {m : Int} {x : Nat} (h : grid m x) : grid (-m) (fneg x) := by
  obtain ⟨h1, h2⟩ := fneg_fin h.1
  exact ⟨h1, by rw [h2, h.2, Int.neg_mul]⟩
theorem rot_six {m : CI} {z : Nat × Nat} (h : sixC m z) : ∀ k, sixC (rotI k m) (rotK k z)
  | 0 => h
  | k + 1 => ⟨six_neg (rot_six h k).2, (rot_six h k).1⟩
theorem rot_grid {m : CI} {z : Nat × Nat} (h : gridC m z) : ∀ k, gridC (rotI k m) (rotK k z)
  | 0 => h
  | k + 1 => ⟨grid_neg (rot_grid h k).2, (rot_grid h k).1⟩
theorem rot_abs (a : CI) : ∀ k, absI (rotI k a) = absI a ∧ ((rotI k a).1.natAbs = a.1.natAbs ∨ (rotI k a).1.natAbs = a.2.natAbs) ∧ ((rotI k a).2.natAbs = a.1.natAbs ∨ (rotI k a).2.natAbs = a.2.natAbs)
  | 0 => ⟨rfl, .inl rfl, .inr rfl⟩
  | k + 1 => by
    obtain ⟨h1, h2, h3⟩ := rot_abs a k
    unfold absI at h1 ⊢
    show (-(rotI k a).2).natAbs + (rotI k a).1.natAbs = _ ∧ ((-(rotI k a).2).natAbs = _ ∨ (-(rotI k a).2).natAbs = _) ∧ ((rotI k a).1.natAbs = _ ∨ (rotI k a).1.natAbs = _)
    omega
theorem rot_zero : ∀ k, rotI k (0, 0) = (0, 0)
  | 0 => rfl
  | k + 1 => by show (-(rotI k (0, 0)).2, (rotI k (0, 0)).1) = _; rw [rot_zero k]; rfl
theorem rot_add (a b : CI) : ∀ k, rotI k (addI a b) = addI (rotI k a) (rotI k b)
  | 0 => rfl
  | k + 1 => by
    show (-(rotI k (addI a b)).2, (rotI k (addI a b)).1) = _
    rw [rot_add a b k]
    show (-((rotI k a).2 + (rotI k b).2), _) = ((-(rotI k a).2) + (-(rotI k b).2), _)
    rw [Int.neg_add]; rfl
theorem rot_timL (a b : CI) : ∀ k, timI (rotI k a) b = rotI k (timI a b)
  | 0 => rfl
  | k + 1 => by
    show timI (-(rotI k a).2, (rotI k a).1) b = (-(rotI k (timI a b)).2, (rotI k (timI a b)).1)
    rw [← rot_timL a b k]
    generalize rotI k a = u
    unfold timI; simp only [Prod.mk.injEq]; constructor <;> grind
theorem rot_timR (a b : CI) : ∀ k, timI a (rotI k b) = rotI k (timI a b)
  | 0 => rfl
  | k + 1 => by
    show timI a (-(rotI k b).2, (rotI k b).1) = (-(rotI k (timI a b)).2, (rotI k (timI a b)).1)
    rw [← rot_timR a b k]
    generalize rotI k b = u
    unfold timI; simp only [Prod.mk.injEq]; constructor <;> grind
theorem sm_rotH {h F : Nat → CI} (q : Nat) : ∀ k, smI (fun j => rotI q (h j)) F k = rotI q (smI h F k)
  | 0 => (rot_zero q).symm
  | k + 1 => by
    show addI (smI (fun j => rotI q (h j)) F k) (timI (rotI q (h k)) (F k)) = rotI q (addI (smI h F k) (timI (h k) (F k)))
    rw [sm_rotH q k, rot_timL, rot_add]
theorem sm_rotF {h F : Nat → CI} (q : Nat) : ∀ k, smI h (fun j => rotI q (F j)) k = rotI q (smI h F k)
  | 0 => (rot_zero q).symm
  | k + 1 => by
    show addI (smI h (fun j => rotI q (F j)) k) (timI (h k) (rotI q (F k))) = rotI q (addI (smI h F k) (timI (h k) (F k)))
    rw [sm_rotF q k, rot_timR, rot_add]
theorem sm_addF {h F G : Nat → CI} : ∀ k, smI h (fun j => addI (F j) (G j)) k = addI (smI h F k) (smI h G k)
  | 0 => rfl
  | k + 1 => by
    show addI (smI h (fun j => addI (F j) (G j)) k) (timI (h k) (addI (F k) (G k))) = addI (addI (smI h F k) (timI (h k) (F k))) (addI (smI h G k) (timI (h k) (G k)))
    rw [sm_addF k, ciL, ciX]
theorem sm_zeroF {h F : Nat → CI} : ∀ k, (∀ j, j < k → F j = (0, 0)) → smI h F k = (0, 0)
  | 0, _ => rfl
  | k + 1, hh => by
    show addI (smI h F k) (timI (h k) (F k)) = _
    rw [sm_zeroF k (fun j hj => hh j (by omega)), hh k (by omega), timI_zero, addI_zero]
theorem conv_none {h : Nat → CI} {ap : Nat} {at' : Int} {k : Nat} : conv h (xat []) ap at' k = (0, 0) := by
  rw [conv_sm]
  exact sm_zeroF k fun j _ => if_neg (by simp)
theorem conv_addx {h : Nat → CI} {x y z : Int → CI} {ap : Nat} {at' : Int} {k : Nat} (hz : ∀ i, z i = addI (x i) (y i)) : conv h z ap at' k = addI (conv h x ap at' k) (conv h y ap at' k) := by
  rw [conv_sm, conv_sm, conv_sm, ← sm_addF]
  exact sm_congr k (fun _ _ => rfl) (fun j _ => hz _)
theorem conv_rotx {h : Nat → CI} {x z : Int → CI} {ap : Nat} {at' : Int} {k q : Nat} (hz : ∀ i, z i = rotI q (x i)) : conv h z ap at' k = rotI q (conv h x ap at' k) := by
  rw [conv_sm, conv_sm, ← sm_rotF]
  exact sm_congr k (fun _ _ => rfl) (fun j _ => hz _)
theorem conv_roth {h g : Nat → CI} {x : Int → CI} {ap : Nat} {at' : Int} {k q : Nat} (hz : ∀ j, j < k → h j = rotI q (g j)) : conv h x ap at' k = rotI q (conv g x ap at' k) := by
  rw [conv_sm, conv_sm, ← sm_rotH]
  exact sm_congr k hz (fun _ _ => rfl)
/-- a row by its places, as whole numbers -/
theorem xat_tab {f : Nat → Nat × Nat} {N : Nat} {g : Int → CI} (h1 : ∀ j : Nat, j < N → sxC (f j) = g j) (h2 : ∀ i : Int, i < 0 ∨ (N : Int) ≤ i → g i = (0, 0)) (i : Int) : xat (tab f N) i = g i := by
  unfold xat
  rw [tab_len]
  by_cases c : 0 ≤ i ∧ i < N
  · rw [if_pos c, tab_at (by omega), h1 _ (by omega), show ((i.toNat : Nat) : Int) = i by omega]
  · rw [if_neg c, h2 i (by omega)]
theorem plC_one {M : Nat} {z : Nat × Nat} (h : plC 1 M z) : sixC (sxC z) z ∧ (sxC z).1.natAbs ≤ M ∧ (sxC z).2.natAbs ≤ M := by
  obtain ⟨m, h1, h2, h3⟩ := h
  rw [sixC_sx h1]
  exact ⟨h1, h2, h3⟩
theorem six_addC {a b : CI} {x y : Nat × Nat} (hx : sixC a x) (hy : sixC b y) (a1 : a.1.natAbs ≤ 8192) (a2 : a.2.natAbs ≤ 8192) (b1 : b.1.natAbs ≤ 8192) (b2 : b.2.natAbs ≤ 8192) : sixC (addI a b) (addP x y) :=
  ⟨six_add hx.1 hy.1 (by omega), six_add hx.2 hy.2 (by omega)⟩
section
variable {L n : Nat}
variable {q r d : Int} {ta ea al bl ol l5 l6 l7 : List (Nat × Nat)} {na nb no n5 n6 n7 : Nat} {s5 s6 s7 : List Nat}
theorem turn_told {a b : Nat} : Con.holds ⟨fnOf, specG, L+1⟩ (runF ⟨fnOf, specG, L+1⟩ (n+1)) (.call 36 [.cpx a b] (.cpx (fneg b) a)) := call_den (@tur_0 (L+1) n a b)
theorem spin1 {π : List Nat} {i : Nat} {z : Nat × Nat} (hq : 0 ≤ q) (hL : 10 ≤ L) :
    Con.holds ⟨fnOf, specG, L+1⟩ (runF ⟨fnOf, specG, L+1⟩ (n+1)) (.loop 0 [4, 11, 12, 13, 14, 15, 16, 17, 18, 19, 20] m11b3 π (lqC q r d ta ea al bl ol l5 l6 l7 na nb no n5 n6 n7 s5 s6 s7 i z 0) (.exit 2) (lqC q r d ta ea al bl ol l5 l6 l7 na nb no n5 n6 n7 s5 s6 s7 i (rotK (quarters q) z) (quarters q))) := by
  have e : q.tmod 4 = (quarters q : Int) := by unfold quarters; rw [Int.tmod_eq_emod_of_nonneg hq]; omega
  have hle := quarters_le q
  refine loop0 (fun k => lqC q r d ta ea al bl ol l5 l6 l7 na nb no n5 n6 n7 s5 s6 s7 i (rotK k z) k) (quarters q) rfl (by omega) (fun k hk => ?_) (@lqc_1 (L+1) (n+1) 0 0 0 0 [] [] [] [] [] 0 q r d ta ea al bl ol l5 l6 l7 [] na nb no n5 n6 n7 0 i 0 0 s5 s6 s7 [] π (rotK (quarters q) z) (quarters q) 0 [] [] [] [] [] [] [] 0 0 0 0 0 0 0 (by rw [e]; exact dNlt)) (by simp)
  have := @lqc_0 (L+1) (n+1) 0 0 0 0 [] [] [] [] [] 0 q r d ta ea al bl ol l5 l6 l7 [] na nb no n5 n6 n7 0 i 0 0 s5 s6 s7 [] π (rotK k z) k 0 [] [] [] [] [] [] [] 0 0 0 0 0 0 0 _ _ (by rw [e]; exact dLt hk) turn_told
  rw [wrapUp (m := 10) (by omega) (by omega)] at this
  exact this
theorem spin2 {nn : Int} {yp yq yr ya yv yt yu : List (Nat × Nat)} {zp zq zr za zv zt zu : Nat} {π : List Nat} {i : Nat} {z : Nat × Nat} (hq : 0 ≤ q) (hL : 10 ≤ L) :
    Con.holds ⟨fnOf, specG, L+1⟩ (runF ⟨fnOf, specG, L+1⟩ (n+1)) (.loop 0 [4, 22, 23, 25, 27, 29, 31, 34, 35, 36, 37, 38] m11b0 π (lqG q nn yp yq yr ya yv yt yu zp zq zr za zv zt zu i z 0) (.exit 8) (lqG q nn yp yq yr ya yv yt yu zp zq zr za zv zt zu i (rotK (quarters q) z) (quarters q))) := by
  have e : q.tmod 4 = (quarters q : Int) := by unfold quarters; rw [Int.tmod_eq_emod_of_nonneg hq]; omega
  have hle := quarters_le q
  refine loop0 (fun k => lqG q nn yp yq yr ya yv yt yu zp zq zr za zv zt zu i (rotK k z) k) (quarters q) rfl (by omega) (fun k hk => ?_) (@lqg_1 (L+1) (n+1) q nn yp yq yr ya yv yt yu zp zq zr za zv zt zu i π (rotK (quarters q) z) (quarters q) (by rw [e]; exact dNlt)) (by simp)
  have := @lqg_0 (L+1) (n+1) q nn yp yq yr ya yv yt yu zp zq zr za zv zt zu i π (rotK k z) k _ _ (by rw [e]; exact dLt hk) turn_told
  rw [wrapUp (m := 10) (by omega) (by omega)] at this
  exact this
/-- sums and turned numbers -/
theorem sums_loop (hq : 0 ≤ q) (ha : na ≤ al.length) (hb : na ≤ nb) (hb2 : nb = bl.length) (hm : na ≤ 1000) (hL : 5000 ≤ L) :
    ∃ s5 s6, Con.holds ⟨fnOf, specG, L+1⟩ (runF ⟨fnOf, specG, L+1⟩ (n+1)) (.loop 0 [4, 11, 12, 13, 14, 15, 16, 17, 18] m11b4 [31] (lqA q r d ta ea al bl ol [] [] [] na nb no 0 0 0 [31] [31] [31] 0) (.exit 0)
      (lqA q r d ta ea al bl ol (tab (fun i => addP (al.getD i (0, 0)) (bl.getD i (0, 0))) na) (tab (fun i => rotK (quarters q) (al.getD i (0, 0))) na) [] na nb no na na 0 s5 s6 [31] na)) := by
  obtain ⟨s', g1, s5, s6, rfl⟩ := loopJ (P := ⟨fnOf, specG, L+1⟩) (C := runF ⟨fnOf, specG, L+1⟩ (n+1)) (L := L) (d := 0) (live := [4, 11, 12, 13, 14, 15, 16, 17, 18]) (π := [31]) (m := m11b4) (A := lqA q r d ta ea al bl ol [] [] [] na nb no 0 0 0 [31] [31] [31] 0)
    (fun i s => ∃ s5 s6, s = lqA q r d ta ea al bl ol (tab (fun i => addP (al.getD i (0, 0)) (bl.getD i (0, 0))) i) (tab (fun i => rotK (quarters q) (al.getD i (0, 0))) i) [] na nb no i i 0 s5 s6 [31] i)
    (fun s => ∃ s5 s6, s = lqA q r d ta ea al bl ol (tab (fun i => addP (al.getD i (0, 0)) (bl.getD i (0, 0))) na) (tab (fun i => rotK (quarters q) (al.getD i (0, 0))) na) [] na nb no na na 0 s5 s6 [31] na) na (x := .exit 0) (by simp) rfl (by omega) ⟨[31], [31], rfl⟩
    (fun i s hi hs => by
      obtain ⟨s5, s6, rfl⟩ := hs
      have hA : Con.holds ⟨fnOf, specG, L+1⟩ (runF ⟨fnOf, specG, L+1⟩ (n+1)) (.at (al.map celC) (0 + i) (celC (al.getD i (0, 0)))) := by rw [Nat.zero_add]; exact atD_map (f := celC) (by omega)
      have hB : Con.holds ⟨fnOf, specG, L+1⟩ (runF ⟨fnOf, specG, L+1⟩ (n+1)) (.at (bl.map celC) (0 + i) (celC (bl.getD i (0, 0)))) := by rw [Nat.zero_add]; exact atD_map (f := celC) (by omega)
      have p5 : Con.holds ⟨fnOf, specG, L+1⟩ (runF ⟨fnOf, specG, L+1⟩ (n+1)) (.push i 1 16 ((tab (fun i => addP (al.getD i (0, 0)) (bl.getD i (0, 0))) i).map celC)) := push_ok (by rw [map_len, tab_len]) (by simp only [most]; omega)
      have p6 : Con.holds ⟨fnOf, specG, L+1⟩ (runF ⟨fnOf, specG, L+1⟩ (n+1)) (.push i 1 16 ((tab (fun i => rotK (quarters q) (al.getD i (0, 0))) i).map celC)) := push_ok (by rw [map_len, tab_len]) (by simp only [most]; omega)
      have := @lqa_0 (L+1) (n+1) 0 0 0 0 [] [] [] [] [] 0 q r d ta ea al bl ol (tab (fun i => addP (al.getD i (0, 0)) (bl.getD i (0, 0))) i) (tab (fun i => rotK (quarters q) (al.getD i (0, 0))) i) [] [] na nb no i i 0 0 i 0 0 s5 s6 [31] [] [31] (rotK (quarters q) (al.getD i (0, 0))) (quarters q) 0 [] [] [] [] [] [] [] 0 0 0 0 0 0 0 i (al.getD i (0, 0)) i (al.getD i (0, 0)) i (bl.getD i (0, 0))
        (dLt hi) (ix_at hi) hA (spin1 hq (by omega)) (ix_at hi) hA (ix_at (by omega)) hB p5 p6
      rw [wrapUp (m := 1000) (by omega) (by omega)] at this
      refine ⟨_, this, [22, i] ++ [31], [27, i] ++ [31], ?_⟩
      unfold lqA
      rw [tab_up, tab_up, List.map_append, List.map_append]
      rfl)
    (fun s hs => by
      obtain ⟨s5, s6, rfl⟩ := hs
      exact ⟨_, @lqa_1 (L+1) (n+1) 0 0 0 0 [] [] [] [] [] 0 q r d ta ea al bl ol (tab (fun i => addP (al.getD i (0, 0)) (bl.getD i (0, 0))) na) (tab (fun i => rotK (quarters q) (al.getD i (0, 0))) na) [] [] na nb no na na 0 0 na 0 0 s5 s6 [31] [] [31] (0, 0) 0 0 [] [] [] [] [] [] [] 0 0 0 0 0 0 0 dNlt, s5, s6, rfl⟩)
  exact ⟨s5, s6, g1⟩
theorem twice_loop (ho : no = ol.length) (hm : no ≤ 1000) (hL : 5000 ≤ L) :
    ∃ s7, Con.holds ⟨fnOf, specG, L+1⟩ (runF ⟨fnOf, specG, L+1⟩ (n+1)) (.loop 0 [4, 11, 12, 13, 14, 15, 16, 17, 21] m11b2 [33] (lqB q r d ta ea al bl ol l5 l6 [] na nb no n5 n6 0 s5 s6 [31] 0) (.exit 4)
      (lqB q r d ta ea al bl ol l5 l6 (tab (fun i => addP (ol.getD i (0, 0)) (ol.getD i (0, 0))) no) na nb no n5 n6 no s5 s6 s7 no)) := by
  obtain ⟨s', g1, s7, rfl⟩ := loopJ (P := ⟨fnOf, specG, L+1⟩) (C := runF ⟨fnOf, specG, L+1⟩ (n+1)) (L := L) (d := 0) (live := [4, 11, 12, 13, 14, 15, 16, 17, 21]) (π := [33]) (m := m11b2) (A := lqB q r d ta ea al bl ol l5 l6 [] na nb no n5 n6 0 s5 s6 [31] 0)
    (fun i s => ∃ s7, s = lqB q r d ta ea al bl ol l5 l6 (tab (fun i => addP (ol.getD i (0, 0)) (ol.getD i (0, 0))) i) na nb no n5 n6 i s5 s6 s7 i)
    (fun s => ∃ s7, s = lqB q r d ta ea al bl ol l5 l6 (tab (fun i => addP (ol.getD i (0, 0)) (ol.getD i (0, 0))) no) na nb no n5 n6 no s5 s6 s7 no) no (x := .exit 4) (by simp) rfl (by omega) ⟨[31], rfl⟩
    (fun i s hi hs => by
      obtain ⟨s7, rfl⟩ := hs
      have hA : Con.holds ⟨fnOf, specG, L+1⟩ (runF ⟨fnOf, specG, L+1⟩ (n+1)) (.at (ol.map celC) (0 + i) (celC (ol.getD i (0, 0)))) := by rw [Nat.zero_add]; exact atD_map (f := celC) (by omega)
      have p5 : Con.holds ⟨fnOf, specG, L+1⟩ (runF ⟨fnOf, specG, L+1⟩ (n+1)) (.push i 1 16 ((tab (fun i => addP (ol.getD i (0, 0)) (ol.getD i (0, 0))) i).map celC)) := push_ok (by rw [map_len, tab_len]) (by simp only [most]; omega)
      have := @lqb_0 (L+1) (n+1) 0 0 0 0 [] [] [] [] [] 0 q r d ta ea al bl ol l5 l6 (tab (fun i => addP (ol.getD i (0, 0)) (ol.getD i (0, 0))) i) [] na nb no n5 n6 i 0 i 0 0 s5 s6 s7 [] [33] (0, 0) 0 0 [] [] [] [] [] [] [] 0 0 0 0 0 0 0 i (ol.getD i (0, 0)) i (ol.getD i (0, 0)) (dLt hi) (ix_at hi) hA (ix_at hi) hA p5
      rw [wrapUp (m := 1000) (by omega) (by omega)] at this
      refine ⟨_, this, [15, i] ++ [33], ?_⟩
      unfold lqB
      rw [tab_up, List.map_append]
      rfl)
    (fun s hs => by
      obtain ⟨s7, rfl⟩ := hs
      exact ⟨_, @lqb_1 (L+1) (n+1) 0 0 0 0 [] [] [] [] [] 0 q r d ta ea al bl ol l5 l6 (tab (fun i => addP (ol.getD i (0, 0)) (ol.getD i (0, 0))) no) [] na nb no n5 n6 no 0 no 0 0 s5 s6 s7 [] [33] (0, 0) 0 0 [] [] [] [] [] [] [] 0 0 0 0 0 0 0 dNlt, s7, rfl⟩)
  exact ⟨s7, g1⟩
/-- the last loop: sums are sums, turned is turned -/
theorem same_loop {yp yq yr ya yv yt yu : List (Nat × Nat)} {N : Nat} (hq : 0 ≤ q) (hm : N ≤ 1000) (hL : 5000 ≤ L) (lp : yp.length = N) (lq : yq.length = N) (lr : yr.length = N) (la : ya.length = N) (lv : yv.length = N) (lt : yt.length = N) (lu : yu.length = N)
    (g : ∀ i, i < N → ∃ A B V P Q R : CI, gridC A (ya.getD i (0, 0)) ∧ gridC V (yv.getD i (0, 0)) ∧ gridC P (yp.getD i (0, 0)) ∧ gridC Q (yq.getD i (0, 0)) ∧ gridC R (yr.getD i (0, 0)) ∧ R = addI P Q ∧ P = addI A V ∧
      gridC (rotI (quarters q) A) (yt.getD i (0, 0)) ∧ gridC (rotI (quarters q) A) (yu.getD i (0, 0)) ∧ (P.1.natAbs ≤ 134217728 ∧ P.2.natAbs ≤ 134217728) ∧ (Q.1.natAbs ≤ 134217728 ∧ Q.2.natAbs ≤ 134217728)) :
    Con.holds ⟨fnOf, specG, L+1⟩ (runF ⟨fnOf, specG, L+1⟩ (n+1)) (.loop 0 [4, 22, 23, 25, 27, 29, 31, 34, 35, 36] m11b1 [184] (lqF q N yp yq yr ya yv yt yu N N N N N N N 0) (.exit 6) (lqF q N yp yq yr ya yv yt yu N N N N N N N N)) := by
  refine loopX (res := m11.res) (fun i => lqF q N yp yq yr ya yv yt yu N N N N N N N i) N rfl (by omega) (fun i hi => ?_) (@lqf_5 (L+1) (n+1) q N yp yq yr ya yv yt yu N N N N N N N N [184] (0, 0) 0 dNlt) (by simp)
  obtain ⟨A, _, V, P, Q, R, gA, gV, gP, gQ, gR, e1, e2, gt, gu, bP, bQ⟩ := g i hi
  have at' : ∀ l : List (Nat × Nat), l.length = N → Con.holds ⟨fnOf, specG, L+1⟩ (runF ⟨fnOf, specG, L+1⟩ (n+1)) (.at (l.map celC) (0 + i) (celC (l.getD i (0, 0)))) := fun l hl => by rw [Nat.zero_add]; exact atD_map (f := celC) (by omega)
  have hx := @ix_at ⟨fnOf, specG, L+1⟩ (runF ⟨fnOf, specG, L+1⟩ (n+1)) i N hi
  have eqq : ∀ {K : CI} {z w : Nat × Nat}, gridC K z → gridC K w → (!(feq z.1 w.1 && feq z.2 w.2)) = false := fun {K z w} h1 h2 => by
    rw [grid_eq h1.1 h2.1, grid_eq h1.2 h2.2, decide_eq_true rfl, decide_eq_true rfl]; rfl
  have hb : A.1 + V.1 = P.1 ∧ A.2 + V.2 = P.2 := by rw [e2]; exact ⟨rfl, rfl⟩
  have s1 : gridC R (addP (yp.getD i (0, 0)) (yq.getD i (0, 0))) := by rw [e1]; exact ⟨grid_add gP.1 gQ.1 (by omega), grid_add gP.2 gQ.2 (by omega)⟩
  have s2 : gridC P (addP (ya.getD i (0, 0)) (yv.getD i (0, 0))) := by
    have w1 := grid_add gA.1 gV.1 (by omega)
    have w2 := grid_add gA.2 gV.2 (by omega)
    rw [hb.1] at w1
    rw [hb.2] at w2
    exact ⟨w1, w2⟩
  have rz := rot_grid gA (quarters q)
  have := @lqf_4 (L+1) (n+1) q N yp yq yr ya yv yt yu N N N N N N N i [184] (rotK (quarters q) (ya.getD i (0, 0))) (quarters q) i (ya.getD i (0, 0)) i (yr.getD i (0, 0)) i (yp.getD i (0, 0)) i (yq.getD i (0, 0)) i (yp.getD i (0, 0)) i (ya.getD i (0, 0)) i (yv.getD i (0, 0)) i (yt.getD i (0, 0)) i (yu.getD i (0, 0))
    (dLt hi) hx (at' _ la) (spin2 hq (by omega)) hx (at' _ lr) hx (at' _ lp) hx (at' _ lq) (eqq gR s1) hx (at' _ lp) hx (at' _ la) hx (at' _ lv) (eqq gP s2) hx (at' _ lt) (eqq gt rz) hx (at' _ lu) (eqq gu rz)
  rw [wrapUp (m := 1000) (by omega) (by omega)] at this
  exact this
end
end Go.Proofs.Ytnphdnokedhhkaa.Fw
namespace Go.Proofs.Ytnphdnokedhhkaa.Fw
open Go Go.RowKit
theorem cuC3 (l : List (Nat × Nat)) : cutX (l.map celC) 0 (l.map celC).length = l.map celC := by
  rw [cutM, List.take_of_length_le (by rw [map_len]; exact Nat.le_refl _)]
theorem cuN {l : List (Nat × Nat)} {k : Nat} (h : k = l.length) : cutX (l.map celC) 0 k = l.map celC := by
  rw [cutM, List.take_of_length_le (by omega)]
theorem turned_toldG {P : Prog} {C : Caller} (hp : P.spec = specG) {r d q : Int} {ta ea : List (Nat × Nat)} (h : chkT r d ta ea = 0) :
    Con.holds P C (.spec 26 [.agg [.int .i64 r, .int .i64 d, .lst 1 (ta.map celC), .lst 1 (ea.map celC)], .int .i64 q] (.tup [.agg [.int .i64 r, .int .i64 d, .own 1 ((ta.map (rotK (quarters q))).map celC) true, .own 1 (ea.map celC) true], .int .i64 0])) := by
  obtain ⟨h1, h2⟩ := taps_short h
  refine spec_is (g := fun avs => den ⟨fnOf, specZ, 70001⟩ 2 26 (avs.map nzA)) (by rw [hp]; rfl) ?_
  have := @turned_prog 70000 0 r d q ta ea (by omega) h1 h2
  unfold chgA at this
  rw [if_pos h] at this
  exact this
theorem tat_rot {ta : List (Nat × Nat)} (h : ∀ i, i < ta.length → okTap (ta.getD i (0, 0)) = true) (k : Nat) {j : Nat} (hj : j < ta.length) : sixC (rotI k (tat ta j)) ((ta.map (rotK k)).getD j (0, 0)) ∧ tat (ta.map (rotK k)) j = rotI k (tat ta j) := by
  have e : (ta.map (rotK k)).getD j (0, 0) = rotK k (ta.getD j (0, 0)) := by
    rw [List.getD_eq_getElem?_getD, List.getElem?_map, List.getD_eq_getElem?_getD, List.getElem?_eq_getElem hj]; rfl
  obtain ⟨h1, _, _⟩ := okTap_six (h j hj)
  have h2 := rot_six h1 k
  unfold tat
  rw [e]
  exact ⟨h2, sixC_sx h2⟩
theorem rot_taps {ta : List (Nat × Nat)} (h : tapsF ta = true) (k : Nat) : tapsF (ta.map (rotK k)) = true := by
  obtain ⟨h1, h2, h3, _⟩ := tapsF_is.1 h
  have hs : ∀ j, j ≤ ta.length → sumA (tat (ta.map (rotK k))) j = sumA (tat ta) j := by
    intro j
    induction j with
    | zero => intro _; rfl
    | succ j ih =>
      intro hj
      show sumA _ j + absI (tat (ta.map (rotK k)) j) = sumA _ j + absI (tat ta j)
      rw [ih (by omega), (tat_rot h3 k (by omega)).2, (rot_abs _ k).1]
  refine tapsF_of (by rw [List.length_map]; exact h1) (by rw [List.length_map]; exact h2) (fun i hi => ?_) ?_
  · rw [List.length_map] at hi
    obtain ⟨q1, _⟩ := tat_rot h3 k hi
    obtain ⟨_, b1, b2⟩ := okTap_six (h3 i hi)
    obtain ⟨_, c1, c2⟩ := rot_abs (tat ta i) k
    have b1 : (tat ta i).1.natAbs ≤ 64 := b1
    have b2 : (tat ta i).2.natAbs ≤ 64 := b2
    exact okTap_of q1 (by omega) (by omega)
  · rw [List.length_map, hs _ (Nat.le_refl _)]; exact tap_sum h
theorem law_linear {L n : Nat} {rate delay att quar : Int} {ts es ps qs ks : List Int} {odd : Nat} (m1 : ts.length ≤ 17592186044406) (m2 : es.length ≤ 17592186044406) (m3 : ps.length ≤ 17592186044406) (m4 : qs.length ≤ 17592186044406) (m5 : ks.length ≤ 17592186044406) (hL : 5000 ≤ L) :
    den ⟨fnOf, specG, L+1⟩ (n+2) 11 [.agg [.int .i64 rate, .int .i64 delay, .lst 1 (ts.map celI), .lst 1 (es.map celI), .flt odd, .int .i64 att], .lst 1 (ps.map celI), .lst 1 (qs.map celI), .lst 1 (ks.map celI), .int .i64 quar] = some (.v (.bool true)) := by
  obtain ⟨r, d, ta, ea, f1, hc, hd⟩ := @fit_toldG ⟨fnOf, specG, L+1⟩ (runF ⟨fnOf, specG, L+1⟩ (n+1)) rfl rate delay att ts es odd m1 m2
  obtain ⟨al, p1, zl, zp⟩ := @plain_toldG ⟨fnOf, specG, L+1⟩ (runF ⟨fnOf, specG, L+1⟩ (n+1)) rfl ps 64 64 150 1 150 (.inl ⟨rfl, rfl⟩) (by decide) rfl (by decide) m3
  obtain ⟨bl, p2, yl, yp⟩ := @plain_toldG ⟨fnOf, specG, L+1⟩ (runF ⟨fnOf, specG, L+1⟩ (n+1)) rfl qs 64 64 ((al.map celC).length : Int) 1 al.length (.inl ⟨rfl, rfl⟩) (by decide) (by rw [map_len]) (by omega) m4
  obtain ⟨ol, p3, wl, wp⟩ := @plain_toldG ⟨fnOf, specG, L+1⟩ (runF ⟨fnOf, specG, L+1⟩ (n+1)) rfl ks 64 64 150 1 150 (.inl ⟨rfl, rfl⟩) (by decide) rfl (by decide) m5
  have zp : ∀ j, j < al.length → plC 1 4096 (al.getD j (0, 0)) := zp
  have yp : ∀ j, j < bl.length → plC 1 4096 (bl.getD j (0, 0)) := yp
  have wp : ∀ j, j < ol.length → plC 1 4096 (ol.getD j (0, 0)) := wp
  obtain ⟨r1, r1', q1, q1', t1, t2⟩ := chkT_ok hc
  obtain ⟨ua0, ua, ua3, _⟩ := tapsF_is.1 t1
  obtain ⟨q, hq, hq0⟩ : ∃ q : Int, IntKind.wrap .i64 (((BitVec.ofInt 64 quar &&& BitVec.ofInt 64 255).toNat : Nat) : Int) = q ∧ 0 ≤ q := ⟨quar % 2 ^ 8, iand_mask (m := 8) (by decide), by omega⟩
  have hla : (al.map celC).length = al.length := map_len
  have hlb : (bl.map celC).length = bl.length := map_len
  have hlo : (ol.map celC).length = ol.length := map_len
  -- the rows
  have ax : ∀ i, (xat al i).1.natAbs ≤ 4096 ∧ (xat al i).2.natAbs ≤ 4096 := fun i => by
    unfold xat
    by_cases c : 0 ≤ i ∧ i < al.length
    · rw [if_pos c]; exact (plC_one (zp i.toNat (by omega))).2
    · rw [if_neg c]; exact ⟨by decide, by decide⟩
  obtain ⟨xa, hxa⟩ : ∃ xa : List (Nat × Nat), xa = al.take bl.length := ⟨_, rfl⟩
  have lxa : xa.length = bl.length := by rw [hxa, List.length_take]; omega
  have gxa : ∀ j, j < bl.length → xa.getD j (0, 0) = al.getD j (0, 0) := fun j hj => by
    rw [hxa, List.getD_eq_getElem?_getD, List.getElem?_take, if_pos hj, ← List.getD_eq_getElem?_getD]
  have xr : rowF xa = true := rowF_plC (M := 4096) (q := 1) (by decide) fun j hj => by rw [gxa j (by omega)]; exact zp j (by omega)
  have br : rowF bl = true := rowF_plC (by decide) yp
  have orw : rowF ol = true := rowF_plC (by decide) wp
  have six5 : ∀ j, j < bl.length → sixC (addI (sxC (xa.getD j (0, 0))) (sxC (bl.getD j (0, 0)))) (addP (al.getD j (0, 0)) (bl.getD j (0, 0))) ∧ (addI (sxC (xa.getD j (0, 0))) (sxC (bl.getD j (0, 0)))).1.natAbs ≤ 8192 ∧ (addI (sxC (xa.getD j (0, 0))) (sxC (bl.getD j (0, 0)))).2.natAbs ≤ 8192 := fun j hj => by
    rw [gxa j hj]
    obtain ⟨a1, a2, a3⟩ := plC_one (zp j (by omega))
    obtain ⟨b1, b2, b3⟩ := plC_one (yp j hj)
    refine ⟨six_addC a1 b1 (by omega) (by omega) (by omega) (by omega), ?_, ?_⟩
    · show (_ + _ : Int).natAbs ≤ _; omega
    · show (_ + _ : Int).natAbs ≤ _; omega
  have six6 : ∀ j, j < bl.length → sixC (rotI (quarters q) (sxC (xa.getD j (0, 0)))) (rotK (quarters q) (al.getD j (0, 0))) ∧ (rotI (quarters q) (sxC (xa.getD j (0, 0)))).1.natAbs ≤ 8192 ∧ (rotI (quarters q) (sxC (xa.getD j (0, 0)))).2.natAbs ≤ 8192 := fun j hj => by
    rw [gxa j hj]
    obtain ⟨a1, a2, a3⟩ := plC_one (zp j (by omega))
    obtain ⟨_, c1, c2⟩ := rot_abs (sxC (al.getD j (0, 0))) (quarters q)
    exact ⟨rot_six a1 _, by omega, by omega⟩
  have six7 : ∀ j, j < ol.length → sixC (addI (sxC (ol.getD j (0, 0))) (sxC (ol.getD j (0, 0)))) (addP (ol.getD j (0, 0)) (ol.getD j (0, 0))) ∧ (addI (sxC (ol.getD j (0, 0))) (sxC (ol.getD j (0, 0)))).1.natAbs ≤ 8192 ∧ (addI (sxC (ol.getD j (0, 0))) (sxC (ol.getD j (0, 0)))).2.natAbs ≤ 8192 := fun j hj => by
    obtain ⟨a1, a2, a3⟩ := plC_one (wp j hj)
    refine ⟨six_addC a1 a1 (by omega) (by omega) (by omega) (by omega), ?_, ?_⟩
    · show (_ + _ : Int).natAbs ≤ _; omega
    · show (_ + _ : Int).natAbs ≤ _; omega
  have xo : ∀ (l : List (Nat × Nat)) (j : Nat), j < l.length → xat l (j : Int) = sxC (l.getD j (0, 0)) := fun l j hj => by unfold xat; rw [if_pos (by omega), Int.toNat_natCast]
  have xz : ∀ (l : List (Nat × Nat)) (i : Int), i < 0 ∨ (l.length : Int) ≤ i → xat l i = (0, 0) := fun l i hi => if_neg (by omega)
  have v5 : ∀ i, xat (tab (fun i => addP (al.getD i (0, 0)) (bl.getD i (0, 0))) bl.length) i = addI (xat xa i) (xat bl i) :=
    xat_tab (fun j hj => by rw [sixC_sx (six5 j hj).1, xo xa j (by omega), xo bl j hj]) (fun i hi => by rw [xz xa i (by omega), xz bl i hi]; rfl)
  have v6 : ∀ i, xat (tab (fun i => rotK (quarters q) (al.getD i (0, 0))) bl.length) i = rotI (quarters q) (xat xa i) :=
    xat_tab (g := fun i => rotI (quarters q) (xat xa i)) (fun j hj => by rw [sixC_sx (six6 j hj).1, xo xa j (by omega)]) (fun i hi => by show rotI _ (xat xa i) = _; rw [xz xa i (by omega), rot_zero])
  have v7 : ∀ i, xat (tab (fun i => addP (ol.getD i (0, 0)) (ol.getD i (0, 0))) ol.length) i = addI (xat ol i) (xat ol i) :=
    xat_tab (g := fun i => addI (xat ol i) (xat ol i)) (fun j hj => by rw [sixC_sx (six7 j hj).1, xo ol j hj]) (fun i hi => by show addI (xat ol i) (xat ol i) = _; rw [xz ol i hi]; rfl)
  have r5 : rowF (tab (fun i => addP (al.getD i (0, 0)) (bl.getD i (0, 0))) bl.length) = true := rowF_of fun i hi => by
    rw [tab_len] at hi
    rw [tab_at hi]
    exact ⟨_, (six5 i hi).1, (six5 i hi).2.1, (six5 i hi).2.2⟩
  have r6 : rowF (tab (fun i => rotK (quarters q) (al.getD i (0, 0))) bl.length) = true := rowF_of fun i hi => by
    rw [tab_len] at hi
    rw [tab_at hi]
    exact ⟨_, (six6 i hi).1, (six6 i hi).2.1, (six6 i hi).2.2⟩
  have r7 : rowF (tab (fun i => addP (ol.getD i (0, 0)) (ol.getD i (0, 0))) ol.length) = true := rowF_of fun i hi => by
    rw [tab_len] at hi
    rw [tab_at hi]
    exact ⟨_, (six7 i hi).1, (six7 i hi).2.1, (six7 i hi).2.2⟩
  obtain ⟨s5, s6, k1⟩ := @sums_loop L n q r d ta ea al bl ol bl.length bl.length ol.length hq0 (by omega) (Nat.le_refl _) rfl (by omega) hL
  obtain ⟨s7, k2⟩ := @twice_loop L n q r d ta ea al bl ol (tab (fun i => addP (al.getD i (0, 0)) (bl.getD i (0, 0))) bl.length) (tab (fun i => rotK (quarters q) (al.getD i (0, 0))) bl.length) bl.length bl.length ol.length bl.length bl.length s5 s6 rfl (by omega) hL
  have n5 : (tab (fun i => addP (al.getD i (0, 0)) (bl.getD i (0, 0))) bl.length).length = bl.length := tab_len
  have n6 : (tab (fun i => rotK (quarters q) (al.getD i (0, 0))) bl.length).length = bl.length := tab_len
  have n7 : (tab (fun i => addP (ol.getD i (0, 0)) (ol.getD i (0, 0))) ol.length).length = ol.length := tab_len
  generalize tab (fun i => addP (al.getD i (0, 0)) (bl.getD i (0, 0))) bl.length = l5 at *
  generalize tab (fun i => rotK (quarters q) (al.getD i (0, 0))) bl.length = l6 at *
  generalize tab (fun i => addP (ol.getD i (0, 0)) (ol.getD i (0, 0))) ol.length = l7 at *
  have ht := @turned_toldG ⟨fnOf, specG, L+1⟩ (runF ⟨fnOf, specG, L+1⟩ (n+1)) rfl r d q ta ea hc
  have hcT : chkT r d (ta.map (rotK (quarters q))) ea = 0 := chkT_zero r1 r1' q1 q1' (rot_taps t1 _) t2
  have vT : ∀ j, j < ta.length → tat (ta.map (rotK (quarters q))) j = rotI (quarters q) (tat ta j) := fun j hj => (tat_rot ua3 (quarters q) hj).2
  have lT : (ta.map (rotK (quarters q))).length = ta.length := List.length_map ..
  generalize ta.map (rotK (quarters q)) = tt at *
  have hN : (0 : Int) ≤ ((bl.length + 100 : Nat) : Int) ∧ ((bl.length + 100 : Nat) : Int) ≤ 65536 := by omega
  have ps' := fun {ts : List (Nat × Nat)} {xs vs : List (Nat × Nat)} {b c : AV} (hb : nzA b = .lst 1 (xs.map celC)) (hcc : nzA c = .lst 1 (vs.map celC)) (h : chkT r d ts ea = 0) (h3 : xs.length ≤ 65536) (h4 : vs.length ≤ 65536) (h5 : rowF xs = true) (h6 : rowF vs = true) =>
    @pass_toldG ⟨fnOf, specG, L+1⟩ (runF ⟨fnOf, specG, L+1⟩ (n+1)) rfl r d ((bl.length + 100 : Nat) : Int) ts ea xs vs (.lst 1 (ea.map celC)) b c rfl hb hcc h hN.1 hN.2 h3 h4 h5 h6
  have qp := @ps' ta xa ol (.lst 1 (xa.map celC)) (.lst 1 (ol.map celC)) rfl rfl hc (by omega) (by omega) xr orw
  have qq := @ps' ta bl ol (.lst 1 (bl.map celC)) (.lst 1 (ol.map celC)) rfl rfl hc (by omega) (by omega) br orw
  have qr := @ps' ta l5 l7 (.lst 1 (l5.map celC)) (.lst 1 (l7.map celC)) rfl rfl hc (by omega) (by omega) r5 r7
  have qa := @ps' ta xa [] (.lst 1 (xa.map celC)) .nils rfl rfl hc (by omega) (by decide) xr rowF_nil
  have qv := @ps' ta [] ol .nils (.lst 1 (ol.map celC)) rfl rfl hc (by decide) (by omega) rowF_nil orw
  have qt := @ps' ta l6 [] (.lst 1 (l6.map celC)) .nils rfl rfl hc (by omega) (by decide) r6 rowF_nil
  have qu := @ps' tt xa [] (.lst 1 (xa.map celC)) .nils rfl rfl hcT (by omega) (by decide) xr rowF_nil
  have val := fun {ts : List (Nat × Nat)} {xs vs : List (Nat × Nat)} (h : chkT r d ts ea = 0) (h3 : rowF xs = true) (h4 : rowF vs = true) (i : Nat) (hi : i < bl.length + 100) => @passP_val r d ((bl.length + 100 : Nat) : Int) ts xs ea vs h h3 h4 i (by omega)
  have lo := @same_loop L n q (passP r d ((bl.length + 100 : Nat) : Int) ta ea xa ol) (passP r d ((bl.length + 100 : Nat) : Int) ta ea bl ol) (passP r d ((bl.length + 100 : Nat) : Int) ta ea l5 l7) (passP r d ((bl.length + 100 : Nat) : Int) ta ea xa []) (passP r d ((bl.length + 100 : Nat) : Int) ta ea [] ol) (passP r d ((bl.length + 100 : Nat) : Int) ta ea l6 []) (passP r d ((bl.length + 100 : Nat) : Int) tt ea xa []) (bl.length + 100) hq0 (by omega) hL
    (by rw [passP_len]; omega) (by rw [passP_len]; omega) (by rw [passP_len]; omega) (by rw [passP_len]; omega) (by rw [passP_len]; omega) (by rw [passP_len]; omega) (by rw [passP_len]; omega)
    (fun i hi => by
      have gT := val hc r6 rowF_nil i hi
      have gU := val hcT xr rowF_nil i hi
      have bb : ∀ {xs vs : List (Nat × Nat)}, rowF xs = true → rowF vs = true → (outI ta xs ea vs r.toNat (i : Int) d.toNat).1.natAbs ≤ 134217728 ∧ (outI ta xs ea vs r.toNat (i : Int) d.toNat).2.natAbs ≤ 134217728 := fun {xs vs} h1 h2 => by
        have := out_le hc (M := 8192) (fun i => xat_le h1 i) (fun i => xat_le h2 i) (i : Int) r.toNat d.toNat
        omega
      refine ⟨outI ta xa ea [] r.toNat (i : Int) d.toNat, (0, 0), outI ta [] ea ol r.toNat (i : Int) d.toNat, outI ta xa ea ol r.toNat (i : Int) d.toNat, outI ta bl ea ol r.toNat (i : Int) d.toNat, outI ta l5 ea l7 r.toNat (i : Int) d.toNat, val hc xr rowF_nil i hi, val hc rowF_nil orw i hi, val hc xr orw i hi, val hc br orw i hi, val hc r5 r7 i hi, ?_, ?_, ?_, ?_, bb xr orw, bb br orw⟩
      · unfold outI
        rw [conv_addx v5, conv_addx v7, ciX]
      · unfold outI
        rw [conv_none, conv_none, addI_zero, zero_addI]
      · have e : outI ta l6 ea [] r.toNat (i : Int) d.toNat = rotI (quarters q) (outI ta xa ea [] r.toNat (i : Int) d.toNat) := by
          unfold outI
          rw [conv_none, addI_zero, addI_zero, conv_rotx v6]
        rw [← e]; exact gT
      · have e : outI tt xa ea [] r.toNat (i : Int) d.toNat = rotI (quarters q) (outI ta xa ea [] r.toNat (i : Int) d.toNat) := by
          unfold outI
          rw [conv_none, addI_zero, addI_zero, lT, conv_roth vT]
        rw [← e]; exact gU)
  have lens : ∀ {ts xs vs : List (Nat × Nat)}, ((passP r d ((bl.length + 100 : Nat) : Int) ts ea xs vs).map celC).length = bl.length + 100 := fun {ts xs vs} => by rw [map_len, passP_len]; omega
  have w1 : IntKind.wrap .i64 ((bl.length : Int) + 100) = ((bl.length + 100 : Nat) : Int) := by rw [wrap_id (by omega)]; omega
  have leq : ∀ l : List (List AV), Con.holds ⟨fnOf, specG, L+1⟩ (runF ⟨fnOf, specG, L+1⟩ (n+1)) (.le (0 + l.length) l.length) := fun l => by show _ ≤ _; omega
  have les : ∀ (l : List (Nat × Nat)) (k : Nat), k ≤ l.length → Con.holds ⟨fnOf, specG, L+1⟩ (runF ⟨fnOf, specG, L+1⟩ (n+1)) (.le (0 + k) (List.length (l.map celC))) := fun l k h => by show _ ≤ _; rw [map_len]; omega
  have hsl : Con.holds ⟨fnOf, specG, L+1⟩ (runF ⟨fnOf, specG, L+1⟩ (n+1)) (.sl (some 1) (.slc (.mk 0 44 0) [1, 9] 1 0 (List.length (al.map celC)) false) none (some (.int .i64 ((bl.map celC).length : Int))) none (.slc (.mk 0 44 0) [1, 9] 1 0 bl.length false)) := by
    have := @sl_zero ⟨fnOf, specG, L+1⟩ (runF ⟨fnOf, specG, L+1⟩ (n+1)) 1 bl.length 0 (List.length (al.map celC)) (.mk 0 44 0) [1, 9] false (by rw [hla]; exact yl)
    rw [hlb]
    exact this
  have ca : cutX (al.map celC) 0 bl.length = xa.map celC := by rw [cutM, hxa]
  have lsame : ∀ {ts xs vs : List (Nat × Nat)}, (((passP r d ((bl.length + 100 : Nat) : Int) ts ea xs vs).map celC).length != ((bl.length + 100 : Nat) : Int)) = false := fun {ts xs vs} => by rw [lens]; exact bneSame
  have co : cutX (ol.map celC) 0 ol.length = ol.map celC := cuN rfl
  have cb : cutX (bl.map celC) 0 bl.length = bl.map celC := cuN rfl
  have c5 : cutX (l5.map celC) 0 bl.length = l5.map celC := cuN n5.symm
  have c6 : cutX (l6.map celC) 0 bl.length = l6.map celC := cuN n6.symm
  have c7 : cutX (l7.map celC) 0 ol.length = l7.map celC := cuN n7.symm
  have ls : ∀ {ts xs vs : List (Nat × Nat)}, (((passP r d ((bl.length + 100 : Nat) : Int) ts ea xs vs).map celC).length != IntKind.wrap .i64 ((bl.length : Int) + 100)) = false := fun {ts xs vs} => by rw [w1]; exact lsame
  exact @lql_15 (L+1) (n+1) rate delay att quar ts es ps qs ks odd q r d ta ea al bl ol l5 l6 [] l7 bl.length bl.length ol.length bl.length bl.length 0 ol.length bl.length ol.length (bl.length + 100) s5 s6 [31] s7 [] (0, 0) 0 ((bl.length + 100 : Nat) : Int) (passP r d ((bl.length + 100 : Nat) : Int) ta ea xa ol) (passP r d ((bl.length + 100 : Nat) : Int) ta ea bl ol) (passP r d ((bl.length + 100 : Nat) : Int) ta ea l5 l7) (passP r d ((bl.length + 100 : Nat) : Int) ta ea xa []) (passP r d ((bl.length + 100 : Nat) : Int) ta ea [] ol) (passP r d ((bl.length + 100 : Nat) : Int) ta ea l6 []) (passP r d ((bl.length + 100 : Nat) : Int) tt ea xa []) (bl.length + 100) (bl.length + 100) (bl.length + 100) (bl.length + 100) (bl.length + 100) (bl.length + 100) (bl.length + 100)
    r d ta ea al bl ol (passP r d ((bl.length + 100 : Nat) : Int) ta ea xa ol) 0 (passP r d ((bl.length + 100 : Nat) : Int) ta ea bl ol) 0 (passP r d ((bl.length + 100 : Nat) : Int) ta ea l5 l7) 0 (passP r d ((bl.length + 100 : Nat) : Int) ta ea xa []) 0 (passP r d ((bl.length + 100 : Nat) : Int) ta ea [] ol) 0 r d tt ea 0 (passP r d ((bl.length + 100 : Nat) : Int) ta ea l6 []) 0 (passP r d ((bl.length + 100 : Nat) : Int) tt ea xa []) 0
    f1 p1 p2 hsl p3 (by simp only [hq, hlb, hlo]; exact k1) k2 (by simp only [cuC3, ca, co, cb, c5, c6, c7, w1]; exact qp) (leq _) (leq _) (les al bl.length yl) (les ol ol.length (Nat.le_refl _)) (by simp only [cuC3, ca, co, cb, c5, c6, c7, w1]; exact qq) (les bl bl.length (Nat.le_refl _)) (by simp only [cuC3, ca, co, cb, c5, c6, c7, w1]; exact qr) (les l5 bl.length (by omega)) (les l7 ol.length (by omega)) (by simp only [cuC3, ca, co, cb, c5, c6, c7, w1]; exact qa) (by simp only [cuC3, ca, co, cb, c5, c6, c7, w1]; exact qv) rfl rfl rfl rfl rfl ls ls ls ls ls
    (by simp only [cuC3]; exact ht) (by simp only [cuC3, ca, co, cb, c5, c6, c7, w1]; exact qt) (les l6 bl.length (by omega)) (by simp only [cuC3, ca, co, cb, c5, c6, c7, w1]; exact qu) (leq _) (leq _) rfl rfl rfl ls ls (by simp only [lens, w1]; exact lo)
end Go.Proofs.Ytnphdnokedhhkaa.Fw
