/- made, whole; both Plans answer the same. -/
import Derived.Test.YtnccnmeecngopaaLwQoA
set_option maxRecDepth 100000
set_option maxHeartbeats 4000000
set_option linter.unusedSimpArgs false
set_option linter.unusedVariables false
namespace Go.Proofs.Ytnccnmeecngopaa.Fw
open Go Go.RowKit
/-- a tap of 2^-6 -/
def tpF (x : Int) : Nat := fdiv (fofInt x) 4634204016564240384
section
variable {L n : Nat} {rate fore : Int} {xs : List Int}
def mdA (rate fore : Int) (xs : List Int) : Nat → St
  | 0 => mdS0 rate fore (0 : Nat) (cellsI xs)
  | i + 1 => mdS1 rate fore ((i + 1 : Nat) : Int) (cellsI xs) [15, i, 10] (i + 1) (((xs.map tpF).take (i + 1)).map celF)
theorem mdA_zero : mdA rate fore xs 0 = mdS0 rate fore (0 : Nat) (cellsI xs) := rfl
theorem mdA_succ {i : Nat} : mdA rate fore xs (i + 1) = mdS1 rate fore ((i + 1 : Nat) : Int) (cellsI xs) [15, i, 10] (i + 1) (((xs.map tpF).take (i + 1)).map celF) := rfl
theorem md_round {i : Nat} (hm : xs.length ≤ 17592186044415) (hi : i < xs.length) :
    rnd 0 [1, 2, 3, 4] (bodyOf ⟨fnOf, specP, L⟩ (runF ⟨fnOf, specP, L⟩ n) 0 m23b0 (i :: [10]) (mdA rate fore xs i)) = some (.nrm, mdA rate fore xs (i + 1)) := by
  have hw := wrapUp hi (by omega)
  have hi' : i < (cellsI xs).length := by rw [cellsI_len]; exact hi
  have hs : i < (xs.map tpF).length := by rw [List.length_map]; exact hi
  have hg : (xs.map tpF)[i] = tpF xs[i] := List.getElem_map ..
  have he := el_at (P := ⟨fnOf, specP, L⟩) (C := runF ⟨fnOf, specP, L⟩ n) (cellsI_at hi)
  cases i with
  | zero =>
    have := @mr0_0 L n rate fore ((0 : Nat) : Int) xs[0] (cellsI xs) 0 [10] (dLt hi') he
    rw [hw] at this
    rw [mdA_zero, mdA_succ, mapTake_up hs, hg]
    exact this
  | succ i =>
    have := @mr1_0 L n rate fore ((i + 1 : Nat) : Int) xs[i+1] (cellsI xs) (((xs.map tpF).take (i + 1)).map celF) (i + 1) (i + 1) [15, i, 10] [10] (dLt hi') he ⟨by rw [mapTake_len (by omega)], by simp only [roomOk, most]; omega⟩
    rw [hw] at this
    rw [mdA_succ, mdA_succ, mapTake_up (i := i + 1) hs, hg]
    exact this
theorem made23 (hm : xs.length ≤ 17592186044415) (hL : xs.length ≤ L) (h0 : 0 < xs.length) :
    den ⟨fnOf, specP, L+1⟩ (n+1) 23 [.agg [.int .i64 rate, .int .i64 fore, .lst 1 (cellsI xs)]] = some (.agg [.int .i64 rate, .int .i64 fore, .own 1 ((xs.map tpF).map celF) true]) := by
  obtain ⟨m, hx⟩ : ∃ m, xs.length = m + 1 := ⟨xs.length - 1, by omega⟩
  have hl : ((xs.map tpF).map celF).length = m + 1 := by rw [List.length_map, List.length_map, hx]
  have hc : (cellsI xs).length = m + 1 := by rw [cellsI_len, hx]
  have hfin := @mr1_1 (L+1) n rate fore ((m + 1 : Nat) : Int) 0 (cellsI xs) ((xs.map tpF).map celF) (m + 1) (m + 1) [15, m, 10] [10] (by rw [hc]; exact dNlt)
  have hlp : Con.holds ⟨fnOf, specP, L+1⟩ (runF ⟨fnOf, specP, L+1⟩ n) (.loop 0 [1, 2, 3, 4] m23b0 [10] (mdA rate fore xs 0) (.exit 0) ⟨[(14, .v (.bool false)), (13, .int .i64 (cellsI xs).length), (12, .lst 1 (cellsI xs)), (11, .ptr ⟨0,1,0⟩ [0] 0 2), (10, .int .i64 (cellsI xs).length)] ++ mdE (cellsI xs).length, (mdS1 rate fore (cellsI xs).length (cellsI xs) [15, m, 10] ((xs.map tpF).map celF).length ((xs.map tpF).map celF)).H, 5⟩) := by
    refine loop0 (mdA rate fore xs) (m + 1) rfl (by omega) (fun i hi => md_round hm (by omega)) ?_ (by simp)
    rw [mdA_succ, List.take_of_length_le (by rw [List.length_map, hx]; exact Nat.le_refl _), hl, hc]
    rw [hc] at hfin
    exact hfin
  have := @md23_0 (L+1) n rate fore (cellsI xs) ((xs.map tpF).map celF) [15, m, 10] hlp leSelf
  rw [this, List.take_of_length_le (Nat.le_refl _)]
end
/-- a plan as an answer -/
def plVal (p q r : Int) (zs : List Int) (s e : Int) : AV := .tup [.agg [.int .i64 p, .int .i64 q, .int .i64 r, (match zs with | [] => .nils | _ => .own 1 (cellsI zs) true), .int .i64 s], .int .i64 e]
section
variable {L n : Nat} {rate fore taps pair points blocks : Int} {ts : List Nat} {nil : Bool}
theorem planRes_val {g m pr blocks : Nat} (h3 : 3 ≤ g) : ∃ p q r s e : Int, ∃ zs : List Int, zs.length ≤ 65536 ∧ planRes g m pr blocks = plVal p q r zs s e := by
  unfold planRes
  split
  · rename_i h
    have hb : blocks * 1 ≤ blocks * (m + g) := Nat.mul_le_mul_left _ (by omega)
    refine ⟨(g : Nat), (2 * g + 1 : Nat), (3 * g + 1 + pr : Nat), (4 * g + 1 + 2 * pr + blocks * (m + g) : Nat), 0, plOut (4 * g + 1 + 2 * pr) (m + g) blocks, by rw [plOut_len]; omega, ?_⟩
    cases blocks with
    | zero => rfl
    | succ b =>
      have : plOut (4 * g + 1 + 2 * pr) (m + g) (b + 1) = ((4 * g + 1 + 2 * pr + 0 * (m + g) : Nat) : Int) :: (List.range b).map fun i => ((4 * g + 1 + 2 * pr + (i + 1) * (m + g) : Nat) : Int) := by
        simp [plOut, List.range_succ_eq_map, Function.comp_def]
      rw [this]
      rfl
  · exact ⟨0, 0, 0, 0, 1, [], by simp, rfl⟩
theorem plan_both (hL : 70000 ≤ L) : ∃ p q r s e : Int, ∃ zs : List Int, zs.length ≤ 65536 ∧
    den ⟨fnOf, specP, L+1⟩ (n+3) 26 [puls rate fore ts nil, .int .i64 taps, .int .i64 pair, .int .i64 points, .int .i64 blocks] = some (plVal p q r zs s e) ∧
    den ⟨fnOf, specP, L+1⟩ (n+3) 27 [puls rate fore ts nil, .int .i64 taps, .int .i64 pair, .int .i64 points, .int .i64 blocks] = some (plVal p q r zs s e) := by
  obtain ⟨g, e, hg, g1, g2⟩ := @guard_both L n rate fore taps ts nil (by omega)
  by_cases he : e ≠ 0
  · have he' : (e != 0) = true := by simpa using he
    cases nil with
    | true => exact ⟨0, 0, 0, 0, e, [], by simp, @pn26_0 (L+1) (n+2) rate fore taps pair points blocks g e 0 (call_den g1) he', @qn27_0 (L+1) (n+2) rate fore taps pair points blocks g e (call_den g2) he'⟩
    | false => exact ⟨0, 0, 0, 0, e, [], by simp, @pl26x_0 (L+1) (n+2) rate fore taps pair points blocks g e 0 0 0 0 0 0 0 0 (ts.map celF) [] [] [] [] 0 0 (call_den g1) he',
        @qp27a_0 (L+1) (n+2) rate fore taps pair points blocks g e 0 0 0 0 0 0 0 0 (ts.map celF) [] [] 0 .nils .nils .nils .nils .nils .nils .nils .nils (call_den g2) he'⟩
  replace he : e = 0 := Decidable.not_not.1 he
  subst he
  obtain ⟨hn, r1, r8, g3, g584⟩ := hg rfl
  subst hn
  obtain ⟨m, f, hf, l1, l2⟩ := @length_both L n rate fore points ts false (by omega)
  have z0 : ((0 : Int) != 0) = false := rfl
  have hlp := @two_loop L (n+2) rate fore pair points blocks g (ts.map celF) [15] (by omega)
  by_cases hf0 : f ≠ 0
  · have hf' : (f != 0) = true := by simpa using hf0
    exact ⟨0, 0, 0, 0, 1, [], by simp, @pl26x_1 (L+1) (n+2) rate fore taps pair points blocks g 0 m f 0 0 0 0 0 0 (ts.map celF) [] [] [] [] 0 0 (call_den g1) z0 (call_den l1) hf',
        @qp27a_1 (L+1) (n+2) rate fore taps pair points blocks g 0 m f (twoAt pair 8) 0 0 0 0 0 (ts.map celF) [] [] 0 .nils .nils .nils .nils .nils .nils .nils .nils (call_den g2) z0 hlp (call_den l2) hf'⟩
  replace hf0 : f = 0 := Decidable.not_not.1 hf0
  subst hf0
  obtain ⟨_, m0, m1⟩ := hf rfl
  by_cases h2 : twoAt pair 8 = 0
  · have h2' : (twoAt pair 8 == 0) = true := by simpa using h2
    have hq := @qp27a_2 (L+1) (n+2) rate fore taps pair points blocks g 0 m 0 (twoAt pair 8) 0 0 0 0 0 (ts.map celF) [] [] 0 .nils .nils .nils .nils .nils .nils .nils .nils (call_den g2) z0 hlp (call_den l2) z0 h2'
    have hno := fun hh => (two_same pair).1 hh h2
    by_cases p1 : pair < 2
    · exact ⟨0, 0, 0, 0, 1, [], by simp, @pl26x_2 (L+1) (n+2) rate fore taps pair points blocks g 0 m 0 0 0 0 0 0 0 (ts.map celF) [] [] [] [] 0 0 (call_den g1) z0 (call_den l1) z0 (dT p1), hq⟩
    by_cases p2 : pair > 256
    · exact ⟨0, 0, 0, 0, 1, [], by simp, @pl26x_3 (L+1) (n+2) rate fore taps pair points blocks g 0 m 0 0 0 0 0 0 0 (ts.map celF) [] [] [] [] 0 0 (call_den g1) z0 (call_den l1) z0 (dF p1) (dT p2), hq⟩
    · have p3 : (IntKind.wrap .i64 ((BitVec.ofInt 64 pair &&& BitVec.ofInt 64 (IntKind.wrap .i64 (pair - 1))).toNat : Int) != 0) = true := by
        cases h : (IntKind.wrap .i64 ((BitVec.ofInt 64 pair &&& BitVec.ofInt 64 (IntKind.wrap .i64 (pair - 1))).toNat : Int) != 0) with
        | true => rfl
        | false => exact absurd ⟨by omega, by omega, h⟩ hno
      exact ⟨0, 0, 0, 0, 1, [], by simp, @pl26x_4 (L+1) (n+2) rate fore taps pair points blocks g 0 m 0 0 0 0 0 0 0 (ts.map celF) [] [] [] [] 0 0 (call_den g1) z0 (call_den l1) z0 (dF p1) (dF p2) p3, hq⟩
  have h2' : (twoAt pair 8 == 0) = false := beq_eq_false_iff_ne.2 h2
  obtain ⟨p1, p2, p3⟩ := (two_same pair).2 h2
  have p1' : ¬ pair < 2 := by omega
  have p2' : ¬ pair > 256 := by omega
  by_cases b0 : blocks < 0
  · exact ⟨0, 0, 0, 0, 1, [], by simp, @pl26x_5 (L+1) (n+2) rate fore taps pair points blocks g 0 m 0 0 0 0 0 0 0 (ts.map celF) [] [] [] [] 0 0 (call_den g1) z0 (call_den l1) z0 (dF p1') (dF p2') p3 (dT b0),
      @qp27a_3 (L+1) (n+2) rate fore taps pair points blocks g 0 m 0 (twoAt pair 8) 0 0 0 0 0 (ts.map celF) [] [] 0 .nils .nils .nils .nils .nils .nils .nils .nils (call_den g2) z0 hlp (call_den l2) z0 h2' (dT b0)⟩
  obtain ⟨k1, k2⟩ := mul_bnd (a := pair) (b := rate) (A := 256) (B := 8) (by omega) (by omega) (by omega) (by omega)
  obtain ⟨pr, hpr⟩ : ∃ pr : Nat, pair * rate = pr := ⟨(pair * rate).toNat, by omega⟩
  obtain ⟨gN, hgN⟩ : ∃ gN : Nat, g = gN := ⟨g.toNat, by omega⟩
  obtain ⟨mN, hmN⟩ : ∃ mN : Nat, m = mN := ⟨m.toNat, by omega⟩
  obtain ⟨bN, hbN⟩ : ∃ bN : Nat, blocks = bN := ⟨blocks.toNat, by omega⟩
  subst hgN hmN hbN
  have hw : IntKind.wrap .i64 (pair * rate) = (pr : Nat) := by rw [wrap_id (by omega)]; exact hpr
  have q27 := @plan27 L (n+1) mN gN bN rate fore taps pair points (ts.map celF) pr g2 l2 h2 hw (by omega) (by omega) (by omega) (by omega) hL
  obtain ⟨p, q, r, s, e, zs, hz, hv⟩ := @planRes_val gN mN pr bN (by omega)
  by_cases b1 : bN ≤ 65536
  · have q26 := @plan26 L (n+1) mN bN gN rate fore taps pair points (ts.map celF) pr g1 l1 p1' p2' p3 b1 hw (by omega) (by omega) (by omega) (by omega)
    rw [hv] at q26 q27
    exact ⟨p, q, r, s, e, zs, hz, q26, q27⟩
  · have q26 := @pl26x_6 (L+1) (n+2) rate fore taps pair points (bN : Int) gN 0 mN 0 0 0 0 0 0 0 (ts.map celF) [] [] [] [] 0 0 (call_den g1) z0 (call_den l1) z0 (dF p1') (dF p2') p3 (dF b0) (dT (by omega))
    have hb : bN * 1 ≤ bN * (mN + gN) := Nat.mul_le_mul_left _ (by omega)
    have hv' : planRes gN mN pr bN = plVal 0 0 0 [] 0 1 := by
      unfold planRes
      rw [if_neg (by omega)]
      rfl
    rw [hv'] at q27
    exact ⟨0, 0, 0, 0, 1, [], by simp, q26, q27⟩
end
end Go.Proofs.Ytnccnmeecngopaa.Fw
