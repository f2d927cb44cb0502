/- HuntPlans: the law's own run: true at every input. -/
import Derived.Test.YtnccnmeecngopaaLwQrA
import Derived.Test.YtnccnmeecngopaaLwQh2
set_option maxRecDepth 100000
set_option maxHeartbeats 4000000
set_option linter.unusedSimpArgs false
set_option linter.unusedVariables false
namespace Go.Proofs.Ytnccnmeecngopaa.Fw
open Go Go.RowKit
section
variable {L n : Nat} {mk a b ln y : Int}
theorem shC_in {x : Int} {c : Bool} : (c && lateOk x y) = true ↔ c = true ∧ lateOk x y = true := by simp
/-- hunt.Shift without blocks -/
theorem sh12nil : den ⟨fnOf, specP, L+6⟩ (n+2) 12 [.agg [.int .i64 mk, .int .i64 a, .int .i64 b, .nils, .int .i64 ln], .int .i64 y] = some (shRes .nils mk a b ln y (shC mk a b ln y)) := by
  cases hc : shC mk a b ln y with
  | true => exact @sh12n_1 (L+1) (n+1) mk a b ln y _ _ _ _ calli37 calli37 calli37 calli37 (by change (!shC mk a b ln y) = _; rw [hc]; rfl)
  | false => exact @sh12n_0 (L+1) (n+1) mk a b ln y _ _ _ _ calli37 calli37 calli37 calli37 (by change (!shC mk a b ln y) = _; rw [hc]; rfl)
theorem late_no {x y : Int} (h0 : ¬ decide (x < 0) = true) (h1 : ¬ decide (x > 65536) = true) (h2 : ¬ decide (y < -65536) = true) (h3 : ¬ decide (y > 65536) = true) (h4 : ¬ decide (IntKind.wrap .i64 (x + y) < 0) = true) (h5 : ¬ decide (IntKind.wrap .i64 (x + y) > 65536) = true) : lateOk x y = true := by
  simp only [decide_eq_true_eq] at h0 h1 h2 h3 h4 h5
  simp only [lateOk, WR, Bool.and_eq_true, decide_eq_true_eq]
  omega
theorem rf13nil : den ⟨fnOf, specP, L+6⟩ (n+1) 13 [.agg [.int .i64 mk, .int .i64 a, .int .i64 b, .nils, .int .i64 ln], .int .i64 y] = some (shRes .nils mk a b ln y (shC mk a b ln y)) := by
  have h := @rf13n_ok (L+1) n mk a b ln y
  refine Eq.trans h (congrArg some ?_)
  cases hc : shC mk a b ln y with
  | true =>
    have hc' := hc
    unfold shC at hc'
    rw [shC_in, shC_in, shC_in, shC_in] at hc'
    obtain ⟨⟨⟨⟨_, e1⟩, e2⟩, e3⟩, e4⟩ := hc'
    obtain ⟨a1, a2, a3, a4, a5, a6⟩ := late_split e1
    obtain ⟨b1, b2, _, _, b5, b6⟩ := late_split e2
    obtain ⟨c1, c2, _, _, c5, c6⟩ := late_split e3
    obtain ⟨d1, d2, _, _, d5, d6⟩ := late_split e4
    unfold WR at a5 a6 b5 b6 c5 c6 d5 d6
    have ff : ∀ {α : Type} {x y : α}, (if false = true then x else y) = y := fun {_ _ _} => rfl
    simp only [rf13n, a1, a2, a3, a4, a5, a6, b1, b2, b5, b6, c1, c2, c5, c6, d1, d2, d5, d6, ff]
    rfl
  | false =>
    unfold rf13n
    by_cases k1 : decide (mk < 0) = true
    · rw [if_pos k1]; rfl
    rw [if_neg k1]
    by_cases k2 : decide (mk > 65536) = true
    · rw [if_pos k2]; rfl
    rw [if_neg k2]
    by_cases k3 : decide (y < -65536) = true
    · rw [if_pos k3]; rfl
    rw [if_neg k3]
    by_cases k4 : decide (y > 65536) = true
    · rw [if_pos k4]; rfl
    rw [if_neg k4]
    by_cases k5 : decide (IntKind.wrap .i64 (mk + y) < 0) = true
    · rw [if_pos k5]; rfl
    rw [if_neg k5]
    by_cases k6 : decide (IntKind.wrap .i64 (mk + y) > 65536) = true
    · rw [if_pos k6]; rfl
    rw [if_neg k6]
    have o1 := late_no k1 k2 k3 k4 k5 k6
    by_cases l1 : decide (a < 0) = true
    · rw [if_pos l1]; rfl
    rw [if_neg l1]
    by_cases l2 : decide (a > 65536) = true
    · rw [if_pos l2]; rfl
    rw [if_neg l2]
    by_cases l5 : decide (IntKind.wrap .i64 (a + y) < 0) = true
    · rw [if_pos l5]; rfl
    rw [if_neg l5]
    by_cases l6 : decide (IntKind.wrap .i64 (a + y) > 65536) = true
    · rw [if_pos l6]; rfl
    rw [if_neg l6]
    have o2 := late_no l1 l2 k3 k4 l5 l6
    by_cases m1 : decide (b < 0) = true
    · rw [if_pos m1]; rfl
    rw [if_neg m1]
    by_cases m2 : decide (b > 65536) = true
    · rw [if_pos m2]; rfl
    rw [if_neg m2]
    by_cases m5 : decide (IntKind.wrap .i64 (b + y) < 0) = true
    · rw [if_pos m5]; rfl
    rw [if_neg m5]
    by_cases m6 : decide (IntKind.wrap .i64 (b + y) > 65536) = true
    · rw [if_pos m6]; rfl
    rw [if_neg m6]
    have o3 := late_no m1 m2 k3 k4 m5 m6
    by_cases p1 : decide (ln < 0) = true
    · rw [if_pos p1]; rfl
    rw [if_neg p1]
    by_cases p2 : decide (ln > 65536) = true
    · rw [if_pos p2]; rfl
    rw [if_neg p2]
    by_cases p5 : decide (IntKind.wrap .i64 (ln + y) < 0) = true
    · rw [if_pos p5]; rfl
    rw [if_neg p5]
    by_cases p6 : decide (IntKind.wrap .i64 (ln + y) > 65536) = true
    · rw [if_pos p6]; rfl
    have o4 := late_no p1 p2 k3 k4 p5 p6
    exfalso
    unfold shC at hc
    rw [o1, o2, o3, o4] at hc
    simp at hc
theorem shRes_sh (X : AV) (g : Bool) : ∃ p q r s Y e, shRes X mk a b ln y g = .tup [.agg [.int .i64 p, .int .i64 q, .int .i64 r, Y, .int .i64 s], .int .i64 e] ∧ (g = false ∧ Y = .nils ∨ g = true ∧ Y = X) := by
  cases g with
  | true => exact ⟨_, _, _, _, _, _, rfl, .inr ⟨rfl, rfl⟩⟩
  | false => exact ⟨_, _, _, _, _, _, rfl, .inl ⟨rfl, rfl⟩⟩
/-- an answer's places, overwritten one after the other -/
def oS (out : List (List AV)) : Nat → List (List AV)
  | 0 => out
  | i + 1 => (oS out i).set (0 + i) [.int .i64 (-1)]
theorem oS_at {out : List (List AV)} {k : Nat} : ∀ i, i ≤ k → (oS out i)[k]? = out[k]?
  | 0, _ => rfl
  | i + 1, h => by rw [oS, List.getElem?_set_ne (by omega)]; exact oS_at i (by omega)
end
section
variable {L n : Nat} {rate fore taps pair points blocks y p q r s p2 q2 r2 s2 : Int} {ms bs : List (List AV)} {zs : List Int}
theorem qrC_loop (hm : zs.length ≤ 17592186044415) (hL : zs.length ≤ L) :
    Con.holds ⟨fnOf, specP, L+1⟩ (runF ⟨fnOf, specP, L+1⟩ n) (.loop 0 [1, 2, 3, 4, 13, 18, 20, 22, 26] m6b1 [99] ⟨q1E taps pair points blocks (0 : Nat), qmO rate fore ms ++ qaO p q r s bs.length bs bs ++ qcO p2 q2 r2 s2 (cellsI zs).length (cellsI zs), 0⟩ (.exit 0)
      ⟨q1X (cellsI zs).length ++ q1E taps pair points blocks (cellsI zs).length, qmO rate fore ms ++ qaO p q r s bs.length bs bs ++ qcO p2 q2 r2 s2 (cellsI zs).length (oS (cellsI zs) (cellsI zs).length), 5⟩) := by
  refine loop0 (fun i => ⟨q1E taps pair points blocks i, qmO rate fore ms ++ qaO p q r s bs.length bs bs ++ qcO p2 q2 r2 s2 (cellsI zs).length (oS (cellsI zs) i), 0⟩) (cellsI zs).length rfl (by rw [cellsI_len]; exact hL) (fun i hi => ?_) ?_ (by simp)
  · have hi' : i < zs.length := by rw [cellsI_len] at hi; exact hi
    have := @qrC_0 rate fore taps pair points blocks 0 0 0 p q r s 0 p2 q2 r2 s2 0 (L+1) n i (cellsI zs).length ms bs [] (oS (cellsI zs) i) [99] zs[i] (dlt hi) (ix_at hi) (by show _ = _; rw [Nat.zero_add, oS_at i (Nat.le_refl _)]; exact cellsI_at hi')
    rw [wrap_up hi (by rw [cellsI_len]; omega)] at this
    exact this
  · exact @qrC_1 rate fore taps pair points blocks 0 0 0 p q r s 0 p2 q2 r2 s2 0 (L+1) n (cellsI zs).length (cellsI zs).length ms bs [] (oS (cellsI zs) (cellsI zs).length) [99] 0 dnlt
theorem qrA_loop (hm : zs.length ≤ 17592186044415) (hL : zs.length ≤ L) :
    Con.holds ⟨fnOf, specP, L+1⟩ (runF ⟨fnOf, specP, L+1⟩ n) (.loop 0 [1, 2, 3, 4, 13, 18, 20, 27] m6b0 [105] ⟨q0E taps pair points blocks (0 : Nat), qmO rate fore ms ++ qaO p q r s (cellsI zs).length (cellsI zs) (cellsI zs), 0⟩ (.exit 2)
      ⟨q0X (cellsI zs).length ++ q0E taps pair points blocks (cellsI zs).length, qmO rate fore ms ++ qaO p q r s (cellsI zs).length (oS (cellsI zs) (cellsI zs).length) (cellsI zs), 5⟩) := by
  refine loop0 (fun i => ⟨q0E taps pair points blocks i, qmO rate fore ms ++ qaO p q r s (cellsI zs).length (oS (cellsI zs) i) (cellsI zs), 0⟩) (cellsI zs).length rfl (by rw [cellsI_len]; exact hL) (fun i hi => ?_) ?_ (by simp)
  · have hi' : i < zs.length := by rw [cellsI_len] at hi; exact hi
    have := @qrA_0 rate fore taps pair points blocks 0 0 0 p q r s 0 0 0 0 0 0 (L+1) n i (cellsI zs).length ms (cellsI zs) [] (oS (cellsI zs) i) [105] zs[i] (dlt hi) (ix_at hi) (by show _ = _; rw [Nat.zero_add, oS_at i (Nat.le_refl _)]; exact cellsI_at hi')
    rw [wrap_up hi (by rw [cellsI_len]; omega)] at this
    exact this
  · exact @qrA_1 rate fore taps pair points blocks 0 0 0 p q r s 0 0 0 0 0 0 (L+1) n (cellsI zs).length (cellsI zs).length ms (cellsI zs) [] (oS (cellsI zs) (cellsI zs).length) [105] 0 dnlt
end
section
variable {L n : Nat} {rate fore taps pair points blocks y : Int} {xs : List Int}
/-- the law for a pulse made without taps -/
theorem law6a {X : AV} (hX : X = .nils ∨ X = .lst 1 []) (hL : 70000 ≤ L) :
    den ⟨fnOf, specP, L+6⟩ (n+4) 6 [.agg [.int .i64 rate, .int .i64 fore, X], .int .i64 taps, .int .i64 pair, .int .i64 points, .int .i64 blocks, .int .i64 y] = some (.v (.bool true)) := by
  obtain ⟨g, e, hg, g1, g2⟩ := @guard_both (L+5) (n+1) rate fore taps [] true (by omega)
  obtain ⟨p, q, r, s, i, zs, hz, p1, p2⟩ := @plan_both (L+5) n rate fore taps pair points blocks [] true (by omega)
  have hnil : zs = [] := by
    obtain ⟨g, e, hg, g1, _⟩ := @guard_both (L+5) n rate fore taps [] true (by omega)
    by_cases he : e = 0
    · exact absurd (hg he).1 (by simp)
    have he' : (e != 0) = true := by simpa using he
    have h0 := @pn26_0 (L+6) (n+2) rate fore taps pair points blocks g e 0 (call_den g1) he'
    have h1 := h0.symm.trans p1
    cases zs with
    | nil => rfl
    | cons a b => simp [plVal] at h1
  subst hnil
  have h12 := @sh12nil L (n+1) p q r s y
  have h13 := @rf13nil L (n+2) p q r s y
  obtain ⟨p3, q3, r3, s3, Y, k, hs, hY⟩ := @shRes_sh p q r s y .nils (shC p q r s y)
  have hY : Y = .nils := by rcases hY with ⟨_, h⟩ | ⟨_, h⟩ <;> exact h
  subst hY
  rw [hs] at h12 h13
  have h14 := @sm14_4 (L+1) (n+2) p q r s .nils bne_same bne_same bne_same bne_same
  have h15 := @sm14_4 (L+1) (n+2) p3 q3 r3 s3 .nils bne_same bne_same bne_same bne_same
  rcases hX with rfl | rfl
  · exact @plA_4 (L+1) (n+3) rate fore taps pair points blocks y g e p q r s i p3 q3 r3 s3 k (call_den (@md23x_0 (L+1) (n+2) rate fore)) (call_den g1) (call_den g2) (call_den p1) (call_den p2) bne_same bne_same (call_den h14) bne_same (call_den h12) (call_den h13) (call_den h15) bne_same
  · exact @plB_4 (L+1) (n+3) rate fore taps pair points blocks y g e p q r s i p3 q3 r3 s3 k [] (call_den (@md23e_0 (L+1) (n+2) rate fore)) (call_den g1) (call_den g2) (call_den p1) (call_den p2) bne_same bne_same (call_den h14) bne_same (call_den h12) (call_den h13) (call_den h15) bne_same
/-- the law for a pulse with taps -/
theorem law6n (h0 : 0 < xs.length) (hm : xs.length ≤ 17592186044415) (hL : xs.length + 70000 ≤ L) :
    den ⟨fnOf, specP, L+6⟩ (n+4) 6 [.agg [.int .i64 rate, .int .i64 fore, .lst 1 (cellsI xs)], .int .i64 taps, .int .i64 pair, .int .i64 points, .int .i64 blocks, .int .i64 y] = some (.v (.bool true)) := by
  have hmd := @made23 (L+5) (n+2) rate fore xs hm (by omega) h0
  obtain ⟨g, e, hg, g1, g2⟩ := @guard_both (L+5) (n+1) rate fore taps (xs.map tpF) false (by omega)
  obtain ⟨p, q, r, s, i, zs, hz, p1, p2⟩ := @plan_both (L+5) n rate fore taps pair points blocks (xs.map tpF) false (by omega)
  unfold puls at g1 g2 p1 p2
  obtain ⟨ms, hms⟩ : ∃ ms, (xs.map tpF).map celF = ms := ⟨_, rfl⟩
  rw [hms] at hmd
  dsimp only at g1 g2 p1 p2
  rw [hms, ← cutX_all (els := ms)] at g1 g2 p1 p2
  cases zs with
  | nil =>
    have h12 := @sh12nil L (n+1) p q r s y
    have h13 := @rf13nil L (n+2) p q r s y
    obtain ⟨p3, q3, r3, s3, Y, k, hs, hY⟩ := @shRes_sh p q r s y .nils (shC p q r s y)
    have hY : Y = .nils := by rcases hY with ⟨_, h⟩ | ⟨_, h⟩ <;> exact h
    subst hY
    rw [hs] at h12 h13
    have h14 := @sm14_4 (L+1) (n+2) p q r s .nils bne_same bne_same bne_same bne_same
    have h15 := @sm14_4 (L+1) (n+2) p3 q3 r3 s3 .nils bne_same bne_same bne_same bne_same
    exact @plC_4 (L+1) (n+3) rate fore taps pair points blocks y g e p q r s i p3 q3 r3 s3 k (cellsI xs) ms (call_den hmd) (call_den g1) leOut (call_den g2) (call_den p1) (call_den p2) bne_same bne_same (call_den h14) bne_same (call_den h12) (call_den h13) (call_den h15) bne_same
  | cons z zs' =>
    obtain ⟨zs, hzs⟩ : ∃ zs, z :: zs' = zs := ⟨_, rfl⟩
    have hz0 : 0 < zs.length := by rw [← hzs]; simp
    have hv : plVal p q r (z :: zs') s i = .tup [.agg [.int .i64 p, .int .i64 q, .int .i64 r, .own 1 (cellsI zs) true, .int .i64 s], .int .i64 i] := by rw [← hzs]; rfl
    rw [hv] at p1 p2
    rw [hzs] at hz
    have h12 := @sh12w L (n+1) zs p q r s y (by omega) (by omega)
    have h13 := @rf13 L (n+2) zs p q r s y (by omega) (by omega)
    obtain ⟨p3, q3, r3, s3, Y, k, hs, hY⟩ := @shRes_sh p q r s y (shB zs y) (shGood zs p q r s y)
    rw [hs, ← cutX_all (els := cellsI zs)] at h12 h13
    have h14 := @sm14w (L+5) (n+2) zs p q r s (by omega) (by omega)
    rw [← cutX_all (els := cellsI zs)] at h14
    have ha : Con.holds ⟨fnOf, specP, L+6⟩ (runF ⟨fnOf, specP, L+6⟩ (n+3)) (.loop 0 [1, 2, 3, 4, 13, 18, 20, 27] m6b0 [105] ⟨q0E taps pair points blocks (0 : Nat), qmO rate fore ms ++ qaO p q r s (cellsI zs).length (cellsI zs) (cellsI zs), 0⟩ (.exit 2)
        ⟨q0X (cellsI zs).length ++ q0E taps pair points blocks (cellsI zs).length, qmO rate fore ms ++ qaO p q r s (cellsI zs).length (oS (cellsI zs) (cellsI zs).length) (cellsI zs), 5⟩) := qrA_loop (L := L+5) (by omega) (by omega)
    rcases hY with ⟨_, rfl⟩ | ⟨_, rfl⟩
    · have h15 := @sm14_4 (L+1) (n+2) p3 q3 r3 s3 .nils bne_same bne_same bne_same bne_same
      exact @plD_4 (L+1) (n+3) rate fore taps pair points blocks y g e p q r s i p3 q3 r3 s3 k (cellsI xs) ms (cellsI zs) (oS (cellsI zs) (cellsI zs).length) (call_den hmd) (call_den g1) leOut (call_den g2) (call_den p1) (call_den p2) bne_same bne_same (call_den h14) leOut bne_same (call_den h12) (call_den h13) (call_den h15) bne_same ha
    · obtain ⟨cs, hc, hl⟩ : ∃ cs : List Int, outTo zs y zs.length = cellsI cs ∧ cs.length = zs.length := ⟨_, rfl, by rw [List.length_map, List.take_length]⟩
      have hX : shB zs y = .own 1 (cellsI cs) true := by
        rw [← hc]
        unfold shB
        split
        · simp at hz0
        · rfl
      rw [hX] at h12 h13
      have h15 := @sm14w (L+5) (n+2) cs p3 q3 r3 s3 (by omega) (by omega)
      rw [← cutX_all (els := cellsI cs)] at h15
      have hcl : Con.holds ⟨fnOf, specP, L+6⟩ (runF ⟨fnOf, specP, L+6⟩ (n+3)) (.loop 0 [1, 2, 3, 4, 13, 18, 20, 22, 26] m6b1 [99] ⟨q1E taps pair points blocks (0 : Nat), qmO rate fore ms ++ qaO p q r s (cellsI zs).length (cellsI zs) (cellsI zs) ++ qcO p3 q3 r3 s3 (cellsI cs).length (cellsI cs), 0⟩ (.exit 0)
          ⟨q1X (cellsI cs).length ++ q1E taps pair points blocks (cellsI cs).length, qmO rate fore ms ++ qaO p q r s (cellsI zs).length (cellsI zs) (cellsI zs) ++ qcO p3 q3 r3 s3 (cellsI cs).length (oS (cellsI cs) (cellsI cs).length), 5⟩) := qrC_loop (L := L+5) (by omega) (by omega)
      exact @plE_4 (L+1) (n+3) rate fore taps pair points blocks y g e p q r s i p3 q3 r3 s3 k (cellsI xs) ms (cellsI zs) (cellsI cs) (oS (cellsI zs) (cellsI zs).length) (oS (cellsI cs) (cellsI cs).length) (call_den hmd) (call_den g1) leOut (call_den g2) (call_den p1) (call_den p2) bne_same bne_same (call_den h14) leOut bne_same (call_den h12) (call_den h13) (call_den h15) leOut bne_same hcl ha
end
end Go.Proofs.Ytnccnmeecngopaa.Fw
