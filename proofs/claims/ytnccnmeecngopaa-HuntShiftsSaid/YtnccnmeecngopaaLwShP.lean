/- HuntShifts: the law's own run: both answers are the same, and nothing handed in is touched. -/
import Derived.Test.YtnccnmeecngopaaLwShO
set_option maxRecDepth 100000
set_option maxHeartbeats 4000000
set_option linter.unusedSimpArgs false
set_option linter.unusedVariables false
namespace Go.Proofs.Ytnccnmeecngopaa.Fw
open Go Go.RowKit
theorem bne_same {x : Int} : (x != x) = false := by simp
theorem cutX_all {els : List (List AV)} : cutX els 0 els.length = els := List.take_length
section
variable {L n : Nat} {xs zs : List Int} {mk a b ln y p q r s e : Int}
def smA (p q r s : Int) (els : List (List AV)) (i : Nat) : St := ⟨[(2, .ptr ⟨0,2,0⟩ [0] 0 0), (3, .ptr ⟨0,3,0⟩ [1] 0 0), (5, .int .i64 i)], [(⟨0,2,0⟩, ⟨[0], [[.int .i64 p, .int .i64 q, .int .i64 r, .lst 1 els, .int .i64 s]], 5, false⟩), (⟨0,3,0⟩, ⟨[1], [[.int .i64 p, .int .i64 q, .int .i64 r, .lst 1 els, .int .i64 s]], 5, false⟩)], 0⟩
theorem sm14w (hm : zs.length ≤ 17592186044415) (hL : zs.length ≤ L) :
    den ⟨fnOf, specAbs, L+1⟩ (n+1) 14 [.agg [.int .i64 p, .int .i64 q, .int .i64 r, .lst 1 (cellsI zs), .int .i64 s], .agg [.int .i64 p, .int .i64 q, .int .i64 r, .lst 1 (cellsI zs), .int .i64 s]] = some (.v (.bool true)) := by
  refine @sm14l_5 (L+1) n p q r s (cellsI zs) bne_same bne_same bne_same bne_same bne_same ?_
  refine loop0 (smA p q r s (cellsI zs)) (cellsI zs).length rfl (by rw [cellsI_len]; exact hL) (fun i hi => ?_) ?_ (by simp)
  · have hi' : i < zs.length := by rw [cellsI_len] at hi; exact hi
    have := @sm0_1 (L+1) n zs[i] p q r s (cellsI zs) i [43] (dlt hi) (el_at (cellsI_at hi')) bne_same
    rw [wrap_up hi (by rw [cellsI_len]; omega)] at this
    exact this
  · exact @sm0_2 (L+1) n 0 p q r s (cellsI zs) (cellsI zs).length [43] dnlt
theorem jr0_loop (hm : xs.length ≤ 17592186044415) (hL : xs.length ≤ L) :
    Con.holds ⟨fnOf, specAbs, L+1⟩ (runF ⟨fnOf, specAbs, L+1⟩ n) (.loop 0 [4, 13, 19] m3b0 [47] (j0St mk a b ln (cellsI xs) 0) (.exit 2) (j0Ex mk a b ln (cellsI xs))) := by
  refine loop0 (j0St mk a b ln (cellsI xs)) (cellsI xs).length rfl (by rw [cellsI_len]; exact hL) (fun i hi => ?_) ?_ (by simp)
  · have hi' : i < xs.length := by rw [cellsI_len] at hi; exact hi
    have := @jr0_1 (L+1) n mk a b ln 0 0 0 0 xs[i] (cellsI xs) [] 0 i [47] (dlt hi) (ix_at hi) (by rw [Nat.zero_add]; exact cellsI_at hi') (el_at (cellsI_at hi')) bne_same
    rw [wrap_up hi (by rw [cellsI_len]; omega)] at this
    exact this
  · exact @jr0_2 (L+1) n mk a b ln 0 0 0 0 0 (cellsI xs) [] 0 (cellsI xs).length [47] dnlt
/-- the answer's places, overwritten one after the other -/
def oS (out : List (List AV)) : Nat → List (List AV)
  | 0 => out
  | i + 1 => (oS out i).set (0 + i) [.int .i64 (-1)]
theorem oS_len {out : List (List AV)} : ∀ i, (oS out i).length = out.length
  | 0 => rfl
  | i + 1 => by rw [oS, List.length_set]; exact oS_len i
theorem oS_at {out : List (List AV)} {k : Nat} : ∀ i, i ≤ k → (oS out i)[k]? = out[k]?
  | 0, _ => rfl
  | i + 1, h => by rw [oS, List.getElem?_set_ne (by omega)]; exact oS_at i (by omega)
theorem jr1_loop {els : List (List AV)} (hm : zs.length ≤ 17592186044415) (hL : zs.length ≤ L) :
    Con.holds ⟨fnOf, specAbs, L+1⟩ (runF ⟨fnOf, specAbs, L+1⟩ n) (.loop 0 [4, 13, 14, 18] m3b1 [45] (j1St mk a b ln els p q r s (cellsI zs).length (cellsI zs) 0) (.exit 0) (j1Ex mk a b ln els p q r s (cellsI zs).length (oS (cellsI zs) (cellsI zs).length))) := by
  refine loop0 (fun i => j1St mk a b ln els p q r s (cellsI zs).length (oS (cellsI zs) i) i) (cellsI zs).length rfl (by rw [cellsI_len]; exact hL) (fun i hi => ?_) ?_ (by simp)
  · have hi' : i < zs.length := by rw [cellsI_len] at hi; exact hi
    have := @jr1_0 (L+1) n mk a b ln p q r s zs[i] els (oS (cellsI zs) i) (cellsI zs).length i [45] (dlt hi) (ix_at hi) (by show _ = _; rw [Nat.zero_add, oS_at i (Nat.le_refl _)]; exact cellsI_at hi')
    rw [wrap_up hi (by rw [cellsI_len]; omega)] at this
    exact this
  · exact @jr1_1 (L+1) n mk a b ln p q r s 0 els (oS (cellsI zs) (cellsI zs).length) (cellsI zs).length (cellsI zs).length [45] dnlt
theorem jr1n_loop {els : List (List AV)} :
    Con.holds ⟨fnOf, specAbs, L+1⟩ (runF ⟨fnOf, specAbs, L+1⟩ n) (.loop 0 [4, 13, 14, 18] m3b1 [45] (j1Stn mk a b ln els p q r s) (.exit 0) (j1Exn mk a b ln els p q r s)) :=
  loop0 (fun _ => j1Stn mk a b ln els p q r s) 0 rfl (Nat.zero_le _) (fun i hi => absurd hi (by omega)) (@jr1n_0 (L+1) n mk a b ln p q r s 0 els [] 0 0 [45]) (by simp)
theorem any24' {e : Env} {H : Heap} {C : Caller} (h22 : (Opd.t 22).ev e = .slc ⟨0,22,0⟩ [3] 1 0 0 true) (h23 : (Opd.t 23).ev e = .lst 1 (cellsI xs)) (hH : H.row ⟨0,22,0⟩ [3] = some ⟨[3], [], 1, true⟩)
    (hm : xs.length ≤ 17592186044411) (h0 : 0 < xs.length) :
    Con.holds ⟨fnOf, specAbs, L⟩ C (.any 0 [5] (MO.mk (some 24) (MOp.append 1 8 true (Opd.t 22) (Opd.t 23)) none []) e H (.slc ⟨0,24,0⟩ [5] 1 0 (cellsI xs).length false) (H.set ⟨0,24,0⟩ ⟨[5], cellsI xs, 1, true⟩)) := by
  show opSem ⟨0, 24, 0⟩ [5] (MOp.append 1 8 true (Opd.t 22) (Opd.t 23)) e H = _
  have hne : ¬ (cellsI xs).length = 0 := by rw [cellsI_len]; omega
  have hb : (0 + (cellsI xs).length) * 8 ≤ most := by rw [cellsI_len]; simp only [most]; omega
  simp only [opSem, h22, h23, srcEls, lens_cells, dryEls_cells, and_self, if_true, implies_true, hne, if_false, hH]
  rw [if_pos ⟨trivial, trivial, hb, by simp⟩]
  simp only [List.drop_nil, List.take_nil, List.nil_append, Nat.zero_add]
theorem shRes_sh (X : AV) (g : Bool) : ∃ p q r s Y e, shRes X mk a b ln y g = .tup [.agg [.int .i64 p, .int .i64 q, .int .i64 r, Y, .int .i64 s], .int .i64 e] ∧ (g = false ∧ Y = .nils ∨ g = true ∧ Y = X) := by
  cases g with
  | true => exact ⟨_, _, _, _, _, _, rfl, .inr ⟨rfl, rfl⟩⟩
  | false => exact ⟨_, _, _, _, _, _, rfl, .inl ⟨rfl, rfl⟩⟩
theorem law3e {bl : AV} (hb : bl = .nils ∨ bl = .lst 1 []) : den ⟨fnOf, specAbs, L+6⟩ (n+3) 3 [.int .i64 mk, .int .i64 a, .int .i64 b, .int .i64 ln, bl, .int .i64 y] = some (.v (.bool true)) := by
  have h12 := @sh12w L n [] mk a b ln y (by simp) (by simp)
  have h13 := @rf13 L (n+1) [] mk a b ln y (by simp) (by simp)
  obtain ⟨p, q, r, s, Y, e, hs, hY⟩ := @shRes_sh mk a b ln y (shB [] y) (shGood [] mk a b ln y)
  have hY : Y = .nils := by rcases hY with ⟨_, h⟩ | ⟨_, h⟩ <;> exact h
  subst hY
  rw [hs] at h12 h13
  have h14 := @sm14_4 (L+1) (n+1) p q r s .nils bne_same bne_same bne_same bne_same
  rcases hb with rfl | rfl
  · exact @lwA_1 (L+1) (n+2) mk a b ln y p q r s e (call_den h12) (call_den h13) (call_den h14) bne_same
  · exact @lwB_1 (L+1) (n+2) mk a b ln y p q r s e (call_den h12) (call_den h13) (call_den h14) bne_same
theorem le_out {out : List (List AV)} {P : Prog} {C : Caller} : Con.holds P C (.le (0 + out.length) out.length) := by show _ ≤ _; omega
theorem law3n (h0 : 0 < xs.length) (hm : xs.length ≤ 17592186044411) (hL : xs.length ≤ L + 1) :
    den ⟨fnOf, specAbs, L+6⟩ (n+3) 3 [.int .i64 mk, .int .i64 a, .int .i64 b, .int .i64 ln, .lst 1 (cellsI xs), .int .i64 y] = some (.v (.bool true)) := by
  have h12 := @sh12w L n xs mk a b ln y (by omega) (by omega)
  have h13 := @rf13 L (n+1) xs mk a b ln y (by omega) (by omega)
  obtain ⟨p, q, r, s, Y, e, hs, hY⟩ := @shRes_sh mk a b ln y (shB xs y) (shGood xs mk a b ln y)
  rw [hs, ← cutX_all (els := cellsI xs)] at h12 h13
  rcases hY with ⟨_, rfl⟩ | ⟨_, rfl⟩
  · have h14 := @sm14_4 (L+1) (n+1) p q r s .nils bne_same bne_same bne_same bne_same
    exact @lwC_1 (L+1) (n+2) mk a b ln y p q r s e (cellsI xs) (any24' rfl rfl rfl hm h0) (call_den h12) le_out (call_den h13) (call_den h14) bne_same jr1n_loop (jr0_loop (L := L+5) (by omega) (by omega))
  · obtain ⟨zs, hz, hl⟩ : ∃ zs : List Int, outTo xs y xs.length = cellsI zs ∧ zs.length = xs.length := ⟨_, rfl, by rw [List.length_map, List.take_length]⟩
    have hX : shB xs y = .own 1 (cellsI zs) true := by
      rw [← hz]
      unfold shB
      split
      · simp at h0
      · rfl
    rw [hX] at h12 h13
    have h14 := @sm14w (L+5) (n+1) zs p q r s (by omega) (by omega)
    rw [← cutX_all (els := cellsI zs)] at h14
    exact @lwD_1 (L+1) (n+2) mk a b ln y p q r s e (cellsI xs) (cellsI zs) _ (any24' rfl rfl rfl hm h0) (call_den h12) le_out (call_den h13) (call_den h14) le_out bne_same (jr1_loop (L := L+5) (by omega) (by omega)) (jr0_loop (L := L+5) (by omega) (by omega))
end
end Go.Proofs.Ytnccnmeecngopaa.Fw
