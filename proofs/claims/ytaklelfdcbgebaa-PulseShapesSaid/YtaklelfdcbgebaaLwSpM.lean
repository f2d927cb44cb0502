/- PulseShapes: the law's run. -/
import Derived.Test.YtaklelfdcbgebaaLwSpL
set_option maxRecDepth 100000
set_option maxHeartbeats 4000000
set_option linter.unusedSimpArgs false
set_option linter.unusedVariables false
set_option exponentiation.threshold 4000
namespace Go.Proofs.Ytaklelfdcbgebaa.Fw
open Go Go.RowKit
theorem numL_at {xs : List Int} {k i : Nat} (h : i < k) : (numL xs k).getD i (0, 0) = (fdiv (fofInt (xs.getD (2 * i) 0)) 4634204016564240384, fdiv (fofInt (xs.getD (2 * i + 1) 0)) 4634204016564240384) := by
  unfold numL
  rw [List.getD_eq_getElem?_getD, List.getElem?_map, List.getElem?_range h]; rfl
theorem getD_app {zs tl : List (Nat × Nat)} {i : Nat} {d : Nat × Nat} : (zs ++ tl).getD i d = if i < zs.length then zs.getD i d else tl.getD (i - zs.length) d := by
  simp only [List.getD_eq_getElem?_getD, List.getElem?_append]
  split <;> rfl
theorem okW_start (zs : List (Nat × Nat)) : okW zs.length (zs ++ [(4635118810238550016, 0), (0, 4635189178982727680)]) := by
  refine ⟨by simp, ?_, ?_⟩
  · rw [getD_app, if_neg (Nat.lt_irrefl _), Nat.sub_self]; rfl
  · rw [getD_app, if_neg (by omega), show zs.length + 1 - zs.length = 1 by omega]; rfl
theorem numW_start (xs : List Int) (k : Nat) (tl : List (Nat × Nat)) : numW k (numL xs k ++ tl) := by
  intro i hi
  rw [getD_app, if_pos (by rw [numL_len]; exact hi), numL_at hi]
  exact ⟨div64_num (fofInt_num _), div64_num (fofInt_num _)⟩
section
variable {L n : Nat} {rate fore att at1 : Int} {xs ps : List Int} {odd re im : Nat}
theorem law_shapes (hm : xs.length ≤ 17592186044415) (hp : ps.length ≤ 17592186043904) (hL : xs.length + ps.length + 65636 ≤ L) :
    den ⟨fnOf, specH, L+1⟩ (n+3) 4 [.agg [.int .i64 rate, .int .i64 fore, .lst 1 (xs.map celI), .flt odd, .int .i64 att], .lst 1 (ps.map celI), .flt re, .flt im, .int .i64 at1] = some (.v (.bool true)) := by
  have h0 := @made_den specH L (n+1) rate fore att odd xs hm (by omega)
  have h1 := @numbers_den specH L (n+1) ps (by omega) (by omega)
  generalize mdL att odd xs xs.length = ms at h0
  have hln : (numL ps (ps.length / 2)).length = ps.length / 2 := numL_len
  have hnw : numW (numL ps (ps.length / 2)).length (numL ps (ps.length / 2) ++ [(4635118810238550016, 0), (0, 4635189178982727680)]) := by rw [hln]; exact numW_start ps (ps.length / 2) _
  generalize numL ps (ps.length / 2) = zs at h1 hln hnw
  have cZ : cutX (zs.map celC) 0 (List.length (zs.map celC)) = zs.map celC := cutAll
  have hz : (zs.map celC).length = zs.length := map_len
  have hcat : Con.holds ⟨fnOf, specH, L+1⟩ (runF ⟨fnOf, specH, L+1⟩ (n+2)) (.cat 1 16 true (zs.map celC)) := catC_ok (by simp only [most]; omega)
  have hpu : Con.holds ⟨fnOf, specH, L+1⟩ (runF ⟨fnOf, specH, L+1⟩ (n+2)) (.push (List.length (zs.map celC)) 2 16 (zs.map celC)) := push_ok rfl (by rw [hz]; simp only [most]; omega)
  have e1 : (zs.map celC) ++ [[AV.cpx 4635118810238550016 0], [AV.cpx 0 4635189178982727680]] = (zs ++ [(4635118810238550016, 0), (0, 4635189178982727680)]).map celC := by rw [List.map_append]; rfl
  obtain ⟨s', l1, wz, rfl⟩ := loopI (P := ⟨fnOf, specH, L+1⟩) (C := runF ⟨fnOf, specH, L+1⟩ (n+2)) (L := L) (d := 0) (live := [2, 3, 4, 11, 12, 13, 14, 15]) (π := [21]) (m := m4b2) (A := plR re im at1 rate fore ms zs (zs ++ [(4635118810238550016, 0), (0, 4635189178982727680)]) (zs.length + 2) zs.length 0)
    (fun j s => ∃ ws, s = plR re im at1 rate fore ms zs ws (zs.length + 2) zs.length j ∧ okW zs.length ws ∧ (j < 2 → numW zs.length ws)) (fun s => ∃ ws, s = plR re im at1 rate fore ms zs ws (zs.length + 2) zs.length 3) 3 (x := .exit 0) (by simp) rfl (by omega)
    ⟨_, rfl, okW_start zs, fun _ => hnw⟩
    (fun j s hj hs => by
      obtain ⟨ws, rfl, a, b⟩ := hs
      obtain ⟨wz, g1, g2, g3⟩ := @one_round L (n+1) at1 rate fore re im (zs.length + 2) zs.length j ms zs ws [21] hj a b rfl rfl (by omega) (by omega)
      exact ⟨_, g1, wz, rfl, g2, g3⟩)
    (fun s hs => by
      obtain ⟨ws, rfl, a, b⟩ := hs
      have := @kr_14 (L+1) (n+2) 0 0 0 at1 [] [] 0 re im rate fore ms zs ws (zs.length + 2) zs.length 3 [] [] [] [] [] 0 0 0 0 0 0 [21] [] (by rfl)
      exact ⟨_, seeZ_go this, ws, rfl⟩)
  have l2 : Con.holds ⟨fnOf, specH, L+1⟩ (runF ⟨fnOf, specH, L+1⟩ (n+2)) (.sl (some 1) (.slc ⟨0,31,0⟩ [13] 1 0 (zs.length + 2) false) none (some (.int .i64 ((zs.length : Nat) : Int))) none (.slc ⟨0,31,0⟩ [13] 1 0 zs.length false)) := sl_slc0 (by omega)
  exact @kl_0 (L+1) (n+2) rate fore att at1 xs ps odd re im rate fore ms zs wz (zs.length + 2) zs.length 3 [] [] [] [] [] 0 0 0 0 0 0 [] [] rate fore ms zs
    (call_den h0) (call_den h1) (by rw [cZ]; exact hcat) leOut (by rw [cZ]; exact hpu) (by rw [cZ, hz]; exact l2) (by rw [cZ, e1, hz]; unfold plR at l1; rw [hz] at l1; exact l1)
end
end Go.Proofs.Ytaklelfdcbgebaa.Fw
