/- HuntShifts: hunt.Shift and the document's Shift, whole: what they answer for any places. -/
import Derived.Test.YtnccnmeecngopaaLwShM
set_option maxRecDepth 100000
set_option maxHeartbeats 4000000
set_option linter.unusedSimpArgs false
set_option linter.unusedVariables false
namespace Go.Proofs.Ytnccnmeecngopaa.Fw
open Go Go.RowKit
def shRes (X : AV) (mk a b ln y : Int) (good : Bool) : AV :=
  match good with
  | true => .tup [.agg [.int .i64 (WR mk y), .int .i64 (WR a y), .int .i64 (WR b y), X, .int .i64 (WR ln y)], .int .i64 0]
  | false => .tup [.agg [.int .i64 0, .int .i64 0, .int .i64 0, .nils, .int .i64 0], .int .i64 1]
def shB (xs : List Int) (y : Int) : AV := match xs with | [] => .nils | _ => .own 1 (outTo xs y xs.length) true
def shC (mk a b ln y : Int) : Bool := (((true && lateOk mk y) && lateOk a y) && lateOk b y) && lateOk ln y
def shGood (xs : List Int) (mk a b ln y : Int) : Bool := okTo (shC mk a b ln y) xs y xs.length
section
variable {L n : Nat} {xs : List Int} {mk a b ln y : Int}
theorem sh_loop {c : Bool} (hm : xs.length ≤ 17592186044415) (hL : xs.length ≤ L + 5) (h0 : 0 < xs.length) {mk a b ln : Int} :
    Con.holds ⟨fnOf, specAbs, L+6⟩ (runF ⟨fnOf, specAbs, L+6⟩ (n+1)) (.loop 0 [4, 6, 7, 8, 33, 34, 35] m12b0 [34] (shA xs mk a b ln y c 0) (.exit 0)
      ⟨(36, .v (.bool false)) :: shEnv (cellsI xs) (cellsI xs).length (cellsI xs).length, shHp mk a b ln y (okTo c xs y xs.length) (.slc ⟨0,45,0⟩ [10, xs.length - 1, 34] 1 0 (cellsI xs).length false) ++ [(⟨0,45,0⟩, ⟨[10, xs.length - 1, 34], outTo xs y xs.length, 1, true⟩)], 1⟩) := by
  refine loop0 (shA xs mk a b ln y c) xs.length (L := L + 5) rfl hL (fun i hi => sh_round hm hi) ?_ (by simp)
  obtain ⟨m, hx⟩ : ∃ m, xs.length = m + 1 := ⟨xs.length - 1, by omega⟩
  rw [cellsI_len, hx, shA_succ, Nat.add_sub_cancel, hx]
  exact shr1_1 (c := false) (x := 0) dnlt
theorem sh12w (hm : xs.length ≤ 17592186044415) (hL : xs.length ≤ L + 5) :
    den ⟨fnOf, specAbs, L+6⟩ (n+2) 12 [.agg [.int .i64 mk, .int .i64 a, .int .i64 b, .lst 1 (cellsI xs), .int .i64 ln], .int .i64 y] = some (shRes (shB xs y) mk a b ln y (shGood xs mk a b ln y)) := by
  rcases Nat.eq_zero_or_pos xs.length with h0 | h0
  · obtain rfl := List.length_eq_zero_iff.1 h0
    have hg : shGood [] mk a b ln y = shC mk a b ln y := by simp [shGood, okTo]
    rw [hg]
    cases hc : shC mk a b ln y with
    | true => exact @sh12e_1 (L+1) (n+1) mk a b ln y _ _ _ _ calli37 calli37 calli37 calli37 (by change (!shC mk a b ln y) = _; rw [hc]; rfl)
    | false => exact @sh12e_0 (L+1) (n+1) mk a b ln y _ _ _ _ calli37 calli37 calli37 calli37 (by change (!shC mk a b ln y) = _; rw [hc]; rfl)
  · have hl := sh_loop (L := L) (n := n) (y := y) (c := shC mk a b ln y) hm hL h0 (mk := WR mk y) (a := WR a y) (b := WR b y) (ln := WR ln y)
    rw [shA_zero, show shEnv (cellsI xs) xs.length 0 = shEnv (cellsI xs) (cellsI xs).length 0 by rw [cellsI_len]] at hl
    have ho := outTo_len (xs := xs) (y := y) (Nat.le_refl _)
    cases hc : shGood xs mk a b ln y with
    | true =>
      have := @sh12b_1 (L+6) (n+1) mk a b ln y (cellsI xs) (outTo xs y xs.length) _ _ _ _ (okTo (shC mk a b ln y) xs y xs.length) 0 [10, xs.length - 1, 34] calli37 calli37 calli37 calli37 hl
        (by change (!shGood xs mk a b ln y) = _; rw [hc]; rfl) (by show _ ≤ _; rw [cellsI_len, ho]; exact Nat.le_refl _)
      rw [this, cellsI_len, List.take_of_length_le (by rw [ho]; exact Nat.le_refl _)]
      unfold shB
      split
      · simp at h0
      · rfl
    | false =>
      exact @sh12b_0 (L+6) (n+1) mk a b ln y (cellsI xs) (outTo xs y xs.length) _ _ _ _ (okTo (shC mk a b ln y) xs y xs.length) 0 [10, xs.length - 1, 34] calli37 calli37 calli37 calli37 hl
        (by change (!shGood xs mk a b ln y) = _; rw [hc]; rfl)
end
end Go.Proofs.Ytnccnmeecngopaa.Fw
