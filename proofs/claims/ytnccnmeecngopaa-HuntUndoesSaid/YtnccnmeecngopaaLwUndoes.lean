/- HuntUndoes: what hunt.Undo answers is what the document says, whatever the number, the size and the quarters. -/
import Derived.Test.YtnccnmeecngopaaFwY
import Derived.Test.YtnccnmeecngopaaFwAbs
import Derived.Test.YtnccnmeecngopaaFwFl
set_option maxRecDepth 100000
set_option maxHeartbeats 4000000
set_option linter.unusedSimpArgs false
set_option linter.unusedVariables false
namespace Go.Proofs.Ytnccnmeecngopaa.Fw
open Go Go.RowKit

def alikeF (a b : Nat) : Bool := feq a b || (!feq a a && !feq b b)
theorem alikeF_self (a : Nat) : alikeF a a = true := by unfold alikeF; cases feq a a <;> rfl
section
variable {L n : Nat}
theorem alike18 {a b : Nat} : den ⟨fnOf, specAbs, L⟩ (n+1) 18 [.flt a, .flt b] = some (.v (.bool (alikeF a b))) := by
  unfold alikeF
  by_cases h1 : feq a b = true <;> by_cases h2 : feq a a = true <;> by_cases h3 : feq b b = true <;>
  simp [r18, m18, evC_skip, evC_ops, evC_seq, evC_cond, evC_block, evC_loop, evC_exit, evC_ret, evOps, stepOp, opSem, guardOf, putD, Env.get, Opd.ev, Opd.evs, optEv, argEnv, cellsOf, allCell, AV.cell, dryL, dryEls, AV.dry, Heap.set, Heap.get, Heap.row, takeCells, putCells, binSem, iadd_def, isub_def, imul_def, iquo_def, irem_def, iand_def, ior_def, ixor_def, iandNot_def, ieql_def, ineq_def, ilss_def, ileq_def, igtr_def, igeq_def, shiftBin, fltBin, cpxBin, strBin, eqBin, nilSl, nilPt, nilFn, unSem, convSem, biSem, extSem, sliceSem, bnd, idx, evParts, evPartsS, fillParts, setEls, resOf, resOne, optList, prune, liveEnv, refsEnv, AV.refs, AV.refsL, refsEls, Blk.refs, reach, refsOf, keepSites, Site.mk.injEq, List.getElem?_cons_zero, List.getElem?_cons_succ, den, distinct, packT, packA, packC, thawT, thawA, thawL, thawC, freeze, srcEls, lens, most, inlOf, runOut, undef, h1, h2, h3]

def turn : Nat → Nat × Nat → Nat × Nat
  | 0, z => z
  | k + 1, z => turn k (z.2, fneg z.1)
/-- what is undone -/
def undoA (a b size : Nat) (q : Int) : AV :=
  if feq size 4607182418800017408 = true then .tup [.cpx (fmul (turn (q % 4).toNat (a, b)).1 4607182418800017408) (fmul (turn (q % 4).toNat (a, b)).2 4607182418800017408), .int .i64 0]
  else if feq size 4602678819172646912 = true then .tup [.cpx (fmul (turn (q % 4).toNat (a, b)).1 4611686018427387904) (fmul (turn (q % 4).toNat (a, b)).2 4611686018427387904), .int .i64 0]
  else if feq size 4598175219545276416 = true then .tup [.cpx (fmul (turn (q % 4).toNat (a, b)).1 4616189618054758400) (fmul (turn (q % 4).toNat (a, b)).2 4616189618054758400), .int .i64 0]
  else .tup [.cpx 0 0, .int .i64 1]
theorem undo16 {a b size : Nat} {at' q : Int} : den ⟨fnOf, specAbs, L+5⟩ (n+1) 16 [.cpx a b, .agg [.int .i64 at', .flt size, .int .i64 q]] = some (undoA a b size q) := by
  have hq : iand .i64 q 3 = q % 4 := iand_mask (q := q) (m := 2) (by decide)
  have hq4 : q % 4 = 0 ∨ q % 4 = 1 ∨ q % 4 = 2 ∨ q % 4 = 3 := by omega
  have w1 : IntKind.wrap .i64 1 = 1 := rfl
  have w2 : IntKind.wrap .i64 2 = 2 := rfl
  have w3 : IntKind.wrap .i64 3 = 3 := rfl
  unfold undoA
  rcases hq4 with h | h | h | h <;> rw [h] at hq ⊢ <;>
  by_cases h1 : feq size 4607182418800017408 = true <;> by_cases h2 : feq size 4602678819172646912 = true <;> by_cases h3 : feq size 4598175219545276416 = true <;>
  simp [r16, m16, m16b0, bodyOf, LP, evC_skip, evC_ops, evC_seq, evC_cond, evC_block, evC_loop, evC_exit, evC_ret, evOps, stepOp, opSem, guardOf, putD, Env.get, Opd.ev, Opd.evs, optEv, argEnv, cellsOf, allCell, AV.cell, dryL, dryEls, AV.dry, Heap.set, Heap.get, Heap.row, takeCells, putCells, binSem, iadd_def, isub_def, imul_def, iquo_def, irem_def, iand_def, ior_def, ixor_def, iandNot_def, ieql_def, ineq_def, ilss_def, ileq_def, igtr_def, igeq_def, shiftBin, fltBin, cpxBin, strBin, eqBin, nilSl, nilPt, nilFn, unSem, convSem, biSem, extSem, sliceSem, bnd, idx, evParts, evPartsS, fillParts, setEls, resOf, resOne, optList, prune, liveEnv, refsEnv, AV.refs, AV.refsL, refsEls, Blk.refs, reach, refsOf, keepSites, Site.mk.injEq, List.getElem?_cons_zero, List.getElem?_cons_succ, den, distinct, packT, packA, packC, thawT, thawA, thawL, thawC, freeze, srcEls, lens, most, inlOf, runOut, undef, h1, h2, h3, hq, w1, w2, w3, turn]
theorem undo17 {a b size : Nat} {at' q : Int} : den ⟨fnOf, specAbs, L+5⟩ (n+1) 17 [.cpx a b, .agg [.int .i64 at', .flt size, .int .i64 q]] = some (undoA a b size q) := by
  have hq4 : q % 4 = 0 ∨ q % 4 = 1 ∨ q % 4 = 2 ∨ q % 4 = 3 := by omega
  have hq : q.tmod 4 = q % 4 ∨ (q.tmod 4 = q % 4 - 4 ∧ q % 4 ≠ 0) := by
    rw [Int.tmod_eq_emod]
    split
    · left; omega
    · right; rename_i h; have : ¬ (4 ∣ q) := fun k => h (.inr k); exact ⟨rfl, by omega⟩
  have w1 : IntKind.wrap .i64 1 = 1 := rfl
  have w2 : IntKind.wrap .i64 2 = 2 := rfl
  have w3 : IntKind.wrap .i64 3 = 3 := rfl
  have f1 : feq 4607182418800017408 0 = false := by kernel_rfl
  have f2 : feq 4611686018427387904 0 = false := by kernel_rfl
  have f3 : feq 4616189618054758400 0 = false := by kernel_rfl
  have f0 : feq 0 0 = true := by kernel_rfl
  have x12 : ¬ (feq size 4607182418800017408 = true ∧ feq size 4602678819172646912 = true) := fun h => by have := feq_same h.1 h.2; revert this; decide +kernel
  have x13 : ¬ (feq size 4607182418800017408 = true ∧ feq size 4598175219545276416 = true) := fun h => by have := feq_same h.1 h.2; revert this; decide +kernel
  have x23 : ¬ (feq size 4602678819172646912 = true ∧ feq size 4598175219545276416 = true) := fun h => by have := feq_same h.1 h.2; revert this; decide +kernel
  have hs : (feq size 4607182418800017408 = true ∧ feq size 4602678819172646912 = false ∧ feq size 4598175219545276416 = false) ∨ (feq size 4607182418800017408 = false ∧ feq size 4602678819172646912 = true ∧ feq size 4598175219545276416 = false) ∨
      (feq size 4607182418800017408 = false ∧ feq size 4602678819172646912 = false ∧ feq size 4598175219545276416 = true) ∨ (feq size 4607182418800017408 = false ∧ feq size 4602678819172646912 = false ∧ feq size 4598175219545276416 = false) := by
    revert x12 x13 x23
    cases feq size 4607182418800017408 <;> cases feq size 4602678819172646912 <;> cases feq size 4598175219545276416 <;> simp
  clear x12 x13 x23
  unfold undoA
  rcases hs with ⟨h1, h2, h3⟩ | ⟨h1, h2, h3⟩ | ⟨h1, h2, h3⟩ | ⟨h1, h2, h3⟩ <;> rcases hq4 with h | h | h | h <;> rcases hq with hq | ⟨hq, hn⟩ <;> rw [h] at hq ⊢ <;>
  first
  | exact absurd h hn
  | simp [r17, m17, m17b0, bodyOf, LP, evC_skip, evC_ops, evC_seq, evC_cond, evC_block, evC_loop, evC_exit, evC_ret, evOps, stepOp, opSem, guardOf, putD, Env.get, Opd.ev, Opd.evs, optEv, argEnv, cellsOf, allCell, AV.cell, dryL, dryEls, AV.dry, Heap.set, Heap.get, Heap.row, takeCells, putCells, binSem, iadd_def, isub_def, imul_def, iquo_def, irem_def, iand_def, ior_def, ixor_def, iandNot_def, ieql_def, ineq_def, ilss_def, ileq_def, igtr_def, igeq_def, shiftBin, fltBin, cpxBin, strBin, eqBin, nilSl, nilPt, nilFn, unSem, convSem, biSem, extSem, sliceSem, bnd, idx, evParts, evPartsS, fillParts, setEls, resOf, resOne, optList, prune, liveEnv, refsEnv, AV.refs, AV.refsL, refsEls, Blk.refs, reach, refsOf, keepSites, Site.mk.injEq, List.getElem?_cons_zero, List.getElem?_cons_succ, den, distinct, packT, packA, packC, thawT, thawA, thawL, thawC, freeze, srcEls, lens, most, inlOf, runOut, undef, h1, h2, h3, hq, w1, w2, w3, turn, f0, f1, f2, f3]; done

end
end Go.Proofs.Ytnccnmeecngopaa.Fw
