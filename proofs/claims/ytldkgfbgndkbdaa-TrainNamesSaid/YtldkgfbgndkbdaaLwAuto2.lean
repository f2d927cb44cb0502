/- train.Auto: the run. -/
import Derived.Test.YtldkgfbgndkbdaaLwAuto
set_option maxRecDepth 100000
set_option maxHeartbeats 4000000
set_option linter.unusedSimpArgs false
set_option linter.unusedVariables false
set_option linter.unnecessarySimpa false
namespace Go.Proofs.Ytldkgfbgndkbdaa.Fw
open Go Go.RowKit
theorem wrap_nat {i m : Nat} (h : i < m) (hm : m ≤ 65536) : IntKind.wrap .i64 ((i : Int) + 1) = ((i + 1 : Nat) : Int) := by
  rw [wrap_id (by omega)]; rfl
theorem idx_nat {i m : Nat} (h : i < m) : idx (.int .i64 i) m = some i := by
  simp only [idx]; rw [if_pos (by omega)]; simp
section
variable {L n : Nat} {C : Caller}
abbrev outB (O : List (List AV)) : Heap := [(⟨0,13,0⟩, ⟨[7], O, 1, true⟩)]

theorem load_out {st : List Nat} {O : List (List AV)} {s : Nat} {a : Int} (h : O[s]? = some (cI64 a)) :
    Con.holds ⟨fnOf, specAbs, L⟩ C (.any 0 st ⟨some 31, .load false 1 (.t 30), none, [2, 1, 0]⟩ [(30, .ptr ⟨0,13,0⟩ [7] (0 + s) 0)] (outB O) (.int .i64 a) (outB O)) := by
  simp [Con.holds, stepOp, opSem, Opd.ev, Env.get, Heap.row, Heap.get, takeCells, h, cI64]
theorem store_out {st : List Nat} {O O' : List (List AV)} {s : Nat} {a b : Int} {pre : List Nat} (h : O[s]? = some (cI64 a)) (h' : O.set s (cI64 b) = O') :
    Con.holds ⟨fnOf, specAbs, L⟩ C (.any 0 st ⟨none, .store 1 (.t 41) (.t 40), none, pre⟩ [(41, .ptr ⟨0,13,0⟩ [7] (0 + s) 0), (40, .int .i64 b)] (outB O) .junk (outB O')) := by
  simp [Con.holds, stepOp, opSem, Opd.ev, Env.get, Heap.row, Heap.get, Heap.set, cellsOf, allCell, AV.cell, dryL, AV.dry, putCells, h, cI64]
  rw [← h']; rfl

/-- inner rounds -/
def InSt (xs : List Int) (s : Nat) (els els2 : List (List AV)) (i : Nat) (t : St) : Prop :=
  t = ⟨[(0, .lst 1 els), (4, .slc ⟨0,13,0⟩ [7] 1 0 xs.length true), (5, .int .i64 s), (15, .int .i64 xs.length), (16, .int .i64 s), (21, .lst 1 els2), (22, .int .i64 (xs.length - s : Nat)), (23, .int .i64 i)],
    outB ((((List.range s).map fun s => dotK 0 (xs.drop s) xs) ++ accF xs s i :: List.replicate (xs.length - s - 1) 0).map cI64), 0⟩
theorem in_step {xs : List Int} (hl : xs.length ≤ 4096) {s : Nat} (hs : s < xs.length) {π : List Nat} {i : Nat} {t : St} (hi : i < xs.length - s) (hI : InSt xs s (xs.map cI8) ((xs.drop s).map cI8) i t) :
    ∃ t', nxt 0 [0,4,5,15,16,21,22,23] (bodyOf ⟨fnOf, specAbs, L+1⟩ (runF ⟨fnOf, specAbs, L+1⟩ n) 0 m12b0 (i :: π) t) = some t' ∧ InSt xs s (xs.map cI8) ((xs.drop s).map cI8) (i + 1) t' := by
  obtain rfl := hI
  have e1 : (xs.map cI8)[i]? = some (cI8 (xs.getD i 0)) := by simp [List.getD_eq_getElem?_getD, List.getElem?_eq_getElem (show i < xs.length by omega)]
  have e2 : ((xs.drop s).map cI8)[i]? = some (cI8 (xs.getD (s + i) 0)) := by simp [List.getD_eq_getElem?_getD, List.getElem?_eq_getElem (show s + i < xs.length by omega)]
  have l1 : (xs.map cI8).length = xs.length := by simp
  have l2 : ((xs.drop s).map cI8).length = xs.length - s := by simp
  have hacc : accF xs s (i + 1) = IntKind.wrap .i64 (accF xs s i + IntKind.wrap .i64 (IntKind.wrap .i64 (xs.getD (s + i) 0) * IntKind.wrap .i64 (xs.getD i 0))) := rfl
  generalize hpre : ((List.range s).map fun s => dotK 0 (xs.drop s) xs) = pre at *
  have hprel : pre.length = s := by rw [← hpre]; simp
  have g0 := get_mid pre (List.replicate (xs.length - s - 1) 0) (accF xs s i)
  have s0 := set_mid pre (List.replicate (xs.length - s - 1) 0) (accF xs s i) (accF xs s (i + 1))
  rw [hprel] at g0 s0
  have hb : decide ((i : Int) < ((xs.length - s : Nat) : Int)) = true := by rw [decide_eq_true_eq]; omega
  have hsx : idx (.int .i64 (s : Int)) xs.length = some s := idx_nat hs
  have hw := wrap_nat (i := i) (m := xs.length - s) hi (by omega)
  have he1 : Con.holds ⟨fnOf, specAbs, L+1⟩ (runF ⟨fnOf, specAbs, L+1⟩ n) (.el (xs.map cI8) (.int .i64 i) [.int .i8 (xs.getD i 0)]) := ⟨i, by rw [l1]; exact idx_nat (by omega), e1⟩
  have he2 : Con.holds ⟨fnOf, specAbs, L+1⟩ (runF ⟨fnOf, specAbs, L+1⟩ n) (.el ((xs.drop s).map cI8) (.int .i64 i) [.int .i8 (xs.getD (s + i) 0)]) := ⟨i, by rw [l2]; exact idx_nat hi, e2⟩
  unfold InSt
  rw [hpre]
  generalize xs.map cI8 = els at *
  generalize (xs.drop s).map cI8 = els2 at *
  generalize hO : List.map cI64 (pre ++ accF xs s i :: List.replicate (xs.length - s - 1) 0) = O at *
  generalize hO' : List.map cI64 (pre ++ accF xs s (i + 1) :: List.replicate (xs.length - s - 1) 0) = O' at *
  generalize xs.getD (s + i) 0 = x at *
  generalize xs.getD i 0 = y at *
  generalize accF xs s i = a at *
  generalize accF xs s (i + 1) = b at *
  generalize xs.length - s = m at *
  generalize xs.length = k at *
  subst hacc
  have hd : nxtD ⟨fnOf, specAbs, L+1⟩ (runF ⟨fnOf, specAbs, L+1⟩ n) 0 [0,4,5,15,16,21,22,23] m12b0 (i :: π) ⟨[(0, .lst 1 els), (4, .slc ⟨0,13,0⟩ [7] 1 0 k true), (5, .int .i64 s), (15, .int .i64 k), (16, .int .i64 s), (21, .lst 1 els2), (22, .int .i64 m), (23, .int .i64 i)], outB O, 0⟩
      [(some 24,.b true),(some 26,.el [.int .i8 x]),(some 30,.ix s),(some 31,.any (.int .i64 a) (outB O)),(some 36,.el [.int .i8 y]),(some 41,.ix s),(none,.any .junk (outB O'))] =
      some (⟨[(0, .lst 1 els), (4, .slc ⟨0,13,0⟩ [7] 1 0 k true), (5, .int .i64 s), (15, .int .i64 k), (16, .int .i64 s), (21, .lst 1 els2), (22, .int .i64 m), (23, .int .i64 (IntKind.wrap .i64 ((i : Int) + 1)))], outB O', 0⟩,
        [.b (decide ((i : Int) < (m : Int))) true, .el els2 (.int .i64 i) [.int .i8 x], .ix (.int .i64 s) k s, .any 0 (9 :: i :: π) ⟨some 31, .load false 1 (.t 30), none, [2, 1, 0]⟩ [(30, .ptr ⟨0,13,0⟩ [7] (0 + s) 0)] (outB O) (.int .i64 a) (outB O),
          .el els (.int .i64 i) [.int .i8 y], .ix (.int .i64 s) k s, .any 0 (20 :: i :: π) ⟨none, .store 1 (.t 41) (.t 40), none, [12, 11, 10, 9, 8, 7, 6, 5, 4, 3, 2, 1, 0, 13]⟩ [(41, .ptr ⟨0,13,0⟩ [7] (0 + s) 0), (40, .int .i64 (IntKind.wrap .i64 (a + IntKind.wrap .i64 (IntKind.wrap .i64 x * IntKind.wrap .i64 y))))] (outB O) .junk (outB O')]) := by kernel_rfl
  refine ⟨_, nxtD_sound hd ⟨hb, he2, hsx, load_out g0, he1, hsx, store_out g0 s0, trivial⟩, ?_⟩
  rw [hw]
end
end Go.Proofs.Ytldkgfbgndkbdaa.Fw
