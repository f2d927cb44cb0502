/- TrainPairsUp: all nine pairs make up for one another: it holds (a closed statement). -/
import Derived.Test.YtldkgfbgndkbdaaLwAuto3
set_option maxRecDepth 100000
set_option maxHeartbeats 4000000
set_option linter.unusedSimpArgs false
set_option linter.unusedVariables false
set_option linter.unnecessarySimpa false
namespace Go.Proofs.Ytldkgfbgndkbdaa.Fw
open Go Go.RowKit
def ints8 : List (List AV) → Option (List Int)
  | [] => some []
  | [.v (.int .i8 x)] :: r => match ints8 r with | some l => some (x :: l) | none => none
  | _ => none
theorem ints8_map : ∀ {els : List (List AV)} {xs : List Int}, ints8 els = some xs → els = xs.map cI8
  | [], xs, h => by simp only [ints8] at h; cases h; rfl
  | e :: r, xs, h => by
    unfold ints8 at h
    split at h
    · cases ‹e :: r = []›
    · rename_i x r' he
      cases he
      split at h
      · rename_i l hl
        cases h
        rw [ints8_map hl]; rfl
      · cases h
    · cases h
def autoG : List AV → Option AV
  | [.lst 1 els] =>
    match ints8 els with
    | some xs => if xs.length ≤ 4096 then some (.tup [.own 1 ((autoL xs).map cI64) true, .int .i64 0]) else none
    | none => none
  | _ => none
def specAuto : FuncId → Option (List AV → Option AV) := fun f => if f = 12 then some autoG else specAbs f
theorem spec_auto : SpecOk Try.prog ⟨fnOf, specAuto, 0⟩ := by
  refine spec_add (spec_abs 0 fnOf) (fun L => fnsOk _ _) follows 12 autoG ⟨_, Try.func12, ne_of_beq_false (by kernel_rfl), by kernel_rfl⟩ fun avs r h => ?_
  unfold autoG at h
  split at h
  · split at h
    · rename_i xs hx
      split at h
      · rename_i hl
        cases h
        rw [ints8_map hx]
        exact ⟨_, _, auto12 (L := 0) (n := 0) hl⟩
      · cases h
    · cases h
  · cases h
end Go.Proofs.Ytldkgfbgndkbdaa.Fw
