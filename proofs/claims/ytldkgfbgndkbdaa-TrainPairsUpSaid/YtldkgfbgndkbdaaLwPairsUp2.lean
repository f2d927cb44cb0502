/- TrainPairsUp: the nine rounds, one by one. -/
import Derived.Test.YtldkgfbgndkbdaaLwPairsUp
set_option maxRecDepth 100000
set_option maxHeartbeats 4000000
namespace Go.Proofs.Ytldkgfbgndkbdaa.Fw
open Go Go.RowKit
def pairAB : Nat → List Int × List Int
  | 0 => ([1], [1])
  | k + 1 => match pairAB k with | (a, b) => (a ++ b, a ++ b.map fun x => -x)
def PB : Prog := ⟨fnOf, specAuto, 1000⟩
def rowA : Nat → St
  | 0 => ⟨[(1, .nils), (2, .int .i64 0)], [], 0⟩
  | k + 1 => ⟨[(1, .slc ⟨0,128,0⟩ [73, k, 5] 1 0 (2 ^ k) false), (2, .int .i64 (k + 1))], [(⟨0,128,0⟩, ⟨[73, k, 5], (pairAB k).1.map cI8, 1, true⟩)], 0⟩
theorem round0 : nxt 0 [1,2] (bodyOf PB (runF PB 59) 0 m3b1 [0, 5] (rowA 0)) = some (rowA 1) := by kernel_rfl
theorem round1 : nxt 0 [1,2] (bodyOf PB (runF PB 59) 0 m3b1 [1, 5] (rowA 1)) = some (rowA 2) := by kernel_rfl
theorem round2 : nxt 0 [1,2] (bodyOf PB (runF PB 59) 0 m3b1 [2, 5] (rowA 2)) = some (rowA 3) := by kernel_rfl
theorem round3 : nxt 0 [1,2] (bodyOf PB (runF PB 59) 0 m3b1 [3, 5] (rowA 3)) = some (rowA 4) := by kernel_rfl
theorem round4 : nxt 0 [1,2] (bodyOf PB (runF PB 59) 0 m3b1 [4, 5] (rowA 4)) = some (rowA 5) := by kernel_rfl
theorem round5 : nxt 0 [1,2] (bodyOf PB (runF PB 59) 0 m3b1 [5, 5] (rowA 5)) = some (rowA 6) := by kernel_rfl
end Go.Proofs.Ytldkgfbgndkbdaa.Fw
