/- train.Auto: how a row is like itself: what it answers, whatever the row. First the plain part: sums of products. -/
import Derived.Test.YtldkgfbgndkbdaaFwY
import Derived.Test.YtldkgfbgndkbdaaFwAbs
import Derived.Test.YtldkgfbgndkbdaaFwDx
import Derived.KernelRfl
set_option maxRecDepth 100000
set_option maxHeartbeats 4000000
set_option linter.unusedSimpArgs false
set_option linter.unusedVariables false
set_option linter.unnecessarySimpa false
namespace Go.Proofs.Ytldkgfbgndkbdaa.Fw
open Go Go.RowKit

def cI8 (x : Int) : List AV := [.v (.int .i8 x)]
def cI64 (x : Int) : List AV := [.v (.int .i64 x)]
theorem get_mid (pre post : List Int) (a : Int) : ((pre ++ a :: post).map cI64)[pre.length]? = some (cI64 a) := by simp
theorem set_mid (pre post : List Int) (a b : Int) : ((pre ++ a :: post).map cI64).set pre.length (cI64 b) = (pre ++ b :: post).map cI64 := by
  induction pre with
  | nil => rfl
  | cons c r ih => simpa using ih

def mul8 (x y : Int) : Int := IntKind.wrap .i64 (IntKind.wrap .i64 x * IntKind.wrap .i64 y)
/-- the sum of products, on from 'acc' -/
def dotK : Int → List Int → List Int → Int
  | acc, x :: a, y :: b => dotK (IntKind.wrap .i64 (acc + mul8 x y)) a b
  | acc, _, _ => acc
def accF (xs : List Int) (s : Nat) : Nat → Int
  | 0 => 0
  | i + 1 => IntKind.wrap .i64 (accF xs s i + mul8 (xs.getD (s + i) 0) (xs.getD i 0))
theorem dot_acc (xs : List Int) (s : Nat) : ∀ (k i : Nat), s + i + k = xs.length → dotK (accF xs s i) (xs.drop (s + i)) (xs.drop i) = accF xs s (i + k)
  | 0, i, h => by
    rw [List.drop_of_length_le (by omega)]
    simp only [dotK, Nat.add_zero]
  | k + 1, i, h => by
    have h1 : s + i < xs.length := by omega
    have h2 : i < xs.length := by omega
    rw [List.drop_eq_getElem_cons h1, List.drop_eq_getElem_cons h2]
    simp only [dotK]
    have e : IntKind.wrap .i64 (accF xs s i + mul8 xs[s + i] xs[i]) = accF xs s (i + 1) := by
      simp only [accF, List.getD_eq_getElem?_getD, List.getElem?_eq_getElem h1, List.getElem?_eq_getElem h2, Option.getD_some]
    rw [e]
    have := dot_acc xs s k (i + 1) (by omega)
    rw [show s + (i + 1) = s + i + 1 by omega] at this
    rw [this]
    congr 1
    omega
def autoL (xs : List Int) : List Int := (List.range xs.length).map fun s => dotK 0 (xs.drop s) xs
theorem dot_all (xs : List Int) (s : Nat) (h : s ≤ xs.length) : accF xs s (xs.length - s) = dotK 0 (xs.drop s) xs := by
  have := dot_acc xs s (xs.length - s) 0 (by omega)
  simpa [accF] using this.symm
/-- the answers so far, and noughts -/
def outAt (xs : List Int) (s : Nat) : List Int := (List.range s).map (fun s => dotK 0 (xs.drop s) xs) ++ List.replicate (xs.length - s) 0
theorem outAt_mid (xs : List Int) (s : Nat) (h : s < xs.length) : outAt xs s = ((List.range s).map fun s => dotK 0 (xs.drop s) xs) ++ 0 :: List.replicate (xs.length - s - 1) 0 := by
  unfold outAt
  rw [show xs.length - s = xs.length - s - 1 + 1 by omega, List.replicate_succ]
  rfl
theorem outAt_succ (xs : List Int) (s : Nat) (h : s < xs.length) : outAt xs (s + 1) = ((List.range s).map fun s => dotK 0 (xs.drop s) xs) ++ dotK 0 (xs.drop s) xs :: List.replicate (xs.length - s - 1) 0 := by
  unfold outAt
  rw [List.range_succ, List.map_append, show xs.length - (s + 1) = xs.length - s - 1 by omega]
  simp
theorem outAt_len (xs : List Int) : outAt xs xs.length = autoL xs := by simp [outAt, autoL]
end Go.Proofs.Ytldkgfbgndkbdaa.Fw
