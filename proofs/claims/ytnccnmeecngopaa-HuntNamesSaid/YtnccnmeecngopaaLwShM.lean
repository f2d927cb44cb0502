/- HuntShifts: hunt.Shift, whole: what it answers for any places. -/
import Derived.Test.YtnccnmeecngopaaLwShK
set_option maxRecDepth 100000
set_option maxHeartbeats 4000000
set_option linter.unusedSimpArgs false
set_option linter.unusedVariables false
namespace Go.Proofs.Ytnccnmeecngopaa.Fw
open Go Go.RowKit
theorem LP_rnd0 {body : List Nat → St → Option (Ex × St)} {d : Nat} {live π : List Nat} (A : Nat → St) (n : Nat) {L : Nat} {x : Ex} {s' : St} (hn : n ≤ L)
    (h : ∀ i, i < n → rnd d live (body (i :: π) (A i)) = some (.nrm, A (i + 1))) (he : rnd d live (body (n :: π) (A n)) = some (x, s')) (hx : x ≠ .nrm) : LP body d live π L 0 (A 0) = some (x, s') := by
  refine LP_rnd A n hn (fun i hi => ?_) ?_ hx
  · rw [Nat.zero_add]; exact h i hi
  · rw [Nat.zero_add]; exact he
theorem loop0 {P : Prog} {C : Caller} {L d : Nat} {live π : List Nat} {m : MC} (A : Nat → St) (n : Nat) {x : Ex} {s' : St} (hL : P.L = L + 1) (hn : n ≤ L)
    (h : ∀ i, i < n → rnd d live (bodyOf P C d m (i :: π) (A i)) = some (.nrm, A (i + 1))) (he : rnd d live (bodyOf P C d m (n :: π) (A n)) = some (x, s')) (hx : x ≠ .nrm) :
    Con.holds P C (.loop d live m π (A 0) x s') := ⟨L, hL, LP_rnd0 A n hn h he hx⟩
theorem wrap_up {i m : Nat} (h : i < m) (hm : m ≤ 140737488355328) : IntKind.wrap .i64 ((i : Int) + 1) = ((i + 1 : Nat) : Int) := by
  rw [wrap_id (by omega)]; omega
abbrev WR (x y : Int) : Int := IntKind.wrap .i64 (x + y)
def lateOk (x y : Int) : Bool := decide (x ≥ 0) && decide (x ≤ 65536) && decide (y ≥ -65536) && decide (y ≤ 65536) && decide (WR x y ≥ 0) && decide (WR x y ≤ 65536)
theorem late37c {L n d : Nat} {x y : Int} {ok : Bool} {st6 st3 π : List Nat} : runF ⟨fnOf, specAbs, L⟩ (n+1) d π 37 [.int .i64 x, .ptr ⟨0,6,0⟩ st6 0 0, .ptr ⟨0,3,0⟩ st3 0 0] [(⟨0,6,0⟩, ⟨st6, [[.v (.bool ok)]], 1, true⟩), (⟨0,3,0⟩, ⟨st3, [[.int .i64 y]], 1, true⟩)] =
    some (.int .i64 (WR x y), [(⟨0,6,0⟩, ⟨st6, [[.v (.bool (ok && lateOk x y))]], 1, true⟩), (⟨0,3,0⟩, ⟨st3, [[.int .i64 y]], 1, true⟩)]) := by
  rw [late37_ok]
  unfold late37 lateOk WR
  split
  · split
    · split
      · split
        · split
          · split
            · rename_i h1 h2 h3 h4 h5 h6
              simp only [h1, h2, h3, h4, h5, h6, Bool.true_and]
            · rename_i h1 h2 h3 h4 h5 h6
              simp only [h1, h2, h3, h4, h5, Bool.eq_false_iff.2 h6, Bool.true_and, Bool.false_and]
          · rename_i h1 h2 h3 h4 h5
            simp only [h1, h2, h3, h4, Bool.eq_false_iff.2 h5, Bool.true_and, Bool.false_and]
        · rename_i h1 h2 h3 h4
          simp only [h1, h2, h3, Bool.eq_false_iff.2 h4, Bool.true_and, Bool.false_and]
      · rename_i h1 h2 h3
        simp only [h1, h2, Bool.eq_false_iff.2 h3, Bool.true_and, Bool.false_and]
    · rename_i h1 h2
      simp only [h1, Bool.eq_false_iff.2 h2, Bool.true_and, Bool.false_and]
  · rename_i h1
    simp only [Bool.eq_false_iff.2 h1, Bool.true_and, Bool.false_and]
theorem calli37 {L n : Nat} {x y : Int} {ok : Bool} {τ : List Nat} : Con.holds ⟨fnOf, specAbs, L⟩ (runF ⟨fnOf, specAbs, L⟩ (n+1)) (.calli 0 τ 37 [.int .i64 x, .ptr ⟨0,6,0⟩ [4] 0 0, .ptr ⟨0,3,0⟩ [1] 0 0] (HL ok y) (.int .i64 (WR x y)) (HL (ok && lateOk x y) y)) :=
  late37c
def cellsI (xs : List Int) : List (List AV) := xs.map fun x => [.int .i64 x]
theorem cellsI_at {xs : List Int} {i : Nat} (h : i < xs.length) : (cellsI xs)[i]? = some [.int .i64 xs[i]] := by
  unfold cellsI; rw [List.getElem?_map, List.getElem?_eq_getElem h]; rfl
theorem cellsI_len {xs : List Int} : (cellsI xs).length = xs.length := List.length_map ..
theorem take_up {α : Type} {xs : List α} {i : Nat} (h : i < xs.length) : xs.take (i + 1) = xs.take i ++ [xs[i]] := by
  rw [List.take_add_one, List.getElem?_eq_getElem h]; rfl
def okTo (c : Bool) (xs : List Int) (y : Int) (i : Nat) : Bool := c && (xs.take i).all fun x => lateOk x y
def outTo (xs : List Int) (y : Int) (i : Nat) : List (List AV) := cellsI ((xs.take i).map fun x => WR x y)
theorem outTo_len {xs : List Int} {y : Int} {i : Nat} (h : i ≤ xs.length) : (outTo xs y i).length = i := by
  unfold outTo; rw [cellsI_len, List.length_map, List.length_take]; omega
theorem okTo_up {c : Bool} {xs : List Int} {y : Int} {i : Nat} (h : i < xs.length) : okTo c xs y (i + 1) = (okTo c xs y i && lateOk xs[i] y) := by
  unfold okTo; rw [take_up h, List.all_append]; simp [Bool.and_assoc]
theorem outTo_up {xs : List Int} {y : Int} {i : Nat} (h : i < xs.length) : outTo xs y (i + 1) = outTo xs y i ++ [[.int .i64 (WR xs[i] y)]] := by
  unfold outTo cellsI; rw [take_up h, List.map_append, List.map_append]; rfl
def shA (xs : List Int) (mk a b ln y : Int) (c : Bool) : Nat → St
  | 0 => ⟨shEnv (cellsI xs) xs.length 0, shHp mk a b ln y c .nils, 0⟩
  | i + 1 => ⟨shEnv (cellsI xs) xs.length (i + 1), shHp mk a b ln y (okTo c xs y (i + 1)) (.slc ⟨0,45,0⟩ [10, i, 34] 1 0 (i + 1) false) ++ [(⟨0,45,0⟩, ⟨[10, i, 34], outTo xs y (i + 1), 1, true⟩)], 0⟩
theorem shA_zero {xs : List Int} {mk a b ln y : Int} {c : Bool} : shA xs mk a b ln y c 0 = ⟨shEnv (cellsI xs) xs.length 0, shHp mk a b ln y c .nils, 0⟩ := rfl
theorem shA_succ {xs : List Int} {mk a b ln y : Int} {c : Bool} {i : Nat} : shA xs mk a b ln y c (i + 1) = ⟨shEnv (cellsI xs) xs.length (i + 1), shHp mk a b ln y (okTo c xs y (i + 1)) (.slc ⟨0,45,0⟩ [10, i, 34] 1 0 (i + 1) false) ++ [(⟨0,45,0⟩, ⟨[10, i, 34], outTo xs y (i + 1), 1, true⟩)], 0⟩ := rfl
theorem dlt {i m : Nat} (h : i < m) : decide ((i : Int) < (m : Int)) = true := by simpa using h
theorem dnlt {m : Nat} : decide ((m : Int) < (m : Int)) = false := by simp
section
variable {L n : Nat} {xs : List Int} {mk a b ln y : Int}
theorem sh_round {c : Bool} {i : Nat} (hm : xs.length ≤ 17592186044415) (hi : i < xs.length) :
    rnd 0 [4, 6, 7, 8, 33, 34, 35] (bodyOf ⟨fnOf, specAbs, L⟩ (runF ⟨fnOf, specAbs, L⟩ (n+1)) 0 m12b0 (i :: [34]) (shA xs mk a b ln y c i)) = some (.nrm, shA xs mk a b ln y c (i + 1)) := by
  have hw := wrap_up hi (by omega)
  have he := el_at (P := ⟨fnOf, specAbs, L⟩) (C := runF ⟨fnOf, specAbs, L⟩ (n+1)) (cellsI_at hi)
  cases i with
  | zero =>
    have := @shr0_0 L (n+1) mk a b ln xs[0] y (cellsI xs) c (c && lateOk xs[0] y) xs.length 0 [34] (dlt hi) he calli37
    rw [hw] at this
    have h1 : okTo c xs y 1 = (c && lateOk xs[0] y) := by rw [okTo_up hi]; simp [okTo]
    have h2 : outTo xs y 1 = [[.int .i64 (WR xs[0] y)]] := by rw [outTo_up hi]; simp [outTo, cellsI]
    rw [shA_zero, shA_succ, h1, h2]
    exact this
  | succ i =>
    have := @shr1_0 L (n+1) mk a b ln xs[i+1] y (cellsI xs) (outTo xs y (i + 1)) (okTo c xs y (i+1)) (okTo c xs y (i+1) && lateOk xs[i+1] y) xs.length (i+1) (i+1) [10, i, 34] [34] (dlt hi) he calli37
      ⟨(outTo_len (by omega)).symm, by simp only [most, reachBytes]; omega⟩
    rw [hw] at this
    have h1 := okTo_up (c := c) (y := y) hi
    have h2 := outTo_up (y := y) hi
    rw [shA_succ, shA_succ, h1, h2]
    exact this
end
end Go.Proofs.Ytnccnmeecngopaa.Fw
