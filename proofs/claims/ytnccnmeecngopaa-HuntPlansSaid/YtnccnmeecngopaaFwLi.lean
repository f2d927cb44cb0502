/- Plain lemmas that the laws share: lists, counters, the first of a list that fails a test. -/
import Derived.Test.YtnccnmeecngopaaFwEy
set_option linter.unusedVariables false
set_option linter.unusedSimpArgs false
namespace Go.Proofs.Ytnccnmeecngopaa.Fw
open Go Go.RowKit
theorem wrapUp {i m : Nat} (h : i < m) (hm : m ≤ 140737488355328) : IntKind.wrap .i64 ((i : Int) + 1) = ((i + 1 : Nat) : Int) := by
  rw [wrap_id (by omega)]; omega
theorem takeUp {α : Type} {xs : List α} {i : Nat} (h : i < xs.length) : xs.take (i + 1) = xs.take i ++ [xs[i]] := by
  rw [List.take_add_one, List.getElem?_eq_getElem h]; rfl
theorem dLt {i m : Nat} (h : i < m) : decide ((i : Int) < (m : Int)) = true := by simpa using h
theorem dNlt {m : Nat} : decide ((m : Int) < (m : Int)) = false := by simp
theorem dT {p : Prop} [Decidable p] (h : p) : decide p = true := decide_eq_true h
theorem dF {p : Prop} [Decidable p] (h : ¬ p) : decide p = false := decide_eq_false h
theorem bneSame {x : Int} : (x != x) = false := by simp
theorem beqSame {x : Int} : (x == x) = true := by simp
theorem cutAll {els : List (List AV)} : cutX els 0 els.length = els := List.take_length
theorem leOut {out : List (List AV)} {P : Prog} {C : Caller} : Con.holds P C (.le (0 + out.length) out.length) := by show _ ≤ _; omega
theorem leSelf {m : Nat} {P : Prog} {C : Caller} : Con.holds P C (.le m m) := Nat.le_refl m
theorem firstBad {α : Type} (p : α → Bool) : ∀ zs : List α, zs.all p = true ∨ ∃ k, ∃ h : k < zs.length, (∀ i (hi : i < k), p (zs[i]'(Nat.lt_trans hi h)) = true) ∧ p zs[k] = false
  | [] => .inl rfl
  | a :: r => by
    cases ha : p a with
    | false => exact .inr ⟨0, by simp, fun i hi => absurd hi (by omega), ha⟩
    | true =>
      rcases firstBad p r with h | ⟨k, hk, h1, h2⟩
      · left; simp [List.all_cons, ha]; simpa using h
      · right
        refine ⟨k + 1, by simp; omega, fun i hi => ?_, by simpa using h2⟩
        cases i with
        | zero => simpa using ha
        | succ i => simpa using h1 i (by omega)
/-- a list whose elements are all of one form -/
theorem all_map {α : Type} {f : α → List AV} {els : List (List AV)} (h : ∀ el ∈ els, ∃ x, el = f x) : ∃ xs : List α, els = xs.map f := by
  induction els with
  | nil => exact ⟨[], rfl⟩
  | cons a r ih =>
    obtain ⟨x, rfl⟩ := h a (by simp)
    obtain ⟨xs, rfl⟩ := ih fun e he => h e (by simp [he])
    exact ⟨x :: xs, rfl⟩
theorem map_at {α : Type} {f : α → List AV} {xs : List α} {i : Nat} (h : i < xs.length) : (xs.map f)[i]? = some (f xs[i]) := by
  rw [List.getElem?_map, List.getElem?_eq_getElem h]; rfl
theorem mapTake_up {α : Type} {f : α → List AV} {xs : List α} {i : Nat} (h : i < xs.length) : (xs.take (i + 1)).map f = (xs.take i).map f ++ [f xs[i]] := by
  rw [takeUp h, List.map_append]; rfl
theorem mapTake_len {α : Type} {f : α → List AV} {xs : List α} {i : Nat} (h : i ≤ xs.length) : ((xs.take i).map f).length = i := by
  rw [List.length_map, List.length_take]; omega
end Go.Proofs.Ytnccnmeecngopaa.Fw
