/- The abstract evaluator, part Ex: runs in the caller's memory and rounds of loops, as told; what a round gives. -/
import Derived.Test.YtnccnmeecngopaaFwDx
set_option linter.unusedVariables false
set_option linter.unusedSimpArgs false
namespace Go.Proofs.Ytnccnmeecngopaa.Fw
open Go Go.RowKit
section
variable {P : Prog} {C : Caller}
/-- a call in the caller's memory, as told -/
def runD (P : Prog) (n d : Nat) (π : List Nat) (f : FuncId) (args : List AV) (H : Heap) (q : Ora) : Option ((AV × Heap) × List Con) :=
  match P.fn f with
  | none => none
  | some fm =>
    match codeD P (runF P n) d fm.code π ⟨argEnv 0 args, H, 0⟩ q with
    | some (x, s, _, cs) =>
      match x with
      | .exit _ => none
      | _ => match resOf s fm.res with | none => none | some r => some ((r, s.H), cs)
    | none => none
theorem runD_sound {n d : Nat} {π : List Nat} {f : FuncId} {args : List AV} {H : Heap} {q : Ora} {r : AV × Heap} {cs : List Con} (h : runD P n d π f args H q = some (r, cs)) (hc : Holds P (runF P n) cs) : runF P (n + 1) d π f args H = some r := by
  unfold runD at h
  split at h
  · cases h
  · rename_i fm hf
    split at h
    · rename_i x s q' cs' h1
      cases x with
      | exit i => cases h
      | nrm =>
        simp only at h
        cases hr : resOf s fm.res with
        | none => rw [hr] at h; cases h
        | some r0 => rw [hr] at h; cases h; exact runF_codeD hf h1 (.inl rfl) hr hc
      | ret =>
        simp only at h
        cases hr : resOf s fm.res with
        | none => rw [hr] at h; cases h
        | some r0 => rw [hr] at h; cases h; exact runF_codeD hf h1 (.inr rfl) hr hc
    · cases h
/-- a round's outcome: pruned, if it goes on -/
def rnd (d : Nat) (live : List Nat) (r : Option (Ex × St)) : Option (Ex × St) := match r with | some (.nrm, s) => some (.nrm, prune d live s) | r => r
def rndD (P : Prog) (C : Caller) (d : Nat) (live : List Nat) (b : MC) (π : List Nat) (s : St) (q : Ora) : Option ((Ex × St) × List Con) :=
  match codeD P C d b π s q with
  | some (x, s, _, cs) =>
    match x with
    | .nrm => some ((.nrm, prune d live s), cs)
    | x => some ((x, s), cs)
  | none => none
theorem rndD_sound {d : Nat} {live : List Nat} {b : MC} {π : List Nat} {s : St} {r : Ex × St} {q : Ora} {cs : List Con} (h : rndD P C d live b π s q = some (r, cs)) (hc : Holds P C cs) : rnd d live (bodyOf P C d b π s) = some r := by
  unfold rndD at h
  split at h
  · rename_i x s' q' cs' h1
    cases x with
    | nrm =>
      cases h
      unfold rnd bodyOf
      rw [codeD_sound h1 hc]
    | exit i =>
      cases h
      unfold rnd bodyOf
      rw [codeD_sound h1 hc]
    | ret =>
      cases h
      unfold rnd bodyOf
      rw [codeD_sound h1 hc]
  · cases h
theorem rnd_nxt {d : Nat} {live : List Nat} {r : Option (Ex × St)} {s : St} (h : rnd d live r = some (.nrm, s)) : nxt d live r = some s := by
  unfold rnd at h
  unfold nxt
  split at h
  · cases h; rfl
  · rename_i hn
    exact absurd h (hn s)
theorem rnd_out {d : Nat} {live : List Nat} {r : Option (Ex × St)} {x : Ex} {s : St} (h : rnd d live r = some (x, s)) (hx : x ≠ .nrm) : r = some (x, s) := by
  unfold rnd at h
  split at h
  · cases h; exact absurd rfl hx
  · exact h
/-- a loop, by its rounds: those that go on, and the one that ends it -/
theorem LP_rnd {body : List Nat → St → Option (Ex × St)} {d : Nat} {live π : List Nat} (A : Nat → St) (n : Nat) {L j : Nat} {x : Ex} {s' : St} (hn : n ≤ L)
    (h : ∀ i, i < n → rnd d live (body ((j + i) :: π) (A i)) = some (.nrm, A (i + 1))) (he : rnd d live (body ((j + n) :: π) (A n)) = some (x, s')) (hx : x ≠ .nrm) : LP body d live π L j (A 0) = some (x, s') :=
  LP_go A n hn (fun i hi => rnd_nxt (h i hi)) (rnd_out he hx) hx
/-- a list handed in, element by element -/
theorem el_at {els : List (List AV)} {i : Nat} {cs : List AV} (h : els[i]? = some cs) : Con.holds P C (.el els (.int .i64 i) cs) := by
  refine ⟨i, ?_, h⟩
  have : i < els.length := by
    rcases Nat.lt_or_ge i els.length with h1 | h1
    · exact h1
    · rw [List.getElem?_eq_none h1] at h; cases h
  simp only [idx]
  rw [if_pos (by omega)]
  simp
theorem ix_at {i m : Nat} (h : i < m) : Con.holds P C (.ix (.int .i64 i) m i) := by
  show idx _ _ = _
  simp only [idx]
  rw [if_pos (by omega)]
  simp
theorem st_same {st : List Nat} : Con.holds P C (.st st st) := rfl
theorem call_den {n : Nat} {f : FuncId} {avs : List AV} {r : AV} (h : den P n f avs = some r) : Con.holds P (runF P n) (.call f avs r) := h
end
end Go.Proofs.Ytnccnmeecngopaa.Fw
