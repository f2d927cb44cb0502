/- The abstract evaluator, part Ey: functions that return inside a loop: what the round's state hands back. -/
import Derived.Test.YtnccnmeecngopaaFwEx
set_option linter.unusedVariables false
set_option linter.unusedSimpArgs false
namespace Go.Proofs.Ytnccnmeecngopaa.Fw
open Go Go.RowKit
/-- what a round comes to: it goes on or leaves the loop in a state, or the function returns -/
inductive RO where
  | go (x : Ex) (s : St)
  | out (r : AV)
/-- what a state hands back -/
def outS (s : St) (res : List RV) : Option AV :=
  match resOf s res with
  | none => none
  | some r => match distinct r.refs with | true => packT true 0 s.H r | false => none
def outX (s : St) (res : List RV) : Option (AV × List Con) :=
  match resOf s res with
  | none => none
  | some r => match distinct r.refs with | true => packTX 0 s.H r | false => none
section
variable {P : Prog} {C : Caller}
theorem outX_sound {s : St} {res : List RV} {r : AV} {cs : List Con} (h : outX s res = some (r, cs)) (hc : Holds P C cs) : outS s res = some r := by
  unfold outX at h
  unfold outS
  cases h1 : resOf s res with
  | none => rw [h1] at h; cases h
  | some r0 =>
    rw [h1] at h
    simp only at h ⊢
    cases hd : distinct r0.refs with
    | false => rw [hd] at h; cases h
    | true =>
      rw [hd] at h
      exact packTX_sound h hc
def seeZ (d : Nat) (live : List Nat) (res : List RV) (r : Option (Ex × St)) : Option RO :=
  match rnd d live r with
  | some (.ret, s) => (outS s res).map .out
  | some (x, s) => some (.go x s)
  | none => none
def rndZ (P : Prog) (C : Caller) (d : Nat) (live : List Nat) (res : List RV) (b : MC) (π : List Nat) (s : St) (q : Ora) : Option (RO × List Con) :=
  match codeD P C d b π s q with
  | some (x, s, _, cs) =>
    match x with
    | .nrm => some (.go .nrm (prune d live s), cs)
    | .exit i => some (.go (.exit i) s, cs)
    | .ret => match outX s res with | some (r, ds) => some (.out r, cs ++ ds) | none => none
  | none => none
theorem rndZ_sound {d : Nat} {live : List Nat} {res : List RV} {b : MC} {π : List Nat} {s : St} {q : Ora} {r : RO} {cs : List Con} (h : rndZ P C d live res b π s q = some (r, cs)) (hc : Holds P C cs) :
    seeZ d live res (bodyOf P C d b π s) = some r := by
  unfold rndZ at h
  split at h
  · rename_i x s' q' cs' h1
    cases x with
    | nrm => cases h; unfold seeZ rnd bodyOf; rw [codeD_sound h1 hc]
    | exit i => cases h; unfold seeZ rnd bodyOf; rw [codeD_sound h1 hc]
    | ret =>
      simp only at h
      split at h
      · rename_i r0 ds h2
        cases h
        rw [holds_app] at hc
        unfold seeZ rnd bodyOf
        rw [codeD_sound h1 hc.1]
        simp only [outX_sound h2 hc.2, Option.map_some]
      · cases h
  · cases h
theorem seeZ_go {d : Nat} {live : List Nat} {res : List RV} {r : Option (Ex × St)} {x : Ex} {s : St} (h : seeZ d live res r = some (.go x s)) : rnd d live r = some (x, s) := by
  unfold seeZ at h
  cases hr : rnd d live r with
  | none => rw [hr] at h; cases h
  | some p =>
    obtain ⟨x', s'⟩ := p
    rw [hr] at h
    cases x' with
    | ret =>
      simp only at h
      cases ho : outS s' res with
      | none => rw [ho] at h; cases h
      | some v => rw [ho] at h; cases h
    | nrm => cases h; rfl
    | exit i => cases h; rfl
theorem seeZ_out {d : Nat} {live : List Nat} {res : List RV} {r : Option (Ex × St)} {v : AV} (h : seeZ d live res r = some (.out v)) : ∃ s, rnd d live r = some (.ret, s) ∧ outS s res = some v := by
  unfold seeZ at h
  cases hr : rnd d live r with
  | none => rw [hr] at h; cases h
  | some p =>
    obtain ⟨x', s'⟩ := p
    rw [hr] at h
    cases x' with
    | ret =>
      simp only at h
      cases ho : outS s' res with
      | none => rw [ho] at h; cases h
      | some w => rw [ho] at h; cases h; exact ⟨s', rfl, ho⟩
    | nrm => cases h
    | exit i => cases h
theorem LP_rnd0 {body : List Nat → St → Option (Ex × St)} {d : Nat} {live π : List Nat} (A : Nat → St) (n : Nat) {L : Nat} {x : Ex} {s' : St} (hn : n ≤ L)
    (h : ∀ i, i < n → rnd d live (body (i :: π) (A i)) = some (.nrm, A (i + 1))) (he : rnd d live (body (n :: π) (A n)) = some (x, s')) (hx : x ≠ .nrm) : LP body d live π L 0 (A 0) = some (x, s') := by
  refine LP_rnd A n hn (fun i hi => ?_) ?_ hx
  · rw [Nat.zero_add]; exact h i hi
  · rw [Nat.zero_add]; exact he
/-- a loop, by its rounds -/
theorem loop0 {L d : Nat} {live π : List Nat} {m : MC} (A : Nat → St) (n : Nat) {x : Ex} {s' : St} (hL : P.L = L + 1) (hn : n ≤ L)
    (h : ∀ i, i < n → rnd d live (bodyOf P C d m (i :: π) (A i)) = some (.nrm, A (i + 1))) (he : rnd d live (bodyOf P C d m (n :: π) (A n)) = some (x, s')) (hx : x ≠ .nrm) :
    Con.holds P C (.loop d live m π (A 0) x s') := ⟨L, hL, LP_rnd0 A n hn h he hx⟩
/-- a loop out of which the function returns -/
theorem loopZ {L d : Nat} {live π : List Nat} {m : MC} {res : List RV} (A : Nat → St) (n : Nat) {v : AV} (hL : P.L = L + 1) (hn : n ≤ L)
    (h : ∀ i, i < n → seeZ d live res (bodyOf P C d m (i :: π) (A i)) = some (.go .nrm (A (i + 1)))) (he : seeZ d live res (bodyOf P C d m (n :: π) (A n)) = some (.out v)) :
    ∃ s', Con.holds P C (.loop d live m π (A 0) .ret s') ∧ outS s' res = some v := by
  obtain ⟨s', h1, h2⟩ := seeZ_out he
  exact ⟨s', loop0 A n hL hn (fun i hi => seeZ_go (h i hi)) h1 (by simp), h2⟩
theorem loopX {L d : Nat} {live π : List Nat} {m : MC} {res : List RV} (A : Nat → St) (n : Nat) {x : Ex} {s' : St} (hL : P.L = L + 1) (hn : n ≤ L)
    (h : ∀ i, i < n → seeZ d live res (bodyOf P C d m (i :: π) (A i)) = some (.go .nrm (A (i + 1)))) (he : seeZ d live res (bodyOf P C d m (n :: π) (A n)) = some (.go x s')) (hx : x ≠ .nrm) :
    Con.holds P C (.loop d live m π (A 0) x s') := loop0 A n hL hn (fun i hi => seeZ_go (h i hi)) (seeZ_go he) hx
theorem resOne_k (s : St) (k : Nat) (v : RV) : resOne ⟨s.env, s.H, k⟩ v = resOne s v := by cases v <;> rfl
theorem outS_k (s : St) (k : Nat) (res : List RV) : outS ⟨s.env, s.H, k⟩ res = outS s res := by
  have : resOne ⟨s.env, s.H, k⟩ = resOne s := funext (resOne_k s k)
  unfold outS resOf
  rw [this]
/-- a whole call that ends with the state that a loop returned in -/
def tailD (P : Prog) (n : Nat) (f : FuncId) (args : List AV) (q : Ora) : Option (St × List Con) :=
  match P.fn f with
  | none => none
  | some fm =>
    match codeD P (runF P n) 0 fm.code [] ⟨argEnv 0 args, [], 0⟩ q with
    | some (.ret, s, _, cs) => some (s, cs)
    | _ => none
theorem tailD_sound {n : Nat} {f : FuncId} {args : List AV} {q : Ora} {s : St} {k : Nat} {cs : List Con} {fm : FnM} {v : AV} (h : tailD P n f args q = some (⟨s.env, s.H, k⟩, cs)) (hf : P.fn f = some fm) (hc : Holds P (runF P n) cs)
    (hv : outS s fm.res = some v) : den P (n + 1) f args = some v := by
  rw [← outS_k s k] at hv
  unfold tailD at h
  simp only [hf] at h
  split at h
  · rename_i s1 q' cs' h1
    cases h
    have h4 := codeD_sound h1 hc
    unfold den
    simp only [runF, hf, h4]
    unfold outS at hv
    split at hv
    · cases hv
    · rename_i r h2
      split at hv
      · rename_i hd
        simp only [h2, Option.map_some, hd, if_true, hv]
      · cases hv
  · cases h
end
end Go.Proofs.Ytnccnmeecngopaa.Fw
