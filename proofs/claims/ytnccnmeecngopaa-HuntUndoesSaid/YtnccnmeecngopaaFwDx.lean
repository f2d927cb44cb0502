/- The abstract evaluator, part Dx: a run whose choices are told beforehand; what was taken for granted comes out as a list. So a run over unknown numbers can be reckoned. -/
import Derived.Test.YtnccnmeecngopaaFwSx
set_option linter.unusedVariables false
set_option linter.unusedSimpArgs false
set_option linter.unnecessarySimpa false
namespace Go.Proofs.Ytnccnmeecngopaa.Fw
open Go Go.RowKit

/-- what is told of an operation (by the slot it fills), or of a loop -/
inductive Dec where
  | b (x : Bool)
  | n (x : Int)
  | el (cs : List AV)
  | call (r : AV)
  | any (v : AV) (H : Heap)
  | loop (x : Ex) (s : St)
abbrev Ora := List (Option Nat × Dec)
/-- what was taken for granted -/
inductive Con where
  | b (t x : Bool)
  | n (t x : Int)
  | el (els : List (List AV)) (i : AV) (cs : List AV)
  | call (f : FuncId) (avs : List AV) (r : AV)
  | any (d : Nat) (st : List Nat) (o : MO) (e : Env) (H : Heap) (v : AV) (H' : Heap)
  | loop (d : Nat) (live : List Nat) (b : MC) (π : List Nat) (s : St) (x : Ex) (s' : St)

/-- a call by values: what comes of it -/
def valC (C : Caller) (f : FuncId) (avs : List AV) : Option AV :=
  match C 0 [] f avs [] with
  | some (r, H) => if distinct r.refs then packT true 0 H r else none
  | none => none
theorem valC_den {P : Prog} {n : Nat} {f : FuncId} {avs : List AV} : valC (runF P n) f avs = den P n f avs := rfl

section
variable (P : Prog) (C : Caller)
def Con.holds : Con → Prop
  | .b t x => t = x
  | .n t x => t = x
  | .el els i cs => ∃ k, idx i els.length = some k ∧ els[k]? = some cs
  | .call f avs r => valC C f avs = some r
  | .any d st o e H v H' => stepOp P C d st o e H = some (v, H')
  | .loop d live m π s x s' => evLoop (evC P C d m) d live π P.L 0 s = some (x, s')
def Holds : List Con → Prop
  | [] => True
  | c :: r => c.holds P C ∧ Holds r

def keyEq : Option Nat → Option Nat → Bool
  | some a, some b => Nat.beq a b
  | none, none => true
  | _, _ => false

def callD (d t : Nat) (st : List Nat) (f : FuncId) (args : List AV) (H : Heap) (r : AV) (q : Ora) : Option (AV × Heap × Ora × List Con) :=
  match inlOf P f, P.spec f with
  | false, none =>
    match optList (freeze H 8) args with
    | some avs => match thawT d t st H r with | (v, H') => some (v, H', q, [.call f avs r])
    | none => none
  | _, _ => none

/-- one operation, as told -/
def opD (d : Nat) (st : List Nat) (o : MO) (e : Env) (H : Heap) (q : Ora) : Option (AV × Heap × Ora × List Con) :=
  match q with
  | (t, c) :: q' =>
    match keyEq t o.dst with
    | true =>
      match c with
      | .b x =>
        match stepOp P C d st o e H with
        | some (.v (.bool b), H') => some (.v (.bool x), H', q', [.b b x])
        | _ => none
      | .n x =>
        match stepOp P C d st o e H with
        | some (.v (.int k m), H') => some (.v (.int k x), H', q', [.n m x])
        | _ => none
      | .el cs =>
        match o.op with
        | .iaddr z none x i =>
          match x.ev e with
          | .lst z' els => if z' = z then some (.imm cs, H, q', [.el els (i.ev e) cs]) else none
          | _ => none
        | _ => none
      | .call r =>
        match o.op with
        | .call f xs => callD P d (o.dst.getD 0) st f (Opd.evs e xs) H r q'
        | .callv x xs =>
          match x.ev e with
          | .fn (.func f) a b => callD P d (o.dst.getD 0) st f (a ++ Opd.evs e xs ++ b) H r q'
          | _ => none
        | _ => none
      | .any v H' => some (v, H', q', [.any d st o e H v H'])
      | .loop .. => none
    | false => match stepOp P C d st o e H with | some (v, H') => some (v, H', q, []) | none => none
  | [] => match stepOp P C d st o e H with | some (v, H') => some (v, H', q, []) | none => none

def opsD (d : Nat) (π : List Nat) : List MO → St → Ora → Option (St × Ora × List Con)
  | [], s, q => some (s, q, [])
  | o :: r, s, q =>
    match guardOf s.env o.guard with
    | none => none
    | some false => opsD d π r ⟨putD s.env o.dst (.v undef), s.H, s.k + 1⟩ q
    | some true =>
      match opD P C d (s.k :: π) o s.env s.H q with
      | none => none
      | some (v, H, q, cs) =>
        match opsD d π r ⟨putD s.env o.dst v, H, s.k + 1⟩ q with
        | none => none
        | some (s', q, ds) => some (s', q, cs ++ ds)

def trD (d : Nat) (π : List Nat) : List MO → St → Ora → Option (List Tr × St × Ora × List Con)
  | [], s, q => some ([], s, q, [])
  | o :: r, s, q =>
    match guardOf s.env o.guard with
    | none => none
    | some false =>
      match trD d π r ⟨putD s.env o.dst (.v undef), s.H, s.k + 1⟩ q with
      | none => none
      | some (l, s', q, ds) => some (⟨o, false, s.env, s.H, .v undef, s.H, [], []⟩ :: l, s', q, ds)
    | some true =>
      match footR P o s.env s.H with
      | none => none
      | some R =>
        match opD P C d (s.k :: π) o s.env s.H q with
        | none => none
        | some (v, H, q, cs) =>
          match trD d π r ⟨putD s.env o.dst v, H, s.k + 1⟩ q with
          | none => none
          | some (l, s', q, ds) => some (⟨o, true, s.env, s.H, v, H, R, footW P ⟨d, o.dst.getD 0, 0⟩ o s.env s.H v⟩ :: l, s', q, cs ++ ds)

def loopD (body : List Nat → St → Ora → Option (Ex × St × Ora × List Con)) (d : Nat) (live : List Nat) (π : List Nat) : Nat → Nat → St → Ora → Option (Ex × St × Ora × List Con)
  | 0, _, _, _ => none
  | n + 1, j, s, q =>
    match body (j :: π) (prune d live s) q with
    | some (.nrm, s, q, cs) =>
      match loopD body d live π n (j + 1) s q with
      | some (x, s, q, ds) => some (x, s, q, cs ++ ds)
      | none => none
    | r => r

def codeD (d : Nat) : MC → List Nat → St → Ora → Option (Ex × St × Ora × List Con)
  | .skip, _, s, q => some (.nrm, s, q, [])
  | .ops l false, π, s, q => match opsD P C d π l s q with | some (s, q, cs) => some (.nrm, s, q, cs) | none => none
  | .ops l true, π, s, q => match trD P C d π l s q with | some (tr, s, q, cs) => (match indep 0 tr with | true => some (.nrm, s, q, cs) | false => none) | none => none
  | .seq a b, π, s, q =>
    match codeD d a π s q with
    | some (.nrm, s, q, cs) =>
      match codeD d b π s q with
      | some (x, s, q, ds) => some (x, s, q, cs ++ ds)
      | none => none
    | r => r
  | .cond c a b, π, s, q =>
    match c.ev s.env with
    | .v (.bool true) => codeD d a π s q
    | .v (.bool false) => codeD d b π s q
    | _ => none
  | .block id b, π, s, q =>
    match codeD d b π s q with
    | some (.exit i, s, q, cs) => if i = id then some (.nrm, s, q, cs) else some (.exit i, s, q, cs)
    | r => r
  | .loop live b, π, s, q =>
    match q with
    | (_, .loop x s') :: q => some (x, ⟨s'.env, s'.H, s.k + 1⟩, q, [.loop d live b (s.k :: π) s x s'])
    | q =>
      match loopD (codeD d b) d live (s.k :: π) P.L 0 s q with
      | some (x, s', q, cs) => some (x, ⟨s'.env, s'.H, s.k + 1⟩, q, cs)
      | none => none
  | .exit i, _, s, q => some (.exit i, s, q, [])
  | .ret, _, s, q => some (.ret, s, q, [])

theorem holds_app {a b : List Con} : Holds P C (a ++ b) ↔ Holds P C a ∧ Holds P C b := by
  induction a with
  | nil => simp [Holds]
  | cons c r ih => simp [Holds, ih, and_assoc]

variable {P C}
theorem callD_sound {d t : Nat} {st : List Nat} {f : FuncId} {args : List AV} {H H' : Heap} {r v : AV} {q q' : Ora} {cs : List Con} (h : callD P d t st f args H r q = some (v, H', q', cs)) (hc : Holds P C cs) :
    callIn P C (inlOf P f) d t st f args H = some (v, H') := by
  unfold callD at h
  split at h <;> first | (cases h; done) | skip
  rename_i hi hs
  split at h <;> first | (cases h; done) | skip
  rename_i avs ha
  cases hth : thawT d t st H r with
  | mk y H2 =>
  rw [hth] at h
  cases h
  have hv : valC C f avs = some r := hc.1
  unfold valC at hv
  unfold callIn
  simp only [hi, hs, ha, Bool.false_eq_true, if_false]
  split at hv <;> first | (cases hv; done) | skip
  rename_i r0 H0 hcall
  split at hv <;> first | (cases hv; done) | skip
  rename_i hd
  simp only [hcall, hd, if_true, hv, hth]

theorem opD_sound {d : Nat} {st : List Nat} {o : MO} {e : Env} {H H' : Heap} {q q' : Ora} {v : AV} {cs : List Con} (h : opD P C d st o e H q = some (v, H', q', cs)) (hc : Holds P C cs) : stepOp P C d st o e H = some (v, H') := by
  unfold opD at h
  split at h
  · split at h
    · split at h
      · split at h <;> first | (cases h; done) | skip
        rename_i h1
        cases h
        have : _ = _ := hc.1
        rw [h1, this]
      · split at h <;> first | (cases h; done) | skip
        rename_i h1
        cases h
        have : _ = _ := hc.1
        rw [h1, this]
      · split at h <;> first | (cases h; done) | skip
        rename_i z x i ho
        split at h <;> first | (cases h; done) | skip
        rename_i z' els hx
        split at h <;> first | (cases h; done) | skip
        rename_i hz
        cases h
        obtain ⟨k, h1, h2⟩ := hc.1
        unfold stepOp
        simp only [ho, opSem, hx, Option.isSome_none, Bool.false_eq_true, if_false, h1, h2, if_pos hz]
      · split at h <;> first | (cases h; done) | skip
        · rename_i ho
          unfold stepOp
          simp only [ho]
          exact callD_sound h hc
        · rename_i ho
          split at h <;> first | (cases h; done) | skip
          rename_i hx
          unfold stepOp
          simp only [ho, hx]
          exact callD_sound h hc
      · cases h; exact hc.1
      · cases h
    · split at h <;> first | (cases h; done) | skip
      rename_i h1
      cases h; exact h1
  · split at h <;> first | (cases h; done) | skip
    rename_i h1
    cases h; exact h1

theorem opsD_sound {d : Nat} {π : List Nat} : ∀ {l : List MO} {s s' : St} {q q' : Ora} {cs : List Con}, opsD P C d π l s q = some (s', q', cs) → Holds P C cs → evOps P C d π l s = some s'
  | [], s, s', q, q', cs, h, _ => by simp only [opsD] at h; cases h; rfl
  | o :: r, s, s', q, q', cs, h, hc => by
    simp only [opsD] at h
    simp only [evOps]
    cases hg : guardOf s.env o.guard with
    | none => rw [hg] at h; cases h
    | some b =>
      rw [hg] at h
      cases b with
      | false => exact opsD_sound h hc
      | true =>
        simp only at h ⊢
        split at h
        · cases h
        · rename_i v H q1 cs1 h1
          split at h
          · cases h
          · rename_i s1 q2 ds h2
            cases h
            rw [holds_app] at hc
            rw [opD_sound h1 hc.1]
            exact opsD_sound h2 hc.2

theorem trD_sound {d : Nat} {π : List Nat} : ∀ {l : List MO} {s s' : St} {q q' : Ora} {cs : List Con} {tr : List Tr}, trD P C d π l s q = some (tr, s', q', cs) → Holds P C cs → evTrace P C d π l s = some (tr, s')
  | [], s, s', q, q', cs, tr, h, _ => by simp only [trD] at h; cases h; rfl
  | o :: r, s, s', q, q', cs, tr, h, hc => by
    simp only [trD] at h
    simp only [evTrace]
    cases hg : guardOf s.env o.guard with
    | none => rw [hg] at h; cases h
    | some b =>
      rw [hg] at h
      cases b with
      | false =>
        simp only at h ⊢
        split at h
        · cases h
        · rename_i l1 s1 q1 ds h1
          cases h
          rw [trD_sound h1 hc]
      | true =>
        simp only at h ⊢
        split at h
        · cases h
        · rename_i R hR
          split at h
          · cases h
          · rename_i v H q1 cs1 h1
            split at h
            · cases h
            · rename_i l1 s1 q2 ds h2
              cases h
              rw [holds_app] at hc
              simp only [hR, opD_sound h1 hc.1, trD_sound h2 hc.2]

theorem loopD_sound {d : Nat} {live : List Nat} {π : List Nat} {body : List Nat → St → Option (Ex × St)} {bodyD : List Nat → St → Ora → Option (Ex × St × Ora × List Con)}
    (hb : ∀ π s q x s' q' cs, bodyD π s q = some (x, s', q', cs) → Holds P C cs → body π s = some (x, s')) : ∀ (n j : Nat) (s : St) (q : Ora) {x : Ex} {s' : St} {q' : Ora} {cs : List Con},
    loopD bodyD d live π n j s q = some (x, s', q', cs) → Holds P C cs → evLoop body d live π n j s = some (x, s')
  | 0, j, s, q, x, s', q', cs, h, _ => by simp only [loopD] at h; cases h
  | n + 1, j, s, q, x, s', q', cs, h, hc => by
    simp only [loopD] at h
    simp only [evLoop]
    split at h
    · rename_i s1 q1 cs1 h1
      split at h
      · rename_i x2 s2 q2 ds h2
        cases h
        rw [holds_app] at hc
        rw [hb _ _ _ _ _ _ _ h1 hc.1]
        exact loopD_sound hb n (j + 1) s1 q1 h2 hc.2
      · cases h
    · rename_i hn
      have h1 := hb _ _ _ _ _ _ _ h hc
      rw [h1]
      cases x with
      | nrm => exact absurd h (hn _ _ _)
      | exit i => rfl
      | ret => rfl

theorem codeD_sound {d : Nat} : ∀ {m : MC} {π : List Nat} {s s' : St} {q q' : Ora} {cs : List Con} {x : Ex}, codeD P C d m π s q = some (x, s', q', cs) → Holds P C cs → evC P C d m π s = some (x, s')
  | .skip, π, s, s', q, q', cs, x, h, _ => by simp only [codeD] at h; cases h; rfl
  | .ops l false, π, s, s', q, q', cs, x, h, hc => by
    simp only [codeD] at h
    split at h
    · rename_i h1; cases h; simp only [evC, opsD_sound h1 hc, Option.map_some]
    · cases h
  | .ops l true, π, s, s', q, q', cs, x, h, hc => by
    simp only [codeD] at h
    split at h
    · rename_i h1
      split at h
      · rename_i hi; cases h; simp only [evC, evDraw, trD_sound h1 hc, hi, if_true, Option.map_some]
      · cases h
    · cases h
  | .seq a b, π, s, s', q, q', cs, x, h, hc => by
    simp only [codeD] at h
    simp only [evC]
    split at h
    · rename_i s1 q1 cs1 h1
      split at h
      · rename_i h2
        cases h
        rw [holds_app] at hc
        rw [codeD_sound h1 hc.1]
        exact codeD_sound h2 hc.2
      · cases h
    · rename_i hn
      have h1 := codeD_sound h hc
      rw [h1]
      cases x with
      | nrm => exact absurd h (hn _ _ _)
      | exit i => rfl
      | ret => rfl
  | .cond c a b, π, s, s', q, q', cs, x, h, hc => by
    simp only [codeD] at h
    simp only [evC]
    split at h
    · rename_i hv; rw [hv]; exact codeD_sound h hc
    · rename_i hv; rw [hv]; exact codeD_sound h hc
    · cases h
  | .block id b, π, s, s', q, q', cs, x, h, hc => by
    simp only [codeD] at h
    simp only [evC]
    split at h
    · rename_i i s1 q1 cs1 h1
      split at h
      · rename_i hi; cases h; rw [codeD_sound h1 hc]; simp only [if_pos hi]
      · rename_i hi; cases h; rw [codeD_sound h1 hc]; simp only [if_neg hi]
    · rename_i hn
      have h1 := codeD_sound h hc
      rw [h1]
      cases x with
      | nrm => rfl
      | exit i => exact absurd h (hn _ _ _ _)
      | ret => rfl
  | .loop live b, π, s, s', q, q', cs, x, h, hc => by
    simp only [codeD] at h
    simp only [evC]
    split at h
    · cases h
      have : _ = _ := hc.1
      rw [this]
    · split at h
      · rename_i h1
        cases h
        rw [loopD_sound (fun _ _ _ _ _ _ _ h hc => codeD_sound h hc) _ _ _ _ h1 hc]
      · cases h
  | .exit i, π, s, s', q, q', cs, x, h, _ => by simp only [codeD] at h; cases h; rfl
  | .ret, π, s, s', q, q', cs, x, h, _ => by simp only [codeD] at h; cases h; rfl

/-- a whole call by values, as told -/
def denD (P : Prog) (n : Nat) (f : FuncId) (args : List AV) (q : Ora) : Option (AV × List Con) :=
  match P.fn f with
  | none => none
  | some fm =>
    match codeD P (runF P n) 0 fm.code [] ⟨argEnv 0 args, [], 0⟩ q with
    | some (x, s, _, cs) =>
      match x with
      | .exit _ => none
      | _ =>
        match resOf s fm.res with
        | none => none
        | some r => match distinct r.refs with | true => (match packT true 0 s.H r with | some r => some (r, cs) | none => none) | false => none
    | none => none
theorem denD_sound {n : Nat} {f : FuncId} {args : List AV} {q : Ora} {r : AV} {cs : List Con} (h : denD P n f args q = some (r, cs)) (hc : Holds P (runF P n) cs) : den P (n + 1) f args = some r := by
  unfold denD at h
  split at h
  · cases h
  · rename_i fm hf
    split at h
    · rename_i x s q' cs' h1
      have fin : ∀ (hx : x = .nrm ∨ x = .ret), (match resOf s fm.res with
          | none => none
          | some r => match distinct r.refs with | true => (match packT true 0 s.H r with | some r => some (r, cs') | none => none) | false => none) = some (r, cs) → den P (n + 1) f args = some r := by
        intro hx h
        split at h
        · cases h
        · rename_i r0 h2
          split at h
          · rename_i hd
            split at h
            · rename_i r1 h3
              cases h
              have h4 := codeD_sound h1 hc
              unfold den
              simp only [runF, hf, h4]
              rcases hx with rfl | rfl <;> simp only [h2, Option.map_some, hd, if_true, h3]
            · cases h
          · cases h
      cases x with
      | exit i => cases h
      | nrm => exact fin (.inl rfl) h
      | ret => exact fin (.inr rfl) h
    · cases h

/-- one round, as told: pruned at its end -/
def nxtD (P : Prog) (C : Caller) (d : Nat) (live : List Nat) (b : MC) (π : List Nat) (s : St) (q : Ora) : Option (St × List Con) :=
  match codeD P C d b π s q with
  | some (.nrm, s, _, cs) => some (prune d live s, cs)
  | _ => none
theorem nxtD_sound {d : Nat} {live : List Nat} {b : MC} {π : List Nat} {s s' : St} {q : Ora} {cs : List Con} (h : nxtD P C d live b π s q = some (s', cs)) (hc : Holds P C cs) : nxt d live (bodyOf P C d b π s) = some s' := by
  unfold nxtD at h
  split at h
  · rename_i h1
    cases h
    unfold nxt bodyOf
    rw [codeD_sound h1 hc]
  · cases h
end
end Go.Proofs.Ytnccnmeecngopaa.Fw
