/- The abstract evaluator, part Dx: a run whose choices are told beforehand; what was taken for granted comes out as a list. So a run over unknown numbers can be reckoned. -/
import Derived.Test.YtnccnmeecngopaaFwSx
set_option linter.unusedVariables false
set_option linter.unusedSimpArgs false
set_option linter.unnecessarySimpa false
namespace Go.Proofs.Ytnccnmeecngopaa.Fw
open Go Go.RowKit

/-- what is told of an operation (by the slot it fills), or of a loop -/
inductive Dec where
  | b (x : Bool)
  | n (x : Int)
  | el (cs : List AV)
  | call (r : AV)
  | push
  | ix (k : Nat)
  | calli (r : AV) (H : Heap)
  | any (v : AV) (H : Heap)
  | loop (x : Ex) (s : St)
abbrev Ora := List (Option Nat × Dec)
/-- what was taken for granted -/
inductive Con where
  | b (t x : Bool)
  | n (t x : Int)
  | el (els : List (List AV)) (i : AV) (cs : List AV)
  | call (f : FuncId) (avs : List AV) (r : AV)
  | st (a b : List Nat)
  | push (len n bytes : Nat) (els : List (List AV))
  | ix (i : AV) (n k : Nat)
  | le (a b : Nat)
  | at (els : List (List AV)) (i : Nat) (cs : List AV)
  | calli (d : Nat) (st : List Nat) (f : FuncId) (avs : List AV) (G : Heap) (r : AV) (H : Heap)
  | any (d : Nat) (st : List Nat) (o : MO) (e : Env) (H : Heap) (v : AV) (H' : Heap)
  | loop (d : Nat) (live : List Nat) (b : MC) (π : List Nat) (s : St) (x : Ex) (s' : St)

/-- a call by values: what comes of it -/
def valC (C : Caller) (f : FuncId) (avs : List AV) : Option AV :=
  match C 0 [] f avs [] with
  | some (r, H) => if distinct r.refs then packT true 0 H r else none
  | none => none
theorem valC_den {P : Prog} {n : Nat} {f : FuncId} {avs : List AV} : valC (runF P n) f avs = den P n f avs := rfl

section
variable (P : Prog) (C : Caller)
def Con.holds : Con → Prop
  | .b t x => t = x
  | .n t x => t = x
  | .el els i cs => ∃ k, idx i els.length = some k ∧ els[k]? = some cs
  | .call f avs r => valC C f avs = some r
  | .st x y => x = y
  | .push len m bytes els => len = els.length ∧ roomOk (len + m) bytes
  | .ix i m k => idx i m = some k
  | .le x y => x ≤ y
  | .at els i cs => els[i]? = some cs
  | .calli d τ f avs G r H => C (d + 1) (0 :: τ) f avs G = some (r, H)
  | .any d τ o e H v H' => stepOp P C d τ o e H = some (v, H')
  | .loop d live m π A x s' => ∃ L, P.L = L + 1 ∧ LP (bodyOf P C d m) d live π L 0 A = some (x, s')
def Holds : List Con → Prop
  | [] => True
  | c :: r => c.holds P C ∧ Holds r

def keyEq : Option Nat → Option Nat → Bool
  | some a, some b => Nat.beq a b
  | none, none => true
  | _, _ => false

/-- lists of things that come with what was taken for granted -/
def optX {α β : Type} (f : α → Option (β × List Con)) : List α → Option (List β × List Con)
  | [] => some ([], [])
  | a :: r =>
    match f a with
    | none => none
    | some (b, cs) =>
      match optX f r with
      | none => none
      | some (l, ds) => some (b :: l, cs ++ ds)
def cutX (els : List (List AV)) : Nat → Nat → List (List AV)
  | 0, len => els.take len
  | off, len => (els.drop off).take len
/-- 'freeze', stamps not asked -/
def freezeX (H : Heap) : Nat → AV → Option (AV × List Con)
  | 0, _ => none
  | n + 1, x =>
    match x with
    | .slc s st z off len _ =>
      match H.get s with
      | none => none
      | some b =>
        match b.leaf with
        | true => some (.lst z (cutX b.els off len), [.st b.st st, .le (off + len) b.els.length])
        | false => match optX (optX (freezeX H n)) (cutX b.els off len) with | some (l, cs) => some (.lst z l, .st b.st st :: .le (off + len) b.els.length :: cs) | none => none
    | .ptr s st i off =>
      match H.get s with
      | none => none
      | some b =>
        match b.els[i]? with
        | none => none
        | some cs =>
          match b.leaf with
          | true => some (.imm (cs.drop off), [.st b.st st])
          | false => match optX (freezeX H n) (cs.drop off) with | some (l, ds) => some (.imm l, .st b.st st :: ds) | none => none
    | .agg cs => match optX (freezeX H n) cs with | some (l, ds) => some (.agg l, ds) | none => none
    | .tup vs => match optX (freezeX H n) vs with | some (l, ds) => some (.tup l, ds) | none => none
    | .fn f a b =>
      match optX (freezeX H n) a, optX (freezeX H n) b with
      | some (a, cs), some (b, ds) => some (.fn f a b, cs ++ ds)
      | _, _ => none
    | .junk => none
    | .own .. => none
    | .ownp .. => none
    | x => some (x, [])
/-- 'packT', stamps not asked -/
def packCX (d : Nat) (H : Heap) (x : AV) : Option (AV × List Con) :=
  match x with
  | .slc s st z 0 len full =>
    match Nat.beq s.d d, H.get s with
    | true, some b => if (b.leaf || dryEls (b.els.take len)) = true then some (.own z (b.els.take len) b.leaf, [.st b.st st, .le len b.els.length]) else none
    | _, _ => none
  | x => match packC true d H x with | some y => some (y, []) | none => none
def packAX (d : Nat) (H : Heap) (x : AV) : Option (AV × List Con) :=
  match x with
  | .agg cs => match optX (packCX d H) cs with | some (l, ds) => some (.agg l, ds) | none => none
  | x => packCX d H x
def packTX (d : Nat) (H : Heap) (x : AV) : Option (AV × List Con) :=
  match x with
  | .tup vs => match optX (packAX d H) vs with | some (l, ds) => some (.tup l, ds) | none => none
  | x => packAX d H x

def callD (d t : Nat) (st : List Nat) (f : FuncId) (args : List AV) (H : Heap) (r : AV) (q : Ora) : Option (AV × Heap × Ora × List Con) :=
  match inlOf P f, P.spec f with
  | false, none =>
    match optX (freezeX H 8) args with
    | some (avs, cs) => match thawT d t st H r with | (v, H') => some (v, H', q, .call f avs r :: cs)
    | none => none
  | _, _ => none

/-- a call in the caller's memory, as told: what it hands back, the memory that it leaves -/
def calliD (d t : Nat) (st : List Nat) (f : FuncId) (args : List AV) (H : Heap) (r : AV) (H1 : Heap) (q : Ora) : Option (AV × Heap × Ora × List Con) :=
  match inlOf P f, distinct r.refs with
  | true, true =>
    match packT false (d + 1) H1 r with
    | none => none
    | some r' =>
      match inAll (cutH H (handed H args)) r'.refs with
      | true =>
        match putBack H1 (cutH H (handed H args)) H with
        | none => none
        | some H2 => match thawT d t st H2 r' with | (v, H') => some (v, H', q, [.calli d st f args (cutH H (handed H args)) r H1])
      | false => none
  | _, _ => none

/-- the elements that a slice reads, its stamp not asked -/
def srcX (H : Heap) : AV → Option (List (List AV) × List Con)
  | .slc s st _ off len _ =>
    match H.get s with
    | some b => if off + len ≤ b.els.length then some ((b.els.drop off).take len, [.st b.st st]) else none
    | none => none
  | x => match srcEls H x with | some l => some (l, []) | none => none

/-- one operation; of a stamp it is written down that it fits -/
def runX (d : Nat) (st : List Nat) (o : MO) (e : Env) (H : Heap) : Option (AV × Heap × List Con) :=
  match o.op with
  | .load agg n a =>
    match a.ev e with
    | .ptr s st' i off =>
      match H.get s with
      | none => none
      | some b =>
        match b.els[i]? with
        | none => none
        | some cs => match takeCells agg n cs off with | some v => some (v, H, [.st b.st st']) | none => none
    | .imm cs => match takeCells agg n cs 0 with | some v => some (v, H, []) | none => none
    | _ => none
  | .store n a x =>
    match a.ev e with
    | .ptr s st' i off =>
      match H.get s with
      | none => none
      | some b =>
        match b.els[i]? with
        | none => none
        | some cs =>
          if (cellsOf (x.ev e)).length = n ∧ off + n ≤ cs.length ∧ allCell (cellsOf (x.ev e)) = true ∧ (b.leaf = true → dryL (cellsOf (x.ev e)) = true) then
            some (.junk, H.set s ⟨b.st, b.els.set i (putCells cs off (cellsOf (x.ev e))), b.z, b.leaf⟩, [.st b.st st']) else none
    | _ => none
  | .append z bytes leaf s x =>
    match s.ev e with
    | .nils =>
      match srcX H (x.ev e) with
      | some (new, cs) =>
        if lens z new = true ∧ (leaf = true → dryEls new = true) then
          if new.length = 0 then some (.nils, H, cs) else
          if new.length * bytes ≤ most then some (.slc ⟨d, o.dst.getD 0, 0⟩ st z 0 new.length false, H.set ⟨d, o.dst.getD 0, 0⟩ ⟨st, new, z, leaf⟩, cs) else none
        else none
      | none => none
    | _ => match stepOp P C d st o e H with | some (v, H') => some (v, H', []) | none => none
  | _ => match stepOp P C d st o e H with | some (v, H') => some (v, H', []) | none => none

/-- an append behind the last element of a place -/
def pushX (st : List Nat) (o : MO) (e : Env) (H : Heap) : Option (AV × Heap × List Con) :=
  match o.op with
  | .append z bytes leaf s x =>
    match s.ev e with
    | .slc s' st' _ 0 len false =>
      match srcX H (x.ev e) with
      | some (new, cs) =>
        match H.get s' with
        | none => none
        | some b =>
          if (lens z new = true ∧ (leaf = true → dryEls new = true)) ∧ new.length ≠ 0 ∧ b.z = z ∧ b.leaf = leaf then
            some (.slc s' st z 0 (len + new.length) false, H.set s' ⟨st, b.els ++ new, z, leaf⟩, .st b.st st' :: .push len new.length bytes b.els :: cs)
          else none
      | none => none
    | _ => none
  | _ => none

/-- one operation, as told -/
def opD (d : Nat) (st : List Nat) (o : MO) (e : Env) (H : Heap) (q : Ora) : Option (AV × Heap × Ora × List Con) :=
  match q with
  | (t, c) :: q' =>
    match keyEq t o.dst with
    | true =>
      match c with
      | .b x =>
        match runX P C d st o e H with
        | some (.v (.bool b), H', cs) => some (.v (.bool x), H', q', .b b x :: cs)
        | _ => none
      | .n x =>
        match runX P C d st o e H with
        | some (.v (.int k m), H', cs) => some (.v (.int k x), H', q', .n m x :: cs)
        | _ => none
      | .el cs =>
        match o.op with
        | .iaddr z none x i =>
          match x.ev e with
          | .lst z' els => if z' = z then some (.imm cs, H, q', [.el els (i.ev e) cs]) else none
          | _ => none
        | .load agg n a =>
          match a.ev e with
          | .ptr s st' i off =>
            match H.get s with
            | none => none
            | some b => match takeCells agg n cs off with | some v => some (v, H, q', [.st b.st st', .at b.els i cs]) | none => none
          | _ => none
        | .store n a x =>
          match a.ev e with
          | .ptr s st' i off =>
            match H.get s with
            | none => none
            | some b =>
              if (cellsOf (x.ev e)).length = n ∧ off + n ≤ cs.length ∧ allCell (cellsOf (x.ev e)) = true ∧ (b.leaf = true → dryL (cellsOf (x.ev e)) = true) then
                some (.junk, H.set s ⟨b.st, b.els.set i (putCells cs off (cellsOf (x.ev e))), b.z, b.leaf⟩, q', [.st b.st st', .at b.els i cs]) else none
          | _ => none
        | _ => none
      | .ix k =>
        match o.op with
        | .iaddr z none x i =>
          match x.ev e with
          | .slc s a z' off len _ => if z' = z then some (.ptr s a (off + k) 0, H, q', [.ix (i.ev e) len k]) else none
          | _ => none
        | _ => none
      | .call r =>
        match o.op with
        | .call f xs => callD P d (o.dst.getD 0) st f (Opd.evs e xs) H r q'
        | .callv x xs =>
          match x.ev e with
          | .fn (.func f) a b => callD P d (o.dst.getD 0) st f (a ++ Opd.evs e xs ++ b) H r q'
          | _ => none
        | _ => none
      | .calli r H1 =>
        match o.op with
        | .call f xs => calliD P d (o.dst.getD 0) st f (Opd.evs e xs) H r H1 q'
        | .callv x xs =>
          match x.ev e with
          | .fn (.func f) a b => calliD P d (o.dst.getD 0) st f (a ++ Opd.evs e xs ++ b) H r H1 q'
          | _ => none
        | _ => none
      | .push => match pushX st o e H with | some (v, H', cs) => some (v, H', q', cs) | none => none
      | .any v H' => some (v, H', q', [.any d st o (liveEnv e o.op.uses) H v H'])
      | .loop .. => none
    | false => match runX P C d st o e H with | some (v, H', cs) => some (v, H', q, cs) | none => none
  | [] => match runX P C d st o e H with | some (v, H', cs) => some (v, H', q, cs) | none => none

def opsD (d : Nat) (π : List Nat) : List MO → St → Ora → Option (St × Ora × List Con)
  | [], s, q => some (s, q, [])
  | o :: r, s, q =>
    match guardOf s.env o.guard with
    | none => none
    | some false => opsD d π r ⟨putD s.env o.dst (.v undef), s.H, s.k + 1⟩ q
    | some true =>
      match opD P C d (s.k :: π) o s.env s.H q with
      | none => none
      | some (v, H, q, cs) =>
        match opsD d π r ⟨putD s.env o.dst v, H, s.k + 1⟩ q with
        | none => none
        | some (s', q, ds) => some (s', q, cs ++ ds)

def trD (d : Nat) (π : List Nat) : List MO → St → Ora → Option (List Tr × St × Ora × List Con)
  | [], s, q => some ([], s, q, [])
  | o :: r, s, q =>
    match guardOf s.env o.guard with
    | none => none
    | some false =>
      match trD d π r ⟨putD s.env o.dst (.v undef), s.H, s.k + 1⟩ q with
      | none => none
      | some (l, s', q, ds) => some (⟨o, false, s.env, s.H, .v undef, s.H, [], []⟩ :: l, s', q, ds)
    | some true =>
      match footR P o s.env s.H with
      | none => none
      | some R =>
        match opD P C d (s.k :: π) o s.env s.H q with
        | none => none
        | some (v, H, q, cs) =>
          match trD d π r ⟨putD s.env o.dst v, H, s.k + 1⟩ q with
          | none => none
          | some (l, s', q, ds) => some (⟨o, true, s.env, s.H, v, H, R, footW P ⟨d, o.dst.getD 0, 0⟩ o s.env s.H v⟩ :: l, s', q, cs ++ ds)

def loopD (body : List Nat → St → Ora → Option (Ex × St × Ora × List Con)) (d : Nat) (live : List Nat) (π : List Nat) : Nat → Nat → St → Ora → Option (Ex × St × Ora × List Con)
  | 0, _, _, _ => none
  | n + 1, j, s, q =>
    match body (j :: π) (prune d live s) q with
    | some (.nrm, s, q, cs) =>
      match loopD body d live π n (j + 1) s q with
      | some (x, s, q, ds) => some (x, s, q, cs ++ ds)
      | none => none
    | r => r

def codeD (d : Nat) : MC → List Nat → St → Ora → Option (Ex × St × Ora × List Con)
  | .skip, _, s, q => some (.nrm, s, q, [])
  | .ops l false, π, s, q => match opsD P C d π l s q with | some (s, q, cs) => some (.nrm, s, q, cs) | none => none
  | .ops l true, π, s, q => match trD P C d π l s q with | some (tr, s, q, cs) => (match indep 0 tr with | true => some (.nrm, s, q, cs) | false => none) | none => none
  | .seq a b, π, s, q =>
    match codeD d a π s q with
    | some (.nrm, s, q, cs) =>
      match codeD d b π s q with
      | some (x, s, q, ds) => some (x, s, q, cs ++ ds)
      | none => none
    | r => r
  | .cond c a b, π, s, q =>
    match c.ev s.env with
    | .v (.bool true) => codeD d a π s q
    | .v (.bool false) => codeD d b π s q
    | _ => none
  | .block id b, π, s, q =>
    match codeD d b π s q with
    | some (.exit i, s, q, cs) => if i = id then some (.nrm, s, q, cs) else some (.exit i, s, q, cs)
    | r => r
  | .loop live b, π, s, q =>
    match q with
    | (_, .loop x s') :: q => some (x, ⟨s'.env, s'.H, s.k + 1⟩, q, [.loop d live b (s.k :: π) (prune d live s) x s'])
    | q =>
      match loopD (codeD d b) d live (s.k :: π) P.L 0 s q with
      | some (x, s', q, cs) => some (x, ⟨s'.env, s'.H, s.k + 1⟩, q, cs)
      | none => none
  | .exit i, _, s, q => some (.exit i, s, q, [])
  | .ret, _, s, q => some (.ret, s, q, [])

theorem holds_app {a b : List Con} : Holds P C (a ++ b) ↔ Holds P C a ∧ Holds P C b := by
  induction a with
  | nil => simp [Holds]
  | cons c r ih => simp [Holds, ih, and_assoc]

variable {P C}
theorem row_of {H : Heap} {s : Site} {b : Blk} {st : List Nat} (h : H.get s = some b) (hs : b.st = st) : H.row s st = some b := by
  unfold Heap.row; simp only [h, if_pos hs]
theorem optX_sound {α β : Type} {f : α → Option (β × List Con)} {g : α → Option β} (hf : ∀ a b cs, f a = some (b, cs) → Holds P C cs → g a = some b) : ∀ {l : List α} {r : List β} {cs : List Con}, optX f l = some (r, cs) → Holds P C cs → optList g l = some r
  | [], r, cs, h, _ => by simp only [optX] at h; cases h; rfl
  | a :: l, r, cs, h, hc => by
    simp only [optX] at h
    split at h <;> first | (cases h; done) | skip
    rename_i b cs1 h1
    split at h <;> first | (cases h; done) | skip
    rename_i l1 ds h2
    cases h
    rw [holds_app] at hc
    simp only [optList, hf _ _ _ h1 hc.1, optX_sound hf h2 hc.2]
theorem cutX_eq (els : List (List AV)) (off len : Nat) : cutX els off len = (els.drop off).take len := by
  cases off <;> rfl
theorem freezeX_sound {H : Heap} : ∀ (n : Nat) {x y : AV} {cs : List Con}, freezeX H n x = some (y, cs) → Holds P C cs → freeze H n x = some y
  | 0, x, y, cs, h, _ => by simp only [freezeX] at h; cases h
  | n + 1, x, y, cs, h, hc => by
    have ih : ∀ a b cs, freezeX H n a = some (b, cs) → Holds P C cs → freeze H n a = some b := fun a b cs h hc => freezeX_sound n h hc
    cases x <;> simp only [freezeX] at h <;> first | (cases h; done) | (cases h; rfl; done) | skip
    case slc s st z off len full =>
      split at h <;> first | (cases h; done) | skip
      rename_i b hb
      split at h
      · rename_i hl
        cases h
        obtain ⟨h1, h2, _⟩ := hc
        have h1 : _ = _ := h1
        have h2 : _ ≤ _ := h2
        simp only [freeze, row_of hb h1, if_pos h2, hl, if_true, cutX_eq]
      · rename_i hl
        split at h <;> first | (cases h; done) | skip
        rename_i l ds hx
        cases h
        obtain ⟨h1, h2, h3⟩ := hc
        have h1 : _ = _ := h1
        have h2 : _ ≤ _ := h2
        have := optX_sound (g := optList (freeze H n)) (fun a b cs h hc => optX_sound ih h hc) hx h3
        rw [cutX_eq] at this
        simp only [freeze, row_of hb h1, if_pos h2, hl, Bool.false_eq_true, if_false, this, Option.map_some]
    case ptr s st i off =>
      split at h <;> first | (cases h; done) | skip
      rename_i b hb
      split at h <;> first | (cases h; done) | skip
      rename_i cs0 hi
      split at h
      · rename_i hl
        cases h
        obtain ⟨h1, _⟩ := hc
        have h1 : _ = _ := h1
        simp only [freeze, row_of hb h1, hi, hl, if_true]
      · rename_i hl
        split at h <;> first | (cases h; done) | skip
        rename_i l ds hx
        cases h
        obtain ⟨h1, h3⟩ := hc
        have h1 : _ = _ := h1
        simp only [freeze, row_of hb h1, hi, hl, Bool.false_eq_true, if_false, optX_sound ih hx h3, Option.map_some]
    case agg cs0 =>
      split at h <;> first | (cases h; done) | skip
      rename_i hx
      cases h
      simp only [freeze, optX_sound ih hx hc, Option.map_some]
    case tup cs0 =>
      split at h <;> first | (cases h; done) | skip
      rename_i hx
      cases h
      simp only [freeze, optX_sound ih hx hc, Option.map_some]
    case fn f a b =>
      split at h <;> first | (cases h; done) | skip
      rename_i hx hy
      cases h
      rw [holds_app] at hc
      simp only [freeze, optX_sound ih hx hc.1, optX_sound ih hy hc.2]
theorem packCX_sound {d : Nat} {H : Heap} {x y : AV} {cs : List Con} (h : packCX d H x = some (y, cs)) (hc : Holds P C cs) : packC true d H x = some y := by
  unfold packCX at h
  split at h
  · split at h <;> first | (cases h; done) | skip
    rename_i b hd hb
    split at h <;> first | (cases h; done) | skip
    rename_i hl
    cases h
    obtain ⟨h1, h2, _⟩ := hc
    have h1 : _ = _ := h1
    have h2 : _ ≤ _ := h2
    simp only [packC, if_pos (Nat.eq_of_beq_eq_true hd), row_of hb h1]
    rw [if_pos ⟨trivial, h2, hl⟩]
  · split at h <;> first | (cases h; done) | skip
    rename_i h1
    cases h; exact h1
theorem packAX_sound {d : Nat} {H : Heap} {x y : AV} {cs : List Con} (h : packAX d H x = some (y, cs)) (hc : Holds P C cs) : packA true d H x = some y := by
  unfold packAX at h
  split at h
  · split at h <;> first | (cases h; done) | skip
    rename_i hx
    cases h
    simp only [packA, optX_sound (fun a b cs h hc => packCX_sound h hc) hx hc, Option.map_some]
  · rename_i hn
    have := packCX_sound h hc
    cases x <;> first | exact this | exact absurd rfl (hn _)
theorem packTX_sound {d : Nat} {H : Heap} {x y : AV} {cs : List Con} (h : packTX d H x = some (y, cs)) (hc : Holds P C cs) : packT true d H x = some y := by
  unfold packTX at h
  split at h
  · split at h <;> first | (cases h; done) | skip
    rename_i hx
    cases h
    simp only [packT, optX_sound (fun a b cs h hc => packAX_sound h hc) hx hc, Option.map_some]
  · rename_i hn
    have := packAX_sound h hc
    cases x <;> first | exact this | exact absurd rfl (hn _)

theorem get_live (e : Env) : ∀ (l : List Nat) (t : Nat), t ∈ l → (liveEnv e l).get t = e.get t
  | [], t, h => by simp at h
  | k :: r, t, h => by
    simp only [liveEnv, Env.get]
    by_cases hk : k = t
    · subst hk; rw [if_pos rfl]
    · rw [if_neg hk]
      exact get_live e r t (by simpa [Ne.symm hk] using h)
theorem stepOp_env {d : Nat} {st : List Nat} {o : MO} {e e2 : Env} {H : Heap} (he : ∀ t ∈ o.op.uses, e2.get t = e.get t) : stepOp P C d st o e2 H = stepOp P C d st o e H := by
  obtain ⟨dst, m, gd, pre⟩ := o
  simp only at he
  unfold stepOp
  cases m
  case call f xs => simp only [MOp.uses] at he; simp only [evs_same (xs := xs) he]
  case callv x xs =>
    simp only [MOp.uses, List.mem_append] at he
    simp only [ev_same (x := x) fun t ht => he t (.inl ht), evs_same (xs := xs) fun t ht => he t (.inr ht)]
  all_goals exact opSem_env he

theorem callD_sound {d t : Nat} {st : List Nat} {f : FuncId} {args : List AV} {H H' : Heap} {r v : AV} {q q' : Ora} {cs : List Con} (h : callD P d t st f args H r q = some (v, H', q', cs)) (hc : Holds P C cs) :
    callIn P C (inlOf P f) d t st f args H = some (v, H') := by
  unfold callD at h
  split at h <;> first | (cases h; done) | skip
  rename_i hi hs
  split at h <;> first | (cases h; done) | skip
  rename_i avs cs0 ha0
  cases hth : thawT d t st H r with
  | mk y H2 =>
  rw [hth] at h
  cases h
  have hv : valC C f avs = some r := hc.1
  have ha := optX_sound (fun a b cs h hc => freezeX_sound 8 h hc) ha0 hc.2
  unfold valC at hv
  unfold callIn
  simp only [hi, hs, ha, Bool.false_eq_true, if_false]
  split at hv <;> first | (cases hv; done) | skip
  rename_i r0 H0 hcall
  split at hv <;> first | (cases hv; done) | skip
  rename_i hd
  simp only [hcall, hd, if_true, hv, hth]

theorem calliD_sound {d t : Nat} {st : List Nat} {f : FuncId} {args : List AV} {H H' H1 : Heap} {r v : AV} {q q' : Ora} {cs : List Con} (h : calliD P d t st f args H r H1 q = some (v, H', q', cs)) (hc : Holds P C cs) :
    callIn P C (inlOf P f) d t st f args H = some (v, H') := by
  unfold calliD at h
  split at h <;> first | (cases h; done) | skip
  rename_i hi hd
  split at h <;> first | (cases h; done) | skip
  rename_i r' hp
  split at h <;> first | (cases h; done) | skip
  rename_i hin
  split at h <;> first | (cases h; done) | skip
  rename_i H2 hput
  cases hth : thawT d t st H2 r' with
  | mk y H3 =>
  rw [hth] at h
  cases h
  have hv : C (d + 1) (0 :: st) f args (cutH H (handed H args)) = some (r, H1) := hc.1
  unfold callIn
  simp only [hi, inlOf_spec hi, if_true, hv, hd, hp, hin, hput, hth]

theorem srcX_sound {H : Heap} {x : AV} {l : List (List AV)} {cs : List Con} (h : srcX H x = some (l, cs)) (hc : Holds P C cs) : srcEls H x = some l := by
  unfold srcX at h
  split at h
  · split at h <;> first | (cases h; done) | skip
    rename_i b hb
    split at h <;> first | (cases h; done) | skip
    rename_i hl
    cases h
    have : _ = _ := hc.1
    simp only [srcEls, row_of hb this, if_pos hl]
  · split at h <;> first | (cases h; done) | skip
    rename_i h1
    cases h; exact h1

theorem runX_sound {d : Nat} {st : List Nat} {o : MO} {e : Env} {H H' : Heap} {v : AV} {cs : List Con} (h : runX P C d st o e H = some (v, H', cs)) (hc : Holds P C cs) : stepOp P C d st o e H = some (v, H') := by
  have plain : (match stepOp P C d st o e H with | some (v, H') => some (v, H', ([] : List Con)) | none => none) = some (v, H', cs) → stepOp P C d st o e H = some (v, H') := by
    intro h
    split at h <;> first | (cases h; done) | skip
    rename_i h1
    cases h; exact h1
  unfold runX at h
  split at h
  · rename_i agg n a ho
    unfold stepOp
    simp only [ho, opSem]
    split at h <;> first | (cases h; done) | skip
    · rename_i s st' i off ha
      split at h <;> first | (cases h; done) | skip
      rename_i b hb
      split at h <;> first | (cases h; done) | skip
      rename_i cs0 hi
      split at h <;> first | (cases h; done) | skip
      rename_i v0 hv
      cases h
      have : _ = _ := hc.1
      simp only [ha, row_of hb this, hi, hv, Option.map_some]
    · rename_i cs0 ha
      split at h <;> first | (cases h; done) | skip
      rename_i v0 hv
      cases h
      simp only [ha, hv, Option.map_some]
  · rename_i n a x ho
    unfold stepOp
    simp only [ho, opSem]
    split at h <;> first | (cases h; done) | skip
    rename_i s st' i off ha
    split at h <;> first | (cases h; done) | skip
    rename_i b hb
    split at h <;> first | (cases h; done) | skip
    rename_i cs0 hi
    split at h <;> first | (cases h; done) | skip
    rename_i hcond
    cases h
    have : _ = _ := hc.1
    simp only [ha, row_of hb this, hi, if_pos hcond]
  · rename_i z bytes leaf s x ho
    split at h
    · rename_i ha
      split at h <;> first | (cases h; done) | skip
      rename_i new cs0 hx
      split at h <;> first | (cases h; done) | skip
      rename_i hl
      unfold stepOp
      simp only [ho, opSem, ha]
      split at h
      · rename_i h0
        cases h
        rw [srcX_sound hx hc]
        simp only [if_pos hl, if_pos h0]
      · rename_i h0
        split at h <;> first | (cases h; done) | skip
        rename_i hm
        cases h
        rw [srcX_sound hx hc]
        simp only [if_pos hl, if_neg h0, if_pos hm]
    · exact plain h
  · exact plain h

theorem pushX_sound {d : Nat} {st : List Nat} {o : MO} {e : Env} {H H' : Heap} {v : AV} {cs : List Con} (h : pushX st o e H = some (v, H', cs)) (hc : Holds P C cs) : stepOp P C d st o e H = some (v, H') := by
  unfold pushX at h
  split at h <;> first | (cases h; done) | skip
  rename_i z bytes leaf s x ho
  split at h <;> first | (cases h; done) | skip
  rename_i s' st' z' len ha
  split at h <;> first | (cases h; done) | skip
  rename_i new cs0 hx
  split at h <;> first | (cases h; done) | skip
  rename_i b hb
  split at h <;> first | (cases h; done) | skip
  rename_i hcond
  cases h
  obtain ⟨h1, ⟨h2, h3⟩, h4⟩ := hc
  have h1 : _ = _ := h1
  obtain ⟨hl, hn, hz, hle⟩ := hcond
  unfold stepOp
  simp only [ho, opSem, ha]
  rw [srcX_sound hx h4]
  simp only [if_pos hl, if_neg hn, row_of hb h1, Bool.false_eq_true, if_false]
  rw [if_pos ⟨hz, hle, h3, by omega⟩, if_pos ⟨trivial, h2⟩]

theorem opD_sound {d : Nat} {st : List Nat} {o : MO} {e : Env} {H H' : Heap} {q q' : Ora} {v : AV} {cs : List Con} (h : opD P C d st o e H q = some (v, H', q', cs)) (hc : Holds P C cs) : stepOp P C d st o e H = some (v, H') := by
  unfold opD at h
  split at h
  · split at h
    · split at h
      · split at h <;> first | (cases h; done) | skip
        rename_i h1
        cases h
        have : _ = _ := hc.1
        rw [runX_sound h1 hc.2, this]
      · split at h <;> first | (cases h; done) | skip
        rename_i h1
        cases h
        have : _ = _ := hc.1
        rw [runX_sound h1 hc.2, this]
      · split at h <;> first | (cases h; done) | skip
        · rename_i z x i ho
          split at h <;> first | (cases h; done) | skip
          rename_i z' els hx
          split at h <;> first | (cases h; done) | skip
          rename_i hz
          cases h
          obtain ⟨k, h1, h2⟩ := hc.1
          unfold stepOp
          simp only [ho, opSem, hx, Option.isSome_none, Bool.false_eq_true, if_false, h1, h2, if_pos hz]
        · rename_i agg n a ho
          split at h <;> first | (cases h; done) | skip
          rename_i s st' i off ha
          split at h <;> first | (cases h; done) | skip
          rename_i b hb
          split at h <;> first | (cases h; done) | skip
          rename_i v0 hv
          cases h
          have h1 : _ = _ := hc.1
          have h2 : _ = _ := hc.2.1
          unfold stepOp
          simp only [ho, opSem, ha, row_of hb h1, h2, hv, Option.map_some]
        · rename_i n a x ho
          split at h <;> first | (cases h; done) | skip
          rename_i s st' i off ha
          split at h <;> first | (cases h; done) | skip
          rename_i b hb
          split at h <;> first | (cases h; done) | skip
          rename_i hcond
          cases h
          have h1 : _ = _ := hc.1
          have h2 : _ = _ := hc.2.1
          unfold stepOp
          simp only [ho, opSem, ha, row_of hb h1, h2, if_pos hcond]
      · split at h <;> first | (cases h; done) | skip
        rename_i z x i ho
        split at h <;> first | (cases h; done) | skip
        rename_i s a z' off len full hx
        split at h <;> first | (cases h; done) | skip
        rename_i hz
        cases h
        have h1 : idx _ _ = some _ := hc.1
        unfold stepOp
        simp only [ho, opSem, hx, Option.isSome_none, Bool.false_eq_true, if_false, h1, if_pos hz, Option.map_some]
      · split at h <;> first | (cases h; done) | skip
        · rename_i ho
          unfold stepOp
          simp only [ho]
          exact callD_sound h hc
        · rename_i ho
          split at h <;> first | (cases h; done) | skip
          rename_i hx
          unfold stepOp
          simp only [ho, hx]
          exact callD_sound h hc
      · split at h <;> first | (cases h; done) | skip
        · rename_i ho
          unfold stepOp
          simp only [ho]
          exact calliD_sound h hc
        · rename_i ho
          split at h <;> first | (cases h; done) | skip
          rename_i hx
          unfold stepOp
          simp only [ho, hx]
          exact calliD_sound h hc
      · split at h <;> first | (cases h; done) | skip
        rename_i h1
        cases h
        exact pushX_sound h1 hc
      · cases h
        have : _ = _ := hc.1
        rw [← this]
        exact (stepOp_env fun t ht => get_live e _ t ht).symm
      · cases h
    · split at h <;> first | (cases h; done) | skip
      rename_i h1
      cases h; exact runX_sound h1 hc
  · split at h <;> first | (cases h; done) | skip
    rename_i h1
    cases h; exact runX_sound h1 hc

theorem opsD_sound {d : Nat} {π : List Nat} : ∀ {l : List MO} {s s' : St} {q q' : Ora} {cs : List Con}, opsD P C d π l s q = some (s', q', cs) → Holds P C cs → evOps P C d π l s = some s'
  | [], s, s', q, q', cs, h, _ => by simp only [opsD] at h; cases h; rfl
  | o :: r, s, s', q, q', cs, h, hc => by
    simp only [opsD] at h
    simp only [evOps]
    cases hg : guardOf s.env o.guard with
    | none => rw [hg] at h; cases h
    | some b =>
      rw [hg] at h
      cases b with
      | false => exact opsD_sound h hc
      | true =>
        simp only at h ⊢
        split at h
        · cases h
        · rename_i v H q1 cs1 h1
          split at h
          · cases h
          · rename_i s1 q2 ds h2
            cases h
            rw [holds_app] at hc
            rw [opD_sound h1 hc.1]
            exact opsD_sound h2 hc.2

theorem trD_sound {d : Nat} {π : List Nat} : ∀ {l : List MO} {s s' : St} {q q' : Ora} {cs : List Con} {tr : List Tr}, trD P C d π l s q = some (tr, s', q', cs) → Holds P C cs → evTrace P C d π l s = some (tr, s')
  | [], s, s', q, q', cs, tr, h, _ => by simp only [trD] at h; cases h; rfl
  | o :: r, s, s', q, q', cs, tr, h, hc => by
    simp only [trD] at h
    simp only [evTrace]
    cases hg : guardOf s.env o.guard with
    | none => rw [hg] at h; cases h
    | some b =>
      rw [hg] at h
      cases b with
      | false =>
        simp only at h ⊢
        split at h
        · cases h
        · rename_i l1 s1 q1 ds h1
          cases h
          rw [trD_sound h1 hc]
      | true =>
        simp only at h ⊢
        split at h
        · cases h
        · rename_i R hR
          split at h
          · cases h
          · rename_i v H q1 cs1 h1
            split at h
            · cases h
            · rename_i l1 s1 q2 ds h2
              cases h
              rw [holds_app] at hc
              simp only [hR, opD_sound h1 hc.1, trD_sound h2 hc.2]

theorem loopD_sound {d : Nat} {live : List Nat} {π : List Nat} {body : List Nat → St → Option (Ex × St)} {bodyD : List Nat → St → Ora → Option (Ex × St × Ora × List Con)}
    (hb : ∀ π s q x s' q' cs, bodyD π s q = some (x, s', q', cs) → Holds P C cs → body π s = some (x, s')) : ∀ (n j : Nat) (s : St) (q : Ora) {x : Ex} {s' : St} {q' : Ora} {cs : List Con},
    loopD bodyD d live π n j s q = some (x, s', q', cs) → Holds P C cs → evLoop body d live π n j s = some (x, s')
  | 0, j, s, q, x, s', q', cs, h, _ => by simp only [loopD] at h; cases h
  | n + 1, j, s, q, x, s', q', cs, h, hc => by
    simp only [loopD] at h
    simp only [evLoop]
    split at h
    · rename_i s1 q1 cs1 h1
      split at h
      · rename_i x2 s2 q2 ds h2
        cases h
        rw [holds_app] at hc
        rw [hb _ _ _ _ _ _ _ h1 hc.1]
        exact loopD_sound hb n (j + 1) s1 q1 h2 hc.2
      · cases h
    · rename_i hn
      have h1 := hb _ _ _ _ _ _ _ h hc
      rw [h1]
      cases x with
      | nrm => exact absurd h (hn _ _ _)
      | exit i => rfl
      | ret => rfl

theorem codeD_sound {d : Nat} : ∀ {m : MC} {π : List Nat} {s s' : St} {q q' : Ora} {cs : List Con} {x : Ex}, codeD P C d m π s q = some (x, s', q', cs) → Holds P C cs → evC P C d m π s = some (x, s')
  | .skip, π, s, s', q, q', cs, x, h, _ => by simp only [codeD] at h; cases h; rfl
  | .ops l false, π, s, s', q, q', cs, x, h, hc => by
    simp only [codeD] at h
    split at h
    · rename_i h1; cases h; simp only [evC, opsD_sound h1 hc, Option.map_some]
    · cases h
  | .ops l true, π, s, s', q, q', cs, x, h, hc => by
    simp only [codeD] at h
    split at h
    · rename_i h1
      split at h
      · rename_i hi; cases h; simp only [evC, evDraw, trD_sound h1 hc, hi, if_true, Option.map_some]
      · cases h
    · cases h
  | .seq a b, π, s, s', q, q', cs, x, h, hc => by
    simp only [codeD] at h
    simp only [evC]
    split at h
    · rename_i s1 q1 cs1 h1
      split at h
      · rename_i h2
        cases h
        rw [holds_app] at hc
        rw [codeD_sound h1 hc.1]
        exact codeD_sound h2 hc.2
      · cases h
    · rename_i hn
      have h1 := codeD_sound h hc
      rw [h1]
      cases x with
      | nrm => exact absurd h (hn _ _ _)
      | exit i => rfl
      | ret => rfl
  | .cond c a b, π, s, s', q, q', cs, x, h, hc => by
    simp only [codeD] at h
    simp only [evC]
    split at h
    · rename_i hv; rw [hv]; exact codeD_sound h hc
    · rename_i hv; rw [hv]; exact codeD_sound h hc
    · cases h
  | .block id b, π, s, s', q, q', cs, x, h, hc => by
    simp only [codeD] at h
    simp only [evC]
    split at h
    · rename_i i s1 q1 cs1 h1
      split at h
      · rename_i hi; cases h; rw [codeD_sound h1 hc]; simp only [if_pos hi]
      · rename_i hi; cases h; rw [codeD_sound h1 hc]; simp only [if_neg hi]
    · rename_i hn
      have h1 := codeD_sound h hc
      rw [h1]
      cases x with
      | nrm => rfl
      | exit i => exact absurd h (hn _ _ _ _)
      | ret => rfl
  | .loop live b, π, s, s', q, q', cs, x, h, hc => by
    simp only [codeD] at h
    simp only [evC]
    split at h
    · cases h
      obtain ⟨L, h1, h2⟩ := hc.1
      rw [h1, evLoop_LP]
      have h2 : LP (evC P C d b) d live (s.k :: π) L 0 (prune d live s) = _ := h2
      rw [h2]
    · split at h
      · rename_i h1
        cases h
        rw [loopD_sound (fun _ _ _ _ _ _ _ h hc => codeD_sound h hc) _ _ _ _ h1 hc]
      · cases h
  | .exit i, π, s, s', q, q', cs, x, h, _ => by simp only [codeD] at h; cases h; rfl
  | .ret, π, s, s', q, q', cs, x, h, _ => by simp only [codeD] at h; cases h; rfl

/-- a function's run, as told -/
theorem runF_codeD {n d : Nat} {π : List Nat} {f : FuncId} {args : List AV} {H : Heap} {fm : FnM} {q q' : Ora} {x : Ex} {s : St} {cs : List Con} {r : AV} (hf : P.fn f = some fm)
    (h : codeD P (runF P n) d fm.code π ⟨argEnv 0 args, H, 0⟩ q = some (x, s, q', cs)) (hx : x = .nrm ∨ x = .ret) (hr : resOf s fm.res = some r) (hc : Holds P (runF P n) cs) : runF P (n + 1) d π f args H = some (r, s.H) := by
  rw [runF_fn hf, codeD_sound h hc]
  rcases hx with rfl | rfl <;> simp only [runOut, hr]

/-- a whole call by values, as told -/
def denD (P : Prog) (n : Nat) (f : FuncId) (args : List AV) (q : Ora) : Option (AV × List Con) :=
  match P.fn f with
  | none => none
  | some fm =>
    match codeD P (runF P n) 0 fm.code [] ⟨argEnv 0 args, [], 0⟩ q with
    | some (x, s, _, cs) =>
      match x with
      | .exit _ => none
      | _ =>
        match resOf s fm.res with
        | none => none
        | some r => match distinct r.refs with | true => (match packTX 0 s.H r with | some (r, ds) => some (r, cs ++ ds) | none => none) | false => none
    | none => none
theorem denD_sound {n : Nat} {f : FuncId} {args : List AV} {q : Ora} {r : AV} {cs : List Con} (h : denD P n f args q = some (r, cs)) (hc : Holds P (runF P n) cs) : den P (n + 1) f args = some r := by
  unfold denD at h
  split at h
  · cases h
  · rename_i fm hf
    split at h
    · rename_i x s q' cs' h1
      have fin : ∀ (hx : x = .nrm ∨ x = .ret), (match resOf s fm.res with
          | none => none
          | some r => match distinct r.refs with | true => (match packTX 0 s.H r with | some (r, ds) => some (r, cs' ++ ds) | none => none) | false => none) = some (r, cs) → den P (n + 1) f args = some r := by
        intro hx h
        split at h
        · cases h
        · rename_i r0 h2
          split at h
          · rename_i hd
            split at h
            · rename_i r1 ds h3
              cases h
              rw [holds_app] at hc
              have h3 := packTX_sound h3 hc.2
              have h4 := codeD_sound h1 hc.1
              unfold den
              simp only [runF, hf, h4]
              rcases hx with rfl | rfl <;> simp only [h2, Option.map_some, hd, if_true, h3]
            · cases h
          · cases h
      cases x with
      | exit i => cases h
      | nrm => exact fin (.inl rfl) h
      | ret => exact fin (.inr rfl) h
    · cases h

/-- one round, as told: pruned at its end -/
def nxtD (P : Prog) (C : Caller) (d : Nat) (live : List Nat) (b : MC) (π : List Nat) (s : St) (q : Ora) : Option (St × List Con) :=
  match codeD P C d b π s q with
  | some (.nrm, s, _, cs) => some (prune d live s, cs)
  | _ => none
theorem nxtD_sound {d : Nat} {live : List Nat} {b : MC} {π : List Nat} {s s' : St} {q : Ora} {cs : List Con} (h : nxtD P C d live b π s q = some (s', cs)) (hc : Holds P C cs) : nxt d live (bodyOf P C d b π s) = some s' := by
  unfold nxtD at h
  split at h
  · rename_i h1
    cases h
    unfold nxt bodyOf
    rw [codeD_sound h1 hc]
  · cases h
end
end Go.Proofs.Ytnccnmeecngopaa.Fw
