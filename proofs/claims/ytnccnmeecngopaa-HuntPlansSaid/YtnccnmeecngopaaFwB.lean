/- The abstract evaluator, part B: the small code, one operation over memory, statements, loops, calls. Nothing here names a program. -/
import Derived.Test.YtnccnmeecngopaaFwA
set_option linter.unusedVariables false
namespace Go.Proofs.Ytnccnmeecngopaa.Fw
open Go

inductive Opd where
  | t (n : Nat)
  | k (a : AV)
def Opd.ev (e : Env) : Opd → AV
  | .t n => e.get n
  | .k a => a

inductive MOp where
  | mov (x : Opd)
  | pick (c a b : Opd)
  | alloc (zero : List AV) (leaf : Bool)
  | box (n : Nat) (leaf : Bool) (x : Opd)
  | build (zero : List AV) (parts : List (Nat × Nat × Opd))
  | mkslice (z len : Nat) (zero : List AV) (leaf : Bool) (parts : List (Nat × Opd))
  | load (agg : Bool) (n : Nat) (a : Opd)
  | store (n : Nat) (a x : Opd)
  | nilck (x : Opd)
  | bin (op : BinOp) (e : EqK) (x y : Opd)
  | un (op : UnOp) (x : Opd)
  | conv (c : ConvK) (x : Opd)
  | mkfn (f : Fn) (a b : List Opd)
  | make (z bytes : Nat) (zero : List AV) (leaf : Bool) (len cap : Opd)
  | slice (z : Option Nat) (x : Opd) (lo hi mx : Option Opd)
  | faddr (off : Nat) (x : Opd)
  | field (agg : Bool) (n off : Nat) (x : Opd)
  | iaddr (z : Nat) (arr : Option Nat) (x i : Opd)
  | index (z len : Nat) (agg : Bool) (x i : Opd)
  | indexS (x i : Opd)
  | ext (x : Opd) (i : Nat)
  | bi (k : BiK) (xs : List Opd)
  | extern (k : ExtK) (xs : List Opd)
  | append (z bytes : Nat) (leaf : Bool) (s x : Opd)
  | copy (z : Nat) (s x : Opd)
  | call (f : FuncId) (xs : List Opd)
  | callv (x : Opd) (xs : List Opd)
  | bad

def Opd.evs (e : Env) : List Opd → List AV
  | [] => []
  | x :: r => x.ev e :: Opd.evs e r

/-- what a ref reads, if it is not stale -/
def Heap.row (H : Heap) (s : Site) (st : List Nat) : Option Blk :=
  match H.get s with
  | some b => if b.st = st then some b else none
  | none => none

def evParts (e : Env) : List (Nat × Nat × Opd) → List (Nat × Nat × AV)
  | [] => []
  | (a, b, x) :: r => (a, b, x.ev e) :: evParts e r
def setEls (z : Nat) (els : List (List AV)) : List (Nat × AV) → Option (List (List AV))
  | [] => some els
  | (i, x) :: r => if (cellsOf x).length = z ∧ i < els.length ∧ allCell (cellsOf x) = true then setEls z (els.set i (cellsOf x)) r else none
def evPartsS (e : Env) : List (Nat × Opd) → List (Nat × AV)
  | [] => []
  | (a, x) :: r => (a, x.ev e) :: evPartsS e r
/-- the elements that a slice reads -/
def srcEls (H : Heap) : AV → Option (List (List AV))
  | .nils => some []
  | .lst _ els => some els
  | .slc s st _ off len _ =>
    match H.row s st with
    | some b => if off + len ≤ b.els.length then some ((b.els.drop off).take len) else none
    | none => none
  | _ => none
/-- elements of 'z' cells each, that may stand in memory -/
def lens (z : Nat) : List (List AV) → Bool
  | [] => true
  | e :: r => decide (e.length = z) && allCell e && lens z r
def optEv (e : Env) : Option Opd → Option AV
  | none => none
  | some x => some (x.ev e)

def sliceSem (z : Option Nat) (x : AV) (lo hi mx : Option AV) : Option AV :=
  match x with
  | .slc s st z' off len full =>
    if z = some z' then
    match bnd mx len len with
    | none => none
    | some m =>
      match bnd hi len (if mx.isSome then m else len) with
      | none => none
      | some h =>
        match bnd lo 0 h with
        | none => none
        | some l => some (.slc s st z' (off + l) (h - l) (if mx.isSome then decide (m = h) else full && decide (h = len)))
    else none
  | .lst z' els =>
    if z = some z' then
    match bnd mx els.length els.length with
    | none => none
    | some m =>
      match bnd hi els.length (if mx.isSome then m else els.length) with
      | none => none
      | some h =>
        match bnd lo 0 h with
        | none => none
        | some l => some (.lst z' ((els.take h).drop l))
    else none
  | .nils =>
    if z.isNone then none else
    match bnd mx 0 0, bnd hi 0 0, bnd lo 0 0 with
    | some _, some _, some _ => some .nils
    | _, _, _ => none
  | .v (.string s) =>
    if z.isSome || mx.isSome then none else
    match bnd hi s.size s.size with
    | none => none
    | some h =>
      match bnd lo 0 h with
      | none => none
      | some l => some (.str (s.extract l h))
  | _ => none

/-- 2^47 -/
def most : Nat := 140737488355328
/-- is there room for so many elements of so many bytes, when a list grows to them? -/
abbrev roomOk (need bytes : Nat) : Prop := need * bytes ≤ most ∨ (1000000 ≤ need ∧ 13 * (need * bytes) ≤ 2814749767106560)

/-- one operation that is no call: its value, the memory behind it. 'own': where what it makes lies; 'st': its stamp. -/
def opSem (own : Site) (st : List Nat) (m : MOp) (e : Env) (H : Heap) : Option (AV × Heap) :=
  match m with
  | .mov x => some (x.ev e, H)
  | .pick c a b =>
    match c.ev e with
    | .v (.bool true) => some (a.ev e, H)
    | .v (.bool false) => some (b.ev e, H)
    | _ => none
  | .alloc zero leaf => some (.ptr own st 0 0, H.set own ⟨st, [zero], zero.length, leaf⟩)
  | .box n leaf x =>
    if (cellsOf (x.ev e)).length = n ∧ allCell (cellsOf (x.ev e)) = true ∧ (leaf = true → dryL (cellsOf (x.ev e)) = true) then
      some (.ptr own st 0 0, H.set own ⟨st, [cellsOf (x.ev e)], n, leaf⟩) else none
  | .build zero parts => (fillParts zero (evParts e parts)).map fun cs => (.agg cs, H)
  | .mkslice z len zero leaf parts =>
    match setEls z (List.replicate len zero) (evPartsS e parts) with
    | none => none
    | some els => if leaf = true → dryEls els = true then some (.slc own st z 0 len true, H.set own ⟨st, els, z, leaf⟩) else none
  | .load agg n a =>
    match a.ev e with
    | .ptr s st' i off =>
      match H.row s st' with
      | none => none
      | some b =>
        match b.els[i]? with
        | none => none
        | some cs => (takeCells agg n cs off).map fun v => (v, H)
    | .imm cs => (takeCells agg n cs 0).map fun v => (v, H)
    | _ => none
  | .store n a x =>
    match a.ev e with
    | .ptr s st' i off =>
      match H.row s st' with
      | none => none
      | some b =>
        match b.els[i]? with
        | none => none
        | some cs =>
          if (cellsOf (x.ev e)).length = n ∧ off + n ≤ cs.length ∧ allCell (cellsOf (x.ev e)) = true ∧ (b.leaf = true → dryL (cellsOf (x.ev e)) = true) then
            some (.junk, H.set s ⟨b.st, b.els.set i (putCells cs off (cellsOf (x.ev e))), b.z, b.leaf⟩) else none
    | _ => none
  | .nilck x =>
    match x.ev e with
    | .ptr s a b c => some (.ptr s a b c, H)
    | .imm cs => some (.imm cs, H)
    | .fn (.func f) a b => some (.fn (.func f) a b, H)
    | _ => none
  | .bin op k x y => (binSem op k (x.ev e) (y.ev e)).map fun v => (v, H)
  | .un op x => (unSem op (x.ev e)).map fun v => (v, H)
  | .conv c x => (convSem c (x.ev e)).map fun v => (v, H)
  | .mkfn f a b => some (.fn f (Opd.evs e a) (Opd.evs e b), H)
  | .make z bytes zero leaf len cap =>
    match len.ev e, cap.ev e with
    | .v (.int .i64 l), .v (.int .i64 c) =>
      if 0 ≤ l ∧ l ≤ c ∧ c.toNat * bytes ≤ most ∧ c.toNat ≤ most then
        some (.slc own st z 0 l.toNat (decide (l = c)), H.set own ⟨st, List.replicate l.toNat zero, z, leaf⟩) else none
    | _, _ => none
  | .slice z x lo hi mx => (sliceSem z (x.ev e) (optEv e lo) (optEv e hi) (optEv e mx)).map fun v => (v, H)
  | .faddr off x =>
    match x.ev e with
    | .ptr s a i o => some (.ptr s a i (o + off), H)
    | .imm cs => some (.imm (cs.drop off), H)
    | _ => none
  | .field agg n off x =>
    match x.ev e with
    | .agg cs => (takeCells agg n cs off).map fun v => (v, H)
    | _ => none
  | .iaddr z arr x i =>
    match x.ev e with
    | .ptr s a j o =>
      match arr with
      | none => none
      | some n => (idx (i.ev e) n).map fun k => (.ptr s a j (o + k * z), H)
    | .imm cs =>
      match arr with
      | none => none
      | some n => (idx (i.ev e) n).map fun k => (.imm (cs.drop (k * z)), H)
    | .slc s a z' off len _ =>
      if arr.isSome then none else
      if z' = z then (idx (i.ev e) len).map fun k => (.ptr s a (off + k) 0, H) else none
    | .lst z' els =>
      if arr.isSome then none else
      match idx (i.ev e) els.length with
      | none => none
      | some k =>
        match els[k]? with
        | none => none
        | some cs => if z' = z then some (.imm cs, H) else none
    | _ => none
  | .index z len agg x i =>
    match x.ev e with
    | .agg cs =>
      match idx (i.ev e) len with
      | none => none
      | some k => (takeCells agg z cs (k * z)).map fun v => (v, H)
    | _ => none
  | .indexS x i =>
    match x.ev e with
    | .v (.string s) =>
      match idx (i.ev e) s.size with
      | none => none
      | some k => (s.data[k]?).map fun b => (.int .u8 b.toNat, H)
    | _ => none
  | .ext x i =>
    match x.ev e with
    | .tup vs => (vs[i]?).map fun v => (v, H)
    | _ => none
  | .bi k xs => (biSem k (Opd.evs e xs)).map fun v => (v, H)
  | .extern k xs => (extSem k (Opd.evs e xs)).map fun v => (v, H)
  | .append z bytes leaf s x =>
    match srcEls H (x.ev e) with
    | none => none
    | some new =>
      if lens z new = true ∧ (leaf = true → dryEls new = true) then
        match s.ev e with
        | .nils =>
          if new.length = 0 then some (.nils, H) else
          if new.length * bytes ≤ most then some (.slc own st z 0 new.length false, H.set own ⟨st, new, z, leaf⟩) else none
        | .slc s' st' z' off len full =>
          if new.length = 0 then some (.slc s' st' z' off len full, H) else
          match H.row s' st' with
          | none => none
          | some b =>
            if b.z = z ∧ b.leaf = leaf ∧ roomOk (len + new.length) bytes ∧ off + len ≤ b.els.length then
              if full then some (.slc own st z 0 (len + new.length) false, H.set own ⟨st, (b.els.drop off).take len ++ new, z, leaf⟩)
              else if off = 0 ∧ len = b.els.length then some (.slc s' st z 0 (len + new.length) false, H.set s' ⟨st, b.els ++ new, z, leaf⟩)
              else none
            else none
        | _ => none
      else none
  | .copy z s x =>
    match srcEls H (x.ev e) with
    | none => none
    | some new =>
      match s.ev e with
      | .slc s' st' _ off len _ =>
        match H.row s' st' with
        | none => none
        | some b =>
          if b.z = z ∧ lens z new = true ∧ (b.leaf = true → dryEls new = true) ∧ off + len ≤ b.els.length then
            some (.int .i64 (min new.length len), H.set s' ⟨b.st, b.els.take off ++ new.take (min new.length len) ++ b.els.drop (off + min new.length len), b.z, b.leaf⟩)
          else none
      | _ => none
  | .call .. => none
  | .callv .. => none
  | .bad => none

structure MO where
  dst : Option Nat
  op : MOp
  guard : Option (Nat × Bool)
  pre : List Nat

inductive MC where
  | skip
  | ops (l : List MO) (draw : Bool)
  | seq (a b : MC)
  | cond (c : Opd) (a b : MC)
  | block (id : Nat) (b : MC)
  | loop (live : List Nat) (b : MC)
  | exit (id : Nat)
  | ret

inductive RV where
  | tmp (t : Nat)
  | cell (t n : Nat) (agg : Bool)

structure FnM where
  code : MC
  res : List RV
  inl : Bool

structure Prog where
  fn : FuncId → Option FnM
  spec : FuncId → Option (List AV → Option AV)
  L : Nat

inductive Ex where
  | nrm | exit (id : Nat) | ret

structure St where
  env : Env
  H : Heap
  k : Nat

def optList {α β : Type} (f : α → Option β) : List α → Option (List β)
  | [] => some []
  | a :: r =>
    match f a with
    | none => none
    | some b =>
      match optList f r with
      | none => none
      | some l => some (b :: l)

/-- a value without refs, as memory now stands -/
def freeze (H : Heap) : Nat → AV → Option AV
  | 0, _ => none
  | n + 1, x =>
    match x with
    | .slc s st z off len _ =>
      match H.row s st with
      | none => none
      | some b =>
        if off + len ≤ b.els.length then
          if b.leaf then some (.lst z ((b.els.drop off).take len))
          else (optList (optList (freeze H n)) ((b.els.drop off).take len)).map (AV.lst z)
        else none
    | .ptr s st i off =>
      match H.row s st with
      | none => none
      | some b =>
        match b.els[i]? with
        | none => none
        | some cs => if b.leaf then some (.imm (cs.drop off)) else (optList (freeze H n) (cs.drop off)).map AV.imm
    | .agg cs => (optList (freeze H n) cs).map AV.agg
    | .tup vs => (optList (freeze H n) vs).map AV.tup
    | .fn f a b =>
      match optList (freeze H n) a, optList (freeze H n) b with
      | some a, some b => some (.fn f a b)
      | _, _ => none
    | .junk => none
    | .own .. => none
    | .ownp .. => none
    | x => some x

/-- a result: what lies at depth 'd' is handed out as rows of the caller's. 'all': nothing else that looks into memory. -/
def packC (all : Bool) (d : Nat) (H : Heap) (x : AV) : Option AV :=
  match x with
  | .slc s st z off len full =>
    if s.d = d then
      match H.row s st with
      | none => none
      | some b => if off = 0 ∧ len ≤ b.els.length ∧ (b.leaf || dryEls (b.els.take len)) = true then some (.own z (b.els.take len) b.leaf) else none
    else if all then none else some (.slc s st z off len full)
  | .ptr s st i off =>
    if s.d = d then
      match H.row s st with
      | none => none
      | some b =>
        match b.els with
        | [cs] => if i = 0 ∧ off = 0 ∧ (b.leaf || dryL cs) = true then some (.ownp cs b.leaf) else none
        | _ => none
    else if all then none else some (.ptr s st i off)
  | .agg _ => none
  | .tup _ => none
  | .junk => none
  | .own .. => none
  | .ownp .. => none
  | x => if all && !x.dry then none else some x
def packA (all : Bool) (d : Nat) (H : Heap) (x : AV) : Option AV :=
  match x with
  | .agg cs => (optList (packC all d H) cs).map AV.agg
  | x => packC all d H x
def packT (all : Bool) (d : Nat) (H : Heap) (x : AV) : Option AV :=
  match x with
  | .tup vs => (optList (packA all d H) vs).map AV.tup
  | x => packA all d H x

/-- the caller's own places for what it was handed -/
def thawC (d t : Nat) (st : List Nat) (j : Nat) (H : Heap) (x : AV) : AV × Nat × Heap :=
  match x with
  | .own z els leaf => (.slc ⟨d, t, j⟩ ((j + 1) :: st) z 0 els.length false, j + 1, H.set ⟨d, t, j⟩ ⟨(j + 1) :: st, els, z, leaf⟩)
  | .ownp cs leaf => (.ptr ⟨d, t, j⟩ ((j + 1) :: st) 0 0, j + 1, H.set ⟨d, t, j⟩ ⟨(j + 1) :: st, [cs], cs.length, leaf⟩)
  | x => (x, j, H)
def thawL (f : Nat → Heap → AV → AV × Nat × Heap) : Nat → Heap → List AV → List AV × Nat × Heap
  | j, H, [] => ([], j, H)
  | j, H, x :: r =>
    match f j H x with
    | (y, j, H) =>
      match thawL f j H r with
      | (l, j, H) => (y :: l, j, H)
def thawA (d t : Nat) (st : List Nat) (j : Nat) (H : Heap) (x : AV) : AV × Nat × Heap :=
  match x with
  | .agg cs => match thawL (thawC d t st) j H cs with | (l, j, H) => (.agg l, j, H)
  | x => thawC d t st j H x
def thawT (d t : Nat) (st : List Nat) (H : Heap) (x : AV) : AV × Heap :=
  match x with
  | .tup vs => match thawL (thawA d t st) 0 H vs with | (l, _, H) => (.tup l, H)
  | x => match thawA d t st 0 H x with | (y, _, H) => (y, H)

def refsOf (H : Heap) : List Site → List Site
  | [] => []
  | s :: r => (match H.get s with | some b => b.refs | none => []) ++ refsOf H r
def reach (H : Heap) : Nat → List Site → List Site
  | 0, l => l
  | n + 1, l => l ++ reach H n (refsOf H l)
/-- the part of memory that a list of places names -/
def consH (H : Heap) (s : Site) (G : Heap) : Heap :=
  match H.get s with
  | some b => if (G.get s).isSome then G else (s, b) :: G
  | none => G
def cutH (H : Heap) : List Site → Heap
  | [] => []
  | s :: r => consH H s (cutH H r)
/-- the places of 'G', as they stand in 'H1', put into 'H' -/
def putBack (H1 : Heap) : Heap → Heap → Option Heap
  | [], H => some H
  | (s, _) :: r, H =>
    match H1.get s with
    | some b => putBack H1 r (H.set s b)
    | none => none
def inAll (G : Heap) (l : List Site) : Bool := l.all fun s => (G.get s).isSome
/-- what a call in the caller's memory is handed -/
def handed (H : Heap) (args : List AV) : List Site := reach H 4 (AV.refsL args)

def flatA : AV → Bool
  | .agg cs => dryL cs
  | x => x.dry
def flatAs : List AV → Bool
  | [] => true
  | a :: r => flatA a && flatAs r
def flatT : AV → Bool
  | .tup vs => flatAs vs
  | x => flatA x
def distinct : List Site → Bool
  | [] => true
  | s :: r => decide (s ∉ r) && distinct r

/-- how functions are called: depth, stamps' prefix, function, arguments, memory -/
abbrev Caller := Nat → List Nat → FuncId → List AV → Heap → Option (AV × Heap)

def callIn (P : Prog) (C : Caller) (inl : Bool) (d t : Nat) (st : List Nat) (f : FuncId) (args : List AV) (H : Heap) : Option (AV × Heap) :=
  match P.spec f with
  | some g =>
    match optList (freeze H 8) args with
    | none => none
    | some as =>
      match g as with
      | none => none
      | some r => if r.refs.isEmpty then some (thawT d t st H r) else none
  | none =>
    if inl then
      match C (d + 1) (0 :: st) f args (cutH H (handed H args)) with
      | none => none
      | some (r, H') =>
        if distinct r.refs then
          match packT false (d + 1) H' r with
          | none => none
          | some r =>
            if inAll (cutH H (handed H args)) r.refs then
              match putBack H' (cutH H (handed H args)) H with
              | none => none
              | some H => some (thawT d t st H r)
            else none
        else none
    else
      match optList (freeze H 8) args with
      | none => none
      | some as =>
        match C 0 [] f as [] with
        | none => none
        | some (r, H') =>
          if distinct r.refs then
            match packT true 0 H' r with
            | none => none
            | some r => some (thawT d t st H r)
          else none

def inlOf (P : Prog) (f : FuncId) : Bool :=
  match P.spec f with
  | some _ => false
  | none => match P.fn f with | some fm => fm.inl | none => false

def stepOp (P : Prog) (C : Caller) (d : Nat) (st : List Nat) (o : MO) (e : Env) (H : Heap) : Option (AV × Heap) :=
  match o.op with
  | .call f xs => callIn P C (inlOf P f) d (o.dst.getD 0) st f (Opd.evs e xs) H
  | .callv x xs =>
    match x.ev e with
    | .fn (.func f) a b => callIn P C (inlOf P f) d (o.dst.getD 0) st f (a ++ Opd.evs e xs ++ b) H
    | _ => none
  | m => opSem ⟨d, o.dst.getD 0, 0⟩ st m e H

def putD (e : Env) (dst : Option Nat) (v : AV) : Env :=
  match dst with
  | some t => (t, v) :: e
  | none => e

/-- is it to be carried out? 'none': it can't be told. -/
def guardOf (e : Env) : Option (Nat × Bool) → Option Bool
  | none => some true
  | some (t, want) =>
    match e.get t with
    | .v (.bool b) => some (b == want)
    | .v (.tuple _) => some false
    | _ => none

def evOps (P : Prog) (C : Caller) (d : Nat) (π : List Nat) : List MO → St → Option St
  | [], s => some s
  | o :: r, s =>
    match guardOf s.env o.guard with
    | none => none
    | some false => evOps P C d π r ⟨putD s.env o.dst (.v undef), s.H, s.k + 1⟩
    | some true =>
      match stepOp P C d (s.k :: π) o s.env s.H with
      | none => none
      | some (v, H) => evOps P C d π r ⟨putD s.env o.dst v, H, s.k + 1⟩

def Opd.tmps : Opd → List Nat
  | .t n => [n]
  | .k _ => []
def optTmps : Option Opd → List Nat
  | some x => x.tmps
  | none => []
def MOp.uses : MOp → List Nat
  | .mov x | .box _ _ x | .load _ _ x | .nilck x | .un _ x | .conv _ x | .faddr _ x | .field _ _ _ x | .ext x _ => x.tmps
  | .pick c a b => c.tmps ++ a.tmps ++ b.tmps
  | .alloc .. | .bad => []
  | .build _ ps => ps.flatMap fun p => p.2.2.tmps
  | .mkslice _ _ _ _ ps => ps.flatMap fun p => p.2.tmps
  | .store _ a x | .bin _ _ a x | .make _ _ _ _ a x | .iaddr _ _ a x | .index _ _ _ a x | .indexS a x | .append _ _ _ a x | .copy _ a x => a.tmps ++ x.tmps
  | .mkfn _ a b => a.flatMap Opd.tmps ++ b.flatMap Opd.tmps
  | .slice _ x l h m => x.tmps ++ optTmps l ++ optTmps h ++ optTmps m
  | .bi _ xs | .extern _ xs | .call _ xs => xs.flatMap Opd.tmps
  | .callv x xs => x.tmps ++ xs.flatMap Opd.tmps
def MO.uses (o : MO) : List Nat := (match o.guard with | some (t, _) => [t] | none => []) ++ o.op.uses

/-! ### operations in no set order -/
def siteOf : AV → List Site
  | .ptr s .. => [s]
  | .slc s .. => [s]
  | _ => []
/-- where 'freeze' looks -/
def freezeR (H : Heap) : Nat → AV → List Site
  | 0, _ => []
  | n + 1, x =>
    match x with
    | .slc s st _ off len _ => s :: (match H.row s st with | none => [] | some b => if b.leaf then [] else ((b.els.drop off).take len).flatMap fun cs => cs.flatMap (freezeR H n))
    | .ptr s st i off => s :: (match H.row s st with | none => [] | some b => match b.els[i]? with | none => [] | some cs => if b.leaf then [] else (cs.drop off).flatMap (freezeR H n))
    | .agg cs => cs.flatMap (freezeR H n)
    | .tup vs => vs.flatMap (freezeR H n)
    | .fn _ a b => a.flatMap (freezeR H n) ++ b.flatMap (freezeR H n)
    | _ => []
/-- which places an operation reads; 'none': it can't be told -/
def footR (P : Prog) (o : MO) (e : Env) (H : Heap) : Option (List Site) :=
  match o.op with
  | .load _ _ a => some (siteOf (a.ev e))
  | .store _ a _ => some (siteOf (a.ev e))
  | .append _ _ _ s x => some (siteOf (s.ev e) ++ siteOf (x.ev e))
  | .copy _ s x => some (siteOf (s.ev e) ++ siteOf (x.ev e))
  | .call f xs => if inlOf P f then some (handed H (Opd.evs e xs)) else some ((Opd.evs e xs).flatMap (freezeR H 8))
  | .callv x xs =>
    match x.ev e with
    | .fn (.func f) a b => if inlOf P f then some (handed H (a ++ Opd.evs e xs ++ b)) else some ((a ++ Opd.evs e xs ++ b).flatMap (freezeR H 8))
    | _ => none
  | _ => some []
/-- which places it writes -/
def footW (P : Prog) (own : Site) (o : MO) (e : Env) (H : Heap) (v : AV) : List Site :=
  match o.op with
  | .alloc .. | .box .. | .mkslice .. | .make .. => [own]
  | .append .. => siteOf v
  | .store _ a _ => siteOf (a.ev e)
  | .copy _ s _ => siteOf (s.ev e)
  | .call f xs => (if inlOf P f then handed H (Opd.evs e xs) else []) ++ v.refs
  | .callv x xs =>
    match x.ev e with
    | .fn (.func f) a b => (if inlOf P f then handed H (a ++ Opd.evs e xs ++ b) else []) ++ v.refs
    | _ => []
  | _ => []
/-- one operation as it was carried out in the text's order -/
structure Tr where
  mo : MO
  on : Bool
  e : Env
  H : Heap
  v : AV
  H' : Heap
  R : List Site
  W : List Site
def evTrace (P : Prog) (C : Caller) (d : Nat) (π : List Nat) : List MO → St → Option (List Tr × St)
  | [], s => some ([], s)
  | o :: r, s =>
    match guardOf s.env o.guard with
    | none => none
    | some false =>
      match evTrace P C d π r ⟨putD s.env o.dst (.v undef), s.H, s.k + 1⟩ with
      | none => none
      | some (l, s') => some (⟨o, false, s.env, s.H, .v undef, s.H, [], []⟩ :: l, s')
    | some true =>
      match footR P o s.env s.H with
      | none => none
      | some R =>
        match stepOp P C d (s.k :: π) o s.env s.H with
        | none => none
        | some (v, H) =>
          match evTrace P C d π r ⟨putD s.env o.dst v, H, s.k + 1⟩ with
          | none => none
          | some (l, s') => some (⟨o, true, s.env, s.H, v, H, R, footW P ⟨d, o.dst.getD 0, 0⟩ o s.env s.H v⟩ :: l, s')
def apartS (a b : List Site) : Bool := a.all fun s => decide (s ∉ b)
/-- neither minds whether the other went first -/
def Tr.clear (a b : Tr) : Bool :=
  apartS a.W b.R && apartS a.W b.W && apartS b.W a.R &&
  (match a.mo.dst with
   | some t => decide (t ∉ b.mo.uses) && decide (b.mo.dst ≠ some t)
   | none => true) &&
  (match b.mo.dst with
   | some t => decide (t ∉ a.mo.uses)
   | none => true)
def indepAt (a : Tr) (i : Nat) : List Tr → Bool
  | [] => true
  | b :: r => (decide (i ∈ b.mo.pre) || a.clear b) && indepAt a i r
def indep : Nat → List Tr → Bool
  | _, [] => true
  | i, a :: r => indepAt a i r && indep (i + 1) r
def evDraw (P : Prog) (C : Caller) (d : Nat) (π : List Nat) (l : List MO) (s : St) : Option St :=
  match evTrace P C d π l s with
  | some (tr, s') => if indep 0 tr then some s' else none
  | none => none

def liveEnv (e : Env) : List Nat → Env
  | [] => []
  | t :: r => (t, e.get t) :: liveEnv e r
def keepSites (d : Nat) (l : List Site) : Heap → Heap
  | [] => []
  | (s, b) :: r => if s.d < d ∨ s ∈ l then (s, b) :: keepSites d l r else keepSites d l r
def prune (d : Nat) (live : List Nat) (s : St) : St :=
  let e := liveEnv s.env live
  ⟨e, keepSites d (reach s.H 3 (refsEnv e)) s.H, 0⟩

def evLoop (body : List Nat → St → Option (Ex × St)) (d : Nat) (live : List Nat) (π : List Nat) : Nat → Nat → St → Option (Ex × St)
  | 0, _, _ => none
  | n + 1, j, s =>
    match body (j :: π) (prune d live s) with
    | some (.nrm, s) => evLoop body d live π n (j + 1) s
    | r => r

def evC (P : Prog) (C : Caller) (d : Nat) : MC → List Nat → St → Option (Ex × St)
  | .skip, _, s => some (.nrm, s)
  | .ops l false, π, s => (evOps P C d π l s).map fun s => (.nrm, s)
  | .ops l true, π, s => (evDraw P C d π l s).map fun s => (.nrm, s)
  | .seq a b, π, s =>
    match evC P C d a π s with
    | some (.nrm, s) => evC P C d b π s
    | r => r
  | .cond c a b, π, s =>
    match c.ev s.env with
    | .v (.bool true) => evC P C d a π s
    | .v (.bool false) => evC P C d b π s
    | _ => none
  | .block id b, π, s =>
    match evC P C d b π s with
    | some (.exit i, s) => if i = id then some (.nrm, s) else some (.exit i, s)
    | r => r
  | .loop live b, π, s =>
    match evLoop (evC P C d b) d live (s.k :: π) P.L 0 s with
    | some (x, s') => some (x, ⟨s'.env, s'.H, s.k + 1⟩)
    | none => none
  | .exit i, _, s => some (.exit i, s)
  | .ret, _, s => some (.ret, s)

def argEnv : Nat → List AV → Env
  | _, [] => []
  | i, a :: r => (i, a) :: argEnv (i + 1) r

def resOne (s : St) : RV → Option AV
  | .tmp t => some (s.env.get t)
  | .cell t n agg =>
    match s.env.get t with
    | .ptr a st i off =>
      match s.H.row a st with
      | none => none
      | some b =>
        match b.els[i]? with
        | none => none
        | some cs => takeCells agg n cs off
    | _ => none
def resOf (s : St) (l : List RV) : Option AV :=
  match optList (resOne s) l with
  | some [x] => some x
  | some xs => some (.tup xs)
  | none => none

def runF (P : Prog) : Nat → Caller
  | 0, _, _, _, _, _ => none
  | n + 1, d, π, f, args, H =>
    match P.fn f with
    | none => none
    | some fm =>
      match evC P (runF P n) d fm.code π ⟨argEnv 0 args, H, 0⟩ with
      | some (.nrm, s) | some (.ret, s) => (resOf s fm.res).map fun r => (r, s.H)
      | _ => none

/-- A call by values alone: what it returns. -/
def den (P : Prog) (n : Nat) (f : FuncId) (args : List AV) : Option AV :=
  match runF P n 0 [] f args [] with
  | some (r, H) => if distinct r.refs then packT true 0 H r else none
  | none => none
end Go.Proofs.Ytnccnmeecngopaa.Fw
