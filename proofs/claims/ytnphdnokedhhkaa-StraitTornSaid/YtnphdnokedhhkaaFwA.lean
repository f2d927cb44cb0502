/- The abstract evaluator, part A: values, memory, what one operation does. Nothing here names a program. | The abstract evaluator, part B: the small code, one operation over memory, statements, loops, calls. Nothing here names a program. | The abstract evaluator, part C: out of the model's code the small code. | The abstract evaluator, part D: what a value of the evaluator says of a value of the machine. -/
import Derived.WalkLawsBesides
import Derived.LoopN
import Derived.Orders
import Derived.Below
set_option linter.unusedVariables false
namespace Go.Proofs.Ytnphdnokedhhkaa.Fw
open Go

structure Site where
  d : Nat
  t : Nat
  j : Nat
  deriving DecidableEq

inductive AV where
  | v (x : Value)
  | flt (b : Nat)
  | cpx (a b : Nat)
  | ptr (s : Site) (st : List Nat) (i off : Nat)
  | imm (cs : List AV)
  | slc (s : Site) (st : List Nat) (z off len : Nat) (full : Bool)
  | lst (z : Nat) (els : List (List AV))
  | nils
  | fn (f : Fn) (a b : List AV)
  | agg (cs : List AV)
  | tup (vs : List AV)
  | own (z : Nat) (els : List (List AV)) (leaf : Bool)
  | ownp (cs : List AV) (leaf : Bool)
  | junk

abbrev AV.int (k : IntKind) (n : Int) : AV := .v (.int k n)
abbrev AV.bool (b : Bool) : AV := .v (.bool b)
abbrev AV.str (s : ByteArray) : AV := .v (.string s)

/-- may it stand in one cell? -/
def AV.cell : AV → Bool
  | .agg _ | .tup _ | .own .. | .ownp .. | .junk => false
  | .v (.agg _) | .v (.tuple _) => false
  | _ => true

structure Blk where
  st : List Nat
  els : List (List AV)
  z : Nat
  leaf : Bool

abbrev Env := List (Nat × AV)
def Env.get : Env → Nat → AV
  | [], _ => .junk
  | (k, v) :: r, t => if k = t then v else Env.get r t

abbrev Heap := List (Site × Blk)
def Heap.get : Heap → Site → Option Blk
  | [], _ => none
  | (k, b) :: r, s => if k = s then some b else Heap.get r s
def Heap.set : Heap → Site → Blk → Heap
  | [], s, b => [(s, b)]
  | (k, c) :: r, s, b => if k = s then (s, b) :: r else (k, c) :: Heap.set r s b

mutual
def AV.refs : AV → List Site
  | .ptr s .. => [s]
  | .slc s .. => [s]
  | .fn _ a b => AV.refsL a ++ AV.refsL b
  | .agg cs => AV.refsL cs
  | .tup vs => AV.refsL vs
  | _ => []
def AV.refsL : List AV → List Site
  | [] => []
  | a :: r => a.refs ++ AV.refsL r
end

mutual
def AV.cl : AV → Bool
  | .v _ | .flt _ | .cpx _ _ | .nils | .imm _ | .lst .. => true
  | .fn _ a b => AV.clL a && AV.clL b
  | .agg cs => AV.clL cs
  | .tup vs => AV.clL vs
  | _ => false
def AV.clL : List AV → Bool
  | [] => true
  | a :: r => a.cl && AV.clL r
end

/-- without a look into memory -/
def AV.dry : AV → Bool
  | .v _ | .flt _ | .cpx _ _ | .nils => true
  | _ => false
def dryL : List AV → Bool
  | [] => true
  | a :: r => a.dry && dryL r
def dryEls : List (List AV) → Bool
  | [] => true
  | e :: r => dryL e && dryEls r
def refsEls : List (List AV) → List Site
  | [] => []
  | e :: r => AV.refsL e ++ refsEls r
def Blk.refs (b : Blk) : List Site := if b.leaf then [] else refsEls b.els
def refsEnv : Env → List Site
  | [] => []
  | (_, v) :: r => v.refs ++ refsEnv r
def refsHeap : Heap → List Site
  | [] => []
  | (_, b) :: r => b.refs ++ refsHeap r

/-! ### floats -/
def qnan : Nat := 0x7FF8000000000001
def isNaN (b : Nat) : Bool := (Ieee.double.read b).isNaN
def canon (b : Nat) : Nat := if isNaN b then qnan else b
def cOpt : Option Nat → Nat
  | some r => canon r
  | none => qnan
def fadd (a b : Nat) : Nat := cOpt (Ieee.double.add a b)
def fsub (a b : Nat) : Nat := cOpt (Ieee.double.sub a b)
def fmul (a b : Nat) : Nat := cOpt (Ieee.double.mul a b)
def fdiv (a b : Nat) : Nat := cOpt (Ieee.double.div a b)
def ford (a b : Nat) : Option Ordering := Ieee.double.order a b
def feq (a b : Nat) : Bool := ford a b == some .eq
def flt (a b : Nat) : Bool := ford a b == some .lt
def fle (a b : Nat) : Bool := ford a b == some .lt || ford a b == some .eq
def fgt (a b : Nat) : Bool := ford a b == some .gt
def fge (a b : Nat) : Bool := ford a b == some .gt || ford a b == some .eq
def fneg (a : Nat) : Nat := canon (a ^^^ 2 ^ 63)
def fabs (a : Nat) : Nat := canon (a % 2 ^ 63)
def fint (way : Ieee.Toward) (a : Nat) : Nat := if isNaN a then qnan else canon (Ieee.double.write ((Ieee.double.read a).integral way))
def fofInt (n : Int) : Nat := canon (FloatKind.f64.nearest n)
def ftoInt (a : Nat) (k : IntKind) : Option Int :=
  match (Ieee.double.read a).toInt .zero with
  | some n => if k.min ≤ n ∧ n ≤ k.max then some n else none
  | none => none
def fmax2 (a b : Nat) : Nat :=
  match ford a b with
  | none => qnan
  | some .lt => b
  | some .gt => a
  | some .eq => if (Ieee.double.read a).neg then b else a
def fmin2 (a b : Nat) : Nat :=
  match ford a b with
  | none => qnan
  | some .lt => a
  | some .gt => b
  | some .eq => if (Ieee.double.read a).neg then a else b

/-! ### operators -/
def intBin (op : BinOp) (k : IntKind) (a b : Int) : Option AV :=
  match op with
  | .add => some (.int k (k.wrap (a + b)))
  | .sub => some (.int k (k.wrap (a - b)))
  | .mul => some (.int k (k.wrap (a * b)))
  | .quo => if b = 0 then none else some (.int k (k.wrap (a.tdiv b)))
  | .rem => if b = 0 then none else some (.int k (a.tmod b))
  | .and => some (.int k (k.wrap ((BitVec.ofInt k.bits a &&& BitVec.ofInt k.bits b).toNat)))
  | .or => some (.int k (k.wrap ((BitVec.ofInt k.bits a ||| BitVec.ofInt k.bits b).toNat)))
  | .xor => some (.int k (k.wrap ((BitVec.ofInt k.bits a ^^^ BitVec.ofInt k.bits b).toNat)))
  | .andNot => some (.int k (k.wrap ((BitVec.ofInt k.bits a &&& ~~~ BitVec.ofInt k.bits b).toNat)))
  | .eql => some (.bool (a == b))
  | .neq => some (.bool (a != b))
  | .lss => some (.bool (decide (a < b)))
  | .leq => some (.bool (decide (a ≤ b)))
  | .gtr => some (.bool (decide (a > b)))
  | .geq => some (.bool (decide (a ≥ b)))
  | _ => none
def shiftBin (op : BinOp) (k : IntKind) (a b : Int) : Option AV :=
  if b < 0 then none else
  match op with
  | .shl => some (.int k (k.wrap (a * 2 ^ (min b.toNat k.bits))))
  | .shr => some (.int k (a.fdiv (2 ^ (min b.toNat k.bits))))
  | _ => none
def fltBin (op : BinOp) (a b : Nat) : Option AV :=
  match op with
  | .add => some (.flt (fadd a b))
  | .sub => some (.flt (fsub a b))
  | .mul => some (.flt (fmul a b))
  | .quo => some (.flt (fdiv a b))
  | .eql => some (.bool (feq a b))
  | .neq => some (.bool (!feq a b))
  | .lss => some (.bool (flt a b))
  | .leq => some (.bool (fle a b))
  | .gtr => some (.bool (fgt a b))
  | .geq => some (.bool (fge a b))
  | _ => none
def cpxBin (op : BinOp) (a b c d : Nat) : Option AV :=
  match op with
  | .add => some (.cpx (fadd a c) (fadd b d))
  | .sub => some (.cpx (fsub a c) (fsub b d))
  | .mul => some (.cpx (fsub (fmul a c) (fmul b d)) (fadd (fmul a d) (fmul b c)))
  | .eql => some (.bool (feq a c && feq b d))
  | .neq => some (.bool (!(feq a c && feq b d)))
  | _ => none
def strBin (op : BinOp) (a b : ByteArray) : Option AV :=
  match op with
  | .add => if a.size + b.size ≤ 9223372036854775807 then some (.str (a ++ b)) else none
  | .eql => some (.bool (a.toList == b.toList))
  | .neq => some (.bool (!(a.toList == b.toList)))
  | .lss => some (.bool (Op.bytesLess a.toList b.toList))
  | .leq => some (.bool (Op.bytesLess a.toList b.toList || a.toList == b.toList))
  | .gtr => some (.bool (!(Op.bytesLess a.toList b.toList || a.toList == b.toList)))
  | .geq => some (.bool (!Op.bytesLess a.toList b.toList))
  | _ => none

/-- what is compared by '==' beside numbers: bools; a slice, a function, a pointer against nil. -/
inductive EqK where
  | plain | bool | slice | func | ptr
  deriving DecidableEq
def nilSl : AV → Option Bool
  | .nils => some true
  | .slc _ _ _ _ (_ + 1) _ => some false
  | .lst _ (_ :: _) => some false
  | _ => none
def nilFn : AV → Option Bool
  | .v .nilFunc => some true
  | .fn .. => some false
  | _ => none
def nilPt : AV → Option Bool
  | .v (.pointer none) => some true
  | .ptr .. => some false
  | .imm .. => some false
  | _ => none
def eqBin (k : EqK) (x y : AV) : Option Bool :=
  match k with
  | .plain => none
  | .bool => match x, y with | .v (.bool a), .v (.bool b) => some (a == b) | _, _ => none
  | .slice => match y with | .nils => nilSl x | _ => match x with | .nils => nilSl y | _ => none
  | .func => match y with | .v .nilFunc => nilFn x | _ => match x with | .v .nilFunc => nilFn y | _ => none
  | .ptr => match y with | .v (.pointer none) => nilPt x | _ => match x with | .v (.pointer none) => nilPt y | _ => none
def binSem (op : BinOp) (e : EqK) (x y : AV) : Option AV :=
  match x, y with
  | .v (.int k a), .v (.int k' b) =>
    match op with
    | .shl | .shr => shiftBin op k a b
    | _ => if k = k' then intBin op k a b else none
  | .flt a, .flt b => fltBin op a b
  | .cpx a b, .cpx c d => cpxBin op a b c d
  | .v (.string a), .v (.string b) => strBin op a b
  | x, y =>
    match op with
    | .eql => (eqBin e x y).map AV.bool
    | .neq => (eqBin e x y).map (fun b => AV.bool (!b))
    | _ => none
def unSem (op : UnOp) (x : AV) : Option AV :=
  match op, x with
  | .neg, .v (.int k n) => some (.int k (k.wrap (0 - n)))
  | .xor, .v (.int k n) => some (.int k (k.wrap ((BitVec.ofInt k.bits (if k.signed then -1 else k.max) ^^^ BitVec.ofInt k.bits n).toNat)))
  | .neg, .flt a => some (.flt (fneg a))
  | .neg, .cpx a b => some (.cpx (fneg a) (fneg b))
  | .not, .v (.bool b) => some (.bool (!b))
  | _, _ => none

inductive ConvK where
  | toInt (k : IntKind) | toFlt | str
  deriving DecidableEq
def convSem (c : ConvK) (x : AV) : Option AV :=
  match c, x with
  | .toInt k, .v (.int _ n) => some (.int k (k.wrap n))
  | .toInt k, .flt a => (ftoInt a k).map (AV.int k)
  | .toFlt, .v (.int _ n) => some (.flt (fofInt n))
  | .toFlt, .flt a => some (.flt a)
  | .str, .v (.string s) => some (.str s)
  | _, _ => none

inductive BiK where
  | real | imag | complex | max | min | lenS | lenArr (n : Nat) | lenStr
  deriving DecidableEq
def max2A : AV → AV → Option AV
  | .v (.int k a), .v (.int k' b) => some (.int k (if b > a then b else a))
  | .flt a, .flt b => some (.flt (fmax2 a b))
  | _, _ => none
def min2A : AV → AV → Option AV
  | .v (.int k a), .v (.int k' b) => some (.int k (if b < a then b else a))
  | .flt a, .flt b => some (.flt (fmin2 a b))
  | _, _ => none
def foldA (f : AV → AV → Option AV) : AV → List AV → Option AV
  | a, [] => some a
  | a, b :: r => (f a b).bind fun c => foldA f c r
def biSem (k : BiK) (xs : List AV) : Option AV :=
  match k, xs with
  | .real, [.cpx a _] => some (.flt a)
  | .imag, [.cpx _ b] => some (.flt b)
  | .complex, [.flt a, .flt b] => some (.cpx a b)
  | .max, x :: r => foldA max2A x r
  | .min, x :: r => foldA min2A x r
  | .lenS, [.nils] => some (.int .i64 0)
  | .lenS, [.slc _ _ _ _ n _] => some (.int .i64 n)
  | .lenS, [.lst _ els] => some (.int .i64 els.length)
  | .lenArr n, [_] => some (.int .i64 n)
  | .lenStr, [.v (.string s)] => some (.int .i64 s.size)
  | _, _ => none

inductive ExtK where
  | bits | frombits | fint (way : Ieee.Toward)
  deriving DecidableEq
def extSem (k : ExtK) (xs : List AV) : Option AV :=
  match k, xs with
  | .bits, [.flt a] => if isNaN a then none else some (.int .u64 a)
  | .frombits, [.v (.int .u64 n)] => some (.flt (canon n.toNat))
  | .fint way, [.flt a] => some (.flt (fint way a))
  | _, _ => none

/-! ### cells -/
def cellsOf : AV → List AV
  | .agg cs => cs
  | x => [x]
/-- 'n' cells out of a list from place 'off' on, as a value. -/
def takeCells (agg : Bool) (n : Nat) (cs : List AV) (off : Nat) : Option AV :=
  if agg then (if off + n ≤ cs.length then some (.agg ((cs.drop off).take n)) else none)
  else cs[off]?
def putCells (cs : List AV) (off : Nat) (new : List AV) : List AV := cs.take off ++ new ++ cs.drop (off + new.length)
def allCell : List AV → Bool
  | [] => true
  | a :: r => a.cell && allCell r
def fillParts (cs : List AV) : List (Nat × Nat × AV) → Option (List AV)
  | [] => some cs
  | (off, size, x) :: r =>
    if (cellsOf x).length = size ∧ off + size ≤ cs.length ∧ allCell (cellsOf x) = true then fillParts (putCells cs off (cellsOf x)) r else none

def idx (i : AV) (n : Nat) : Option Nat :=
  match i with
  | .v (.int _ k) => if 0 ≤ k ∧ k < n then some k.toNat else none
  | _ => none
def bnd (i : Option AV) (dflt most : Nat) : Option Nat :=
  match i with
  | none => some dflt
  | some (.v (.int _ k)) => if 0 ≤ k ∧ k ≤ most then some k.toNat else none
  | _ => none
end Go.Proofs.Ytnphdnokedhhkaa.Fw
namespace Go.Proofs.Ytnphdnokedhhkaa.Fw
open Go

inductive Opd where
  | t (n : Nat)
  | k (a : AV)
def Opd.ev (e : Env) : Opd → AV
  | .t n => e.get n
  | .k a => a

inductive MOp where
  | mov (x : Opd)
  | pick (c a b : Opd)
  | alloc (zero : List AV) (leaf : Bool)
  | box (n : Nat) (leaf : Bool) (x : Opd)
  | build (zero : List AV) (parts : List (Nat × Nat × Opd))
  | mkslice (z len : Nat) (zero : List AV) (leaf : Bool) (parts : List (Nat × Opd))
  | load (agg : Bool) (n : Nat) (a : Opd)
  | store (n : Nat) (a x : Opd)
  | nilck (x : Opd)
  | bin (op : BinOp) (e : EqK) (x y : Opd)
  | un (op : UnOp) (x : Opd)
  | conv (c : ConvK) (x : Opd)
  | mkfn (f : Fn) (a b : List Opd)
  | make (z bytes : Nat) (zero : List AV) (leaf : Bool) (len cap : Opd)
  | slice (z : Option Nat) (x : Opd) (lo hi mx : Option Opd)
  | faddr (off : Nat) (x : Opd)
  | field (agg : Bool) (n off : Nat) (x : Opd)
  | iaddr (z : Nat) (arr : Option Nat) (x i : Opd)
  | index (z len : Nat) (agg : Bool) (x i : Opd)
  | indexS (x i : Opd)
  | ext (x : Opd) (i : Nat)
  | bi (k : BiK) (xs : List Opd)
  | extern (k : ExtK) (xs : List Opd)
  | append (z bytes : Nat) (leaf : Bool) (s x : Opd)
  | copy (z : Nat) (s x : Opd)
  | call (f : FuncId) (xs : List Opd)
  | callv (x : Opd) (xs : List Opd)
  | bad

def Opd.evs (e : Env) : List Opd → List AV
  | [] => []
  | x :: r => x.ev e :: Opd.evs e r

/-- what a ref reads, if it is not stale -/
def Heap.row (H : Heap) (s : Site) (st : List Nat) : Option Blk :=
  match H.get s with
  | some b => if b.st = st then some b else none
  | none => none

def evParts (e : Env) : List (Nat × Nat × Opd) → List (Nat × Nat × AV)
  | [] => []
  | (a, b, x) :: r => (a, b, x.ev e) :: evParts e r
def setEls (z : Nat) (els : List (List AV)) : List (Nat × AV) → Option (List (List AV))
  | [] => some els
  | (i, x) :: r => if (cellsOf x).length = z ∧ i < els.length ∧ allCell (cellsOf x) = true then setEls z (els.set i (cellsOf x)) r else none
def evPartsS (e : Env) : List (Nat × Opd) → List (Nat × AV)
  | [] => []
  | (a, x) :: r => (a, x.ev e) :: evPartsS e r
/-- the elements that a slice reads -/
def srcEls (H : Heap) : AV → Option (List (List AV))
  | .nils => some []
  | .lst _ els => some els
  | .slc s st _ off len _ =>
    match H.row s st with
    | some b => if off + len ≤ b.els.length then some ((b.els.drop off).take len) else none
    | none => none
  | _ => none
/-- elements of 'z' cells each, that may stand in memory -/
def lens (z : Nat) : List (List AV) → Bool
  | [] => true
  | e :: r => decide (e.length = z) && allCell e && lens z r
def optEv (e : Env) : Option Opd → Option AV
  | none => none
  | some x => some (x.ev e)

def sliceSem (z : Option Nat) (x : AV) (lo hi mx : Option AV) : Option AV :=
  match x with
  | .slc s st z' off len full =>
    if z = some z' then
    match bnd mx len len with
    | none => none
    | some m =>
      match bnd hi len (if mx.isSome then m else len) with
      | none => none
      | some h =>
        match bnd lo 0 h with
        | none => none
        | some l => some (.slc s st z' (off + l) (h - l) (if mx.isSome then decide (m = h) else full && decide (h = len)))
    else none
  | .lst z' els =>
    if z = some z' then
    match bnd mx els.length els.length with
    | none => none
    | some m =>
      match bnd hi els.length (if mx.isSome then m else els.length) with
      | none => none
      | some h =>
        match bnd lo 0 h with
        | none => none
        | some l => some (.lst z' ((els.take h).drop l))
    else none
  | .nils =>
    if z.isNone then none else
    match bnd mx 0 0, bnd hi 0 0, bnd lo 0 0 with
    | some _, some _, some _ => some .nils
    | _, _, _ => none
  | .v (.string s) =>
    if z.isSome || mx.isSome then none else
    match bnd hi s.size s.size with
    | none => none
    | some h =>
      match bnd lo 0 h with
      | none => none
      | some l => some (.str (s.extract l h))
  | _ => none

/-- 2^47 -/
def most : Nat := 140737488355328
/-- slots and places that may hold nil slices at a loop's head: the slot; if it points at a place, the cell there; cells and leaf of an element -/
abbrev VN := List (Nat × Option Nat × Nat × Bool)
/-- is there room for so many elements of so many bytes, when a list grows to them? -/
abbrev roomOk (need bytes : Nat) : Prop := need * bytes ≤ most ∨ (1000000 ≤ need ∧ 13 * (need * bytes) ≤ 2814749767106560)

/-- one operation that is no call: its value, the memory behind it. 'own': where what it makes lies; 'st': its stamp. -/
def opSem (own : Site) (st : List Nat) (m : MOp) (e : Env) (H : Heap) : Option (AV × Heap) :=
  match m with
  | .mov x => some (x.ev e, H)
  | .pick c a b =>
    match c.ev e with
    | .v (.bool true) => some (a.ev e, H)
    | .v (.bool false) => some (b.ev e, H)
    | _ => none
  | .alloc zero leaf => some (.ptr own st 0 0, H.set own ⟨st, [zero], zero.length, leaf⟩)
  | .box n leaf x =>
    if (cellsOf (x.ev e)).length = n ∧ allCell (cellsOf (x.ev e)) = true ∧ (leaf = true → dryL (cellsOf (x.ev e)) = true) then
      some (.ptr own st 0 0, H.set own ⟨st, [cellsOf (x.ev e)], n, leaf⟩) else none
  | .build zero parts => (fillParts zero (evParts e parts)).map fun cs => (.agg cs, H)
  | .mkslice z len zero leaf parts =>
    match setEls z (List.replicate len zero) (evPartsS e parts) with
    | none => none
    | some els => if leaf = true → dryEls els = true then some (.slc own st z 0 len true, H.set own ⟨st, els, z, leaf⟩) else none
  | .load agg n a =>
    match a.ev e with
    | .ptr s st' i off =>
      match H.row s st' with
      | none => none
      | some b =>
        match b.els[i]? with
        | none => none
        | some cs => (takeCells agg n cs off).map fun v => (v, H)
    | .imm cs => (takeCells agg n cs 0).map fun v => (v, H)
    | _ => none
  | .store n a x =>
    match a.ev e with
    | .ptr s st' i off =>
      match H.row s st' with
      | none => none
      | some b =>
        match b.els[i]? with
        | none => none
        | some cs =>
          if (cellsOf (x.ev e)).length = n ∧ off + n ≤ cs.length ∧ allCell (cellsOf (x.ev e)) = true ∧ (b.leaf = true → dryL (cellsOf (x.ev e)) = true) then
            some (.junk, H.set s ⟨b.st, b.els.set i (putCells cs off (cellsOf (x.ev e))), b.z, b.leaf⟩) else none
    | _ => none
  | .nilck x =>
    match x.ev e with
    | .ptr s a b c => some (.ptr s a b c, H)
    | .imm cs => some (.imm cs, H)
    | .fn (.func f) a b => some (.fn (.func f) a b, H)
    | _ => none
  | .bin op k x y => (binSem op k (x.ev e) (y.ev e)).map fun v => (v, H)
  | .un op x => (unSem op (x.ev e)).map fun v => (v, H)
  | .conv c x => (convSem c (x.ev e)).map fun v => (v, H)
  | .mkfn f a b => some (.fn f (Opd.evs e a) (Opd.evs e b), H)
  | .make z bytes zero leaf len cap =>
    match len.ev e, cap.ev e with
    | .v (.int .i64 l), .v (.int .i64 c) =>
      if 0 ≤ l ∧ l ≤ c ∧ c.toNat * bytes ≤ most ∧ c.toNat ≤ most then
        some (.slc own st z 0 l.toNat (decide (l = c)), H.set own ⟨st, List.replicate l.toNat zero, z, leaf⟩) else none
    | _, _ => none
  | .slice z x lo hi mx => (sliceSem z (x.ev e) (optEv e lo) (optEv e hi) (optEv e mx)).map fun v => (v, H)
  | .faddr off x =>
    match x.ev e with
    | .ptr s a i o => some (.ptr s a i (o + off), H)
    | .imm cs => some (.imm (cs.drop off), H)
    | _ => none
  | .field agg n off x =>
    match x.ev e with
    | .agg cs => (takeCells agg n cs off).map fun v => (v, H)
    | _ => none
  | .iaddr z arr x i =>
    match x.ev e with
    | .ptr s a j o =>
      match arr with
      | none => none
      | some n => (idx (i.ev e) n).map fun k => (.ptr s a j (o + k * z), H)
    | .imm cs =>
      match arr with
      | none => none
      | some n => (idx (i.ev e) n).map fun k => (.imm (cs.drop (k * z)), H)
    | .slc s a z' off len _ =>
      if arr.isSome then none else
      if z' = z then (idx (i.ev e) len).map fun k => (.ptr s a (off + k) 0, H) else none
    | .lst z' els =>
      if arr.isSome then none else
      match idx (i.ev e) els.length with
      | none => none
      | some k =>
        match els[k]? with
        | none => none
        | some cs => if z' = z then some (.imm cs, H) else none
    | _ => none
  | .index z len agg x i =>
    match x.ev e with
    | .agg cs =>
      match idx (i.ev e) len with
      | none => none
      | some k => (takeCells agg z cs (k * z)).map fun v => (v, H)
    | _ => none
  | .indexS x i =>
    match x.ev e with
    | .v (.string s) =>
      match idx (i.ev e) s.size with
      | none => none
      | some k => (s.data[k]?).map fun b => (.int .u8 b.toNat, H)
    | _ => none
  | .ext x i =>
    match x.ev e with
    | .tup vs => (vs[i]?).map fun v => (v, H)
    | _ => none
  | .bi k xs => (biSem k (Opd.evs e xs)).map fun v => (v, H)
  | .extern k xs => (extSem k (Opd.evs e xs)).map fun v => (v, H)
  | .append z bytes leaf s x =>
    match srcEls H (x.ev e) with
    | none => none
    | some new =>
      if lens z new = true ∧ (leaf = true → dryEls new = true) then
        match s.ev e with
        | .nils =>
          if new.length = 0 then some (.slc own st z 0 0 false, H.set own ⟨st, [], z, leaf⟩) else
          if roomOk new.length bytes then some (.slc own st z 0 new.length false, H.set own ⟨st, new, z, leaf⟩) else none
        | .slc s' st' z' off len full =>
          if new.length = 0 then (if full = true ∧ len = 0 then some (.slc own st z 0 0 false, H.set own ⟨st, [], z, leaf⟩) else some (.slc s' st' z' off len full, H)) else
          match H.row s' st' with
          | none => none
          | some b =>
            if b.z = z ∧ b.leaf = leaf ∧ (roomOk (len + new.length) bytes ∧ (len = 0 → roomOk new.length bytes)) ∧ off + len ≤ b.els.length then
              if full then some (.slc own st z 0 (len + new.length) false, H.set own ⟨st, (b.els.drop off).take len ++ new, z, leaf⟩)
              else if off = 0 ∧ len = b.els.length then some (.slc s' st z 0 (len + new.length) false, H.set s' ⟨st, b.els ++ new, z, leaf⟩)
              else none
            else none
        | _ => none
      else none
  | .copy z s x =>
    match srcEls H (x.ev e) with
    | none => none
    | some new =>
      match s.ev e with
      | .slc s' st' _ off len _ =>
        match H.row s' st' with
        | none => none
        | some b =>
          if 0 < min new.length len ∧ b.z = z ∧ lens z new = true ∧ (b.leaf = true → dryEls new = true) ∧ off + len ≤ b.els.length then
            some (.int .i64 (min new.length len), H.set s' ⟨b.st, b.els.take off ++ new.take (min new.length len) ++ b.els.drop (off + min new.length len), b.z, b.leaf⟩)
          else none
      | _ => none
  | .call .. => none
  | .callv .. => none
  | .bad => none

structure MO where
  dst : Option Nat
  op : MOp
  guard : Option (Nat × Bool)
  pre : List Nat

inductive MC where
  | skip
  | ops (l : List MO) (draw : Bool)
  | seq (a b : MC)
  | cond (c : Opd) (a b : MC)
  | block (id : Nat) (b : MC)
  | loop (live : List Nat) (vn : VN) (b : MC)
  | exit (id : Nat)
  | ret

inductive RV where
  | tmp (t : Nat)
  | cell (t n : Nat) (agg : Bool)

structure FnM where
  code : MC
  res : List RV
  inl : Bool
  vn : VN

structure Prog where
  fn : FuncId → Option FnM
  spec : FuncId → Option (List AV → Option AV)
  L : Nat

inductive Ex where
  | nrm | exit (id : Nat) | ret

structure St where
  env : Env
  H : Heap
  k : Nat

def optList {α β : Type} (f : α → Option β) : List α → Option (List β)
  | [] => some []
  | a :: r =>
    match f a with
    | none => none
    | some b =>
      match optList f r with
      | none => none
      | some l => some (b :: l)

/-- a value without refs, as memory now stands -/
def freeze (H : Heap) : Nat → AV → Option AV
  | 0, _ => none
  | n + 1, x =>
    match x with
    | .slc s st z off len _ =>
      match H.row s st with
      | none => none
      | some b =>
        if off + len ≤ b.els.length then
          if b.leaf then some (.lst z ((b.els.drop off).take len))
          else (optList (optList (freeze H n)) ((b.els.drop off).take len)).map (AV.lst z)
        else none
    | .ptr s st i off =>
      match H.row s st with
      | none => none
      | some b =>
        match b.els[i]? with
        | none => none
        | some cs => if b.leaf then some (.imm (cs.drop off)) else (optList (freeze H n) (cs.drop off)).map AV.imm
    | .agg cs => (optList (freeze H n) cs).map AV.agg
    | .tup vs => (optList (freeze H n) vs).map AV.tup
    | .fn f a b =>
      match optList (freeze H n) a, optList (freeze H n) b with
      | some a, some b => some (.fn f a b)
      | _, _ => none
    | .junk => none
    | .own .. => none
    | .ownp .. => none
    | x => some x

/-- a result: what lies at depth 'd' is handed out as rows of the caller's. 'all': nothing else that looks into memory. -/
def packC (all : Bool) (d : Nat) (H : Heap) (x : AV) : Option AV :=
  match x with
  | .slc s st z off len full =>
    if s.d = d then
      match H.row s st with
      | none => none
      | some b => if off = 0 ∧ len ≤ b.els.length ∧ (b.leaf || dryEls (b.els.take len)) = true then some (.own z (b.els.take len) b.leaf) else none
    else if all then none else some (.slc s st z off len full)
  | .ptr s st i off =>
    if s.d = d then
      match H.row s st with
      | none => none
      | some b =>
        match b.els with
        | [cs] => if i = 0 ∧ off = 0 ∧ (b.leaf || dryL cs) = true then some (.ownp cs b.leaf) else none
        | _ => none
    else if all then none else some (.ptr s st i off)
  | .agg _ => none
  | .tup _ => none
  | .junk => none
  | .own .. => none
  | .ownp .. => none
  | x => if all && !x.dry then none else some x
def packA (all : Bool) (d : Nat) (H : Heap) (x : AV) : Option AV :=
  match x with
  | .agg cs => (optList (packC all d H) cs).map AV.agg
  | x => packC all d H x
def packT (all : Bool) (d : Nat) (H : Heap) (x : AV) : Option AV :=
  match x with
  | .tup vs => (optList (packA all d H) vs).map AV.tup
  | x => packA all d H x

/-- the caller's own places for what it was handed -/
def thawC (d t : Nat) (st : List Nat) (j : Nat) (H : Heap) (x : AV) : AV × Nat × Heap :=
  match x with
  | .own z els leaf => (.slc ⟨d, t, j⟩ ((j + 1) :: st) z 0 els.length false, j + 1, H.set ⟨d, t, j⟩ ⟨(j + 1) :: st, els, z, leaf⟩)
  | .ownp cs leaf => (.ptr ⟨d, t, j⟩ ((j + 1) :: st) 0 0, j + 1, H.set ⟨d, t, j⟩ ⟨(j + 1) :: st, [cs], cs.length, leaf⟩)
  | x => (x, j, H)
def thawL (f : Nat → Heap → AV → AV × Nat × Heap) : Nat → Heap → List AV → List AV × Nat × Heap
  | j, H, [] => ([], j, H)
  | j, H, x :: r =>
    match f j H x with
    | (y, j, H) =>
      match thawL f j H r with
      | (l, j, H) => (y :: l, j, H)
def thawA (d t : Nat) (st : List Nat) (j : Nat) (H : Heap) (x : AV) : AV × Nat × Heap :=
  match x with
  | .agg cs => match thawL (thawC d t st) j H cs with | (l, j, H) => (.agg l, j, H)
  | x => thawC d t st j H x
def thawT (d t : Nat) (st : List Nat) (H : Heap) (x : AV) : AV × Heap :=
  match x with
  | .tup vs => match thawL (thawA d t st) 0 H vs with | (l, _, H) => (.tup l, H)
  | x => match thawA d t st 0 H x with | (y, _, H) => (y, H)

def refsOf (H : Heap) : List Site → List Site
  | [] => []
  | s :: r => (match H.get s with | some b => b.refs | none => []) ++ refsOf H r
def reach (H : Heap) : Nat → List Site → List Site
  | 0, l => l
  | n + 1, l => l ++ reach H n (refsOf H l)
/-- the part of memory that a list of places names -/
def consH (H : Heap) (s : Site) (G : Heap) : Heap :=
  match H.get s with
  | some b => if (G.get s).isSome then G else (s, b) :: G
  | none => G
def cutH (H : Heap) : List Site → Heap
  | [] => []
  | s :: r => consH H s (cutH H r)
/-- the places of 'G', as they stand in 'H1', put into 'H' -/
def putBack (H1 : Heap) : Heap → Heap → Option Heap
  | [], H => some H
  | (s, _) :: r, H =>
    match H1.get s with
    | some b => putBack H1 r (H.set s b)
    | none => none
def inAll (G : Heap) (l : List Site) : Bool := l.all fun s => (G.get s).isSome
/-- what a call in the caller's memory is handed -/
def handed (H : Heap) (args : List AV) : List Site := reach H 4 (AV.refsL args)

def flatA : AV → Bool
  | .agg cs => dryL cs
  | x => x.dry
def flatAs : List AV → Bool
  | [] => true
  | a :: r => flatA a && flatAs r
def flatT : AV → Bool
  | .tup vs => flatAs vs
  | x => flatA x
def distinct : List Site → Bool
  | [] => true
  | s :: r => decide (s ∉ r) && distinct r

/-- how functions are called: depth, stamps' prefix, function, arguments, memory -/
abbrev Caller := Nat → List Nat → FuncId → List AV → Heap → Option (AV × Heap)

def callIn (P : Prog) (C : Caller) (inl : Bool) (d t : Nat) (st : List Nat) (f : FuncId) (args : List AV) (H : Heap) : Option (AV × Heap) :=
  match P.spec f with
  | some g =>
    match optList (freeze H 8) args with
    | none => none
    | some as =>
      match g as with
      | none => none
      | some r => if r.refs.isEmpty then some (thawT d t st H r) else none
  | none =>
    if inl then
      match C (d + 1) (0 :: st) f args (cutH H (handed H args)) with
      | none => none
      | some (r, H') =>
        if distinct r.refs then
          match packT false (d + 1) H' r with
          | none => none
          | some r =>
            if inAll (cutH H (handed H args)) r.refs then
              match putBack H' (cutH H (handed H args)) H with
              | none => none
              | some H => some (thawT d t st H r)
            else none
        else none
    else
      match optList (freeze H 8) args with
      | none => none
      | some as =>
        match C 0 [] f as [] with
        | none => none
        | some (r, H') =>
          if distinct r.refs then
            match packT true 0 H' r with
            | none => none
            | some r => some (thawT d t st H r)
          else none

def inlOf (P : Prog) (f : FuncId) : Bool :=
  match P.spec f with
  | some _ => false
  | none => match P.fn f with | some fm => fm.inl | none => false

/-- where an append puts a new list: a second place, if the first is taken -/
def altOf (d : Nat) (dst : Option Nat) (H : Heap) : Nat :=
  match H.get ⟨d, dst.getD 0, 0⟩ with
  | none => 0
  | some _ => 1
def stepOp (P : Prog) (C : Caller) (d : Nat) (st : List Nat) (o : MO) (e : Env) (H : Heap) : Option (AV × Heap) :=
  match o.op with
  | .call f xs => callIn P C (inlOf P f) d (o.dst.getD 0) st f (Opd.evs e xs) H
  | .callv x xs =>
    match x.ev e with
    | .fn (.func f) a b => callIn P C (inlOf P f) d (o.dst.getD 0) st f (a ++ Opd.evs e xs ++ b) H
    | _ => none
  | .append z b l s x => opSem ⟨d, o.dst.getD 0, altOf d o.dst H⟩ st (.append z b l s x) e H
  | m => opSem ⟨d, o.dst.getD 0, 0⟩ st m e H

def putD (e : Env) (dst : Option Nat) (v : AV) : Env :=
  match dst with
  | some t => (t, v) :: e
  | none => e

/-- is it to be carried out? 'none': it can't be told. -/
def guardOf (e : Env) : Option (Nat × Bool) → Option Bool
  | none => some true
  | some (t, want) =>
    match e.get t with
    | .v (.bool b) => some (b == want)
    | .v (.tuple _) => some false
    | _ => none

def evOps (P : Prog) (C : Caller) (d : Nat) (π : List Nat) : List MO → St → Option St
  | [], s => some s
  | o :: r, s =>
    match guardOf s.env o.guard with
    | none => none
    | some false => evOps P C d π r ⟨putD s.env o.dst (.v undef), s.H, s.k + 1⟩
    | some true =>
      match stepOp P C d (s.k :: π) o s.env s.H with
      | none => none
      | some (v, H) => evOps P C d π r ⟨putD s.env o.dst v, H, s.k + 1⟩

def Opd.tmps : Opd → List Nat
  | .t n => [n]
  | .k _ => []
def optTmps : Option Opd → List Nat
  | some x => x.tmps
  | none => []
def MOp.uses : MOp → List Nat
  | .mov x | .box _ _ x | .load _ _ x | .nilck x | .un _ x | .conv _ x | .faddr _ x | .field _ _ _ x | .ext x _ => x.tmps
  | .pick c a b => c.tmps ++ a.tmps ++ b.tmps
  | .alloc .. | .bad => []
  | .build _ ps => ps.flatMap fun p => p.2.2.tmps
  | .mkslice _ _ _ _ ps => ps.flatMap fun p => p.2.tmps
  | .store _ a x | .bin _ _ a x | .make _ _ _ _ a x | .iaddr _ _ a x | .index _ _ _ a x | .indexS a x | .append _ _ _ a x | .copy _ a x => a.tmps ++ x.tmps
  | .mkfn _ a b => a.flatMap Opd.tmps ++ b.flatMap Opd.tmps
  | .slice _ x l h m => x.tmps ++ optTmps l ++ optTmps h ++ optTmps m
  | .bi _ xs | .extern _ xs | .call _ xs => xs.flatMap Opd.tmps
  | .callv x xs => x.tmps ++ xs.flatMap Opd.tmps
def MO.uses (o : MO) : List Nat := (match o.guard with | some (t, _) => [t] | none => []) ++ o.op.uses

/-! ### operations in no set order -/
def siteOf : AV → List Site
  | .ptr s .. => [s]
  | .slc s .. => [s]
  | _ => []
/-- where 'freeze' looks -/
def freezeR (H : Heap) : Nat → AV → List Site
  | 0, _ => []
  | n + 1, x =>
    match x with
    | .slc s st _ off len _ => s :: (match H.row s st with | none => [] | some b => if b.leaf then [] else ((b.els.drop off).take len).flatMap fun cs => cs.flatMap (freezeR H n))
    | .ptr s st i off => s :: (match H.row s st with | none => [] | some b => match b.els[i]? with | none => [] | some cs => if b.leaf then [] else (cs.drop off).flatMap (freezeR H n))
    | .agg cs => cs.flatMap (freezeR H n)
    | .tup vs => vs.flatMap (freezeR H n)
    | .fn _ a b => a.flatMap (freezeR H n) ++ b.flatMap (freezeR H n)
    | _ => []
/-- which places an operation reads; 'none': it can't be told -/
def footR (P : Prog) (d : Nat) (o : MO) (e : Env) (H : Heap) : Option (List Site) :=
  match o.op with
  | .load _ _ a => some (siteOf (a.ev e))
  | .store _ a _ => some (siteOf (a.ev e))
  | .append _ _ _ s x => some (⟨d, o.dst.getD 0, 0⟩ :: (siteOf (s.ev e) ++ siteOf (x.ev e)))
  | .copy _ s x => some (siteOf (s.ev e) ++ siteOf (x.ev e))
  | .call f xs => if inlOf P f then some (handed H (Opd.evs e xs)) else some ((Opd.evs e xs).flatMap (freezeR H 8))
  | .callv x xs =>
    match x.ev e with
    | .fn (.func f) a b => if inlOf P f then some (handed H (a ++ Opd.evs e xs ++ b)) else some ((a ++ Opd.evs e xs ++ b).flatMap (freezeR H 8))
    | _ => none
  | _ => some []
/-- which places it writes -/
def footW (P : Prog) (own : Site) (o : MO) (e : Env) (H : Heap) (v : AV) : List Site :=
  match o.op with
  | .alloc .. | .box .. | .mkslice .. | .make .. => [own]
  | .append .. => siteOf v
  | .store _ a _ => siteOf (a.ev e)
  | .copy _ s _ => siteOf (s.ev e)
  | .call f xs => (if inlOf P f then handed H (Opd.evs e xs) else []) ++ v.refs
  | .callv x xs =>
    match x.ev e with
    | .fn (.func f) a b => (if inlOf P f then handed H (a ++ Opd.evs e xs ++ b) else []) ++ v.refs
    | _ => []
  | _ => []
/-- one operation as it was carried out in the text's order -/
structure Tr where
  mo : MO
  on : Bool
  e : Env
  H : Heap
  v : AV
  H' : Heap
  R : List Site
  W : List Site
def evTrace (P : Prog) (C : Caller) (d : Nat) (π : List Nat) : List MO → St → Option (List Tr × St)
  | [], s => some ([], s)
  | o :: r, s =>
    match guardOf s.env o.guard with
    | none => none
    | some false =>
      match evTrace P C d π r ⟨putD s.env o.dst (.v undef), s.H, s.k + 1⟩ with
      | none => none
      | some (l, s') => some (⟨o, false, s.env, s.H, .v undef, s.H, [], []⟩ :: l, s')
    | some true =>
      match footR P d o s.env s.H with
      | none => none
      | some R =>
        match stepOp P C d (s.k :: π) o s.env s.H with
        | none => none
        | some (v, H) =>
          match evTrace P C d π r ⟨putD s.env o.dst v, H, s.k + 1⟩ with
          | none => none
          | some (l, s') => some (⟨o, true, s.env, s.H, v, H, R, footW P ⟨d, o.dst.getD 0, 0⟩ o s.env s.H v⟩ :: l, s')
def apartS (a b : List Site) : Bool := a.all fun s => decide (s ∉ b)
/-- neither minds whether the other went first -/
def Tr.clear (a b : Tr) : Bool :=
  apartS a.W b.R && apartS a.W b.W && apartS b.W a.R &&
  (match a.mo.dst with
   | some t => decide (t ∉ b.mo.uses) && decide (b.mo.dst ≠ some t)
   | none => true) &&
  (match b.mo.dst with
   | some t => decide (t ∉ a.mo.uses)
   | none => true)
def indepAt (a : Tr) (i : Nat) : List Tr → Bool
  | [] => true
  | b :: r => (decide (i ∈ b.mo.pre) || a.clear b) && indepAt a i r
def indep : Nat → List Tr → Bool
  | _, [] => true
  | i, a :: r => indepAt a i r && indep (i + 1) r
def evDraw (P : Prog) (C : Caller) (d : Nat) (π : List Nat) (l : List MO) (s : St) : Option St :=
  match evTrace P C d π l s with
  | some (tr, s') => if indep 0 tr then some s' else none
  | none => none

def liveEnv (e : Env) : List Nat → Env
  | [] => []
  | t :: r => (t, e.get t) :: liveEnv e r
def keepSites (d : Nat) (l : List Site) : Heap → Heap
  | [] => []
  | (s, b) :: r => if s.d < d ∨ s ∈ l then (s, b) :: keepSites d l r else keepSites d l r
def prune (d : Nat) (live : List Nat) (s : St) : St :=
  let e := liveEnv s.env live
  ⟨e, keepSites d (reach s.H 3 (refsEnv e)) s.H, 0⟩

def evLoop (body : List Nat → St → Option (Ex × St)) (d : Nat) (live : List Nat) (π : List Nat) : Nat → Nat → St → Option (Ex × St)
  | 0, _, _ => none
  | n + 1, j, s =>
    match body (j :: π) (prune d live s) with
    | some (.nrm, s) => evLoop body d live π n (j + 1) s
    | r => r

/-- a nil slice at a loop's head as an empty list of ours -/
def vnOf : VN → Nat → Option Nat → Option (Nat × Bool)
  | [], _, _ => none
  | (t, o, z, l) :: r, t', o' =>
    match Nat.beq t t', o, o' with
    | true, none, none => some (z, l)
    | true, some a, some b => if Nat.beq a b then some (z, l) else vnOf r t' o'
    | _, _, _ => vnOf r t' o'
/-- the place of such a list -/
def vSite (d t : Nat) (o : Option Nat) : Site := ⟨d, t, match o with | none => 1000 | some a => 1001 + a⟩
def isNils : AV → Bool
  | .nils => true
  | _ => false
/-- slots -/
def coerE (d : Nat) (st : List Nat) : VN → Env → Heap → Env × Heap
  | [], e, H => (e, H)
  | (t, none, z, l) :: r, e, H =>
    match isNils (e.get t), H.get (vSite d t none) with
    | true, none => coerE d st r ((t, .slc (vSite d t none) st z 0 0 false) :: e) ((vSite d t none, ⟨st, [], z, l⟩) :: H)
    | _, _ => coerE d st r e H
  | (t, some off, z, l) :: r, e, H =>
    match e.get t with
    | .ptr s st' 0 0 =>
      match H.row s st' with
      | some ⟨bst, [cs], bz, false⟩ =>
        match cs[off]? with
        | some c =>
          match isNils c, H.get (vSite d t (some off)) with
          | true, none => coerE d st r e ((vSite d t (some off), ⟨st, [], z, l⟩) :: H.set s ⟨bst, [cs.set off (.slc (vSite d t (some off)) st z 0 0 false)], bz, false⟩)
          | _, _ => coerE d st r e H
        | none => coerE d st r e H
      | _ => coerE d st r e H
    | _ => coerE d st r e H
def coer (d : Nat) (st : List Nat) (vn : VN) (s : St) : St := ⟨(coerE d st vn s.env s.H).1, (coerE d st vn s.env s.H).2, s.k⟩
/-- a loop's last state: what lives behind it -/
def outP (d : Nat) (live : List Nat) (x : Ex) (s : St) : St :=
  match x with
  | .exit _ => prune d live s
  | _ => s

def evC (P : Prog) (C : Caller) (d : Nat) : MC → List Nat → St → Option (Ex × St)
  | .skip, _, s => some (.nrm, s)
  | .ops l false, π, s => (evOps P C d π l s).map fun s => (.nrm, s)
  | .ops l true, π, s => (evDraw P C d π l s).map fun s => (.nrm, s)
  | .seq a b, π, s =>
    match evC P C d a π s with
    | some (.nrm, s) => evC P C d b π s
    | r => r
  | .cond c a b, π, s =>
    match c.ev s.env with
    | .v (.bool true) => evC P C d a π s
    | .v (.bool false) => evC P C d b π s
    | _ => none
  | .block id b, π, s =>
    match evC P C d b π s with
    | some (.exit i, s) => if i = id then some (.nrm, s) else some (.exit i, s)
    | r => r
  | .loop live vn b, π, s =>
    match evLoop (evC P C d b) d live (s.k :: π) P.L 0 (coer d (s.k :: π) vn (prune d live s)) with
    | some (x, s') => some (x, ⟨(outP d live x s').env, (outP d live x s').H, s.k + 1⟩)
    | none => none
  | .exit i, _, s => some (.exit i, s)
  | .ret, _, s => some (.ret, s)

def argEnv : Nat → List AV → Env
  | _, [] => []
  | i, a :: r => (i, a) :: argEnv (i + 1) r

def resOne (s : St) : RV → Option AV
  | .tmp t => some (s.env.get t)
  | .cell t n agg =>
    match s.env.get t with
    | .ptr a st i off =>
      match s.H.row a st with
      | none => none
      | some b =>
        match b.els[i]? with
        | none => none
        | some cs => takeCells agg n cs off
    | _ => none
def resOf (s : St) (l : List RV) : Option AV :=
  match optList (resOne s) l with
  | some [x] => some x
  | some xs => some (.tup xs)
  | none => none

def runF (P : Prog) : Nat → Caller
  | 0, _, _, _, _, _ => none
  | n + 1, d, π, f, args, H =>
    match P.fn f with
    | none => none
    | some fm =>
      match evC P (runF P n) d fm.code π ⟨argEnv 0 args, H, 0⟩ with
      | some (.nrm, s) | some (.ret, s) => (resOf s fm.res).map fun r => (r, s.H)
      | _ => none

/-- A call by values alone: what it returns. -/
def den (P : Prog) (n : Nat) (f : FuncId) (args : List AV) : Option AV :=
  match runF P n 0 [] f args [] with
  | some (r, H) => if distinct r.refs then packT true 0 H r else none
  | none => none
end Go.Proofs.Ytnphdnokedhhkaa.Fw
namespace Go.Proofs.Ytnphdnokedhhkaa.Fw
open Go

def absV : Value → Option AV
  | .bool b => some (.v (.bool b))
  | .int k n => some (.v (.int k n))
  | .string s => some (.v (.string s))
  | .float .f64 b => some (.flt (canon b))
  | .complex .f64 a b => some (.cpx (canon a) (canon b))
  | .slice none 0 0 => some .nils
  | .pointer none => some (.v (.pointer none))
  | .nilFunc => some (.v .nilFunc)
  | .nilIface => some (.v .nilIface)
  | .map none => some (.v (.map none))
  | _ => none
def absL : List Value → Option (List AV)
  | [] => some []
  | v :: r =>
    match absV v, absL r with
    | some a, some l => some (a :: l)
    | _, _ => none
def absC : Value → Option AV
  | .agg cs => (absL cs.toList).map AV.agg
  | .func (.func f) a b => if a.size = 0 ∧ b.size = 0 then some (.fn (.func f) [] []) else none
  | v => absV v
/-- can the cell hold no ref, whatever stands in it? -/
def leafV : Value → Bool
  | .bool _ | .int .. | .string _ | .float .. | .complex .. => true
  | _ => false
def leafL : List Value → Bool
  | [] => true
  | v :: r => leafV v && leafL r

section
variable (P : Program)
def tyZero (t : TypeId) : Option (List Value) :=
  match P.info? t with
  | some i => (i.zero).map fun z => z.cells.toList
  | none => none
def tySize (t : TypeId) : Option Nat := (P.info? t).map (·.size)
def tyBytes (t : TypeId) : Option Nat := (P.info? t).map (·.bytes)
def tyAgg (t : TypeId) : Option Bool :=
  match P.underlying t with
  | some (.struct _) | some (.array _ _) => some true
  | some _ => some false
  | none => none
/-- is it one value of several cells, and of how many? -/
def tyLoad (t : TypeId) : Option (Bool × Nat) :=
  match tyAgg P t, tySize P t with
  | some b, some n => some (b, n)
  | _, _ => none

def opd : Operand → Option Opd
  | .tmp t => some (.t t)
  | .const v => (absC v).map Opd.k
  | .func f => some (.k (.fn (.func f) [] []))
  | .global _ => none
def opds : List Operand → Option (List Opd)
  | [] => some []
  | x :: r =>
    match opd x, opds r with
    | some a, some l => some (a :: l)
    | _, _ => none
def opdO : Option Operand → Option (Option Opd)
  | none => some none
  | some x => (opd x).map some

/-- where each field lies, and its cells -/
def structPlaces : List Field → Option (List (Nat × Nat))
  | [] => some []
  | f :: r =>
    match tySize P f.type, structPlaces r with
    | some n, some l => some ((f.offset, n) :: l)
    | _, _ => none
def structParts (ps : List (Nat × Nat)) : List (Nat × Operand) → Option (List (Nat × Nat × Opd))
  | [] => some []
  | (i, x) :: r =>
    match ps[i]? with
    | none => none
    | some (off, n) =>
      match opd x, structParts ps r with
      | some a, some l => some ((off, n, a) :: l)
      | _, _ => none
def arrParts (z : Nat) : List (Nat × Operand) → Option (List (Nat × Nat × Opd))
  | [] => some []
  | (i, x) :: r =>
    match opd x, arrParts z r with
    | some a, some l => some ((i * z, z, a) :: l)
    | _, _ => none
def slParts : List (Nat × Operand) → Option (List (Nat × Opd))
  | [] => some []
  | (i, x) :: r =>
    match opd x, slParts r with
    | some a, some l => some ((i, a) :: l)
    | _, _ => none

def eqKind (t : TypeId) : EqK :=
  match P.underlying t with
  | some .bool => .bool
  | some (.slice _) => .slice
  | some (.func ..) => .func
  | some (.pointer _) => .ptr
  | _ => .plain

def extKind (fn : Func) : Option ExtK :=
  if fn.origin = "" ∧ fn.targs = #[] then
    if fn.name = "math.Float64bits" then some .bits
    else if fn.name = "math.Float64frombits" then some .frombits
    else if fn.name = "math.archFloor" then some (.fint .down)
    else if fn.name = "math.archTrunc" then some (.fint .zero)
    else if fn.name = "math.archCeil" then some (.fint .up)
    else if fn.name = "math.RoundToEven" then some (.fint .even)
    else none
  else none

def compBi (b : Builtin) (ts : Array TypeId) (xs : List Opd) : Option MOp :=
  match b with
  | .real => some (.bi .real xs)
  | .imag => some (.bi .imag xs)
  | .complex => some (.bi .complex xs)
  | .max => some (.bi .max xs)
  | .min => some (.bi .min xs)
  | .len =>
    match ts[0]? with
    | none => none
    | some t =>
      match P.underlying t with
      | some (.slice _) => some (.bi .lenS xs)
      | some (.array n _) => some (.bi (.lenArr n) xs)
      | some .string => some (.bi .lenStr xs)
      | _ => none
  | .append =>
    match ts.toList, xs with
    | [t, u], [s, x] =>
      match P.underlying t, P.underlying u with
      | some (.slice e), some (.slice _) =>
        match tySize P e, tyBytes P e, tyZero P e with
        | some z, some b, some zv => if 0 < z ∧ 0 < b ∧ zv.length = z then some (.append z b (leafL zv) s x) else none
        | _, _, _ => none
      | _, _ => none
    | _, _ => none
  | .copy =>
    match ts.toList, xs with
    | [t, u], [s, x] =>
      match P.underlying t, P.underlying u with
      | some (.slice e), some (.slice _) =>
        match tySize P e with
        | some z => if 0 < z then some (.copy z s x) else none
        | none => none
      | _, _ => none
    | _, _ => none
  | _ => none

def compOp (op : Op) : Option MOp :=
  match op with
  | .move x | .assign x => (opd x).map MOp.mov
  | .pick c a b =>
    match opd c, opd a, opd b with
    | some c, some a, some b => some (.pick c a b)
    | _, _, _ => none
  | .alloc t =>
    match tyZero P t with
    | some zv => (absL zv).map fun zs => .alloc zs (leafL zv)
    | none => none
  | .box t x =>
    match tyZero P t, tySize P t, opd x with
    | some zv, some n, some x => some (.box n (leafL zv) x)
    | _, _, _ => none
  | .build t parts =>
    match tyZero P t with
    | none => none
    | some zv =>
      match absL zv with
      | none => none
      | some zs =>
        match P.underlying t with
        | some (.struct fs) =>
          match structPlaces P fs.toList with
          | some ps => (structParts ps parts.toList).map (MOp.build zs)
          | none => none
        | some (.array _ e) =>
          match tySize P e with
          | some z => (arrParts z parts.toList).map (MOp.build zs)
          | none => none
        | _ => none
  | .buildSlice t len parts =>
    match P.underlying t with
    | some (.slice e) =>
      match tySize P e, tyZero P e, slParts parts.toList with
      | some z, some zv, some ps =>
        match absL zv with
        | none => none
        | some zs => if 0 < z ∧ len * z ≤ 16777216 ∧ zv.length = z then some (.mkslice z len zs (leafL zv) ps) else none
      | _, _, _ => none
    | _ => none
  | .load t a =>
    match tyLoad P t, opd a with
    | some (agg, n), some a => some (.load agg n a)
    | _, _ => none
  | .store t a x =>
    match tySize P t, opd a, opd x with
    | some n, some a, some x => some (.store n a x)
    | _, _, _ => none
  | .nilCheck x => (opd x).map MOp.nilck
  | .binOp op t x y _ =>
    match opd x, opd y with
    | some x, some y => some (.bin op (eqKind P t) x y)
    | _, _ => none
  | .unOp op _ x => (opd x).map (MOp.un op)
  | .convert src dst x =>
    match P.underlying src, P.underlying dst, opd x with
    | some _, some (.int k), some x => some (.conv (.toInt k) x)
    | some _, some (.float .f64), some x => some (.conv .toFlt x)
    | some .string, some .string, some x => some (.conv .str x)
    | _, _, _ => none
  | .makeFunc (.func f) first captured =>
    match opds first.toList, opds captured.toList with
    | some a, some b => some (.mkfn (.func f) a b)
    | _, _ => none
  | .makeSlice t l c =>
    match P.underlying t with
    | some (.slice e) =>
      match tySize P e, tyBytes P e, tyZero P e, opd l, opd c with
      | some z, some b, some zv, some l, some c =>
        match absL zv with
        | none => none
        | some zs => if 0 < z ∧ zv.length = z then some (.make z b zs (leafL zv) l c) else none
      | _, _, _, _, _ => none
    | _ => none
  | .slice t x lo hi mx =>
    match P.underlying t, opd x, opdO lo, opdO hi, opdO mx with
    | some (.slice e), some x, some lo, some hi, some mx => if mx.isSome && hi.isNone then none else (tySize P e).map fun z => .slice (some z) x lo hi mx
    | some .string, some x, some lo, some hi, some none => some (.slice none x lo hi none)
    | _, _, _, _, _ => none
  | .fieldAddr s x i =>
    match P.underlying s, opd x with
    | some (.struct fs), some x =>
      match fs[i]? with
      | none => none
      | some f =>
        match tySize P f.type with
        | some n => if 0 < n then some (.faddr f.offset x) else none
        | none => none
    | _, _ => none
  | .field s x i =>
    match P.underlying s, opd x with
    | some (.struct fs), some x =>
      match fs[i]? with
      | none => none
      | some f => (tyLoad P f.type).map fun (agg, n) => .field agg n f.offset x
    | _, _ => none
  | .indexAddr t x i =>
    match P.underlying t, opd x, opd i with
    | some (.array n e), some x, some i => (tySize P e).map fun z => .iaddr z (some n) x i
    | some (.slice e), some x, some i => (tySize P e).map fun z => .iaddr z none x i
    | _, _, _ => none
  | .index t x i =>
    match P.underlying t, opd x, opd i with
    | some (.array n e), some x, some i => (tyLoad P e).map fun (agg, z) => .index z n agg x i
    | some .string, some x, some i => some (.indexS x i)
    | _, _, _ => none
  | .extract x i => (opd x).map fun x => .ext x i
  | .call c =>
    match opds c.args.toList with
    | none => none
    | some xs =>
      match c.callee with
      | .builtin b => compBi P b c.argTypes xs
      | .value (.func f) =>
        match P.funcs[f]? with
        | none => none
        | some fn =>
          if fn.name = "runtime.NumGoroutine" then none else
          if fn.body.isNone then (extKind fn).map fun k => .extern k xs
          else some (.call f xs)
      | .value (.tmp t) => some (.callv (.t t) xs)
      | _ => none
  | _ => none

/-- what stands ahead of each operation of a region -/
def preOf (acc : List (List Nat)) (o : Oper) : List Nat :=
  (o.after.toList.filter (Region.binds .any)).foldl (fun s e => e.on :: ((acc[e.on]?).getD []) ++ s) []
def presOf : List Oper → List (List Nat) → List (List Nat)
  | [], acc => acc
  | o :: r, acc => presOf r (acc ++ [(preOf acc o).eraseDups])

def compGuard (ops : Array Oper) : Option (Nat × Bool) → Option (Option (Nat × Bool))
  | none => some none
  | some (j, w) =>
    match ops[j]? with
    | none => none
    | some o => o.dst.map fun t => some (t, w)
def compOper (ops : Array Oper) (o : Oper) (pre : List Nat) : MO :=
  match compOp P o.op, compGuard ops o.guard with
  | some m, some g => ⟨o.dst, m, g, pre⟩
  | _, _ => ⟨o.dst, .bad, none, pre⟩
def compOps (ops : Array Oper) : List Oper → List (List Nat) → List MO
  | [], _ => []
  | o :: r, p => compOper P ops o (p.headD []) :: compOps ops r p.tail

/-- does each operation stand behind those that must come first? -/
def edgesOk : Nat → List Oper → Bool
  | _, [] => true
  | i, o :: r => o.after.all (fun e => !Region.binds .any e || decide (e.on < i)) && edgesOk (i + 1) r

def comp : Code → MC
  | .skip => .skip
  | .region _ ops false => .ops (compOps P ops ops.toList []) false
  | .region _ ops true => if edgesOk 0 ops.toList then .ops (compOps P ops ops.toList (presOf ops.toList [])) true else .ops [⟨none, .bad, none, []⟩] false
  | .seq a b => .seq (comp a) (comp b)
  | .cond c a b =>
    match opd c with
    | some c => .cond c (comp a) (comp b)
    | none => .ops [⟨none, .bad, none, []⟩] false
  | .block id b => .block id (comp b)
  | .loop b => .loop [] [] (comp b)
  | .exit id => .exit id
  | .ret => .ret
  | .label _ => .skip
  | .scope c => .seq .skip (comp c)
  | _ => .ops [⟨none, .bad, none, []⟩] false
end

/-! ### which slots live at a loop's head -/
def addN (l : List Nat) (n : Nat) : List Nat := if n ∈ l then l else n :: l
def unionN (a b : List Nat) : List Nat := a.foldl addN b
def liveOps : List MO → List Nat → List Nat
  | [], after => after
  | o :: r, after =>
    let l := liveOps r after
    let l := match o.dst with | some t => l.filter (· != t) | none => l
    unionN o.uses l
def lookN : List (Nat × List Nat) → Nat → List Nat
  | [], _ => []
  | (k, v) :: r, n => if k = n then v else lookN r n
def liveIn (ret : List Nat) : MC → List Nat → List (Nat × List Nat) → List Nat
  | .skip, after, _ => after
  | .ops l _, after, _ => liveOps l after
  | .seq a b, after, x => liveIn ret a (liveIn ret b after x) x
  | .cond c a b, after, x => unionN c.tmps (unionN (liveIn ret a after x) (liveIn ret b after x))
  | .block id b, after, x => liveIn ret b after ((id, after) :: x)
  | .loop _ _ b, _, x =>
    let l := liveIn ret b [] x
    let l := liveIn ret b l x
    liveIn ret b l x
  | .exit i, _, x => lookN x i
  | .ret, _, _ => ret
def insN (n : Nat) : List Nat → List Nat
  | [] => [n]
  | a :: r => if n ≤ a then n :: a :: r else a :: insN n r
def sortN : List Nat → List Nat
  | [] => []
  | a :: r => insN a (sortN r)
def annot (vn : VN) (ret : List Nat) : MC → List Nat → List (Nat × List Nat) → MC
  | .seq a b, after, x => .seq (annot vn ret a (liveIn ret b after x) x) (annot vn ret b after x)
  | .cond c a b, after, x => .cond c (annot vn ret a after x) (annot vn ret b after x)
  | .block id b, after, x => .block id (annot vn ret b after ((id, after) :: x))
  | .loop _ _ b, _, x =>
    let l := liveIn ret (.loop [] [] b) [] x
    .loop (sortN l) (vn.filter fun v => v.1 ∈ l) (annot vn ret b l x)
  | c, _, _ => c
def compRes (P : Program) : List ResultVar → Option (List RV)
  | [] => some []
  | .tmp t :: r => (compRes P r).map fun l => .tmp t :: l
  | .cell t ty :: r =>
    match tyLoad P ty, compRes P r with
    | some (agg, n), some l => some (.cell t n agg :: l)
    | _, _ => none
def RV.tmps : RV → Nat
  | .tmp t => t
  | .cell t _ _ => t
/-- does every operation write into a slot that there is? -/
def dstsOk (n : Nat) : List MO → Bool
  | [] => true
  | o :: r => (match o.dst with | some t => decide (t < n) | none => true) && dstsOk n r
def MC.fits (n : Nat) : MC → Bool
  | .ops l _ => dstsOk n l
  | .seq a b => a.fits n && b.fits n
  | .cond _ a b => a.fits n && b.fits n
  | .block _ b => b.fits n
  | .loop _ _ b => b.fits n
  | _ => true
def compFn (P : Program) (inl : Bool) (vn : VN) (fn : Func) : Option FnM :=
  match fn.body, compRes P fn.results.toList with
  | some c, some res =>
    let m := comp P c
    let r := res.map RV.tmps
    if m.fits fn.ntmps then some ⟨annot vn r m r [], res, inl, vn⟩ else none
  | _, _ => none
end Go.Proofs.Ytnphdnokedhhkaa.Fw
namespace Go.Proofs.Ytnphdnokedhhkaa.Fw
open Go

/-- where a place of the evaluator lies: block, cells of an element, stamp -/
structure Map where
  m : Site → Option (Nat × Nat × List Nat)
  /-- other blocks that what is read by value must not lie in -/
  av : Nat → Prop
  /-- empty lists that stand for nil, by place and stamp -/
  vt : Site → List Nat → Prop
instance : CoeFun Map (fun _ => Site → Option (Nat × Nat × List Nat)) := ⟨Map.m⟩
def owned (ρ : Map) (b : Nat) : Prop := ρ.av b ∨ ∃ s z st, ρ s = some (b, z, st)

mutual
def RelV (ρ : Map) (old : List Nat → Prop) (w : World) : AV → Value → Prop
  | .v x, y => y = x
  | .flt a, y => ∃ b, y = .float .f64 b ∧ canon b = a
  | .cpx a b, y => ∃ c d, y = .complex .f64 c d ∧ canon c = a ∧ canon d = b
  | .ptr s st i off, y => old st ∧ ∃ p, y = .pointer (some p) ∧ ∀ b z, ρ s = some (b, z, st) → p = ⟨b, i * z + off, none⟩
  | .imm cs, y => ∃ b o, y = .pointer (some ⟨b, o, none⟩) ∧ RelCells ρ old w b o cs
  | .slc s st z off len full, y => old st ∧ ((ρ.vt s st ∧ (∃ a, y = .slice a 0 0) ∧ len = 0) ∨ (¬ ρ.vt s st ∧ ∃ p cap, y = .slice (some p) len cap ∧ len ≤ cap ∧ (full = true → cap = len) ∧
      ∀ b z', ρ s = some (b, z', st) → z' = z ∧ (0 < cap → p = ⟨b, off * z, none⟩) ∧ ∃ ty n, w.shape? b = some (ty, n) ∧ (off + cap) * z ≤ n))
  | .lst z els, y => (els = [] ∧ y = .slice none 0 0) ∨ ∃ p cap, y = .slice (some p) els.length cap ∧ els.length ≤ cap ∧ (els ≠ [] → p.spot = none) ∧ RelEls ρ old w p.block p.off z els
  | .nils, y => y = .slice none 0 0
  | .fn f a b, y => ∃ a' b', y = .func f a' b' ∧ RelL ρ old w a a'.toList ∧ RelL ρ old w b b'.toList
  | .agg cs, y => ∃ ys, y = .agg ys ∧ RelL ρ old w cs ys.toList
  | .tup vs, y => ∃ ys, y = .tuple ys ∧ RelL ρ old w vs ys.toList
  | .own .., _ => False
  | .ownp .., _ => False
  | .junk, _ => True
def RelL (ρ : Map) (old : List Nat → Prop) (w : World) : List AV → List Value → Prop
  | [], [] => True
  | a :: r, y :: s => RelV ρ old w a y ∧ RelL ρ old w r s
  | [], _ :: _ => False
  | _ :: _, [] => False
def RelCells (ρ : Map) (old : List Nat → Prop) (w : World) (b o : Nat) : List AV → Prop
  | [] => True
  | a :: r => a.cl = true ∧ ¬ owned ρ b ∧ (∃ u, w.cell? ⟨b, o, none⟩ = some u ∧ RelV ρ old w a u) ∧ RelCells ρ old w b (o + 1) r
def RelEls (ρ : Map) (old : List Nat → Prop) (w : World) (b o z : Nat) : List (List AV) → Prop
  | [] => True
  | e :: r => e.length = z ∧ RelCells ρ old w b o e ∧ RelEls ρ old w b (o + z) z r
end

/-! ### from one state to a later one -/
structure Keep (ρ ρ' : Map) (old old' : List Nat → Prop) (w w' : World) : Prop where
  stable : ∀ b, b < w.heap.size → ¬ owned ρ b → w'.heap[b]? = w.heap[b]? ∧ ¬ owned ρ' b
  refs : ∀ s b z st, ρ' s = some (b, z, st) → old st → ρ s = some (b, z, st)
  olds : ∀ st, old st → old' st
  sizes : ∀ s b z st, ρ' s = some (b, z, st) → old st → w'.shape? b = w.shape? b
  vts : ∀ s st, old st → (ρ'.vt s st ↔ ρ.vt s st)

theorem cell_lt {w : World} {b o : Nat} {u : Value} (h : w.cell? ⟨b, o, none⟩ = some u) : b < w.heap.size := by
  unfold World.cell? at h
  split at h
  · rename_i c e f hh
    exact (Array.getElem?_eq_some_iff.1 hh).1
  · cases h
theorem cell_of_heap {w w' : World} {b o : Nat} (h : w'.heap[b]? = w.heap[b]?) : w'.cell? ⟨b, o, none⟩ = w.cell? ⟨b, o, none⟩ := by
  unfold World.cell?
  rw [h]

section
variable {ρ ρ' : Map} {old old' : List Nat → Prop} {w w' : World}
mutual
theorem RelV.mono (k : Keep ρ ρ' old old' w w') : ∀ (a : AV) (y : Value), RelV ρ old w a y → RelV ρ' old' w' a y
  | .v x, y, h => by simpa only [RelV] using h
  | .flt a, y, h => by simpa only [RelV] using h
  | .cpx a b, y, h => by simpa only [RelV] using h
  | .ptr s st i off, y, h => by
    simp only [RelV] at h ⊢
    obtain ⟨ho, p, e, h2⟩ := h
    exact ⟨k.olds _ ho, p, e, fun b z hb => h2 b z (k.refs _ _ _ _ hb ho)⟩
  | .imm cs, y, h => by
    simp only [RelV] at h ⊢
    obtain ⟨b, o, e, hc⟩ := h
    exact ⟨b, o, e, RelCells.mono k b o cs hc⟩
  | .slc s st z off len full, y, h => by
    simp only [RelV] at h ⊢
    obtain ⟨ho, hv⟩ := h
    refine ⟨k.olds _ ho, ?_⟩
    rcases hv with ⟨hv, e⟩ | ⟨hv, p, cap, e, h1, h2, h3⟩
    · exact .inl ⟨(k.vts _ _ ho).2 hv, e⟩
    refine .inr ⟨fun h => hv ((k.vts _ _ ho).1 h), p, cap, e, h1, h2, fun b z' hb => ?_⟩
    rw [k.sizes _ _ _ _ hb ho]
    exact h3 b z' (k.refs _ _ _ _ hb ho)
  | .lst z els, y, h => by
    simp only [RelV] at h ⊢
    rcases h with h | ⟨p, cap, e, h1, h2, h3⟩
    · exact .inl h
    exact .inr ⟨p, cap, e, h1, h2, RelEls.mono k _ _ z els h3⟩
  | .nils, y, h => by simpa only [RelV] using h
  | .fn f a b, y, h => by
    simp only [RelV] at h ⊢
    obtain ⟨a', b', e, h1, h2⟩ := h
    exact ⟨a', b', e, RelL.mono k a _ h1, RelL.mono k b _ h2⟩
  | .agg cs, y, h => by
    simp only [RelV] at h ⊢
    obtain ⟨ys, e, h1⟩ := h
    exact ⟨ys, e, RelL.mono k cs _ h1⟩
  | .tup vs, y, h => by
    simp only [RelV] at h ⊢
    obtain ⟨ys, e, h1⟩ := h
    exact ⟨ys, e, RelL.mono k vs _ h1⟩
  | .own .., y, h => by simp only [RelV] at h
  | .ownp .., y, h => by simp only [RelV] at h
  | .junk, y, h => by simp only [RelV]
theorem RelL.mono (k : Keep ρ ρ' old old' w w') : ∀ (l : List AV) (ys : List Value), RelL ρ old w l ys → RelL ρ' old' w' l ys
  | [], [], h => by simp only [RelL]
  | a :: r, y :: s, h => by
    simp only [RelL] at h ⊢
    exact ⟨RelV.mono k a y h.1, RelL.mono k r s h.2⟩
  | [], _ :: _, h => by simp only [RelL] at h
  | _ :: _, [], h => by simp only [RelL] at h
theorem RelCells.mono (k : Keep ρ ρ' old old' w w') : ∀ (b o : Nat) (l : List AV), RelCells ρ old w b o l → RelCells ρ' old' w' b o l
  | b, o, [], h => by simp only [RelCells]
  | b, o, a :: r, h => by
    simp only [RelCells] at h ⊢
    obtain ⟨h1, h2, ⟨u, hu, hr⟩, h4⟩ := h
    have := k.stable b (cell_lt hu) h2
    exact ⟨h1, this.2, ⟨u, by rw [cell_of_heap this.1]; exact hu, RelV.mono k a u hr⟩, RelCells.mono k b (o + 1) r h4⟩
theorem RelEls.mono (k : Keep ρ ρ' old old' w w') : ∀ (b o z : Nat) (l : List (List AV)), RelEls ρ old w b o z l → RelEls ρ' old' w' b o z l
  | b, o, z, [], h => by simp only [RelEls]
  | b, o, z, e :: r, h => by
    simp only [RelEls] at h ⊢
    exact ⟨h.1, RelCells.mono k b o e h.2.1, RelEls.mono k b (o + z) z r h.2.2⟩
end

/-! a value without refs, seen from elsewhere in the same world -/
mutual
theorem RelV.closed (hn : ∀ b, b < w.heap.size → ¬ owned ρ b → ¬ owned ρ' b) : ∀ (a : AV) (y : Value), a.cl = true → RelV ρ old w a y → RelV ρ' old' w a y
  | .v x, y, _, h => by simpa only [RelV] using h
  | .flt a, y, _, h => by simpa only [RelV] using h
  | .cpx a b, y, _, h => by simpa only [RelV] using h
  | .ptr .., y, hc, h => by simp [AV.cl] at hc
  | .imm cs, y, hc, h => by
    simp only [RelV] at h ⊢
    obtain ⟨b, o, e, hc⟩ := h
    exact ⟨b, o, e, RelCells.closed hn b o cs hc⟩
  | .slc .., y, hc, h => by simp [AV.cl] at hc
  | .lst z els, y, hc, h => by
    simp only [RelV] at h ⊢
    rcases h with h | ⟨p, cap, e, h1, h2, h3⟩
    · exact .inl h
    exact .inr ⟨p, cap, e, h1, h2, RelEls.closed hn _ _ z els h3⟩
  | .nils, y, _, h => by simpa only [RelV] using h
  | .fn f a b, y, hc, h => by
    simp only [RelV] at h ⊢
    simp only [AV.cl, Bool.and_eq_true] at hc
    obtain ⟨a', b', e, h1, h2⟩ := h
    exact ⟨a', b', e, RelL.closed hn a _ hc.1 h1, RelL.closed hn b _ hc.2 h2⟩
  | .agg cs, y, hc, h => by
    simp only [RelV] at h ⊢
    simp only [AV.cl] at hc
    obtain ⟨ys, e, h1⟩ := h
    exact ⟨ys, e, RelL.closed hn cs _ hc h1⟩
  | .tup vs, y, hc, h => by
    simp only [RelV] at h ⊢
    simp only [AV.cl] at hc
    obtain ⟨ys, e, h1⟩ := h
    exact ⟨ys, e, RelL.closed hn vs _ hc h1⟩
  | .own .., y, _, h => by simp only [RelV] at h
  | .ownp .., y, _, h => by simp only [RelV] at h
  | .junk, y, hc, h => by simp [AV.cl] at hc
theorem RelL.closed (hn : ∀ b, b < w.heap.size → ¬ owned ρ b → ¬ owned ρ' b) : ∀ (l : List AV) (ys : List Value), AV.clL l = true → RelL ρ old w l ys → RelL ρ' old' w l ys
  | [], [], _, h => by simp only [RelL]
  | a :: r, y :: s, hc, h => by
    simp only [RelL] at h ⊢
    simp only [AV.clL, Bool.and_eq_true] at hc
    exact ⟨RelV.closed hn a y hc.1 h.1, RelL.closed hn r s hc.2 h.2⟩
  | [], _ :: _, _, h => by simp only [RelL] at h
  | _ :: _, [], _, h => by simp only [RelL] at h
theorem RelCells.closed (hn : ∀ b, b < w.heap.size → ¬ owned ρ b → ¬ owned ρ' b) : ∀ (b o : Nat) (l : List AV), RelCells ρ old w b o l → RelCells ρ' old' w b o l
  | b, o, [], h => by simp only [RelCells]
  | b, o, a :: r, h => by
    simp only [RelCells] at h ⊢
    obtain ⟨h1, h2, ⟨u, hu, hr⟩, h4⟩ := h
    exact ⟨h1, hn b (cell_lt hu) h2, ⟨u, hu, RelV.closed hn a u h1 hr⟩, RelCells.closed hn b (o + 1) r h4⟩
theorem RelEls.closed (hn : ∀ b, b < w.heap.size → ¬ owned ρ b → ¬ owned ρ' b) : ∀ (b o z : Nat) (l : List (List AV)), RelEls ρ old w b o z l → RelEls ρ' old' w b o z l
  | b, o, z, [], h => by simp only [RelEls]
  | b, o, z, e :: r, h => by
    simp only [RelEls] at h ⊢
    exact ⟨h.1, RelCells.closed hn b o e h.2.1, RelEls.closed hn b (o + z) z r h.2.2⟩
end
end

/-! ### memory -/
def CellsRel (R : AV → Value → Prop) (blk : Blk) (c : Array Value) : Prop :=
  ∀ i e, blk.els[i]? = some e → e.length = blk.z ∧ ∀ j v, e[j]? = some v → (blk.leaf = true → v.dry = true) ∧ ∃ u, c[i * blk.z + j]? = some u ∧ R v u

structure HRel (B : Nat) (ρ : Map) (old : List Nat → Prop) (w : World) (H : Heap) : Prop where
  there : ∀ s blk, H.get s = some blk → (ρ.vt s blk.st ∧ blk.els = [] ∧ old blk.st) ∨
    (¬ ρ.vt s blk.st ∧ ∃ b, ρ s = some (b, blk.z, blk.st) ∧ B ≤ b ∧ old blk.st ∧ ∃ c ty, w.heap[b]? = some (.cells c ty (0, 0)) ∧ CellsRel (RelV ρ old w) blk c)
  vold : ∀ s st, ρ.vt s st → old st
  inb : ∀ s b z st, ρ s = some (b, z, st) → B ≤ b ∧ b < w.heap.size
  inj : ∀ s s' b z z' st st', ρ s = some (b, z, st) → ρ s' = some (b, z', st') → s = s'

theorem Heap.get_set (H : Heap) (s s' : Site) (b : Blk) : (H.set s b).get s' = if s = s' then some b else H.get s' := by
  induction H with
  | nil => simp [Heap.set, Heap.get]
  | cons x r ih =>
    obtain ⟨k, c⟩ := x
    simp only [Heap.set]
    by_cases h : k = s
    · subst h
      simp only [if_true, Heap.get]
      by_cases h2 : k = s' <;> simp [h2]
    · simp only [h, if_false, Heap.get, ih]
      by_cases h2 : k = s'
      · subst h2; simp [Ne.symm h]
      · simp [h2]

theorem HRel.lt {B : Nat} {ρ : Map} {old : List Nat → Prop} {w : World} {H : Heap} (h : HRel B ρ old w H) {b : Nat} (hb : ∃ s z st, ρ s = some (b, z, st)) : B ≤ b ∧ b < w.heap.size := by
  obtain ⟨s, z, st, e⟩ := hb
  exact h.inb _ _ _ _ e
theorem lt_of_same {w w' : World} {b : Nat} (h : b < w.heap.size) (e : w'.heap[b]? = w.heap[b]?) : b < w'.heap.size := by
  rw [Array.getElem?_eq_getElem h] at e
  exact (Array.getElem?_eq_some_iff.1 e).1

def Map.upd (ρ : Map) (s : Site) (x : Nat × Nat × List Nat) : Map := ⟨fun s' => if s = s' then some x else ρ s', ρ.av, ρ.vt⟩

theorem CellsRel.mono {R R' : AV → Value → Prop} {blk : Blk} {c : Array Value} (h : CellsRel R blk c) (hr : ∀ v u, R v u → R' v u) : CellsRel R' blk c := fun i e he => by
  obtain ⟨h1, h2⟩ := h i e he
  refine ⟨h1, fun j v hv => ?_⟩
  obtain ⟨h3, u, h4, h5⟩ := h2 j v hv
  exact ⟨h3, u, h4, hr _ _ h5⟩

/-- one place is set: a new block, a store, an append. -/
theorem HRel.set {B : Nat} {ρ : Map} {old old' : List Nat → Prop} {w w' : World} {H : Heap} (h : HRel B ρ old w H) (s : Site) (b : Nat) (blk : Blk)
    (hb : (∃ z st, ρ s = some (b, z, st)) ∨ w.heap.size ≤ b) (hB : B ≤ b)
    (hst : ρ s = some (b, blk.z, blk.st) ∨ ¬ old blk.st) (hvt : ¬ ρ.vt s blk.st)
    (hsame : ∀ k, k < w.heap.size → k ≠ b → w'.heap[k]? = w.heap[k]?) (hsize : ρ s = some (b, blk.z, blk.st) → w'.shape? b = w.shape? b)
    (holds : ∀ st, old st → old' st) (hnew : old' blk.st)
    (hc : ∃ c ty, w'.heap[b]? = some (.cells c ty (0, 0)) ∧ CellsRel (RelV ρ old w) blk c) :
    Keep ρ (ρ.upd s (b, blk.z, blk.st)) old old' w w' ∧ HRel B (ρ.upd s (b, blk.z, blk.st)) old' w' (H.set s blk) := by
  have nb : ∀ s' z st, s' ≠ s → ρ s' = some (b, z, st) → False := by
    intro s' z st hne e
    rcases hb with ⟨z0, st0, e0⟩ | hge
    · exact hne (h.inj _ _ _ _ _ _ _ e e0)
    · have := (h.lt ⟨s', z, st, e⟩).2; omega
  have k : Keep ρ (ρ.upd s (b, blk.z, blk.st)) old old' w w' := by
    refine ⟨fun b' hlt hno => ?_, fun s' b' z' st' e ho => ?_, holds, fun s' b' z' st' e ho => ?_, fun _ _ _ => Iff.rfl⟩
    · have hne : b' ≠ b := by
        rintro rfl
        rcases hb with ⟨z0, st0, e0⟩ | hge
        · exact hno (.inr ⟨s, z0, st0, e0⟩)
        · omega
      refine ⟨hsame b' hlt hne, ?_⟩
      rintro (hav | ⟨s', z', st', e⟩)
      · exact hno (.inl hav)
      · simp only [Map.upd] at e
        split at e
        · cases e; exact hne rfl
        · exact hno (.inr ⟨s', z', st', e⟩)
    · simp only [Map.upd] at e
      split at e
      · rename_i hs
        subst hs
        cases e
        rcases hst with h1 | h1
        · exact h1
        · exact absurd ho h1
      · exact e
    · simp only [Map.upd] at e
      split at e
      · rename_i hs
        subst hs
        cases e
        rcases hst with h1 | h1
        · exact hsize h1
        · exact absurd ho h1
      · rename_i hs
        unfold World.shape?
        rw [hsame b' (h.lt ⟨s', z', st', e⟩).2 (by rintro rfl; exact nb s' _ _ (Ne.symm hs) e)]
  refine ⟨k, ⟨fun s' blk' hg => ?_, fun s' st' h' => holds _ (h.vold s' st' h'), fun s' b' z' st' e => ?_, fun s1 s2 b' z z' st st' e1 e2 => ?_⟩⟩
  · rw [Heap.get_set] at hg
    by_cases hs : s = s'
    · subst hs
      simp only [if_true] at hg
      cases hg
      obtain ⟨c, ty, h1, h2⟩ := hc
      exact .inr ⟨hvt, b, by simp [Map.upd], hB, hnew, c, ty, h1, h2.mono fun v u hv => RelV.mono k v u hv⟩
    · simp only [hs, if_false] at hg
      rcases h.there s' blk' hg with ⟨h1, h2, h3⟩ | ⟨hv, b', e, h1, h2, c, ty, h3, h4⟩
      · exact .inl ⟨h1, h2, holds _ h3⟩
      refine .inr ⟨hv, b', by simp [Map.upd, hs, e], h1, holds _ h2, c, ty, ?_, h4.mono fun v u hv => RelV.mono k v u hv⟩
      rw [hsame b' (Array.getElem?_eq_some_iff.1 h3).1 (by rintro rfl; exact nb s' _ _ (Ne.symm hs) e)]
      exact h3
  · simp only [Map.upd] at e
    split at e
    · cases e
      obtain ⟨c, ty, h1, _⟩ := hc
      exact ⟨hB, (Array.getElem?_eq_some_iff.1 h1).1⟩
    · rename_i hs
      obtain ⟨h1, h2⟩ := h.inb _ _ _ _ e
      exact ⟨h1, lt_of_same h2 (hsame b' h2 (by rintro rfl; exact nb s' _ _ (Ne.symm hs) e))⟩
  · simp only [Map.upd] at e1 e2
    split at e1 <;> split at e2
    · rename_i a1 a2; exact a1.symm.trans a2
    · rename_i a1 a2; cases e1; exact (nb s2 _ _ (Ne.symm a2) e2).elim
    · rename_i a1 a2; cases e2; exact (nb s1 _ _ (Ne.symm a1) e1).elim
    · exact h.inj _ _ _ _ _ _ _ e1 e2

/-- nothing is set. -/
theorem HRel.same {B : Nat} {ρ : Map} {old old' : List Nat → Prop} {w w' : World} {H : Heap} (h : HRel B ρ old w H)
    (hsame : ∀ k, k < w.heap.size → w'.heap[k]? = w.heap[k]?) (holds : ∀ st, old st → old' st) : Keep ρ ρ old old' w w' ∧ HRel B ρ old' w' H := by
  have k : Keep ρ ρ old old' w w' := ⟨fun b hlt hno => ⟨hsame b hlt, hno⟩, fun _ _ _ _ e _ => e, holds, fun s b z st e _ => by unfold World.shape?; rw [hsame b (h.lt ⟨s, z, st, e⟩).2], fun _ _ _ => Iff.rfl⟩
  refine ⟨k, ⟨fun s blk hg => ?_, fun s st h' => holds _ (h.vold s st h'), fun s b z st e => ⟨(h.inb _ _ _ _ e).1, lt_of_same (h.inb _ _ _ _ e).2 (hsame b (h.inb _ _ _ _ e).2)⟩, h.inj⟩⟩
  rcases h.there s blk hg with ⟨h1, h2, h3⟩ | ⟨hv, b, e, h1, h2, c, ty, h3, h4⟩
  · exact .inl ⟨h1, h2, holds _ h3⟩
  exact .inr ⟨hv, b, e, h1, holds _ h2, c, ty, by rw [hsame b (Array.getElem?_eq_some_iff.1 h3).1]; exact h3, h4.mono fun v u hv => RelV.mono k v u hv⟩
end Go.Proofs.Ytnphdnokedhhkaa.Fw
