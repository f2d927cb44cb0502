/- The abstract evaluator, part A: values, memory, what one operation does. Nothing here names a program. -/
import Derived.WalkLawsBesides
import Derived.LoopN
import Derived.Orders
import Derived.Below
set_option linter.unusedVariables false
namespace Go.Proofs.Ytnccnmeecngopaa.Fw
open Go

structure Site where
  d : Nat
  t : Nat
  j : Nat
  deriving DecidableEq

inductive AV where
  | v (x : Value)
  | flt (b : Nat)
  | cpx (a b : Nat)
  | ptr (s : Site) (st : List Nat) (i off : Nat)
  | imm (cs : List AV)
  | slc (s : Site) (st : List Nat) (z off len : Nat) (full : Bool)
  | lst (z : Nat) (els : List (List AV))
  | nils
  | fn (f : Fn) (a b : List AV)
  | agg (cs : List AV)
  | tup (vs : List AV)
  | own (z : Nat) (els : List (List AV)) (leaf : Bool)
  | ownp (cs : List AV) (leaf : Bool)
  | junk

abbrev AV.int (k : IntKind) (n : Int) : AV := .v (.int k n)
abbrev AV.bool (b : Bool) : AV := .v (.bool b)
abbrev AV.str (s : ByteArray) : AV := .v (.string s)

/-- may it stand in one cell? -/
def AV.cell : AV → Bool
  | .agg _ | .tup _ | .own .. | .ownp .. | .junk => false
  | .v (.agg _) | .v (.tuple _) => false
  | _ => true

structure Blk where
  st : List Nat
  els : List (List AV)
  z : Nat
  leaf : Bool

abbrev Env := List (Nat × AV)
def Env.get : Env → Nat → AV
  | [], _ => .junk
  | (k, v) :: r, t => if k = t then v else Env.get r t

abbrev Heap := List (Site × Blk)
def Heap.get : Heap → Site → Option Blk
  | [], _ => none
  | (k, b) :: r, s => if k = s then some b else Heap.get r s
def Heap.set : Heap → Site → Blk → Heap
  | [], s, b => [(s, b)]
  | (k, c) :: r, s, b => if k = s then (s, b) :: r else (k, c) :: Heap.set r s b

mutual
def AV.refs : AV → List Site
  | .ptr s .. => [s]
  | .slc s .. => [s]
  | .fn _ a b => AV.refsL a ++ AV.refsL b
  | .agg cs => AV.refsL cs
  | .tup vs => AV.refsL vs
  | _ => []
def AV.refsL : List AV → List Site
  | [] => []
  | a :: r => a.refs ++ AV.refsL r
end

mutual
def AV.cl : AV → Bool
  | .v _ | .flt _ | .cpx _ _ | .nils | .imm _ | .lst .. => true
  | .fn _ a b => AV.clL a && AV.clL b
  | .agg cs => AV.clL cs
  | .tup vs => AV.clL vs
  | _ => false
def AV.clL : List AV → Bool
  | [] => true
  | a :: r => a.cl && AV.clL r
end

/-- without a look into memory -/
def AV.dry : AV → Bool
  | .v _ | .flt _ | .cpx _ _ | .nils => true
  | _ => false
def dryL : List AV → Bool
  | [] => true
  | a :: r => a.dry && dryL r
def dryEls : List (List AV) → Bool
  | [] => true
  | e :: r => dryL e && dryEls r
def refsEls : List (List AV) → List Site
  | [] => []
  | e :: r => AV.refsL e ++ refsEls r
def Blk.refs (b : Blk) : List Site := if b.leaf then [] else refsEls b.els
def refsEnv : Env → List Site
  | [] => []
  | (_, v) :: r => v.refs ++ refsEnv r
def refsHeap : Heap → List Site
  | [] => []
  | (_, b) :: r => b.refs ++ refsHeap r

/-! ### floats -/
def qnan : Nat := 0x7FF8000000000001
def isNaN (b : Nat) : Bool := (Ieee.double.read b).isNaN
def canon (b : Nat) : Nat := if isNaN b then qnan else b
def cOpt : Option Nat → Nat
  | some r => canon r
  | none => qnan
def fadd (a b : Nat) : Nat := cOpt (Ieee.double.add a b)
def fsub (a b : Nat) : Nat := cOpt (Ieee.double.sub a b)
def fmul (a b : Nat) : Nat := cOpt (Ieee.double.mul a b)
def fdiv (a b : Nat) : Nat := cOpt (Ieee.double.div a b)
def ford (a b : Nat) : Option Ordering := Ieee.double.order a b
def feq (a b : Nat) : Bool := ford a b == some .eq
def flt (a b : Nat) : Bool := ford a b == some .lt
def fle (a b : Nat) : Bool := ford a b == some .lt || ford a b == some .eq
def fgt (a b : Nat) : Bool := ford a b == some .gt
def fge (a b : Nat) : Bool := ford a b == some .gt || ford a b == some .eq
def fneg (a : Nat) : Nat := canon (a ^^^ 2 ^ 63)
def fabs (a : Nat) : Nat := canon (a % 2 ^ 63)
def fint (way : Ieee.Toward) (a : Nat) : Nat := if isNaN a then qnan else canon (Ieee.double.write ((Ieee.double.read a).integral way))
def fofInt (n : Int) : Nat := canon (FloatKind.f64.nearest n)
def ftoInt (a : Nat) (k : IntKind) : Option Int :=
  match (Ieee.double.read a).toInt .zero with
  | some n => if k.min ≤ n ∧ n ≤ k.max then some n else none
  | none => none
def fmax2 (a b : Nat) : Nat :=
  match ford a b with
  | none => qnan
  | some .lt => b
  | some .gt => a
  | some .eq => if (Ieee.double.read a).neg then b else a
def fmin2 (a b : Nat) : Nat :=
  match ford a b with
  | none => qnan
  | some .lt => a
  | some .gt => b
  | some .eq => if (Ieee.double.read a).neg then a else b

/-! ### operators -/
def intBin (op : BinOp) (k : IntKind) (a b : Int) : Option AV :=
  match op with
  | .add => some (.int k (k.wrap (a + b)))
  | .sub => some (.int k (k.wrap (a - b)))
  | .mul => some (.int k (k.wrap (a * b)))
  | .quo => if b = 0 then none else some (.int k (k.wrap (a.tdiv b)))
  | .rem => if b = 0 then none else some (.int k (a.tmod b))
  | .and => some (.int k (k.wrap ((BitVec.ofInt k.bits a &&& BitVec.ofInt k.bits b).toNat)))
  | .or => some (.int k (k.wrap ((BitVec.ofInt k.bits a ||| BitVec.ofInt k.bits b).toNat)))
  | .xor => some (.int k (k.wrap ((BitVec.ofInt k.bits a ^^^ BitVec.ofInt k.bits b).toNat)))
  | .andNot => some (.int k (k.wrap ((BitVec.ofInt k.bits a &&& ~~~ BitVec.ofInt k.bits b).toNat)))
  | .eql => some (.bool (a == b))
  | .neq => some (.bool (a != b))
  | .lss => some (.bool (decide (a < b)))
  | .leq => some (.bool (decide (a ≤ b)))
  | .gtr => some (.bool (decide (a > b)))
  | .geq => some (.bool (decide (a ≥ b)))
  | _ => none
def shiftBin (op : BinOp) (k : IntKind) (a b : Int) : Option AV :=
  if b < 0 then none else
  match op with
  | .shl => some (.int k (k.wrap (a * 2 ^ (min b.toNat k.bits))))
  | .shr => some (.int k (a.fdiv (2 ^ (min b.toNat k.bits))))
  | _ => none
def fltBin (op : BinOp) (a b : Nat) : Option AV :=
  match op with
  | .add => some (.flt (fadd a b))
  | .sub => some (.flt (fsub a b))
  | .mul => some (.flt (fmul a b))
  | .quo => some (.flt (fdiv a b))
  | .eql => some (.bool (feq a b))
  | .neq => some (.bool (!feq a b))
  | .lss => some (.bool (flt a b))
  | .leq => some (.bool (fle a b))
  | .gtr => some (.bool (fgt a b))
  | .geq => some (.bool (fge a b))
  | _ => none
def cpxBin (op : BinOp) (a b c d : Nat) : Option AV :=
  match op with
  | .add => some (.cpx (fadd a c) (fadd b d))
  | .sub => some (.cpx (fsub a c) (fsub b d))
  | .mul => some (.cpx (fsub (fmul a c) (fmul b d)) (fadd (fmul a d) (fmul b c)))
  | .eql => some (.bool (feq a c && feq b d))
  | .neq => some (.bool (!(feq a c && feq b d)))
  | _ => none
def strBin (op : BinOp) (a b : ByteArray) : Option AV :=
  match op with
  | .add => if a.size + b.size ≤ 9223372036854775807 then some (.str (a ++ b)) else none
  | .eql => some (.bool (a.toList == b.toList))
  | .neq => some (.bool (!(a.toList == b.toList)))
  | .lss => some (.bool (Op.bytesLess a.toList b.toList))
  | .leq => some (.bool (Op.bytesLess a.toList b.toList || a.toList == b.toList))
  | .gtr => some (.bool (!(Op.bytesLess a.toList b.toList || a.toList == b.toList)))
  | .geq => some (.bool (!Op.bytesLess a.toList b.toList))
  | _ => none

/-- what is compared by '==' beside numbers: bools; a slice, a function, a pointer against nil. -/
inductive EqK where
  | plain | bool | slice | func | ptr
  deriving DecidableEq
def nilSl : AV → Option Bool
  | .nils => some true
  | .slc .. => some false
  | .lst .. => some false
  | _ => none
def nilFn : AV → Option Bool
  | .v .nilFunc => some true
  | .fn .. => some false
  | _ => none
def nilPt : AV → Option Bool
  | .v (.pointer none) => some true
  | .ptr .. => some false
  | .imm .. => some false
  | _ => none
def eqBin (k : EqK) (x y : AV) : Option Bool :=
  match k with
  | .plain => none
  | .bool => match x, y with | .v (.bool a), .v (.bool b) => some (a == b) | _, _ => none
  | .slice => match y with | .nils => nilSl x | _ => match x with | .nils => nilSl y | _ => none
  | .func => match y with | .v .nilFunc => nilFn x | _ => match x with | .v .nilFunc => nilFn y | _ => none
  | .ptr => match y with | .v (.pointer none) => nilPt x | _ => match x with | .v (.pointer none) => nilPt y | _ => none
def binSem (op : BinOp) (e : EqK) (x y : AV) : Option AV :=
  match x, y with
  | .v (.int k a), .v (.int k' b) =>
    match op with
    | .shl | .shr => shiftBin op k a b
    | _ => if k = k' then intBin op k a b else none
  | .flt a, .flt b => fltBin op a b
  | .cpx a b, .cpx c d => cpxBin op a b c d
  | .v (.string a), .v (.string b) => strBin op a b
  | x, y =>
    match op with
    | .eql => (eqBin e x y).map AV.bool
    | .neq => (eqBin e x y).map (fun b => AV.bool (!b))
    | _ => none
def unSem (op : UnOp) (x : AV) : Option AV :=
  match op, x with
  | .neg, .v (.int k n) => some (.int k (k.wrap (0 - n)))
  | .xor, .v (.int k n) => some (.int k (k.wrap ((BitVec.ofInt k.bits (if k.signed then -1 else k.max) ^^^ BitVec.ofInt k.bits n).toNat)))
  | .neg, .flt a => some (.flt (fneg a))
  | .neg, .cpx a b => some (.cpx (fneg a) (fneg b))
  | .not, .v (.bool b) => some (.bool (!b))
  | _, _ => none

inductive ConvK where
  | toInt (k : IntKind) | toFlt | str
  deriving DecidableEq
def convSem (c : ConvK) (x : AV) : Option AV :=
  match c, x with
  | .toInt k, .v (.int _ n) => some (.int k (k.wrap n))
  | .toInt k, .flt a => (ftoInt a k).map (AV.int k)
  | .toFlt, .v (.int _ n) => some (.flt (fofInt n))
  | .toFlt, .flt a => some (.flt a)
  | .str, .v (.string s) => some (.str s)
  | _, _ => none

inductive BiK where
  | real | imag | complex | max | min | lenS | lenArr (n : Nat) | lenStr
  deriving DecidableEq
def max2A : AV → AV → Option AV
  | .v (.int k a), .v (.int k' b) => some (.int k (if b > a then b else a))
  | .flt a, .flt b => some (.flt (fmax2 a b))
  | _, _ => none
def min2A : AV → AV → Option AV
  | .v (.int k a), .v (.int k' b) => some (.int k (if b < a then b else a))
  | .flt a, .flt b => some (.flt (fmin2 a b))
  | _, _ => none
def foldA (f : AV → AV → Option AV) : AV → List AV → Option AV
  | a, [] => some a
  | a, b :: r => (f a b).bind fun c => foldA f c r
def biSem (k : BiK) (xs : List AV) : Option AV :=
  match k, xs with
  | .real, [.cpx a _] => some (.flt a)
  | .imag, [.cpx _ b] => some (.flt b)
  | .complex, [.flt a, .flt b] => some (.cpx a b)
  | .max, x :: r => foldA max2A x r
  | .min, x :: r => foldA min2A x r
  | .lenS, [.nils] => some (.int .i64 0)
  | .lenS, [.slc _ _ _ _ n _] => some (.int .i64 n)
  | .lenS, [.lst _ els] => some (.int .i64 els.length)
  | .lenArr n, [_] => some (.int .i64 n)
  | .lenStr, [.v (.string s)] => some (.int .i64 s.size)
  | _, _ => none

inductive ExtK where
  | bits | frombits | fint (way : Ieee.Toward)
  deriving DecidableEq
def extSem (k : ExtK) (xs : List AV) : Option AV :=
  match k, xs with
  | .bits, [.flt a] => if isNaN a then none else some (.int .u64 a)
  | .frombits, [.v (.int .u64 n)] => some (.flt (canon n.toNat))
  | .fint way, [.flt a] => some (.flt (fint way a))
  | _, _ => none

/-! ### cells -/
def cellsOf : AV → List AV
  | .agg cs => cs
  | x => [x]
/-- 'n' cells out of a list from place 'off' on, as a value. -/
def takeCells (agg : Bool) (n : Nat) (cs : List AV) (off : Nat) : Option AV :=
  if agg then (if off + n ≤ cs.length then some (.agg ((cs.drop off).take n)) else none)
  else cs[off]?
def putCells (cs : List AV) (off : Nat) (new : List AV) : List AV := cs.take off ++ new ++ cs.drop (off + new.length)
def allCell : List AV → Bool
  | [] => true
  | a :: r => a.cell && allCell r
def fillParts (cs : List AV) : List (Nat × Nat × AV) → Option (List AV)
  | [] => some cs
  | (off, size, x) :: r =>
    if (cellsOf x).length = size ∧ off + size ≤ cs.length ∧ allCell (cellsOf x) = true then fillParts (putCells cs off (cellsOf x)) r else none

def idx (i : AV) (n : Nat) : Option Nat :=
  match i with
  | .v (.int _ k) => if 0 ≤ k ∧ k < n then some k.toNat else none
  | _ => none
def bnd (i : Option AV) (dflt most : Nat) : Option Nat :=
  match i with
  | none => some dflt
  | some (.v (.int _ k)) => if 0 ≤ k ∧ k ≤ most then some k.toNat else none
  | _ => none
end Go.Proofs.Ytnccnmeecngopaa.Fw
