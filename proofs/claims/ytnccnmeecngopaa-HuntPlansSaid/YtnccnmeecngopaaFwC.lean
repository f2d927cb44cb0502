/- The abstract evaluator, part C: out of the model's code the small code. -/
import Derived.Test.YtnccnmeecngopaaFwB
set_option linter.unusedVariables false
namespace Go.Proofs.Ytnccnmeecngopaa.Fw
open Go

def absV : Value → Option AV
  | .bool b => some (.v (.bool b))
  | .int k n => some (.v (.int k n))
  | .string s => some (.v (.string s))
  | .float .f64 b => some (.flt (canon b))
  | .complex .f64 a b => some (.cpx (canon a) (canon b))
  | .slice none 0 0 => some .nils
  | .pointer none => some (.v (.pointer none))
  | .nilFunc => some (.v .nilFunc)
  | .nilIface => some (.v .nilIface)
  | .map none => some (.v (.map none))
  | _ => none
def absL : List Value → Option (List AV)
  | [] => some []
  | v :: r =>
    match absV v, absL r with
    | some a, some l => some (a :: l)
    | _, _ => none
def absC : Value → Option AV
  | .agg cs => (absL cs.toList).map AV.agg
  | .func (.func f) a b => if a.size = 0 ∧ b.size = 0 then some (.fn (.func f) [] []) else none
  | v => absV v
/-- can the cell hold no ref, whatever stands in it? -/
def leafV : Value → Bool
  | .bool _ | .int .. | .string _ | .float .. | .complex .. => true
  | _ => false
def leafL : List Value → Bool
  | [] => true
  | v :: r => leafV v && leafL r

section
variable (P : Program)
def tyZero (t : TypeId) : Option (List Value) :=
  match P.info? t with
  | some i => (i.zero).map fun z => z.cells.toList
  | none => none
def tySize (t : TypeId) : Option Nat := (P.info? t).map (·.size)
def tyBytes (t : TypeId) : Option Nat := (P.info? t).map (·.bytes)
def tyAgg (t : TypeId) : Option Bool :=
  match P.underlying t with
  | some (.struct _) | some (.array _ _) => some true
  | some _ => some false
  | none => none
/-- is it one value of several cells, and of how many? -/
def tyLoad (t : TypeId) : Option (Bool × Nat) :=
  match tyAgg P t, tySize P t with
  | some b, some n => some (b, n)
  | _, _ => none

def opd : Operand → Option Opd
  | .tmp t => some (.t t)
  | .const v => (absC v).map Opd.k
  | .func f => some (.k (.fn (.func f) [] []))
  | .global _ => none
def opds : List Operand → Option (List Opd)
  | [] => some []
  | x :: r =>
    match opd x, opds r with
    | some a, some l => some (a :: l)
    | _, _ => none
def opdO : Option Operand → Option (Option Opd)
  | none => some none
  | some x => (opd x).map some

/-- where each field lies, and its cells -/
def structPlaces : List Field → Option (List (Nat × Nat))
  | [] => some []
  | f :: r =>
    match tySize P f.type, structPlaces r with
    | some n, some l => some ((f.offset, n) :: l)
    | _, _ => none
def structParts (ps : List (Nat × Nat)) : List (Nat × Operand) → Option (List (Nat × Nat × Opd))
  | [] => some []
  | (i, x) :: r =>
    match ps[i]? with
    | none => none
    | some (off, n) =>
      match opd x, structParts ps r with
      | some a, some l => some ((off, n, a) :: l)
      | _, _ => none
def arrParts (z : Nat) : List (Nat × Operand) → Option (List (Nat × Nat × Opd))
  | [] => some []
  | (i, x) :: r =>
    match opd x, arrParts z r with
    | some a, some l => some ((i * z, z, a) :: l)
    | _, _ => none
def slParts : List (Nat × Operand) → Option (List (Nat × Opd))
  | [] => some []
  | (i, x) :: r =>
    match opd x, slParts r with
    | some a, some l => some ((i, a) :: l)
    | _, _ => none

def eqKind (t : TypeId) : EqK :=
  match P.underlying t with
  | some .bool => .bool
  | some (.slice _) => .slice
  | some (.func ..) => .func
  | some (.pointer _) => .ptr
  | _ => .plain

def extKind (fn : Func) : Option ExtK :=
  if fn.origin = "" ∧ fn.targs = #[] then
    if fn.name = "math.Float64bits" then some .bits
    else if fn.name = "math.Float64frombits" then some .frombits
    else if fn.name = "math.archFloor" then some (.fint .down)
    else if fn.name = "math.archTrunc" then some (.fint .zero)
    else if fn.name = "math.archCeil" then some (.fint .up)
    else if fn.name = "math.RoundToEven" then some (.fint .even)
    else none
  else none

def compBi (b : Builtin) (ts : Array TypeId) (xs : List Opd) : Option MOp :=
  match b with
  | .real => some (.bi .real xs)
  | .imag => some (.bi .imag xs)
  | .complex => some (.bi .complex xs)
  | .max => some (.bi .max xs)
  | .min => some (.bi .min xs)
  | .len =>
    match ts[0]? with
    | none => none
    | some t =>
      match P.underlying t with
      | some (.slice _) => some (.bi .lenS xs)
      | some (.array n _) => some (.bi (.lenArr n) xs)
      | some .string => some (.bi .lenStr xs)
      | _ => none
  | .append =>
    match ts.toList, xs with
    | [t, u], [s, x] =>
      match P.underlying t, P.underlying u with
      | some (.slice e), some (.slice _) =>
        match tySize P e, tyBytes P e, tyZero P e with
        | some z, some b, some zv => if 0 < z ∧ 0 < b ∧ zv.length = z then some (.append z b (leafL zv) s x) else none
        | _, _, _ => none
      | _, _ => none
    | _, _ => none
  | _ => none

def compOp (op : Op) : Option MOp :=
  match op with
  | .move x | .assign x => (opd x).map MOp.mov
  | .pick c a b =>
    match opd c, opd a, opd b with
    | some c, some a, some b => some (.pick c a b)
    | _, _, _ => none
  | .alloc t =>
    match tyZero P t with
    | some zv => (absL zv).map fun zs => .alloc zs (leafL zv)
    | none => none
  | .box t x =>
    match tyZero P t, tySize P t, opd x with
    | some zv, some n, some x => some (.box n (leafL zv) x)
    | _, _, _ => none
  | .build t parts =>
    match tyZero P t with
    | none => none
    | some zv =>
      match absL zv with
      | none => none
      | some zs =>
        match P.underlying t with
        | some (.struct fs) =>
          match structPlaces P fs.toList with
          | some ps => (structParts ps parts.toList).map (MOp.build zs)
          | none => none
        | some (.array _ e) =>
          match tySize P e with
          | some z => (arrParts z parts.toList).map (MOp.build zs)
          | none => none
        | _ => none
  | .buildSlice t len parts =>
    match P.underlying t with
    | some (.slice e) =>
      match tySize P e, tyZero P e, slParts parts.toList with
      | some z, some zv, some ps =>
        match absL zv with
        | none => none
        | some zs => if 0 < z ∧ len * z ≤ 16777216 ∧ zv.length = z then some (.mkslice z len zs (leafL zv) ps) else none
      | _, _, _ => none
    | _ => none
  | .load t a =>
    match tyLoad P t, opd a with
    | some (agg, n), some a => some (.load agg n a)
    | _, _ => none
  | .store t a x =>
    match tySize P t, opd a, opd x with
    | some n, some a, some x => some (.store n a x)
    | _, _, _ => none
  | .nilCheck x => (opd x).map MOp.nilck
  | .binOp op t x y _ =>
    match opd x, opd y with
    | some x, some y => some (.bin op (eqKind P t) x y)
    | _, _ => none
  | .unOp op _ x => (opd x).map (MOp.un op)
  | .convert src dst x =>
    match P.underlying src, P.underlying dst, opd x with
    | some _, some (.int k), some x => some (.conv (.toInt k) x)
    | some _, some (.float .f64), some x => some (.conv .toFlt x)
    | some .string, some .string, some x => some (.conv .str x)
    | _, _, _ => none
  | .makeFunc (.func f) first captured =>
    match opds first.toList, opds captured.toList with
    | some a, some b => some (.mkfn (.func f) a b)
    | _, _ => none
  | .makeSlice t l c =>
    match P.underlying t with
    | some (.slice e) =>
      match tySize P e, tyBytes P e, tyZero P e, opd l, opd c with
      | some z, some b, some zv, some l, some c =>
        match absL zv with
        | none => none
        | some zs => if 0 < z ∧ zv.length = z then some (.make z b zs (leafL zv) l c) else none
      | _, _, _, _, _ => none
    | _ => none
  | .slice t x lo hi mx =>
    match P.underlying t, opd x, opdO lo, opdO hi, opdO mx with
    | some (.slice e), some x, some lo, some hi, some mx => if mx.isSome && hi.isNone then none else (tySize P e).map fun z => .slice (some z) x lo hi mx
    | some .string, some x, some lo, some hi, some none => some (.slice none x lo hi none)
    | _, _, _, _, _ => none
  | .fieldAddr s x i =>
    match P.underlying s, opd x with
    | some (.struct fs), some x =>
      match fs[i]? with
      | none => none
      | some f =>
        match tySize P f.type with
        | some n => if 0 < n then some (.faddr f.offset x) else none
        | none => none
    | _, _ => none
  | .field s x i =>
    match P.underlying s, opd x with
    | some (.struct fs), some x =>
      match fs[i]? with
      | none => none
      | some f => (tyLoad P f.type).map fun (agg, n) => .field agg n f.offset x
    | _, _ => none
  | .indexAddr t x i =>
    match P.underlying t, opd x, opd i with
    | some (.array n e), some x, some i => (tySize P e).map fun z => .iaddr z (some n) x i
    | some (.slice e), some x, some i => (tySize P e).map fun z => .iaddr z none x i
    | _, _, _ => none
  | .index t x i =>
    match P.underlying t, opd x, opd i with
    | some (.array n e), some x, some i => (tyLoad P e).map fun (agg, z) => .index z n agg x i
    | some .string, some x, some i => some (.indexS x i)
    | _, _, _ => none
  | .extract x i => (opd x).map fun x => .ext x i
  | .call c =>
    match opds c.args.toList with
    | none => none
    | some xs =>
      match c.callee with
      | .builtin b => compBi P b c.argTypes xs
      | .value (.func f) =>
        match P.funcs[f]? with
        | none => none
        | some fn =>
          if fn.name = "runtime.NumGoroutine" then none else
          if fn.body.isNone then (extKind fn).map fun k => .extern k xs
          else some (.call f xs)
      | .value (.tmp t) => some (.callv (.t t) xs)
      | _ => none
  | _ => none

/-- what stands ahead of each operation of a region -/
def preOf (acc : List (List Nat)) (o : Oper) : List Nat :=
  (o.after.toList.filter (Region.binds .any)).foldl (fun s e => e.on :: ((acc[e.on]?).getD []) ++ s) []
def presOf : List Oper → List (List Nat) → List (List Nat)
  | [], acc => acc
  | o :: r, acc => presOf r (acc ++ [(preOf acc o).eraseDups])

def compGuard (ops : Array Oper) : Option (Nat × Bool) → Option (Option (Nat × Bool))
  | none => some none
  | some (j, w) =>
    match ops[j]? with
    | none => none
    | some o => o.dst.map fun t => some (t, w)
def compOper (ops : Array Oper) (o : Oper) (pre : List Nat) : MO :=
  match compOp P o.op, compGuard ops o.guard with
  | some m, some g => ⟨o.dst, m, g, pre⟩
  | _, _ => ⟨o.dst, .bad, none, pre⟩
def compOps (ops : Array Oper) : List Oper → List (List Nat) → List MO
  | [], _ => []
  | o :: r, p => compOper P ops o (p.headD []) :: compOps ops r p.tail

/-- does each operation stand behind those that must come first? -/
def edgesOk : Nat → List Oper → Bool
  | _, [] => true
  | i, o :: r => o.after.all (fun e => !Region.binds .any e || decide (e.on < i)) && edgesOk (i + 1) r

def comp : Code → MC
  | .skip => .skip
  | .region _ ops false => .ops (compOps P ops ops.toList []) false
  | .region _ ops true => if edgesOk 0 ops.toList then .ops (compOps P ops ops.toList (presOf ops.toList [])) true else .ops [⟨none, .bad, none, []⟩] false
  | .seq a b => .seq (comp a) (comp b)
  | .cond c a b =>
    match opd c with
    | some c => .cond c (comp a) (comp b)
    | none => .ops [⟨none, .bad, none, []⟩] false
  | .block id b => .block id (comp b)
  | .loop b => .loop [] (comp b)
  | .exit id => .exit id
  | .ret => .ret
  | .label _ => .skip
  | _ => .ops [⟨none, .bad, none, []⟩] false
end

/-! ### which slots live at a loop's head -/
def addN (l : List Nat) (n : Nat) : List Nat := if n ∈ l then l else n :: l
def unionN (a b : List Nat) : List Nat := a.foldl addN b
def liveOps : List MO → List Nat → List Nat
  | [], after => after
  | o :: r, after =>
    let l := liveOps r after
    let l := match o.dst with | some t => l.filter (· != t) | none => l
    unionN o.uses l
def lookN : List (Nat × List Nat) → Nat → List Nat
  | [], _ => []
  | (k, v) :: r, n => if k = n then v else lookN r n
def liveIn (ret : List Nat) : MC → List Nat → List (Nat × List Nat) → List Nat
  | .skip, after, _ => after
  | .ops l _, after, _ => liveOps l after
  | .seq a b, after, x => liveIn ret a (liveIn ret b after x) x
  | .cond c a b, after, x => unionN c.tmps (unionN (liveIn ret a after x) (liveIn ret b after x))
  | .block id b, after, x => liveIn ret b after ((id, after) :: x)
  | .loop _ b, _, x =>
    let l := liveIn ret b [] x
    let l := liveIn ret b l x
    liveIn ret b l x
  | .exit i, _, x => lookN x i
  | .ret, _, _ => ret
def insN (n : Nat) : List Nat → List Nat
  | [] => [n]
  | a :: r => if n ≤ a then n :: a :: r else a :: insN n r
def sortN : List Nat → List Nat
  | [] => []
  | a :: r => insN a (sortN r)
def annot (ret : List Nat) : MC → List Nat → List (Nat × List Nat) → MC
  | .seq a b, after, x => .seq (annot ret a (liveIn ret b after x) x) (annot ret b after x)
  | .cond c a b, after, x => .cond c (annot ret a after x) (annot ret b after x)
  | .block id b, after, x => .block id (annot ret b after ((id, after) :: x))
  | .loop _ b, _, x =>
    let l := liveIn ret (.loop [] b) [] x
    .loop (sortN l) (annot ret b l x)
  | c, _, _ => c
def compRes (P : Program) : List ResultVar → Option (List RV)
  | [] => some []
  | .tmp t :: r => (compRes P r).map fun l => .tmp t :: l
  | .cell t ty :: r =>
    match tyLoad P ty, compRes P r with
    | some (agg, n), some l => some (.cell t n agg :: l)
    | _, _ => none
def RV.tmps : RV → Nat
  | .tmp t => t
  | .cell t _ _ => t
/-- does every operation write into a slot that there is? -/
def dstsOk (n : Nat) : List MO → Bool
  | [] => true
  | o :: r => (match o.dst with | some t => decide (t < n) | none => true) && dstsOk n r
def MC.fits (n : Nat) : MC → Bool
  | .ops l _ => dstsOk n l
  | .seq a b => a.fits n && b.fits n
  | .cond _ a b => a.fits n && b.fits n
  | .block _ b => b.fits n
  | .loop _ b => b.fits n
  | _ => true
def compFn (P : Program) (inl : Bool) (fn : Func) : Option FnM :=
  match fn.body, compRes P fn.results.toList with
  | some c, some res =>
    let m := comp P c
    let r := res.map RV.tmps
    if m.fits fn.ntmps then some ⟨annot r m r [], res, inl⟩ else none
  | _, _ => none
end Go.Proofs.Ytnccnmeecngopaa.Fw
