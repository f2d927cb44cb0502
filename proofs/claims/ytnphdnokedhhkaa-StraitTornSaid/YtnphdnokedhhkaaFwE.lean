/- The abstract evaluator, part E: operations without memory say what the machine does. | The abstract evaluator, part F: the pure operations, whole. | The abstract evaluator, part G: conversions, builtins, functions without a body. | The abstract evaluator, part H: functions without a body; cells; loads, stores, addresses. | The abstract evaluator, part I: cells, loads, stores, addresses. | The abstract evaluator, part J: an operation that is no call does what 'opSem' says. -/
import Derived.Test.YtnphdnokedhhkaaFwA
import Derived.KernelRfl
import Derived.Laws.CopyRow
set_option linter.unusedVariables false
set_option linter.unusedSimpArgs false
namespace Go.Proofs.Ytnphdnokedhhkaa.Fw
open Go

/-! ### floats -/
theorem isNaN_iff (b : Nat) : isNaN b = true ↔ ∃ s t, Ieee.double.read b = .nan s t := by
  unfold isNaN
  cases h : Ieee.double.read b <;> simp [Ieee.Datum.isNaN]
theorem isNaN_qnan : isNaN qnan = true := by decide +kernel
theorem isNaN_canon (b : Nat) : isNaN (canon b) = isNaN b := by
  unfold canon
  split
  · rename_i h; rw [isNaN_qnan, h]
  · rfl
theorem canon_nan {b : Nat} (h : isNaN b = true) : canon b = qnan := by simp [canon, h]
theorem canon_num {b : Nat} (h : isNaN b = false) : canon b = b := by simp [canon, h]
theorem canon_canon (b : Nat) : canon (canon b) = canon b := by
  cases h : isNaN b
  · rw [canon_num h, canon_num h]
  · rw [canon_nan h, canon_nan isNaN_qnan]
/-- what does not tell one NaN from another -/
theorem two_canon {α : Type} (f : Ieee.Datum → Ieee.Datum → Option α) (h1 : ∀ s t d, f (.nan s t) d = none) (h2 : ∀ s t d, f d (.nan s t) = none) (a b : Nat) :
    f (Ieee.double.read a) (Ieee.double.read b) = f (Ieee.double.read (canon a)) (Ieee.double.read (canon b)) := by
  cases ha : isNaN a
  · cases hb : isNaN b
    · rw [canon_num ha, canon_num hb]
    · obtain ⟨s, t, e⟩ := (isNaN_iff b).1 hb
      obtain ⟨s', t', e'⟩ := (isNaN_iff qnan).1 isNaN_qnan
      rw [canon_nan hb, e, e', h2, h2]
  · obtain ⟨s, t, e⟩ := (isNaN_iff a).1 ha
    obtain ⟨s', t', e'⟩ := (isNaN_iff qnan).1 isNaN_qnan
    rw [canon_nan ha, e, e', h1, h1]
theorem sum_nan_r (s : Bool) (t : Nat) (d : Ieee.Datum) : d.sum (.nan s t) = none := by cases d <;> rfl
theorem product_nan_r (s : Bool) (t : Nat) (d : Ieee.Datum) : d.product (.nan s t) = none := by cases d <;> rfl
theorem quotient_nan_r (n : Nat) (s : Bool) (t : Nat) (d : Ieee.Datum) : d.quotient n (.nan s t) = none := by cases d <;> rfl
theorem order_nan_r (s : Bool) (t : Nat) (d : Ieee.Datum) : d.order (.nan s t) = none := by cases d <;> rfl
theorem add_canon (a b : Nat) : Ieee.double.add a b = Ieee.double.add (canon a) (canon b) := by
  unfold Ieee.Format.add
  rw [two_canon (fun x y => x.sum y) (fun _ _ _ => rfl) (fun s t d => sum_nan_r s t d) a b]
theorem sub_canon (a b : Nat) : Ieee.double.sub a b = Ieee.double.sub (canon a) (canon b) := by
  unfold Ieee.Format.sub
  rw [two_canon (fun x y => x.sum y.opposite) (fun _ _ _ => rfl) (fun s t d => sum_nan_r (!s) t d) a b]
theorem mul_canon (a b : Nat) : Ieee.double.mul a b = Ieee.double.mul (canon a) (canon b) := by
  unfold Ieee.Format.mul
  rw [two_canon (fun x y => x.product y) (fun _ _ _ => rfl) (fun s t d => product_nan_r s t d) a b]
theorem div_canon (a b : Nat) : Ieee.double.div a b = Ieee.double.div (canon a) (canon b) := by
  unfold Ieee.Format.div
  rw [two_canon (fun x y => x.quotient _ y) (fun _ _ _ => rfl) (fun s t d => quotient_nan_r _ s t d) a b]
theorem order_canon (a b : Nat) : Ieee.double.order a b = Ieee.double.order (canon a) (canon b) := by
  unfold Ieee.Format.order
  exact two_canon (fun x y => x.order y) (fun _ _ _ => rfl) (fun s t d => order_nan_r s t d) a b

theorem nan_cut (t : Nat) : isNaN ((t % 2) * 2 ^ 63 + 0x7ff0000000000000 + 1 + (t / 2) % (2 ^ 52 - 1)) = true := by
  generalize hr : (t / 2) % (2 ^ 52 - 1) = r
  have hr' : r < 2 ^ 52 - 1 := by rw [← hr]; exact Nat.mod_lt _ (by decide)
  generalize hs : t % 2 = s
  have hs' : s < 2 := by rw [← hs]; exact Nat.mod_lt _ (by decide)
  clear hr hs
  have e : (s * 2 ^ 63 + 0x7ff0000000000000 + 1 + r) % 2 ^ 63 = 0x7ff0000000000000 + 1 + r := by omega
  unfold isNaN Ieee.Format.read
  simp only [show Ieee.double.signWeight = 2 ^ 63 from rfl, show Ieee.double.binade = 2 ^ 52 from rfl, show Ieee.double.infRung = 0x7ff0000000000000 from rfl, e]
  rw [if_neg (by omega), if_neg (by omega), if_neg (by omega)]
  rfl

/-- the same heap: draws alone -/
structure Still (w w' : World) : Prop where
  heap : w'.heap = w.heap
  os : w'.os = w.os
  tape : w'.tape = w.tape
  output : w'.output = w.output
theorem Still.refl (w : World) : Still w w := ⟨rfl, rfl, rfl, rfl⟩
theorem Still.trans {a b c : World} (h : Still a b) (k : Still b c) : Still a c := ⟨k.heap.trans h.heap, k.os.trans h.os, k.tape.trans h.tape, k.output.trans h.output⟩
theorem Still.below {w w' : World} (h : Still w w') (B : Nat) : RowKit.Below B w w' := ⟨h.os, h.tape, h.output, by rw [h.heap]; exact Nat.le_refl _, fun k _ => by rw [h.heap]⟩

theorem run_choose_nan (P : Program) (w : World) (q : Question) (hf : q.forced = false) (hq : ∀ t, isNaN (q.cut t) = true) : ∃ n w', (choose q).run P w = .ok n w' ∧ isNaN n = true ∧ Still w w' := by
  exact ⟨q.cut (w.tape w.drawn q), { w with drawn := w.drawn + 1 }, by simp [choose, Sem.run, hf], hq _, ⟨rfl, rfl, rfl, rfl⟩⟩

def arOf : BinOp → Nat → Nat → Option Nat
  | .add => Ieee.double.add
  | .sub => Ieee.double.sub
  | .mul => Ieee.double.mul
  | .quo => Ieee.double.div
  | _ => fun _ _ => none
theorem run_floatArith' (P : Program) (w : World) (op : BinOp) (hop : op = .add ∨ op = .sub ∨ op = .mul ∨ op = .quo) (a b : Nat) :
    ∃ r w', (Op.floatArith op .f64 a b).run P w = .ok (.float .f64 r) w' ∧ canon r = cOpt (arOf op (canon a) (canon b)) ∧ Still w w' := by
  obtain ⟨n, w1, hn, hi, hs⟩ := run_choose_nan P w (.nanBits .f64 a b) rfl nan_cut
  rcases hop with rfl | rfl | rfl | rfl
  · cases h : Ieee.double.add a b with
    | some r => exact ⟨r, w, by simp [Op.floatArith, FloatKind.format, h], by simp [arOf, ← add_canon, h, cOpt], Still.refl w⟩
    | none => exact ⟨n, w1, by simp only [Op.floatArith, FloatKind.format, h, Sem.run_bind, Sem.run_pure, Result.andThen_ok, hn], by simp [arOf, ← add_canon, h, cOpt, canon_nan hi], hs⟩
  · cases h : Ieee.double.sub a b with
    | some r => exact ⟨r, w, by simp [Op.floatArith, FloatKind.format, h], by simp [arOf, ← sub_canon, h, cOpt], Still.refl w⟩
    | none => exact ⟨n, w1, by simp only [Op.floatArith, FloatKind.format, h, Sem.run_bind, Sem.run_pure, Result.andThen_ok, hn], by simp [arOf, ← sub_canon, h, cOpt, canon_nan hi], hs⟩
  · cases h : Ieee.double.mul a b with
    | some r => exact ⟨r, w, by simp [Op.floatArith, FloatKind.format, h], by simp [arOf, ← mul_canon, h, cOpt], Still.refl w⟩
    | none => exact ⟨n, w1, by simp only [Op.floatArith, FloatKind.format, h, Sem.run_bind, Sem.run_pure, Result.andThen_ok, hn], by simp [arOf, ← mul_canon, h, cOpt, canon_nan hi], hs⟩
  · cases h : Ieee.double.div a b with
    | some r => exact ⟨r, w, by simp [Op.floatArith, FloatKind.format, h], by simp [arOf, ← div_canon, h, cOpt], Still.refl w⟩
    | none => exact ⟨n, w1, by simp only [Op.floatArith, FloatKind.format, h, Sem.run_bind, Sem.run_pure, Result.andThen_ok, hn], by simp [arOf, ← div_canon, h, cOpt, canon_nan hi], hs⟩
theorem run_carith' (P : Program) (w : World) (op : BinOp) (hop : op = .add ∨ op = .sub ∨ op = .mul ∨ op = .quo) (a b : Nat) :
    ∃ r w', (Op.Complex.arith op .f64 a b).run P w = .ok r w' ∧ canon r = cOpt (arOf op (canon a) (canon b)) ∧ Still w w' := by
  obtain ⟨r, w', h, h1, h2⟩ := run_floatArith' P w op hop a b
  exact ⟨r, w', by simp [Op.Complex.arith, h], h1, h2⟩

theorem isNaN_xor (b : Nat) : isNaN (b ^^^ 2 ^ 63) = isNaN b := by
  have e : (b ^^^ 2 ^ 63) % 2 ^ 63 = b % 2 ^ 63 := by
    rw [Nat.xor_mod_two_pow]; simp
  unfold isNaN Ieee.Format.read
  simp only [show Ieee.double.signWeight = 2 ^ 63 from rfl, e]
  split <;> (try rfl)
  split <;> (try rfl)
  split <;> rfl
theorem fneg_canon (b : Nat) : canon (b ^^^ 2 ^ 63) = fneg (canon b) := by
  unfold fneg
  cases h : isNaN b
  · rw [canon_num h]
  · rw [canon_nan h, canon_nan (by rw [isNaN_xor]; exact h), canon_nan (by rw [isNaN_xor]; exact isNaN_qnan)]

theorem toInt_canon (b : Nat) (h : isNaN b = true) (way : Ieee.Toward) : (Ieee.double.read b).toInt way = none := by
  obtain ⟨s, t, e⟩ := (isNaN_iff b).1 h
  rw [e]; rfl

section
variable {P : Program} {ρ : Map} {old : List Nat → Prop} {w : World}

theorem absV_rel {v : Value} {a : AV} (h : absV v = some a) : RelV ρ old w a v := by
  unfold absV at h
  split at h <;> first | (cases h; done) | skip
  all_goals (cases h; simp only [RelV])
  · exact ⟨_, rfl, rfl⟩
  · exact ⟨_, _, rfl, rfl, rfl⟩
theorem absL_rel : ∀ {vs : List Value} {as : List AV}, absL vs = some as → RelL ρ old w as vs
  | [], as, h => by simp only [absL] at h; cases h; simp only [RelL]
  | v :: r, as, h => by
    simp only [absL] at h
    split at h
    · rename_i a l h1 h2
      cases h
      simp only [RelL]
      exact ⟨absV_rel h1, absL_rel h2⟩
    · cases h
theorem absC_rel {v : Value} {a : AV} (h : absC v = some a) : RelV ρ old w a v := by
  unfold absC at h
  split at h
  · rename_i cs
    cases h1 : absL cs.toList with
    | none => simp [h1] at h
    | some l =>
      simp [h1] at h
      subst h
      simp only [RelV]
      exact ⟨cs, rfl, absL_rel h1⟩
  · rename_i f x y
    split at h
    · rename_i hh
      cases h
      simp only [RelV]
      exact ⟨x, y, rfl, by rw [Array.eq_empty_of_size_eq_zero hh.1]; simp [RelL], by rw [Array.eq_empty_of_size_eq_zero hh.2]; simp [RelL]⟩
    · cases h
  · exact absV_rel h

def ERel (ρ : Map) (old : List Nat → Prop) (w : World) (e : Env) (tmps : Array Value) : Prop := ∀ t, RelV ρ old w (e.get t) (tmps.getD t undef)

theorem opd_rel {e : Env} {a : Act} (hE : ERel ρ old w e a.tmps) {x : Operand} {o : Opd} (h : opd x = some o) : RelV ρ old w (o.ev e) (a.eval x) := by
  cases x with
  | tmp t => simp only [opd] at h; cases h; exact hE t
  | const v =>
    simp only [opd] at h
    cases h1 : absC v with
    | none => simp [h1] at h
    | some c => simp [h1] at h; subst h; exact absC_rel h1
  | global g => simp [opd] at h
  | func f =>
    simp only [opd] at h; cases h
    show RelV ρ old w (.fn (.func f) [] []) (.func (.func f) #[] #[])
    simp only [RelV]
    exact ⟨_, _, rfl, by simp [RelL], by simp [RelL]⟩
theorem opds_rel {e : Env} {a : Act} (hE : ERel ρ old w e a.tmps) : ∀ {xs : List Operand} {os : List Opd}, opds xs = some os → RelL ρ old w (Opd.evs e os) (xs.map a.eval)
  | [], os, h => by simp only [opds] at h; cases h; simp [Opd.evs, RelL]
  | x :: r, os, h => by
    simp only [opds] at h
    split at h
    · rename_i o l h1 h2
      cases h
      simp only [Opd.evs, List.map_cons, RelL]
      exact ⟨opd_rel hE h1, opds_rel hE h2⟩
    · cases h

/-- what a pure operation does: draws alone -/
def Yields (P : Program) (ρ : Map) (old : List Nat → Prop) (w : World) (s : Sem Value) (v : AV) : Prop := ∃ u w', s.run P w = .ok u w' ∧ Still w w' ∧ RelV ρ old w v u
theorem Yields.mk {s : Sem Value} {v : AV} {u : Value} (h : s.run P w = .ok u w) (hr : RelV ρ old w v u) : Yields P ρ old w s v := ⟨u, w, h, Still.refl w, hr⟩

theorem rel_int {k : IntKind} {n : Int} {y : Value} (h : RelV ρ old w (.v (.int k n)) y) : y = .int k n := by simpa only [RelV] using h
theorem rel_v {x y : Value} (h : RelV ρ old w (.v x) y) : y = x := by simpa only [RelV] using h
theorem rel_flt {a : Nat} {y : Value} (h : RelV ρ old w (.flt a) y) : ∃ b, y = .float .f64 b ∧ canon b = a := by simpa only [RelV] using h
theorem rel_cpx {a b : Nat} {y : Value} (h : RelV ρ old w (.cpx a b) y) : ∃ c d, y = .complex .f64 c d ∧ canon c = a ∧ canon d = b := by simpa only [RelV] using h
theorem rel_bool_mk (b : Bool) : RelV ρ old w (.v (.bool b)) (.bool b) := by simp only [RelV]
theorem rel_v_mk (x : Value) : RelV ρ old w (.v x) x := by simp only [RelV]
theorem rel_flt_mk {a b : Nat} (h : canon b = a) : RelV ρ old w (.flt a) (.float .f64 b) := by simp only [RelV]; exact ⟨b, rfl, h⟩

theorem intBin_yields {op : BinOp} {k : IntKind} {a b : Int} {v : AV} (hop : op ≠ .shl ∧ op ≠ .shr) (h : intBin op k a b = some v) (t : TypeId) : Yields P ρ old w (binOp op t (.int k a) (.int k b)) v := by
  unfold intBin at h
  split at h <;> first | (cases h; done) | (exact absurd rfl hop.1) | (exact absurd rfl hop.2) | skip
  all_goals first
    | (cases h; exact Yields.mk (by simp [binOp, Op.intArith, Op.intBits, Op.intCmp]) (rel_v_mk _))
    | (split at h
       · cases h
       · rename_i hb; cases h; exact Yields.mk (by simp [binOp, Op.intDiv, hb]) (rel_v_mk _))
theorem shiftBin_yields {op : BinOp} {k k' : IntKind} {a b : Int} {v : AV} (hop : op = .shl ∨ op = .shr) (h : shiftBin op k a b = some v) (t : TypeId) : Yields P ρ old w (binOp op t (.int k a) (.int k' b)) v := by
  unfold shiftBin at h
  split at h
  · cases h
  · rename_i hb
    rcases hop with rfl | rfl
    · cases h; exact Yields.mk (by simp [binOp, Op.shift, hb]) (rel_v_mk _)
    · cases h; exact Yields.mk (by simp [binOp, Op.shift, hb]) (rel_v_mk _)
theorem fltBin_yields {op : BinOp} {x y : Nat} {v : AV} (h : fltBin op (canon x) (canon y) = some v) (t : TypeId) : Yields P ρ old w (binOp op t (.float .f64 x) (.float .f64 y)) v := by
  have ar : ∀ op, (op = .add ∨ op = .sub ∨ op = .mul ∨ op = .quo) → Yields P ρ old w (binOp op t (.float .f64 x) (.float .f64 y)) (.flt (cOpt (arOf op (canon x) (canon y)))) := by
    intro op hop
    obtain ⟨r, w', h1, h2, h3⟩ := run_floatArith' P w op hop x y
    refine ⟨.float .f64 r, w', ?_, h3, rel_flt_mk h2⟩
    rcases hop with rfl | rfl | rfl | rfl <;> simpa [binOp] using h1
  have od : ford (canon x) (canon y) = Ieee.double.order x y := (order_canon x y).symm
  unfold fltBin at h
  split at h <;> first | (cases h; done) | skip
  all_goals cases h
  · exact ar _ (by simp)
  · exact ar _ (by simp)
  · exact ar _ (by simp)
  · exact ar _ (by simp)
  all_goals exact Yields.mk (by simp only [binOp, Op.floatCmp, FloatKind.format, feq, flt, fle, fgt, fge, od]; first | rfl | (simp; done)) (rel_v_mk _)
end
end Go.Proofs.Ytnphdnokedhhkaa.Fw
namespace Go.Proofs.Ytnphdnokedhhkaa.Fw
open Go

section
variable {P : Program} {ρ : Map} {old : List Nat → Prop} {w : World}

theorem rel_cpx_mk {a b c d : Nat} (h : canon c = a) (h' : canon d = b) : RelV ρ old w (.cpx a b) (.complex .f64 c d) := by simp only [RelV]; exact ⟨c, d, rfl, h, h'⟩
theorem Yields.of_run {s s' : Sem Value} {v : AV} (h : Yields P ρ old w s v) (e : ∀ w, s'.run P w = s.run P w) : Yields P ρ old w s' v := by
  obtain ⟨u, w', h1, h2⟩ := h
  exact ⟨u, w', by rw [e]; exact h1, h2⟩

theorem cpxBin_yields {op : BinOp} {a b c d : Nat} {v : AV} (h : cpxBin op (canon a) (canon b) (canon c) (canon d) = some v) (t : TypeId) : Yields P ρ old w (binOp op t (.complex .f64 a b) (.complex .f64 c d)) v := by
  have sums : ∀ op, (op = .add ∨ op = .sub) → Yields P ρ old w (binOp op t (.complex .f64 a b) (.complex .f64 c d)) (.cpx (cOpt (arOf op (canon a) (canon c))) (cOpt (arOf op (canon b) (canon d)))) := by
    intro op hop
    obtain ⟨r, w1, h1, h2, h3⟩ := run_carith' P w op (by rcases hop with h | h <;> simp [h]) a c
    obtain ⟨r', w2, h1', h2', h3'⟩ := run_carith' P w1 op (by rcases hop with h | h <;> simp [h]) b d
    refine ⟨.complex .f64 r r', w2, ?_, h3.trans h3', rel_cpx_mk h2 h2'⟩
    rcases hop with rfl | rfl <;> simp [binOp, Op.complexOp, h1, h1']
  have od1 : ford (canon a) (canon c) = Ieee.double.order a c := (order_canon a c).symm
  have od2 : ford (canon b) (canon d) = Ieee.double.order b d := (order_canon b d).symm
  unfold cpxBin at h
  split at h <;> first | (cases h; done) | skip
  all_goals cases h
  · exact sums _ (by simp)
  · exact sums _ (by simp)
  · obtain ⟨r1, w1, a1, b1, s1⟩ := run_carith' P w .mul (by simp) a c
    obtain ⟨r2, w2, a2, b2, s2⟩ := run_carith' P w1 .mul (by simp) b d
    obtain ⟨r3, w3, a3, b3, s3⟩ := run_carith' P w2 .sub (by simp) r1 r2
    obtain ⟨r4, w4, a4, b4, s4⟩ := run_carith' P w3 .mul (by simp) a d
    obtain ⟨r5, w5, a5, b5, s5⟩ := run_carith' P w4 .mul (by simp) b c
    obtain ⟨r6, w6, a6, b6, s6⟩ := run_carith' P w5 .add (by simp) r4 r5
    refine ⟨.complex .f64 r3 r6, w6, ?_, ((((s1.trans s2).trans s3).trans s4).trans s5).trans s6, rel_cpx_mk ?_ ?_⟩
    · simp [binOp, Op.complexOp, Op.Complex.conv, Op.Complex.product, Op.Complex.mul, Op.Complex.sub, Op.Complex.add, a1, a2, a3, a4, a5, a6]
    · rw [b3, b1, b2]; rfl
    · rw [b6, b4, b5]; rfl
  all_goals exact Yields.mk (by simp [binOp, Op.complexOp, Op.Complex.cmp, Op.floatCmp, FloatKind.format, feq, od1, od2, asBool]) (rel_v_mk _)

theorem strBin_yields {op : BinOp} {a b : ByteArray} {v : AV} (h : strBin op a b = some v) (t : TypeId) : Yields P ρ old w (binOp op t (.string a) (.string b)) v := by
  unfold strBin at h
  split at h <;> first | (cases h; done) | skip
  · split at h
    · rename_i hl
      cases h
      refine Yields.mk (u := .string (a ++ b)) ?_ (rel_v_mk _)
      have : ¬ (((a.size + b.size : Nat) : Int) > IntKind.i64.max) := by
        have e : IntKind.i64.max = 9223372036854775807 := rfl
        rw [e]; omega
      simp only [binOp, Op.stringOp, this, if_false, Sem.run_pure]
    · cases h
  all_goals (cases h; exact Yields.mk (by simp [binOp, Op.stringOp]) (rel_v_mk _))

theorem eqGuard_run {op : BinOp} {t : TypeId} {x y : Operand} {a b : Value} (h1 : ¬ (a = .nilIface ∧ b = .nilIface)) (h2 : ∀ c d, ¬ (a = .agg c ∧ b = .agg d)) (w : World) : (eqGuard op t x y a b).run P w = .ok () w := by
  have key : (match a, b with
      | .nilIface, .nilIface => (do
        if (x matches .const _) || (y matches .const _) then return
        if ← Op.eqGuardIn Op.maxDepth t a b then unsupported (.noEntry "binop/eql: two nil values of an interface type with methods, neither of them the literal nil") : Sem Unit)
      | .agg _, .agg _ => (do
        if !(← program).eqGuardType (← program).depth t then return
        if ← Op.eqGuardIn Op.maxDepth t a b then unsupported (.noEntry "binop/eql: two nil values of an interface type with methods, in a part of a struct or an array"))
      | _, _ => pure ()).run P w = .ok () w := by
    split
    · exact absurd ⟨rfl, rfl⟩ h1
    · exact absurd ⟨rfl, rfl⟩ (h2 _ _)
    · rfl
  unfold eqGuard
  cases op <;> first | rfl | exact key

theorem eqKind_bool {t : TypeId} (h : eqKind P t = .bool) : P.underlying t = some .bool := by
  unfold eqKind at h
  split at h <;> first | assumption | cases h
theorem eqKind_slice {t : TypeId} (h : eqKind P t = .slice) : ∃ e, P.underlying t = some (.slice e) := by
  unfold eqKind at h
  split at h <;> first | exact ⟨_, by assumption⟩ | cases h
theorem eqKind_func {t : TypeId} (h : eqKind P t = .func) : ∃ a b c, P.underlying t = some (.func a b c) := by
  unfold eqKind at h
  split at h <;> first | exact ⟨_, _, _, by assumption⟩ | cases h
theorem eqKind_ptr {t : TypeId} (h : eqKind P t = .ptr) : ∃ e, P.underlying t = some (.pointer e) := by
  unfold eqKind at h
  split at h <;> first | exact ⟨_, by assumption⟩ | cases h

theorem eqIn_bool {t : TypeId} (h : P.underlying t = some .bool) (d : Nat) (a b : Bool) (w : World) : (Op.equalIn (d + 1) t (.bool a) (.bool b)).run P w = .ok (a == b) w := by
  simp [Op.equalIn, run_underlying h]
theorem eqIn_slice_l {t e : TypeId} (h : P.underlying t = some (.slice e)) (d : Nat) (a : Option Addr) (l c : Nat) (w : World) : (Op.equalIn (d + 1) t (.slice none 0 0) (.slice a l c)).run P w = .ok a.isNone w := by
  simp [Op.equalIn, run_underlying h]
theorem eqIn_slice_r {t e : TypeId} (h : P.underlying t = some (.slice e)) (d : Nat) (a : Option Addr) (l c : Nat) (w : World) : (Op.equalIn (d + 1) t (.slice a l c) (.slice none 0 0)).run P w = .ok a.isNone w := by
  cases a <;> simp [Op.equalIn, run_underlying h]
theorem eqIn_func0 {t : TypeId} {x y z} (h : P.underlying t = some (.func x y z)) (d : Nat) (w : World) : (Op.equalIn (d + 1) t .nilFunc .nilFunc).run P w = .ok true w := by
  simp [Op.equalIn, run_underlying h]
theorem eqIn_func_l {t : TypeId} {x y z} (h : P.underlying t = some (.func x y z)) (d : Nat) (f : Fn) (a b : Array Value) (w : World) : (Op.equalIn (d + 1) t .nilFunc (.func f a b)).run P w = .ok false w := by
  simp [Op.equalIn, run_underlying h]
theorem eqIn_func_r {t : TypeId} {x y z} (h : P.underlying t = some (.func x y z)) (d : Nat) (f : Fn) (a b : Array Value) (w : World) : (Op.equalIn (d + 1) t (.func f a b) .nilFunc).run P w = .ok false w := by
  simp [Op.equalIn, run_underlying h]
theorem eqIn_ptr_l {t e : TypeId} (h : P.underlying t = some (.pointer e)) (d : Nat) (a : Option Addr) (w : World) : (Op.equalIn (d + 1) t (.pointer none) (.pointer a)).run P w = .ok a.isNone w := by
  simp [Op.equalIn, run_underlying h]
theorem eqIn_ptr_r {t e : TypeId} (h : P.underlying t = some (.pointer e)) (d : Nat) (a : Option Addr) (w : World) : (Op.equalIn (d + 1) t (.pointer a) (.pointer none)).run P w = .ok a.isNone w := by
  cases a <;> simp [Op.equalIn, run_underlying h]

/-- what '==' and '!=' of two values come to, if they are compared so -/
structure Compares (P : Program) (w : World) (t : TypeId) (u1 u2 : Value) (b : Bool) : Prop where
  run : (Op.equal t u1 u2).run P w = .ok b w
  n1 : ¬ (u1 = .nilIface ∧ u2 = .nilIface)
  n2 : ∀ c d, ¬ (u1 = .agg c ∧ u2 = .agg d)
  eql : binOp .eql t u1 u2 = (do pure (.bool (← Op.equal t u1 u2)))
  neq : binOp .neq t u1 u2 = (do pure (.bool (!(← Op.equal t u1 u2))))
theorem nilSl_rel {x : AV} {b : Bool} {u : Value} (h : nilSl x = some b) (hx : RelV ρ old w x u) : ∃ a l c, u = .slice a l c ∧ a.isNone = b := by
  unfold nilSl at h
  split at h <;> first | (cases h; done) | skip
  · cases h; simp only [RelV] at hx; exact ⟨none, 0, 0, hx, rfl⟩
  · cases h; simp only [RelV] at hx
    rcases hx with ⟨_, ⟨_, _, h0⟩ | ⟨_, p, cap, e, _⟩⟩
    · omega
    · exact ⟨some p, _, cap, e, rfl⟩
  · cases h; simp only [RelV] at hx
    rcases hx with ⟨h0, _⟩ | ⟨p, cap, e, _⟩
    · cases h0
    · exact ⟨some p, _, cap, e, rfl⟩
theorem nilPt_rel {x : AV} {b : Bool} {u : Value} (h : nilPt x = some b) (hx : RelV ρ old w x u) : ∃ a, u = .pointer a ∧ a.isNone = b := by
  unfold nilPt at h
  split at h <;> first | (cases h; done) | skip
  · cases h; exact ⟨none, rel_v hx, rfl⟩
  · cases h; simp only [RelV] at hx; obtain ⟨_, p, e, _⟩ := hx; exact ⟨some p, e, rfl⟩
  · cases h; simp only [RelV] at hx; obtain ⟨b, o, e, _⟩ := hx; exact ⟨some _, e, rfl⟩
theorem nilFn_rel {x : AV} {b : Bool} {u : Value} (h : nilFn x = some b) (hx : RelV ρ old w x u) : (u = .nilFunc ∧ b = true) ∨ ((∃ f a' b', u = .func f a' b') ∧ b = false) := by
  unfold nilFn at h
  split at h <;> first | (cases h; done) | skip
  · cases h; exact .inl ⟨rel_v hx, rfl⟩
  · cases h; simp only [RelV] at hx; obtain ⟨a', b', e, _⟩ := hx; exact .inr ⟨⟨_, a', b', e⟩, rfl⟩
/-- '==' of what is no number -/
theorem eqBin_run {t : TypeId} {x y : AV} {u1 u2 : Value} {b : Bool} (hx : RelV ρ old w x u1) (hy : RelV ρ old w y u2) (h : eqBin (eqKind P t) x y = some b) : Compares P w t u1 u2 b := by
  unfold eqBin at h
  split at h
  · cases h
  · rename_i hk
    have hu := eqKind_bool hk
    split at h
    · cases h
      cases rel_v hx; cases rel_v hy
      exact ⟨eqIn_bool hu 9999 _ _ w, by simp, by simp, rfl, rfl⟩
    · cases h
  · rename_i hk
    obtain ⟨e, hu⟩ := eqKind_slice hk
    split at h
    · obtain rfl : u2 = .slice none 0 0 := by simpa only [RelV] using hy
      obtain ⟨a, l, c, rfl, rfl⟩ := nilSl_rel h hx
      exact ⟨eqIn_slice_r hu 9999 _ _ _ w, by simp, by simp, rfl, rfl⟩
    · split at h
      · obtain rfl : u1 = .slice none 0 0 := by simpa only [RelV] using hx
        obtain ⟨a, l, c, rfl, rfl⟩ := nilSl_rel h hy
        exact ⟨eqIn_slice_l hu 9999 _ _ _ w, by simp, by simp, rfl, rfl⟩
      · cases h
  · rename_i hk
    obtain ⟨e1, e2, e3, hu⟩ := eqKind_func hk
    split at h
    · obtain rfl := rel_v hy
      rcases nilFn_rel h hx with ⟨rfl, rfl⟩ | ⟨⟨f, a', b', rfl⟩, rfl⟩
      · exact ⟨eqIn_func0 hu 9999 w, by simp, by simp, rfl, rfl⟩
      · exact ⟨eqIn_func_r hu 9999 _ _ _ w, by simp, by simp, rfl, rfl⟩
    · split at h
      · obtain rfl := rel_v hx
        rcases nilFn_rel h hy with ⟨rfl, rfl⟩ | ⟨⟨f, a', b', rfl⟩, rfl⟩
        · exact ⟨eqIn_func0 hu 9999 w, by simp, by simp, rfl, rfl⟩
        · exact ⟨eqIn_func_l hu 9999 _ _ _ w, by simp, by simp, rfl, rfl⟩
      · cases h
  · rename_i hk
    obtain ⟨e, hu⟩ := eqKind_ptr hk
    split at h
    · obtain rfl := rel_v hy
      obtain ⟨a, rfl, rfl⟩ := nilPt_rel h hx
      exact ⟨eqIn_ptr_r hu 9999 _ w, by simp, by simp, rfl, rfl⟩
    · split at h
      · obtain rfl := rel_v hx
        obtain ⟨a, rfl, rfl⟩ := nilPt_rel h hy
        exact ⟨eqIn_ptr_l hu 9999 _ w, by simp, by simp, rfl, rfl⟩
      · cases h

theorem binSem_yields {op : BinOp} {t : TypeId} {ox oy : Operand} {x y : AV} {u1 u2 : Value} {v : AV} (hx : RelV ρ old w x u1) (hy : RelV ρ old w y u2) (h : binSem op (eqKind P t) x y = some v) :
    Yields P ρ old w (do eqGuard op t ox oy u1 u2; binOp op t u1 u2) v := by
  have key : (¬ (u1 = .nilIface ∧ u2 = .nilIface) ∧ (∀ c d, ¬ (u1 = .agg c ∧ u2 = .agg d))) ∧ Yields P ρ old w (binOp op t u1 u2) v := by
    unfold binSem at h
    split at h
    · rename_i k a k' b
      obtain rfl := rel_v hx
      obtain rfl := rel_v hy
      refine ⟨by simp, ?_⟩
      split at h
      · exact shiftBin_yields (by simp) h t
      · exact shiftBin_yields (by simp) h t
      · rename_i n1 n2
        split at h
        · rename_i hk; subst hk; exact intBin_yields ⟨fun e => n1 e, fun e => n2 e⟩ h t
        · cases h
    · obtain ⟨c, rfl, rfl⟩ := rel_flt hx
      obtain ⟨d, rfl, rfl⟩ := rel_flt hy
      exact ⟨by simp, fltBin_yields h t⟩
    · obtain ⟨c, d, rfl, rfl, rfl⟩ := rel_cpx hx
      obtain ⟨c', d', rfl, rfl, rfl⟩ := rel_cpx hy
      exact ⟨by simp, cpxBin_yields h t⟩
    · obtain rfl := rel_v hx
      obtain rfl := rel_v hy
      exact ⟨by simp, strBin_yields h t⟩
    · split at h <;> first | (cases h; done) | skip
      · cases hb : eqBin (eqKind P t) x y with
        | none => simp [hb] at h
        | some b =>
          simp [hb] at h; subst h
          have h1 := eqBin_run hx hy hb
          exact ⟨⟨h1.n1, h1.n2⟩, Yields.mk (by rw [h1.eql]; simp [h1.run]) (rel_v_mk _)⟩
      · cases hb : eqBin (eqKind P t) x y with
        | none => simp [hb] at h
        | some b =>
          simp [hb] at h; subst h
          have h1 := eqBin_run hx hy hb
          exact ⟨⟨h1.n1, h1.n2⟩, Yields.mk (by rw [h1.neq]; simp [h1.run]) (rel_v_mk _)⟩
  exact key.2.of_run fun w => by simp [eqGuard_run key.1.1 key.1.2]

theorem unSem_yields {op : UnOp} {x v : AV} {u : Value} (hx : RelV ρ old w x u) (h : unSem op x = some v) : Yields P ρ old w (Op.unary op u) v := by
  unfold unSem at h
  split at h <;> first | (cases h; done) | skip
  · cases h; obtain rfl := rel_v hx; exact Yields.mk (by simp [Op.unary, Op.intArith]) (rel_v_mk _)
  · cases h; obtain rfl := rel_v hx; exact Yields.mk (by simp [Op.unary, Op.intBits]) (rel_v_mk _)
  · cases h; obtain ⟨b, rfl, rfl⟩ := rel_flt hx
    exact Yields.mk (u := .float .f64 (b ^^^ 2 ^ 63)) (by simp [Op.unary, Op.negFloat]; rfl) (rel_flt_mk (fneg_canon b))
  · cases h; obtain ⟨b, c, rfl, rfl, rfl⟩ := rel_cpx hx
    exact Yields.mk (u := .complex .f64 (b ^^^ 2 ^ 63) (c ^^^ 2 ^ 63)) (by simp [Op.unary, Op.negFloat]; exact ⟨rfl, rfl⟩) (rel_cpx_mk (fneg_canon b) (fneg_canon c))
  · cases h; obtain rfl := rel_v hx; exact Yields.mk (by simp [Op.unary]) (rel_v_mk _)
end
end Go.Proofs.Ytnphdnokedhhkaa.Fw
namespace Go.Proofs.Ytnphdnokedhhkaa.Fw
open Go

section
variable {P : Program} {ρ : Map} {old : List Nat → Prop} {w : World}

theorem conv_int {src dst : TypeId} {d : TypeDesc} {k : IntKind} {x v : AV} {u : Value} (hs : P.underlying src = some d) (hd : P.underlying dst = some (.int k)) (hx : RelV ρ old w x u) (h : convSem (.toInt k) x = some v) :
    Yields P ρ old w (convert src dst u) v := by
  unfold convSem at h
  split at h <;> first | (cases h; done) | skip
  · rename_i e; cases e; cases h; obtain rfl := rel_v hx
    exact Yields.mk (by cases d <;> simp [convert, run_underlying hs, run_underlying hd, Conv.intToInt]) (rel_v_mk _)
  · rename_i a e
    cases e
    obtain ⟨b, rfl, hb⟩ := rel_flt hx
    cases hn : isNaN b with
    | true =>
      rw [← hb, canon_nan hn] at h
      simp [ftoInt, toInt_canon qnan isNaN_qnan .zero] at h
    | false =>
      rw [canon_num hn] at hb
      subst hb
      unfold ftoInt at h
      split at h
      · rename_i n hi
        split at h
        · rename_i hr
          simp at h; subst h
          exact Yields.mk (u := .int k n) (by cases d <;> simp [convert, run_underlying hs, run_underlying hd, Conv.floatToInt, FloatKind.decode, FloatKind.format, hi, hr.1, hr.2]) (rel_v_mk _)
        · simp at h
      · simp at h
  all_goals (rename_i e; cases e)
theorem conv_flt {src dst : TypeId} {d : TypeDesc} {x v : AV} {u : Value} (hs : P.underlying src = some d) (hd : P.underlying dst = some (.float .f64)) (hx : RelV ρ old w x u) (h : convSem .toFlt x = some v) :
    Yields P ρ old w (convert src dst u) v := by
  unfold convSem at h
  split at h <;> first | (cases h; done) | skip
  · rename_i e; cases e
  · rename_i e; cases e
  · cases h; obtain rfl := rel_v hx
    exact Yields.mk (by cases d <;> simp [convert, run_underlying hs, run_underlying hd, Conv.intToFloat]; all_goals rfl) (rel_flt_mk rfl)
  · cases h; obtain ⟨b, rfl, hb⟩ := rel_flt hx
    exact Yields.mk (u := .float .f64 b) (by cases d <;> simp [convert, run_underlying hs, run_underlying hd, Conv.floatToFloat]) (rel_flt_mk hb)
  · rename_i e; cases e
theorem conv_str {src dst : TypeId} {x v : AV} {u : Value} (hs : P.underlying src = some .string) (hd : P.underlying dst = some .string) (hx : RelV ρ old w x u) (h : convSem .str x = some v) :
    Yields P ρ old w (convert src dst u) v := by
  unfold convSem at h
  split at h <;> first | (cases h; done) | skip
  all_goals first | (rename_i e; cases e; done) | skip
  cases h; obtain rfl := rel_v hx
  exact Yields.mk (by simp [convert, run_underlying hs, run_underlying hd]) (rel_v_mk _)

theorem max2_yields {x y v : AV} {u1 u2 : Value} (hx : RelV ρ old w x u1) (hy : RelV ρ old w y u2) (h : max2A x y = some v) : Yields P ρ old w (Builtin.max2 u1 u2) v := by
  unfold max2A at h
  split at h <;> first | (cases h; done) | skip
  · cases h; obtain rfl := rel_v hx; obtain rfl := rel_v hy
    exact Yields.mk (by simp only [Builtin.max2, Sem.run_pure]) (rel_v_mk _)
  · cases h; obtain ⟨a, rfl, rfl⟩ := rel_flt hx; obtain ⟨b, rfl, rfl⟩ := rel_flt hy
    have od : ford (canon a) (canon b) = Ieee.double.order a b := (order_canon a b).symm
    have hnum : Ieee.double.order a b ≠ none → canon a = a ∧ canon b = b := by
      intro hne
      constructor
      · cases hn : isNaN a
        · exact canon_num hn
        · obtain ⟨s, t, e⟩ := (isNaN_iff a).1 hn
          exact absurd (by simp [Ieee.Format.order, e, Ieee.Datum.order]) hne
      · cases hn : isNaN b
        · exact canon_num hn
        · obtain ⟨s, t, e⟩ := (isNaN_iff b).1 hn
          exact absurd (by simp [Ieee.Format.order, e, order_nan_r]) hne
    cases ho : Ieee.double.order a b with
    | none =>
      obtain ⟨n, w1, hr, hi, hs⟩ := run_choose_nan P w (.nanMinMax .f64 true a b) rfl nan_cut
      refine ⟨.float .f64 n, w1, ?_, hs, rel_flt_mk ?_⟩
      · simp only [Builtin.max2, FloatKind.format, ho, Sem.run_bind, hr, Result.andThen_ok, Sem.run_pure]
      · simp only [fmax2, od, ho, canon_nan hi]
    | some c =>
      obtain ⟨ea, eb⟩ := hnum (by rw [ho]; simp)
      cases c
      · exact Yields.mk (u := .float .f64 b) (by simp only [Builtin.max2, FloatKind.format, ho, Sem.run_pure]) (rel_flt_mk (by simp only [fmax2, od, ho]))
      · exact Yields.mk (u := .float .f64 (if (FloatKind.f64.decode a).neg then b else a)) (by simp only [Builtin.max2, FloatKind.format, ho, Sem.run_pure]) (rel_flt_mk (by
          simp only [fmax2, od, ho, FloatKind.decode, FloatKind.format]
          rw [ea]; split <;> simp_all))
      · exact Yields.mk (u := .float .f64 a) (by simp only [Builtin.max2, FloatKind.format, ho, Sem.run_pure]) (rel_flt_mk (by simp only [fmax2, od, ho]))
theorem min2_yields {x y v : AV} {u1 u2 : Value} (hx : RelV ρ old w x u1) (hy : RelV ρ old w y u2) (h : min2A x y = some v) : Yields P ρ old w (Builtin.min2 u1 u2) v := by
  unfold min2A at h
  split at h <;> first | (cases h; done) | skip
  · cases h; obtain rfl := rel_v hx; obtain rfl := rel_v hy
    exact Yields.mk (by simp only [Builtin.min2, Sem.run_pure]) (rel_v_mk _)
  · cases h; obtain ⟨a, rfl, rfl⟩ := rel_flt hx; obtain ⟨b, rfl, rfl⟩ := rel_flt hy
    have od : ford (canon a) (canon b) = Ieee.double.order a b := (order_canon a b).symm
    have hnum : Ieee.double.order a b ≠ none → canon a = a ∧ canon b = b := by
      intro hne
      constructor
      · cases hn : isNaN a
        · exact canon_num hn
        · obtain ⟨s, t, e⟩ := (isNaN_iff a).1 hn
          exact absurd (by simp [Ieee.Format.order, e, Ieee.Datum.order]) hne
      · cases hn : isNaN b
        · exact canon_num hn
        · obtain ⟨s, t, e⟩ := (isNaN_iff b).1 hn
          exact absurd (by simp [Ieee.Format.order, e, order_nan_r]) hne
    cases ho : Ieee.double.order a b with
    | none =>
      obtain ⟨n, w1, hr, hi, hs⟩ := run_choose_nan P w (.nanMinMax .f64 false a b) rfl nan_cut
      refine ⟨.float .f64 n, w1, ?_, hs, rel_flt_mk ?_⟩
      · simp only [Builtin.min2, FloatKind.format, ho, Sem.run_bind, hr, Result.andThen_ok, Sem.run_pure]
      · simp only [fmin2, od, ho, canon_nan hi]
    | some c =>
      obtain ⟨ea, eb⟩ := hnum (by rw [ho]; simp)
      cases c
      · exact Yields.mk (u := .float .f64 a) (by simp only [Builtin.min2, FloatKind.format, ho, Sem.run_pure]) (rel_flt_mk (by simp only [fmin2, od, ho]))
      · exact Yields.mk (u := .float .f64 (if (FloatKind.f64.decode a).neg then a else b)) (by simp only [Builtin.min2, FloatKind.format, ho, Sem.run_pure]) (rel_flt_mk (by
          simp only [fmin2, od, ho, FloatKind.decode, FloatKind.format]
          rw [ea]; split <;> simp_all))
      · exact Yields.mk (u := .float .f64 b) (by simp only [Builtin.min2, FloatKind.format, ho, Sem.run_pure]) (rel_flt_mk (by simp only [fmin2, od, ho]))

theorem Still.keep {w w' : World} (h : Still w w') (ρ : Map) (old : List Nat → Prop) : Keep ρ ρ old old w w' := ⟨fun b _ hn => ⟨by rw [h.heap], hn⟩, fun _ _ _ _ e _ => e, fun _ h => h, fun _ _ _ _ _ _ => by unfold World.shape?; rw [h.heap], fun _ _ _ => Iff.rfl⟩

theorem Still.symm {w w' : World} (h : Still w w') : Still w' w := ⟨h.heap.symm, h.os.symm, h.tape.symm, h.output.symm⟩
theorem fold_yields {f : AV → AV → Option AV} {g : Value → Value → Sem Value} (hfg : ∀ {w : World} {x y v : AV} {u1 u2 : Value}, RelV ρ old w x u1 → RelV ρ old w y u2 → f x y = some v → Yields P ρ old w (g u1 u2) v) :
    ∀ (l : List AV) (us : List Value) (x v : AV) (u : Value) (w : World), RelV ρ old w x u → RelL ρ old w l us → foldA f x l = some v → Yields P ρ old w (us.foldlM g u) v
  | [], us, x, v, u, w, hx, hl, h => by
    cases us with
    | nil => simp only [foldA] at h; cases h; exact Yields.mk (by simp) hx
    | cons _ _ => simp only [RelL] at hl
  | a :: r, us, x, v, u, w, hx, hl, h => by
    cases us with
    | nil => simp only [RelL] at hl
    | cons b s =>
      simp only [RelL] at hl
      simp only [foldA] at h
      cases hf : f x a with
      | none => simp [hf] at h
      | some c =>
        simp [hf] at h
        obtain ⟨u', w1, h1, h2, h3⟩ := hfg hx hl.1 hf
        obtain ⟨u2, w2, h4, h5, h6⟩ := fold_yields hfg r s c v u' w1 (RelV.mono (h2.keep ρ old) _ _ h3) (RelL.mono (h2.keep ρ old) _ _ hl.2) h
        exact ⟨u2, w2, by simp [h1, h4], h2.trans h5, RelV.mono (h2.symm.keep ρ old) _ _ h6⟩

/-- which builtin it is -/
def biOf (P : Program) : Builtin → Array TypeId → BiK → Prop
  | .real, _, .real | .imag, _, .imag | .complex, _, .complex | .max, _, .max | .min, _, .min => True
  | .len, ts, .lenS => ∃ t e, ts[0]? = some t ∧ P.underlying t = some (.slice e)
  | .len, ts, .lenArr n => ∃ t e, ts[0]? = some t ∧ P.underlying t = some (.array n e)
  | .len, ts, .lenStr => ∃ t, ts[0]? = some t ∧ P.underlying t = some .string
  | _, _, _ => False
theorem biOf_comp {b : Builtin} {ts : Array TypeId} {xs ys : List Opd} {k : BiK} (h : compBi P b ts xs = some (.bi k ys)) : biOf P b ts k ∧ ys = xs := by
  unfold compBi at h
  split at h <;> first | (cases h; done) | skip
  all_goals first | (cases h; exact ⟨trivial, rfl⟩) | skip
  · split at h
    · cases h
    · rename_i t ht
      split at h <;> first | (cases h; done) | skip
      all_goals (cases h; refine ⟨?_, rfl⟩)
      · exact ⟨t, _, ht, by assumption⟩
      · exact ⟨t, _, ht, by assumption⟩
      · exact ⟨t, ht, by assumption⟩
  · split at h <;> first | (cases h; done) | skip
    split at h <;> first | (cases h; done) | skip
    split at h <;> first | (cases h; done) | skip
    split at h <;> cases h
  · split at h <;> first | (cases h; done) | skip
    split at h <;> first | (cases h; done) | skip
    split at h <;> first | (cases h; done) | skip
    split at h <;> cases h

theorem relL_one {x : AV} {us : List Value} (h : RelL ρ old w [x] us) : ∃ u, us = [u] ∧ RelV ρ old w x u := by
  match us, h with
  | [u], h => simp only [RelL] at h; exact ⟨u, rfl, h.1⟩
  | [], h => simp only [RelL] at h
  | _ :: _ :: _, h => simp only [RelL] at h; exact h.2.elim
theorem relL_two {x y : AV} {us : List Value} (h : RelL ρ old w [x, y] us) : ∃ u v, us = [u, v] ∧ RelV ρ old w x u ∧ RelV ρ old w y v := by
  match us, h with
  | u :: r, h =>
    simp only [RelL] at h
    obtain ⟨h1, h2⟩ := h
    obtain ⟨v, rfl, h3⟩ := relL_one h2
    exact ⟨u, v, rfl, h1, h3⟩
  | [], h => simp only [RelL] at h

theorem bi_yields {b : Builtin} {ts : Array TypeId} {ty : TypeId} {cs : Array Bool} {k : BiK} {xs : List AV} {us : Array Value} {v : AV} (hb : biOf P b ts k) (hx : RelL ρ old w xs us.toList) (h : biSem k xs = some v) :
    ∃ u w', (builtin b ts ty cs us).run P w = .ok (.value u) w' ∧ Still w w' ∧ RelV ρ old w v u := by
  obtain ⟨us⟩ := us
  unfold biSem at h
  split at h <;> first | (cases h; done) | skip
  · cases h
    obtain ⟨u, rfl, hu⟩ := relL_one hx
    obtain ⟨c, d, rfl, rfl, rfl⟩ := rel_cpx hu
    cases b <;> simp only [biOf] at hb
    exact ⟨.float .f64 c, w, rfl, Still.refl w, rel_flt_mk rfl⟩
  · cases h
    obtain ⟨u, rfl, hu⟩ := relL_one hx
    obtain ⟨c, d, rfl, rfl, rfl⟩ := rel_cpx hu
    cases b <;> simp only [biOf] at hb
    exact ⟨.float .f64 d, w, rfl, Still.refl w, rel_flt_mk rfl⟩
  · cases h
    obtain ⟨u1, u2, rfl, h1, h2⟩ := relL_two hx
    obtain ⟨c, rfl, rfl⟩ := rel_flt h1
    obtain ⟨d, rfl, rfl⟩ := rel_flt h2
    cases b <;> simp only [biOf] at hb
    exact ⟨.complex .f64 c d, w, rfl, Still.refl w, rel_cpx_mk rfl rfl⟩
  · cases b <;> simp only [biOf] at hb
    match us, hx with
    | [], hx => simp only [RelL] at hx
    | u :: s, hx =>
      simp only [RelL] at hx
      obtain ⟨u', w', h1, h2, h3⟩ := fold_yields (P := P) (g := Builtin.max2) (fun hx hy h => max2_yields hx hy h) _ _ _ _ _ w hx.1 hx.2 h
      exact ⟨u', w', by simp [builtin, Builtin.max_, h1], h2, h3⟩
  · cases b <;> simp only [biOf] at hb
    match us, hx with
    | [], hx => simp only [RelL] at hx
    | u :: s, hx =>
      simp only [RelL] at hx
      obtain ⟨u', w', h1, h2, h3⟩ := fold_yields (P := P) (g := Builtin.min2) (fun hx hy h => min2_yields hx hy h) _ _ _ _ _ w hx.1 hx.2 h
      exact ⟨u', w', by simp [builtin, Builtin.min_, h1], h2, h3⟩
  · cases h
    obtain ⟨u, rfl, hu⟩ := relL_one hx
    obtain rfl : u = .slice none 0 0 := by simpa only [RelV] using hu
    cases b <;> simp only [biOf] at hb
    obtain ⟨t, e, h1, h2⟩ := hb
    exact ⟨.int .i64 0, w, by simp [builtin, Builtin.len_, h1, run_underlying h2, goInt], Still.refl w, rel_v_mk _⟩
  · cases h
    obtain ⟨u, rfl, hu⟩ := relL_one hx
    simp only [RelV] at hu
    rcases hu with ⟨_, ⟨_, ⟨_, rfl⟩, h0⟩ | ⟨_, p, cap, rfl, _⟩⟩
    · subst h0
      cases b <;> simp only [biOf] at hb
      obtain ⟨t, e, h1, h2⟩ := hb
      exact ⟨.int .i64 0, w, by simp [builtin, Builtin.len_, h1, run_underlying h2, goInt], Still.refl w, rel_v_mk _⟩
    · cases b <;> simp only [biOf] at hb
      obtain ⟨t, e, h1, h2⟩ := hb
      exact ⟨_, w, by simp [builtin, Builtin.len_, h1, run_underlying h2, goInt], Still.refl w, rel_v_mk _⟩
  · cases h
    obtain ⟨u, rfl, hu⟩ := relL_one hx
    simp only [RelV] at hu
    rcases hu with ⟨rfl, rfl⟩ | ⟨p, cap, rfl, _⟩
    · cases b <;> simp only [biOf] at hb
      obtain ⟨t, e, h1, h2⟩ := hb
      exact ⟨.int .i64 0, w, by simp [builtin, Builtin.len_, h1, run_underlying h2, goInt], Still.refl w, rel_v_mk _⟩
    · cases b <;> simp only [biOf] at hb
      obtain ⟨t, e, h1, h2⟩ := hb
      exact ⟨_, w, by simp [builtin, Builtin.len_, h1, run_underlying h2, goInt], Still.refl w, rel_v_mk _⟩
  · cases h
    cases b <;> simp only [biOf] at hb
    obtain ⟨t, e, h1, h2⟩ := hb
    obtain ⟨u, rfl, hu⟩ := relL_one hx
    exact ⟨_, w, by simp [builtin, Builtin.len_, h1, run_underlying h2, goInt], Still.refl w, rel_v_mk _⟩
  · cases h
    obtain ⟨u, rfl, hu⟩ := relL_one hx
    obtain rfl := rel_v hu
    cases b <;> simp only [biOf] at hb
    obtain ⟨t, h1, h2⟩ := hb
    exact ⟨_, w, by simp [builtin, Builtin.len_, h1, run_underlying h2, goInt], Still.refl w, rel_v_mk _⟩
end
end Go.Proofs.Ytnphdnokedhhkaa.Fw
namespace Go.Proofs.Ytnphdnokedhhkaa.Fw
open Go

/-! ### functions without a body -/
theorem next_row {fn : Func} (ho : fn.origin = "") (h : Extern.allNextRows.lookup fn.name = none) : Extern.findNext fn = none := by
  unfold Extern.findNext
  simp only [h, ho, Option.map_none, show Extern.allNextRows.lookup "" = none from by kernel_rfl]
  rfl
theorem find_row {fn : Func} {e : Array Value → Sem Value} (h1 : Extern.allGenericRows.lookup fn.name = none) (h2 : Extern.allTypedRows.lookup fn.name = none) (h3 : Extern.allRows.lookup fn.name = some e) : Extern.find fn = some e := by
  unfold Extern.find
  simp only [h1, h2, h3, Option.map_none]
  rfl

theorem isNaN_quiet (s : Bool) (t : Nat) : isNaN (Ieee.double.write (.nan s (Ieee.double.quiet t))) = true := by
  have hq : (Ieee.double.quiet t) % 2 ^ 52 ≠ 0 := by
    intro h0
    have h1 : ((Ieee.double.quiet t) % 2 ^ 52).testBit 51 = true := by
      rw [Nat.testBit_mod_two_pow]
      simp only [Ieee.Format.quiet, show Ieee.double.fractionBits = 52 from rfl, Nat.testBit_or, show (2 ^ (52 - 1) : Nat).testBit 51 = true from by decide +kernel, Bool.or_true, Bool.and_true]
      decide
    rw [h0] at h1
    simp at h1
  have hlt : (Ieee.double.quiet t) % 2 ^ 52 < 2 ^ 52 := Nat.mod_lt _ (by decide)
  unfold isNaN Ieee.Format.read Ieee.Format.write Ieee.Format.word
  simp only [show Ieee.double.signWeight = 2 ^ 63 from rfl, show Ieee.double.binade = 2 ^ 52 from rfl, show Ieee.double.infRung = 0x7ff0000000000000 from rfl]
  generalize (Ieee.double.quiet t) % 2 ^ 52 = r at *
  have e : (if s = true then 2 ^ 63 + (0x7ff0000000000000 + r) else 0x7ff0000000000000 + r) % 2 ^ 63 = 0x7ff0000000000000 + r := by
    split <;> omega
  rw [e, if_neg (by omega), if_neg (by omega), if_neg (by omega)]
  rfl

section
variable {P : Program} {ρ : Map} {old : List Nat → Prop} {w : World}

theorem toIntegral_eq (nm : String) (way : Ieee.Toward) (x : Nat) : Extern.MathFloor.toIntegral nm way #[.float .f64 x] = (match Ieee.double.read x with
    | .nan s t =>
      if Ieee.double.quiet t = t then pure (.float .f64 x) else do
      let kept ← choose (.extern "math.Floor,Ceil,Trunc,RoundToEven.signallingNaN kept" 2)
      pure (.float .f64 (if kept == 1 then x else Ieee.double.write (.nan s (Ieee.double.quiet t))))
    | d => pure (.float .f64 (Ieee.double.write (d.integral way)))) := rfl
theorem fint_yields {way : Ieee.Toward} {nm : String} {b : Nat} : Yields P ρ old w (Extern.MathFloor.toIntegral nm way #[.float .f64 b]) (.flt (fint way (canon b))) := by
  cases hn : isNaN b with
  | false =>
    rw [canon_num hn]
    cases hd : Ieee.double.read b with
    | nan s t => exact absurd ((isNaN_iff b).2 ⟨s, t, hd⟩) (by simp [hn])
    | infinity s =>
      exact Yields.mk (u := .float .f64 (Ieee.double.write ((Ieee.Datum.infinity s).integral way))) (by rw [toIntegral_eq, hd]; rfl) (rel_flt_mk (by simp [fint, hn, hd]))
    | number s m e =>
      exact Yields.mk (u := .float .f64 (Ieee.double.write ((Ieee.Datum.number s m e).integral way))) (by rw [toIntegral_eq, hd]; rfl) (rel_flt_mk (by simp [fint, hn, hd]))
  | true =>
    obtain ⟨s, t, hd⟩ := (isNaN_iff b).1 hn
    rw [canon_nan hn]
    have hf : fint way qnan = qnan := by simp [fint, isNaN_qnan]
    rw [hf]
    by_cases hq : Ieee.double.quiet t = t
    · exact Yields.mk (u := .float .f64 b) (by rw [toIntegral_eq, hd]; simp [hq]) (rel_flt_mk (canon_nan hn))
    · refine ⟨.float .f64 (if ((Question.extern "math.Floor,Ceil,Trunc,RoundToEven.signallingNaN kept" 2).cut (w.tape w.drawn (Question.extern "math.Floor,Ceil,Trunc,RoundToEven.signallingNaN kept" 2)) == 1) = true then b else Ieee.double.write (.nan s (Ieee.double.quiet t))), { w with drawn := w.drawn + 1 }, ?_, ⟨rfl, rfl, rfl, rfl⟩, rel_flt_mk ?_⟩
      · rw [toIntegral_eq, hd]; simp [hq, choose, Sem.run, Question.forced]
      · split
        · exact canon_nan hn
        · exact canon_nan (isNaN_quiet s t)

theorem ext_yields {f : FuncId} {fn : Func} {k : ExtK} {xs : List AV} {us : Array Value} {v : AV} (hf : P.funcs[f]? = some fn) (hb : fn.body.isNone = true) (hk : extKind fn = some k) (hx : RelL ρ old w xs us.toList) (h : extSem k xs = some v) :
    ∃ u w', (callFunc f us).run P w = .ok (.value u) w' ∧ Still w w' ∧ RelV ρ old w v u := by
  obtain ⟨us⟩ := us
  have go : ∀ (e : Array Value → Sem Value), fn.name ≠ "runtime.NumGoroutine" → Extern.findNext fn = none → Extern.find fn = some e → Yields P ρ old w (e ⟨us⟩) v → ∃ u w', (callFunc f ⟨us⟩).run P w = .ok (.value u) w' ∧ Still w w' ∧ RelV ρ old w v u := by
    intro e h0 h1 h2 ⟨u, w', h3, h4, h5⟩
    refine ⟨u, w', ?_, h4, h5⟩
    have hb0 : fn.body = none := by simpa using hb
    simp [callFunc, hf, h0, hb0, h1, h2, h3]
  unfold extKind at hk
  split at hk
  case isFalse => cases hk
  rename_i hot
  have nx : Extern.allNextRows.lookup fn.name = none → Extern.findNext fn = none := next_row hot.1
  split at hk
  · rename_i hn
    cases hk
    unfold extSem at h
    split at h <;> first | (cases h; done) | skip
    all_goals first | (rename_i e; cases e; done) | skip
    obtain ⟨u, rfl, hu⟩ := relL_one hx
    obtain ⟨b, rfl, hb'⟩ := rel_flt hu
    split at h
    · cases h
    · rename_i hna
      cases h
      rw [← hb', isNaN_canon] at hna
      rw [canon_num (by simpa using hna)] at hb'
      subst hb'
      refine go Extern.MathFloatBits.float64bits (by rw [hn]; decide) (nx (by rw [hn]; kernel_rfl)) (find_row (by rw [hn]; kernel_rfl) (by rw [hn]; kernel_rfl) (by rw [hn]; kernel_rfl)) ?_
      exact Yields.mk (u := .int .u64 b) rfl (rel_v_mk _)
  split at hk
  · rename_i hn
    cases hk
    unfold extSem at h
    split at h <;> first | (cases h; done) | skip
    all_goals first | (rename_i e; cases e; done) | skip
    obtain ⟨u, rfl, hu⟩ := relL_one hx
    obtain rfl := rel_v hu
    cases h
    refine go Extern.MathFloatBits.float64frombits (by rw [hn]; decide) (nx (by rw [hn]; kernel_rfl)) (find_row (by rw [hn]; kernel_rfl) (by rw [hn]; kernel_rfl) (by rw [hn]; kernel_rfl)) ?_
    exact Yields.mk (u := .float .f64 _) rfl (rel_flt_mk rfl)
  split at hk
  · rename_i hn
    cases hk
    unfold extSem at h
    split at h <;> first | (cases h; done) | skip
    all_goals first | (rename_i e; cases e; done) | skip
    rename_i e; cases e
    obtain ⟨u, rfl, hu⟩ := relL_one hx
    obtain ⟨b, rfl, rfl⟩ := rel_flt hu
    cases h
    exact go (Extern.MathFloor.toIntegral "math.archFloor" .down) (by rw [hn]; decide) (nx (by rw [hn]; kernel_rfl)) (find_row (by rw [hn]; kernel_rfl) (by rw [hn]; kernel_rfl) (by rw [hn]; kernel_rfl)) fint_yields
  split at hk
  · rename_i hn
    cases hk
    unfold extSem at h
    split at h <;> first | (cases h; done) | skip
    all_goals first | (rename_i e; cases e; done) | skip
    rename_i e; cases e
    obtain ⟨u, rfl, hu⟩ := relL_one hx
    obtain ⟨b, rfl, rfl⟩ := rel_flt hu
    cases h
    exact go (Extern.MathFloor.toIntegral "math.archTrunc" .zero) (by rw [hn]; decide) (nx (by rw [hn]; kernel_rfl)) (find_row (by rw [hn]; kernel_rfl) (by rw [hn]; kernel_rfl) (by rw [hn]; kernel_rfl)) fint_yields
  split at hk
  · rename_i hn
    cases hk
    unfold extSem at h
    split at h <;> first | (cases h; done) | skip
    all_goals first | (rename_i e; cases e; done) | skip
    rename_i e; cases e
    obtain ⟨u, rfl, hu⟩ := relL_one hx
    obtain ⟨b, rfl, rfl⟩ := rel_flt hu
    cases h
    exact go (Extern.MathFloor.toIntegral "math.archCeil" .up) (by rw [hn]; decide) (nx (by rw [hn]; kernel_rfl)) (find_row (by rw [hn]; kernel_rfl) (by rw [hn]; kernel_rfl) (by rw [hn]; kernel_rfl)) fint_yields
  split at hk
  · rename_i hn
    cases hk
    unfold extSem at h
    split at h <;> first | (cases h; done) | skip
    all_goals first | (rename_i e; cases e; done) | skip
    rename_i e; cases e
    obtain ⟨u, rfl, hu⟩ := relL_one hx
    obtain ⟨b, rfl, rfl⟩ := rel_flt hu
    cases h
    exact go (Extern.MathFloor.toIntegral "math.RoundToEven" .even) (by rw [hn]; decide) (nx (by rw [hn]; kernel_rfl)) (find_row (by rw [hn]; kernel_rfl) (by rw [hn]; kernel_rfl) (by rw [hn]; kernel_rfl)) fint_yields
  · cases hk
end
end Go.Proofs.Ytnphdnokedhhkaa.Fw
namespace Go.Proofs.Ytnphdnokedhhkaa.Fw
open Go

theorem add_at (b o k : Nat) : (⟨b, o, none⟩ : Addr).add k = ⟨b, o + k, none⟩ := by unfold Addr.add; split <;> simp_all

section
variable {P : Program} {ρ : Map} {old : List Nat → Prop} {w : World}

/-- the cells from (b, o) on are as the list says -/
def CellsAt (R : AV → Value → Prop) (w : World) (b o : Nat) (cs : List AV) : Prop := ∀ j v, cs[j]? = some v → ∃ u, w.cell? ⟨b, o + j, none⟩ = some u ∧ R v u

theorem RelCells.at {b : Nat} : ∀ {o : Nat} {cs : List AV}, RelCells ρ old w b o cs → CellsAt (RelV ρ old w) w b o cs
  | o, [], h => fun j v hv => by simp at hv
  | o, a :: r, h => fun j v hv => by
    simp only [RelCells] at h
    cases j with
    | zero =>
      simp at hv; subst hv
      exact h.2.2.1
    | succ j =>
      simp at hv
      obtain ⟨u, h1, h2⟩ := RelCells.at h.2.2.2 j v hv
      exact ⟨u, by rw [show o + (j + 1) = o + 1 + j by omega]; exact h1, h2⟩
theorem RelCells.drop {b : Nat} : ∀ {k o : Nat} {cs : List AV}, RelCells ρ old w b o cs → RelCells ρ old w b (o + k) (cs.drop k)
  | 0, o, cs, h => by simpa using h
  | k + 1, o, [], h => by simp only [List.drop_nil, RelCells]
  | k + 1, o, a :: r, h => by
    simp only [RelCells] at h
    have := RelCells.drop (k := k) h.2.2.2
    simpa [show o + (k + 1) = o + 1 + k by omega] using this
theorem HRel.row {B : Nat} {H : Heap} (h : HRel B ρ old w H) {s : Site} {st : List Nat} {blk : Blk} (hr : H.row s st = some blk) :
    (ρ.vt s st ∧ blk.els = [] ∧ blk.st = st ∧ H.get s = some blk) ∨ (¬ ρ.vt s st ∧ ∃ b, ρ s = some (b, blk.z, st) ∧ B ≤ b ∧ blk.st = st ∧ H.get s = some blk ∧ ∃ c ty, w.heap[b]? = some (.cells c ty (0, 0)) ∧ CellsRel (RelV ρ old w) blk c) := by
  unfold Heap.row at hr
  split at hr
  · rename_i b' hg
    split at hr
    · rename_i hs
      cases hr
      subst hs
      rcases h.there s _ hg with ⟨h1, h2, h3⟩ | ⟨hv, b, h1, h2, h3, h4⟩
      · exact .inl ⟨h1, h2, rfl, hg⟩
      exact .inr ⟨hv, b, h1, h2, rfl, hg, h4⟩
    · cases hr
  · cases hr
theorem HRel.at {B : Nat} {H : Heap} (h : HRel B ρ old w H) {s : Site} {st : List Nat} {blk : Blk} (hr : H.row s st = some blk) {i : Nat} {cs : List AV} (hi : blk.els[i]? = some cs) :
    ∃ b, ρ s = some (b, blk.z, st) ∧ B ≤ b ∧ blk.st = st ∧ H.get s = some blk ∧ ∃ c ty, w.heap[b]? = some (.cells c ty (0, 0)) ∧ CellsRel (RelV ρ old w) blk c := by
  rcases h.row hr with ⟨_, h2, _⟩ | ⟨_, h2⟩
  · rw [h2] at hi; simp at hi
  · exact h2
theorem HRel.atv {B : Nat} {H : Heap} (h : HRel B ρ old w H) {s : Site} {st : List Nat} {blk : Blk} (hr : H.row s st = some blk) {i : Nat} {cs : List AV} (hi : blk.els[i]? = some cs) : ¬ ρ.vt s st := by
  rcases h.row hr with ⟨_, h2, _⟩ | ⟨h2, _⟩
  · rw [h2] at hi; simp at hi
  · exact h2
theorem CellsRel.at {R : AV → Value → Prop} {blk : Blk} {c : Array Value} {b : Nat} {ty : TypeId} (h : CellsRel R blk c) (hb : w.heap[b]? = some (.cells c ty (0, 0))) {i : Nat} {cs : List AV} (hi : blk.els[i]? = some cs) :
    CellsAt R w b (i * blk.z) cs := fun j v hv => by
  obtain ⟨_, h2⟩ := h i cs hi
  obtain ⟨_, u, h3, h4⟩ := h2 j v hv
  exact ⟨u, by simp [World.cell?, hb, h3], h4⟩
theorem CellsAt.drop {R : AV → Value → Prop} {b o k : Nat} {cs : List AV} (h : CellsAt R w b o cs) : CellsAt R w b (o + k) (cs.drop k) := fun j v hv => by
  rw [List.getElem?_drop] at hv
  obtain ⟨u, h1, h2⟩ := h _ v hv
  exact ⟨u, by rw [Nat.add_assoc]; exact h1, h2⟩
theorem CellsAt.take {R : AV → Value → Prop} {b o k : Nat} {cs : List AV} (h : CellsAt R w b o cs) : CellsAt R w b o (cs.take k) := fun j v hv => by
  rw [List.getElem?_take] at hv
  split at hv
  · exact h j v hv
  · cases hv
theorem CellsAt.values {b : Nat} : ∀ {o : Nat} {cs : List AV}, CellsAt (RelV ρ old w) w b o cs → ∃ us : List Value, us.length = cs.length ∧ RelL ρ old w cs us ∧ ∀ j u, us[j]? = some u → w.cell? ⟨b, o + j, none⟩ = some u
  | o, [], h => ⟨[], rfl, by simp only [RelL], fun j u hu => by simp at hu⟩
  | o, a :: r, h => by
    obtain ⟨u, h1, h2⟩ := h 0 a rfl
    obtain ⟨us, h3, h4, h5⟩ := CellsAt.values (o := o + 1) (cs := r) fun j v hv => by
      obtain ⟨u, h1, h2⟩ := h (j + 1) v (by simpa using hv)
      exact ⟨u, by rw [show o + 1 + j = o + (j + 1) by omega]; exact h1, h2⟩
    refine ⟨u :: us, by simp [h3], by simp only [RelL]; exact ⟨h2, h4⟩, fun j x hx => ?_⟩
    cases j with
    | zero => simp at hx; subst hx; exact h1
    | succ j =>
      simp at hx
      rw [show o + (j + 1) = o + 1 + j by omega]; exact h5 j x hx

theorem tyLoad_run {t : TypeId} {agg : Bool} {n : Nat} (h : tyLoad P t = some (agg, n)) (w : World) : (isAgg t).run P w = .ok agg w ∧ (sizeOf t).run P w = .ok n w := by
  unfold tyLoad at h
  split at h
  · rename_i b m h1 h2
    cases h
    unfold tyAgg at h1
    unfold tySize at h2
    cases hi : P.info? t with
    | none => simp [hi] at h2
    | some i =>
      simp [hi] at h2
      refine ⟨?_, by simp [sizeOf, typeInfo, hi, h2]⟩
      split at h1
      · rename_i hu; cases h1; simp [isAgg, run_underlying hu]
      · rename_i hu; cases h1; simp [isAgg, run_underlying hu]
      · rename_i d n1 n2 hu
        cases h1
        unfold isAgg
        simp only [Sem.run_bind, run_underlying hu, Result.andThen_ok]
        cases d <;> first | rfl | exact absurd rfl (n1 _) | exact absurd rfl (n2 _ _)
      · cases h1
  · cases h
theorem tySize_run {t : TypeId} {n : Nat} (h : tySize P t = some n) (w : World) : (sizeOf t).run P w = .ok n w := by
  unfold tySize at h
  cases hi : P.info? t with
  | none => simp [hi] at h
  | some i => simp [hi] at h; simp [sizeOf, typeInfo, hi, h]
theorem tyBytes_run {t : TypeId} {n : Nat} (h : tyBytes P t = some n) (w : World) : ∃ i, P.info? t = some i ∧ i.bytes = n := by
  unfold tyBytes at h
  cases hi : P.info? t with
  | none => simp [hi] at h
  | some i => simp [hi] at h; exact ⟨i, rfl, h⟩
theorem tyZero_run {t : TypeId} {zv : List Value} (h : tyZero P t = some zv) (w : World) : ∃ z, (zeroValue t).run P w = .ok z w ∧ z.cells.toList = zv := by
  unfold tyZero at h
  split at h
  · rename_i i hi
    cases hz : i.zero with
    | none => simp [hz] at h
    | some z => simp [hz] at h; exact ⟨z, by simp [zeroValue, typeInfo, hi, hz], h⟩
  · cases h

theorem take_run {t : TypeId} {agg : Bool} {n : Nat} (ht : tyLoad P t = some (agg, n)) {b o off : Nat} {cs : List AV} {v : AV} (hc : CellsAt (RelV ρ old w) w b o cs) (h : takeCells agg n cs off = some v) :
    ∃ u, (loadVar t ⟨b, o + off, none⟩).run P w = .ok u w ∧ RelV ρ old w v u := by
  obtain ⟨h1, h2⟩ := tyLoad_run ht w
  unfold takeCells at h
  cases agg with
  | true =>
    simp only [if_true] at h
    split at h
    · rename_i hl
      cases h
      obtain ⟨us, l1, l2, l3⟩ := ((hc.drop (k := off)).take (k := n)).values
      have hn : us.length = n := by rw [l1]; simp; omega
      have hl := run_loadCells_list (P := P) w ⟨b, o + off, none⟩ us fun j u hu => by rw [add_at]; exact l3 j u hu
      rw [hn] at hl
      refine ⟨.agg us.toArray, ?_, by simp only [RelV]; exact ⟨_, rfl, by simpa using l2⟩⟩
      simp [loadVar, h1, h2, hl]
    · cases h
  | false =>
    simp only [Bool.false_eq_true, if_false] at h
    obtain ⟨u, h3, h4⟩ := hc off v h
    exact ⟨u, by simp [loadVar, h1, h3], h4⟩

theorem cell_one {a : AV} {y : Value} (hc : a.cell = true) (h : RelV ρ old w a y) : y.oneCell' = true := by
  cases a <;> simp only [AV.cell, Bool.false_eq_true] at hc <;> simp only [RelV] at h
  case v x => rw [h]; cases x <;> simp_all [Value.oneCell']
  case flt b => obtain ⟨_, rfl, _⟩ := h; rfl
  case cpx a b => obtain ⟨_, _, rfl, _⟩ := h; rfl
  case ptr => obtain ⟨_, _, rfl, _⟩ := h; rfl
  case imm => obtain ⟨_, _, rfl, _⟩ := h; rfl
  case slc => rcases h with ⟨_, ⟨_, ⟨_, rfl⟩, _⟩ | ⟨_, _, _, rfl, _⟩⟩ <;> rfl
  case lst => rcases h with ⟨_, rfl⟩ | ⟨_, _, rfl, _⟩ <;> rfl
  case nils => subst h; rfl
  case fn => obtain ⟨_, _, rfl, _⟩ := h; rfl
theorem cells_one : ∀ {cs : List AV} {ys : List Value}, allCell cs = true → RelL ρ old w cs ys → ∀ y ∈ ys, y.oneCell' = true
  | [], [], _, _ => by simp
  | a :: r, y :: s, hc, h => by
    simp only [allCell, Bool.and_eq_true] at hc
    simp only [RelL] at h
    intro z hz
    rcases List.mem_cons.1 hz with rfl | hz
    · exact cell_one hc.1 h.1
    · exact cells_one hc.2 h.2 z hz
  | [], _ :: _, _, h => by simp only [RelL] at h
  | _ :: _, [], _, h => by simp only [RelL] at h
theorem relL_length : ∀ {cs : List AV} {ys : List Value}, RelL ρ old w cs ys → ys.length = cs.length
  | [], [], _ => rfl
  | a :: r, y :: s, h => by simp only [RelL] at h; simp [relL_length h.2]
  | [], _ :: _, h => by simp only [RelL] at h
  | _ :: _, [], h => by simp only [RelL] at h
theorem relL_at : ∀ {cs : List AV} {ys : List Value}, RelL ρ old w cs ys → ∀ (j : Nat) (v : AV), cs[j]? = some v → ∃ u, ys[j]? = some u ∧ RelV ρ old w v u
  | [], [], _, j, v, h => by simp at h
  | a :: r, y :: s, h, j, v, hv => by
    simp only [RelL] at h
    cases j with
    | zero => simp at hv; subst hv; exact ⟨y, rfl, h.1⟩
    | succ j => simp at hv; obtain ⟨u, h1, h2⟩ := relL_at h.2 j v hv; exact ⟨u, by simpa using h1, h2⟩
  | [], _ :: _, h, _, _, _ => by simp only [RelL] at h
  | _ :: _, [], h, _, _, _ => by simp only [RelL] at h
/-- a value as cells -/
theorem cells_rel {x : AV} {u : Value} (hc : allCell (cellsOf x) = true) (h : RelV ρ old w x u) : RelL ρ old w (cellsOf x) u.cells.toList ∧ (∀ y ∈ u.cells.toList, y.oneCell' = true) ∧ u.cells.toList.length = (cellsOf x).length := by
  have key : RelL ρ old w (cellsOf x) u.cells.toList := by
    cases x with
    | agg cs =>
      simp only [RelV] at h
      obtain ⟨ys, rfl, h1⟩ := h
      exact h1
    | _ =>
      simp only [cellsOf, allCell, Bool.and_true] at hc ⊢
      have h1 := cell_one hc h
      have e : u.cells = #[u] := by cases u <;> simp_all [Value.cells, Value.oneCell']
      rw [e]
      simp only [RelL, and_true]
      exact h
  exact ⟨key, cells_one hc key, relL_length key⟩
theorem dry_cl {x : AV} (h : x.dry = true) : x.cl = true := by cases x <;> simp_all [AV.dry, AV.cl]
theorem clL_at : ∀ {cs : List AV}, dryL cs = true → ∀ (j : Nat) (v : AV), cs[j]? = some v → v.dry = true
  | [], _, j, v, h => by simp at h
  | a :: r, hc, j, v, h => by
    simp only [dryL, Bool.and_eq_true] at hc
    cases j with
    | zero => simp at h; subst h; exact hc.1
    | succ j => simp at h; exact clL_at hc.2 j v h
theorem clL_of : ∀ {cs : List AV}, (∀ (j : Nat) (v : AV), cs[j]? = some v → v.dry = true) → dryL cs = true
  | [], _ => rfl
  | a :: r, h => by
    simp only [dryL, Bool.and_eq_true]
    exact ⟨h 0 a rfl, clL_of fun j v hv => h (j + 1) v (by simpa using hv)⟩
end
end Go.Proofs.Ytnphdnokedhhkaa.Fw
namespace Go.Proofs.Ytnphdnokedhhkaa.Fw
open Go Go.RowKit

/-- What lies less deep, and is not in the memory at hand, stays: as it is named, and as it stands. -/
def Fr (D : Nat) (H : Heap) (ρ : Map) (w : World) (H' : Heap) (ρ' : Map) (w' : World) : Prop :=
  ∀ s, s.d < D → H.get s = none → H'.get s = none ∧ ρ' s = ρ s ∧ ∀ b z st, ρ s = some (b, z, st) → w'.heap[b]? = w.heap[b]?
theorem Fr.same {D : Nat} {H : Heap} {ρ : Map} {w w' : World} (h : ∀ b, b < w.heap.size → w'.heap[b]? = w.heap[b]?) (hb : ∀ s b z st, ρ s = some (b, z, st) → b < w.heap.size) : Fr D H ρ w H ρ w' :=
  fun s _ hs => ⟨hs, rfl, fun b z st e => h b (hb s b z st e)⟩
theorem Fr.trans {D D' : Nat} {H1 H2 H3 : Heap} {ρ1 ρ2 ρ3 : Map} {w1 w2 w3 : World} (h : Fr D H1 ρ1 w1 H2 ρ2 w2) (k : Fr D' H2 ρ2 w2 H3 ρ3 w3) (hd : D ≤ D') : Fr D H1 ρ1 w1 H3 ρ3 w3 := by
  intro s hs h1
  obtain ⟨a1, a2, a3⟩ := h s hs h1
  obtain ⟨b1, b2, b3⟩ := k s (by omega) a1
  exact ⟨b1, b2.trans a2, fun b z st e => (b3 b z st (by rw [a2]; exact e)).trans (a3 b z st e)⟩
theorem Fr.set {D B : Nat} {H : Heap} {ρ : Map} {old : List Nat → Prop} {w w' : World} (hH : HRel B ρ old w H) (x : Site) (b : Nat) (blk : Blk) (hx : ¬ x.d < D ∨ ∃ c, H.get x = some c) (hb : (∃ z st, ρ x = some (b, z, st)) ∨ w.heap.size ≤ b)
    (hsame : ∀ k, k < w.heap.size → k ≠ b → w'.heap[k]? = w.heap[k]?) (y : Nat × Nat × List Nat) : Fr D H ρ w (H.set x blk) (ρ.upd x y) w' := by
  intro s hs h1
  have hne : x ≠ s := by
    rintro rfl
    rcases hx with h | ⟨c, h⟩
    · exact h hs
    · rw [h1] at h; cases h
  refine ⟨by rw [Heap.get_set, if_neg hne]; exact h1, by simp [Map.upd, hne], fun b' z st e => hsame b' (hH.inb _ _ _ _ e).2 ?_⟩
  rintro rfl
  rcases hb with ⟨z0, st0, e0⟩ | hge
  · exact hne (hH.inj _ _ _ _ _ _ _ e0 e)
  · have := (hH.inb _ _ _ _ e).2; omega

/-- What an operation does: it leaves a value that 'v' describes, memory that 'H'' describes; only what is owned, or new, has changed. -/
def Does (P : Program) (B D : Nat) (H : Heap) (ρ : Map) (old : List Nat → Prop) (w : World) (st : List Nat) (ρe : Operand → Value) (o : Oper) (v : AV) (H' : Heap) : Prop :=
  ∃ r u w' ρ' old', (execOp ρe o).run P w = .ok r w' ∧ (r = .value u ∨ (r = .skip ∧ u = undef)) ∧ Keep ρ ρ' old old' w w' ∧ RelV ρ' old' w' v u ∧
    HRel B ρ' old' w' H' ∧ Below B w w' ∧ (∀ s, old' s → old s ∨ s = st) ∧ ρ'.av = ρ.av ∧ Fr D H ρ w H' ρ' w'

section
variable {P : Program} {B D : Nat} {ρ : Map} {old : List Nat → Prop} {w : World} {st : List Nat} {H : Heap}

theorem Does.pure {ρe : Operand → Value} {o : Oper} {v : AV} {s : Sem Value} (hH : HRel B ρ old w H) (hy : Yields P ρ old w s v)
    (he : ∀ w, (execOp ρe o).run P w = (s.run P w).andThen fun u w => .ok (.value u) w) : Does P B D H ρ old w st ρe o v H := by
  obtain ⟨u, w', h1, h2, h3⟩ := hy
  obtain ⟨k, hH'⟩ := hH.same (w' := w') (old' := old) (fun k _ => by rw [h2.heap]) (fun _ h => h)
  exact ⟨.value u, u, w', ρ, old, by rw [he, h1]; rfl, .inl rfl, k, RelV.mono k _ _ h3, hH', h2.below B, fun s h => .inl h, rfl, Fr.same (fun b _ => by rw [h2.heap]) fun s b z st e => (hH.inb _ _ _ _ e).2⟩
theorem Does.val {ρe : Operand → Value} {o : Oper} {v : AV} {u : Value} (hH : HRel B ρ old w H) (h : (execOp ρe o).run P w = .ok (.value u) w) (hr : RelV ρ old w v u) : Does P B D H ρ old w st ρe o v H := by
  obtain ⟨k, hH'⟩ := hH.same (w' := w) (old' := old) (fun k _ => rfl) (fun _ h => h)
  exact ⟨.value u, u, w, ρ, old, h, .inl rfl, k, hr, hH', Below.refl B w, fun s h => .inl h, rfl, Fr.same (fun b _ => rfl) fun s b z st e => (hH.inb _ _ _ _ e).2⟩

/-- a new block -/
theorem Does.fresh {ρe : Operand → Value} {o : Oper} {v : AV} {u : Value} (hH : HRel B ρ old w H) (hB : B ≤ w.heap.size) (hst : ¬ old st) (own : Site) (blk : Blk) (hs : blk.st = st) (c : Array Value) (ty : TypeId) {w1 : World}
    (hw1 : w1.heap = w.heap ∧ w1.os = w.os ∧ w1.tape = w.tape ∧ w1.output = w.output)
    (h : (execOp ρe o).run P w = .ok (.value u) (w1.alloc (.cells c ty (0, 0)))) (hc : CellsRel (RelV ρ old w) blk c)
    (hr : ∀ ρ' old' (w' : World), ρ' own = some (w.heap.size, blk.z, st) → ¬ ρ'.vt own st → old' st → w'.shape? w.heap.size = some (ty, c.size) → RelV ρ' old' w' v u) (hx : ¬ own.d < D ∨ ∃ c, H.get own = some c := by exact .inl (by omega)) : Does P B D H ρ old w st ρe o v (H.set own blk) := by
  have hw : w1.heap.size = w.heap.size := by rw [hw1.1]
  have hvt : ¬ ρ.vt own st := fun h => hst (hH.vold _ _ h)
  obtain ⟨k, hH'⟩ := hH.set (old' := fun s => old s ∨ s = st) (w' := w1.alloc (.cells c ty (0, 0))) own w.heap.size blk (.inr (Nat.le_refl _)) hB (.inr (by rw [hs]; exact hst)) (by rw [hs]; exact hvt)
    (fun k hk _ => by rw [Below.heap_alloc _ _ _ (by omega), hw1.1]) (fun e => by have := (hH.lt ⟨_, _, _, e⟩).2; omega) (fun _ h => .inl h) (.inr hs) ⟨c, ty, by show (w1.heap.push _)[w.heap.size]? = _; rw [← hw, Array.getElem?_push_size], hc⟩
  refine ⟨.value u, u, _, _, _, h, .inl rfl, k, hr _ _ _ (by simp [Map.upd, hs]) hvt (.inr rfl) (by unfold World.shape?; rw [show (w1.alloc (.cells c ty (0, 0))).heap[w.heap.size]? = some (.cells c ty (0, 0)) from by show (w1.heap.push _)[w.heap.size]? = _; rw [← hw, Array.getElem?_push_size]]), hH', ?_, fun s h => h, rfl, Fr.set hH own w.heap.size blk hx (.inr (Nat.le_refl _)) (fun k hk _ => by rw [Below.heap_alloc _ _ _ (by omega), hw1.1]) _⟩
  exact ⟨hw1.2.1, hw1.2.2.1, hw1.2.2.2, by show _ ≤ (w1.heap.push _).size; rw [Array.size_push]; omega, fun k hk => by rw [Below.heap_alloc _ _ _ (by omega), hw1.1]⟩


/-- an empty list that stands for no block -/
theorem Does.virt {ρe : Operand → Value} {o : Oper} {a : Option Addr} {z : Nat} {leaf : Bool} (hH : HRel B ρ old w H) (hst : ¬ old st) (own : Site) (hd : own.d = D)
    (h : (execOp ρe o).run P w = .ok (.value (.slice a 0 0)) w) : Does P B D H ρ old w st ρe o (.slc own st z 0 0 false) (H.set own ⟨st, [], z, leaf⟩) := by
  let ρv : Map := ⟨ρ.m, ρ.av, fun s q => ρ.vt s q ∨ (s = own ∧ q = st)⟩
  have k : Keep ρ ρv old (fun s => old s ∨ s = st) w w := by
    refine ⟨fun b' hlt hn => ⟨rfl, hn⟩, fun _ _ _ _ e _ => e, fun _ h => .inl h, fun _ _ _ _ _ _ => rfl, fun s q hq => ⟨fun h' => ?_, fun h' => .inl h'⟩⟩
    rcases h' with h' | ⟨_, e⟩
    · exact h'
    · subst e; exact absurd hq hst
  refine ⟨.value (.slice a 0 0), .slice a 0 0, w, ρv, fun s => old s ∨ s = st, h, .inl rfl, k, ?_, ⟨fun s' blk1 hg => ?_, fun s' q' h' => ?_, hH.inb, hH.inj⟩, Below.refl _ _, fun _ h => h, rfl, fun s hs hn => ⟨?_, rfl, fun _ _ _ _ => rfl⟩⟩
  · simp only [RelV]
    exact ⟨.inr (by trivial), .inl ⟨.inr (by exact ⟨rfl, rfl⟩), ⟨a, rfl⟩, by trivial⟩⟩
  · rw [Heap.get_set] at hg
    by_cases hq : own = s'
    · subst hq
      simp only [if_true] at hg
      cases hg
      exact .inl ⟨.inr ⟨rfl, rfl⟩, rfl, .inr rfl⟩
    · simp only [hq, if_false] at hg
      rcases hH.there s' blk1 hg with ⟨h1, h2, h3⟩ | ⟨hv, b', e, h1, h2, c', ty', h3, h4⟩
      · exact .inl ⟨.inl h1, h2, .inl h3⟩
      refine .inr ⟨?_, b', e, h1, .inl h2, c', ty', h3, h4.mono fun v u hv => RelV.mono k v u hv⟩
      rintro (h' | ⟨e', _⟩)
      · exact hv h'
      · exact hq e'.symm
  · rcases h' with h' | ⟨_, e⟩
    · exact .inl (hH.vold _ _ h')
    · exact .inr e
  · rw [Heap.get_set, if_neg (by rintro rfl; omega)]
    exact hn
theorem setRow_get (w : World) (g : Nat) (cur : Array Value) (t : TypeId) (fr : Nat × Nat) (new : Array Value) (h : w.heap[g]? = some (.cells cur t fr)) : (w.setRow g new).heap[g]? = some (.cells new t fr) := setRow_heap w g cur new t fr h
theorem setRow_other (w : World) (g : Nat) (new : Array Value) {k : Nat} (h : k ≠ g) : (w.setRow g new).heap[k]? = w.heap[k]? := by
  simp only [World.setRow, Array.getElem?_modify]
  rw [if_neg (by omega)]
theorem setRow_size (w : World) (g : Nat) (new : Array Value) : (w.setRow g new).heap.size = w.heap.size := by simp [World.setRow]

/-- a block of one's own is written. -/
theorem Does.write {ρe : Operand → Value} {o : Oper} {v : AV} {r : Next} {u : Value} (hH : HRel B ρ old w H) (s : Site) (b : Nat) (st0 : List Nat) (blk : Blk) (c0 c : Array Value) (ty : TypeId)
    (hin : ∃ c, H.get s = some c) (hρ : ρ s = some (b, blk.z, st0)) (hB : B ≤ b) (hv0 : ¬ ρ.vt s st0) (hstamp : blk.st = st0 ∨ (blk.st = st ∧ ¬ old st)) (hst0 : old st0) (hb : w.heap[b]? = some (.cells c0 ty (0, 0)))
    (h : (execOp ρe o).run P w = .ok r (w.setRow b c)) (hru : r = .value u ∨ (r = .skip ∧ u = undef)) (hc : CellsRel (RelV ρ old w) blk c) (hsz : c.size = c0.size)
    (hr : ∀ ρ' old' w', Keep ρ ρ' old old' w w' → ρ' s = some (b, blk.z, blk.st) → ¬ ρ'.vt s blk.st → old' blk.st → w'.shape? b = some (ty, c.size) → RelV ρ' old' w' v u) : Does P B D H ρ old w st ρe o v (H.set s blk) := by
  have hsh : (w.setRow b c).shape? b = some (ty, c.size) := by unfold World.shape?; rw [setRow_get w b c0 ty (0, 0) c hb]
  have hnew : old blk.st ∨ blk.st = st := by
    rcases hstamp with e | ⟨e, _⟩
    · exact .inl (by rw [e]; exact hst0)
    · exact .inr e
  have hmap : ρ s = some (b, blk.z, blk.st) ∨ ¬ old blk.st := by
    rcases hstamp with e | ⟨e, hn⟩
    · exact .inl (by rw [e]; exact hρ)
    · exact .inr (by rw [e]; exact hn)
  have hvt : ¬ ρ.vt s blk.st := by
    rcases hstamp with e | ⟨e, hn⟩
    · rw [e]; exact hv0
    · rw [e]; exact fun h => hn (hH.vold _ _ h)
  obtain ⟨k, hH'⟩ := hH.set (old' := fun s => old s ∨ s = st) (w' := w.setRow b c) s b blk (.inl ⟨_, _, hρ⟩) hB hmap hvt
    (fun k _ hne => setRow_other w b c hne) (fun _ => by rw [hsh, hsz]; unfold World.shape?; rw [hb]) (fun _ h => .inl h) hnew ⟨c, ty, setRow_get w b c0 ty (0, 0) c hb, hc⟩
  refine ⟨r, u, _, _, _, h, hru, k, hr _ _ _ k (by simp [Map.upd]) hvt hnew hsh, hH', ?_, fun s h => h, rfl, Fr.set hH s b blk (.inr hin) (.inl ⟨_, _, hρ⟩) (fun k _ hne => setRow_other w b c hne) _⟩
  exact ⟨rfl, rfl, rfl, by rw [setRow_size]; exact Nat.le_refl _, fun k hk => setRow_other w b c (by omega)⟩

theorem setRow_def (w : World) (b : Nat) (c : Array Value) : (w.setRow b c).os = w.os := rfl
end
end Go.Proofs.Ytnphdnokedhhkaa.Fw
