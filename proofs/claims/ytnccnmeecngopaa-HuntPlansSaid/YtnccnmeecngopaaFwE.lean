/- The abstract evaluator, part E: operations without memory say what the machine does. -/
import Derived.Test.YtnccnmeecngopaaFwD
set_option linter.unusedVariables false
set_option linter.unusedSimpArgs false
namespace Go.Proofs.Ytnccnmeecngopaa.Fw
open Go

/-! ### floats -/
theorem isNaN_iff (b : Nat) : isNaN b = true ↔ ∃ s t, Ieee.double.read b = .nan s t := by
  unfold isNaN
  cases h : Ieee.double.read b <;> simp [Ieee.Datum.isNaN]
theorem isNaN_qnan : isNaN qnan = true := by decide +kernel
theorem isNaN_canon (b : Nat) : isNaN (canon b) = isNaN b := by
  unfold canon
  split
  · rename_i h; rw [isNaN_qnan, h]
  · rfl
theorem canon_nan {b : Nat} (h : isNaN b = true) : canon b = qnan := by simp [canon, h]
theorem canon_num {b : Nat} (h : isNaN b = false) : canon b = b := by simp [canon, h]
theorem canon_canon (b : Nat) : canon (canon b) = canon b := by
  cases h : isNaN b
  · rw [canon_num h, canon_num h]
  · rw [canon_nan h, canon_nan isNaN_qnan]
/-- what does not tell one NaN from another -/
theorem two_canon {α : Type} (f : Ieee.Datum → Ieee.Datum → Option α) (h1 : ∀ s t d, f (.nan s t) d = none) (h2 : ∀ s t d, f d (.nan s t) = none) (a b : Nat) :
    f (Ieee.double.read a) (Ieee.double.read b) = f (Ieee.double.read (canon a)) (Ieee.double.read (canon b)) := by
  cases ha : isNaN a
  · cases hb : isNaN b
    · rw [canon_num ha, canon_num hb]
    · obtain ⟨s, t, e⟩ := (isNaN_iff b).1 hb
      obtain ⟨s', t', e'⟩ := (isNaN_iff qnan).1 isNaN_qnan
      rw [canon_nan hb, e, e', h2, h2]
  · obtain ⟨s, t, e⟩ := (isNaN_iff a).1 ha
    obtain ⟨s', t', e'⟩ := (isNaN_iff qnan).1 isNaN_qnan
    rw [canon_nan ha, e, e', h1, h1]
theorem sum_nan_r (s : Bool) (t : Nat) (d : Ieee.Datum) : d.sum (.nan s t) = none := by cases d <;> rfl
theorem product_nan_r (s : Bool) (t : Nat) (d : Ieee.Datum) : d.product (.nan s t) = none := by cases d <;> rfl
theorem quotient_nan_r (n : Nat) (s : Bool) (t : Nat) (d : Ieee.Datum) : d.quotient n (.nan s t) = none := by cases d <;> rfl
theorem order_nan_r (s : Bool) (t : Nat) (d : Ieee.Datum) : d.order (.nan s t) = none := by cases d <;> rfl
theorem add_canon (a b : Nat) : Ieee.double.add a b = Ieee.double.add (canon a) (canon b) := by
  unfold Ieee.Format.add
  rw [two_canon (fun x y => x.sum y) (fun _ _ _ => rfl) (fun s t d => sum_nan_r s t d) a b]
theorem sub_canon (a b : Nat) : Ieee.double.sub a b = Ieee.double.sub (canon a) (canon b) := by
  unfold Ieee.Format.sub
  rw [two_canon (fun x y => x.sum y.opposite) (fun _ _ _ => rfl) (fun s t d => sum_nan_r (!s) t d) a b]
theorem mul_canon (a b : Nat) : Ieee.double.mul a b = Ieee.double.mul (canon a) (canon b) := by
  unfold Ieee.Format.mul
  rw [two_canon (fun x y => x.product y) (fun _ _ _ => rfl) (fun s t d => product_nan_r s t d) a b]
theorem div_canon (a b : Nat) : Ieee.double.div a b = Ieee.double.div (canon a) (canon b) := by
  unfold Ieee.Format.div
  rw [two_canon (fun x y => x.quotient _ y) (fun _ _ _ => rfl) (fun s t d => quotient_nan_r _ s t d) a b]
theorem order_canon (a b : Nat) : Ieee.double.order a b = Ieee.double.order (canon a) (canon b) := by
  unfold Ieee.Format.order
  exact two_canon (fun x y => x.order y) (fun _ _ _ => rfl) (fun s t d => order_nan_r s t d) a b

theorem nan_cut (t : Nat) : isNaN ((t % 2) * 2 ^ 63 + 0x7ff0000000000000 + 1 + (t / 2) % (2 ^ 52 - 1)) = true := by
  generalize hr : (t / 2) % (2 ^ 52 - 1) = r
  have hr' : r < 2 ^ 52 - 1 := by rw [← hr]; exact Nat.mod_lt _ (by decide)
  generalize hs : t % 2 = s
  have hs' : s < 2 := by rw [← hs]; exact Nat.mod_lt _ (by decide)
  clear hr hs
  have e : (s * 2 ^ 63 + 0x7ff0000000000000 + 1 + r) % 2 ^ 63 = 0x7ff0000000000000 + 1 + r := by omega
  unfold isNaN Ieee.Format.read
  simp only [show Ieee.double.signWeight = 2 ^ 63 from rfl, show Ieee.double.binade = 2 ^ 52 from rfl, show Ieee.double.infRung = 0x7ff0000000000000 from rfl, e]
  rw [if_neg (by omega), if_neg (by omega), if_neg (by omega)]
  rfl

/-- the same heap: draws alone -/
structure Still (w w' : World) : Prop where
  heap : w'.heap = w.heap
  os : w'.os = w.os
  tape : w'.tape = w.tape
  output : w'.output = w.output
theorem Still.refl (w : World) : Still w w := ⟨rfl, rfl, rfl, rfl⟩
theorem Still.trans {a b c : World} (h : Still a b) (k : Still b c) : Still a c := ⟨k.heap.trans h.heap, k.os.trans h.os, k.tape.trans h.tape, k.output.trans h.output⟩
theorem Still.below {w w' : World} (h : Still w w') (B : Nat) : RowKit.Below B w w' := ⟨h.os, h.tape, h.output, by rw [h.heap]; exact Nat.le_refl _, fun k _ => by rw [h.heap]⟩

theorem run_choose_nan (P : Program) (w : World) (q : Question) (hf : q.forced = false) (hq : ∀ t, isNaN (q.cut t) = true) : ∃ n w', (choose q).run P w = .ok n w' ∧ isNaN n = true ∧ Still w w' := by
  exact ⟨q.cut (w.tape w.drawn q), { w with drawn := w.drawn + 1 }, by simp [choose, Sem.run, hf], hq _, ⟨rfl, rfl, rfl, rfl⟩⟩

def arOf : BinOp → Nat → Nat → Option Nat
  | .add => Ieee.double.add
  | .sub => Ieee.double.sub
  | .mul => Ieee.double.mul
  | .quo => Ieee.double.div
  | _ => fun _ _ => none
theorem run_floatArith' (P : Program) (w : World) (op : BinOp) (hop : op = .add ∨ op = .sub ∨ op = .mul ∨ op = .quo) (a b : Nat) :
    ∃ r w', (Op.floatArith op .f64 a b).run P w = .ok (.float .f64 r) w' ∧ canon r = cOpt (arOf op (canon a) (canon b)) ∧ Still w w' := by
  obtain ⟨n, w1, hn, hi, hs⟩ := run_choose_nan P w (.nanBits .f64 a b) rfl nan_cut
  rcases hop with rfl | rfl | rfl | rfl
  · cases h : Ieee.double.add a b with
    | some r => exact ⟨r, w, by simp [Op.floatArith, FloatKind.format, h], by simp [arOf, ← add_canon, h, cOpt], Still.refl w⟩
    | none => exact ⟨n, w1, by simp only [Op.floatArith, FloatKind.format, h, Sem.run_bind, Sem.run_pure, Result.andThen_ok, hn], by simp [arOf, ← add_canon, h, cOpt, canon_nan hi], hs⟩
  · cases h : Ieee.double.sub a b with
    | some r => exact ⟨r, w, by simp [Op.floatArith, FloatKind.format, h], by simp [arOf, ← sub_canon, h, cOpt], Still.refl w⟩
    | none => exact ⟨n, w1, by simp only [Op.floatArith, FloatKind.format, h, Sem.run_bind, Sem.run_pure, Result.andThen_ok, hn], by simp [arOf, ← sub_canon, h, cOpt, canon_nan hi], hs⟩
  · cases h : Ieee.double.mul a b with
    | some r => exact ⟨r, w, by simp [Op.floatArith, FloatKind.format, h], by simp [arOf, ← mul_canon, h, cOpt], Still.refl w⟩
    | none => exact ⟨n, w1, by simp only [Op.floatArith, FloatKind.format, h, Sem.run_bind, Sem.run_pure, Result.andThen_ok, hn], by simp [arOf, ← mul_canon, h, cOpt, canon_nan hi], hs⟩
  · cases h : Ieee.double.div a b with
    | some r => exact ⟨r, w, by simp [Op.floatArith, FloatKind.format, h], by simp [arOf, ← div_canon, h, cOpt], Still.refl w⟩
    | none => exact ⟨n, w1, by simp only [Op.floatArith, FloatKind.format, h, Sem.run_bind, Sem.run_pure, Result.andThen_ok, hn], by simp [arOf, ← div_canon, h, cOpt, canon_nan hi], hs⟩
theorem run_carith' (P : Program) (w : World) (op : BinOp) (hop : op = .add ∨ op = .sub ∨ op = .mul ∨ op = .quo) (a b : Nat) :
    ∃ r w', (Op.Complex.arith op .f64 a b).run P w = .ok r w' ∧ canon r = cOpt (arOf op (canon a) (canon b)) ∧ Still w w' := by
  obtain ⟨r, w', h, h1, h2⟩ := run_floatArith' P w op hop a b
  exact ⟨r, w', by simp [Op.Complex.arith, h], h1, h2⟩

theorem isNaN_xor (b : Nat) : isNaN (b ^^^ 2 ^ 63) = isNaN b := by
  have e : (b ^^^ 2 ^ 63) % 2 ^ 63 = b % 2 ^ 63 := by
    rw [Nat.xor_mod_two_pow]; simp
  unfold isNaN Ieee.Format.read
  simp only [show Ieee.double.signWeight = 2 ^ 63 from rfl, e]
  split <;> (try rfl)
  split <;> (try rfl)
  split <;> rfl
theorem fneg_canon (b : Nat) : canon (b ^^^ 2 ^ 63) = fneg (canon b) := by
  unfold fneg
  cases h : isNaN b
  · rw [canon_num h]
  · rw [canon_nan h, canon_nan (by rw [isNaN_xor]; exact h), canon_nan (by rw [isNaN_xor]; exact isNaN_qnan)]

theorem toInt_canon (b : Nat) (h : isNaN b = true) (way : Ieee.Toward) : (Ieee.double.read b).toInt way = none := by
  obtain ⟨s, t, e⟩ := (isNaN_iff b).1 h
  rw [e]; rfl

section
variable {P : Program} {ρ : Map} {old : List Nat → Prop} {w : World}

theorem absV_rel {v : Value} {a : AV} (h : absV v = some a) : RelV ρ old w a v := by
  unfold absV at h
  split at h <;> first | (cases h; done) | skip
  all_goals (cases h; simp only [RelV])
  · exact ⟨_, rfl, rfl⟩
  · exact ⟨_, _, rfl, rfl, rfl⟩
theorem absL_rel : ∀ {vs : List Value} {as : List AV}, absL vs = some as → RelL ρ old w as vs
  | [], as, h => by simp only [absL] at h; cases h; simp only [RelL]
  | v :: r, as, h => by
    simp only [absL] at h
    split at h
    · rename_i a l h1 h2
      cases h
      simp only [RelL]
      exact ⟨absV_rel h1, absL_rel h2⟩
    · cases h
theorem absC_rel {v : Value} {a : AV} (h : absC v = some a) : RelV ρ old w a v := by
  unfold absC at h
  split at h
  · rename_i cs
    cases h1 : absL cs.toList with
    | none => simp [h1] at h
    | some l =>
      simp [h1] at h
      subst h
      simp only [RelV]
      exact ⟨cs, rfl, absL_rel h1⟩
  · rename_i f x y
    split at h
    · rename_i hh
      cases h
      simp only [RelV]
      exact ⟨x, y, rfl, by rw [Array.eq_empty_of_size_eq_zero hh.1]; simp [RelL], by rw [Array.eq_empty_of_size_eq_zero hh.2]; simp [RelL]⟩
    · cases h
  · exact absV_rel h

def ERel (ρ : Map) (old : List Nat → Prop) (w : World) (e : Env) (tmps : Array Value) : Prop := ∀ t, RelV ρ old w (e.get t) (tmps.getD t undef)

theorem opd_rel {e : Env} {a : Act} (hE : ERel ρ old w e a.tmps) {x : Operand} {o : Opd} (h : opd x = some o) : RelV ρ old w (o.ev e) (a.eval x) := by
  cases x with
  | tmp t => simp only [opd] at h; cases h; exact hE t
  | const v =>
    simp only [opd] at h
    cases h1 : absC v with
    | none => simp [h1] at h
    | some c => simp [h1] at h; subst h; exact absC_rel h1
  | global g => simp [opd] at h
  | func f =>
    simp only [opd] at h; cases h
    show RelV ρ old w (.fn (.func f) [] []) (.func (.func f) #[] #[])
    simp only [RelV]
    exact ⟨_, _, rfl, by simp [RelL], by simp [RelL]⟩
theorem opds_rel {e : Env} {a : Act} (hE : ERel ρ old w e a.tmps) : ∀ {xs : List Operand} {os : List Opd}, opds xs = some os → RelL ρ old w (Opd.evs e os) (xs.map a.eval)
  | [], os, h => by simp only [opds] at h; cases h; simp [Opd.evs, RelL]
  | x :: r, os, h => by
    simp only [opds] at h
    split at h
    · rename_i o l h1 h2
      cases h
      simp only [Opd.evs, List.map_cons, RelL]
      exact ⟨opd_rel hE h1, opds_rel hE h2⟩
    · cases h

/-- what a pure operation does: draws alone -/
def Yields (P : Program) (ρ : Map) (old : List Nat → Prop) (w : World) (s : Sem Value) (v : AV) : Prop := ∃ u w', s.run P w = .ok u w' ∧ Still w w' ∧ RelV ρ old w v u
theorem Yields.mk {s : Sem Value} {v : AV} {u : Value} (h : s.run P w = .ok u w) (hr : RelV ρ old w v u) : Yields P ρ old w s v := ⟨u, w, h, Still.refl w, hr⟩

theorem rel_int {k : IntKind} {n : Int} {y : Value} (h : RelV ρ old w (.v (.int k n)) y) : y = .int k n := by simpa only [RelV] using h
theorem rel_v {x y : Value} (h : RelV ρ old w (.v x) y) : y = x := by simpa only [RelV] using h
theorem rel_flt {a : Nat} {y : Value} (h : RelV ρ old w (.flt a) y) : ∃ b, y = .float .f64 b ∧ canon b = a := by simpa only [RelV] using h
theorem rel_cpx {a b : Nat} {y : Value} (h : RelV ρ old w (.cpx a b) y) : ∃ c d, y = .complex .f64 c d ∧ canon c = a ∧ canon d = b := by simpa only [RelV] using h
theorem rel_bool_mk (b : Bool) : RelV ρ old w (.v (.bool b)) (.bool b) := by simp only [RelV]
theorem rel_v_mk (x : Value) : RelV ρ old w (.v x) x := by simp only [RelV]
theorem rel_flt_mk {a b : Nat} (h : canon b = a) : RelV ρ old w (.flt a) (.float .f64 b) := by simp only [RelV]; exact ⟨b, rfl, h⟩

theorem intBin_yields {op : BinOp} {k : IntKind} {a b : Int} {v : AV} (hop : op ≠ .shl ∧ op ≠ .shr) (h : intBin op k a b = some v) (t : TypeId) : Yields P ρ old w (binOp op t (.int k a) (.int k b)) v := by
  unfold intBin at h
  split at h <;> first | (cases h; done) | (exact absurd rfl hop.1) | (exact absurd rfl hop.2) | skip
  all_goals first
    | (cases h; exact Yields.mk (by simp [binOp, Op.intArith, Op.intBits, Op.intCmp]) (rel_v_mk _))
    | (split at h
       · cases h
       · rename_i hb; cases h; exact Yields.mk (by simp [binOp, Op.intDiv, hb]) (rel_v_mk _))
theorem shiftBin_yields {op : BinOp} {k k' : IntKind} {a b : Int} {v : AV} (hop : op = .shl ∨ op = .shr) (h : shiftBin op k a b = some v) (t : TypeId) : Yields P ρ old w (binOp op t (.int k a) (.int k' b)) v := by
  unfold shiftBin at h
  split at h
  · cases h
  · rename_i hb
    rcases hop with rfl | rfl
    · cases h; exact Yields.mk (by simp [binOp, Op.shift, hb]) (rel_v_mk _)
    · cases h; exact Yields.mk (by simp [binOp, Op.shift, hb]) (rel_v_mk _)
theorem fltBin_yields {op : BinOp} {x y : Nat} {v : AV} (h : fltBin op (canon x) (canon y) = some v) (t : TypeId) : Yields P ρ old w (binOp op t (.float .f64 x) (.float .f64 y)) v := by
  have ar : ∀ op, (op = .add ∨ op = .sub ∨ op = .mul ∨ op = .quo) → Yields P ρ old w (binOp op t (.float .f64 x) (.float .f64 y)) (.flt (cOpt (arOf op (canon x) (canon y)))) := by
    intro op hop
    obtain ⟨r, w', h1, h2, h3⟩ := run_floatArith' P w op hop x y
    refine ⟨.float .f64 r, w', ?_, h3, rel_flt_mk h2⟩
    rcases hop with rfl | rfl | rfl | rfl <;> simpa [binOp] using h1
  have od : ford (canon x) (canon y) = Ieee.double.order x y := (order_canon x y).symm
  unfold fltBin at h
  split at h <;> first | (cases h; done) | skip
  all_goals cases h
  · exact ar _ (by simp)
  · exact ar _ (by simp)
  · exact ar _ (by simp)
  · exact ar _ (by simp)
  all_goals exact Yields.mk (by simp only [binOp, Op.floatCmp, FloatKind.format, feq, flt, fle, fgt, fge, od]; first | rfl | (simp; done)) (rel_v_mk _)
end
end Go.Proofs.Ytnccnmeecngopaa.Fw
