/- The abstract evaluator, part F: the pure operations, whole. -/
import Derived.Test.YtnccnmeecngopaaFwE
set_option linter.unusedVariables false
set_option linter.unusedSimpArgs false
namespace Go.Proofs.Ytnccnmeecngopaa.Fw
open Go

section
variable {P : Program} {ρ : Map} {old : List Nat → Prop} {w : World}

theorem rel_cpx_mk {a b c d : Nat} (h : canon c = a) (h' : canon d = b) : RelV ρ old w (.cpx a b) (.complex .f64 c d) := by simp only [RelV]; exact ⟨c, d, rfl, h, h'⟩
theorem Yields.of_run {s s' : Sem Value} {v : AV} (h : Yields P ρ old w s v) (e : ∀ w, s'.run P w = s.run P w) : Yields P ρ old w s' v := by
  obtain ⟨u, w', h1, h2⟩ := h
  exact ⟨u, w', by rw [e]; exact h1, h2⟩

theorem cpxBin_yields {op : BinOp} {a b c d : Nat} {v : AV} (h : cpxBin op (canon a) (canon b) (canon c) (canon d) = some v) (t : TypeId) : Yields P ρ old w (binOp op t (.complex .f64 a b) (.complex .f64 c d)) v := by
  have sums : ∀ op, (op = .add ∨ op = .sub) → Yields P ρ old w (binOp op t (.complex .f64 a b) (.complex .f64 c d)) (.cpx (cOpt (arOf op (canon a) (canon c))) (cOpt (arOf op (canon b) (canon d)))) := by
    intro op hop
    obtain ⟨r, w1, h1, h2, h3⟩ := run_carith' P w op (by rcases hop with h | h <;> simp [h]) a c
    obtain ⟨r', w2, h1', h2', h3'⟩ := run_carith' P w1 op (by rcases hop with h | h <;> simp [h]) b d
    refine ⟨.complex .f64 r r', w2, ?_, h3.trans h3', rel_cpx_mk h2 h2'⟩
    rcases hop with rfl | rfl <;> simp [binOp, Op.complexOp, h1, h1']
  have od1 : ford (canon a) (canon c) = Ieee.double.order a c := (order_canon a c).symm
  have od2 : ford (canon b) (canon d) = Ieee.double.order b d := (order_canon b d).symm
  unfold cpxBin at h
  split at h <;> first | (cases h; done) | skip
  all_goals cases h
  · exact sums _ (by simp)
  · exact sums _ (by simp)
  · obtain ⟨r1, w1, a1, b1, s1⟩ := run_carith' P w .mul (by simp) a c
    obtain ⟨r2, w2, a2, b2, s2⟩ := run_carith' P w1 .mul (by simp) b d
    obtain ⟨r3, w3, a3, b3, s3⟩ := run_carith' P w2 .sub (by simp) r1 r2
    obtain ⟨r4, w4, a4, b4, s4⟩ := run_carith' P w3 .mul (by simp) a d
    obtain ⟨r5, w5, a5, b5, s5⟩ := run_carith' P w4 .mul (by simp) b c
    obtain ⟨r6, w6, a6, b6, s6⟩ := run_carith' P w5 .add (by simp) r4 r5
    refine ⟨.complex .f64 r3 r6, w6, ?_, ((((s1.trans s2).trans s3).trans s4).trans s5).trans s6, rel_cpx_mk ?_ ?_⟩
    · simp [binOp, Op.complexOp, Op.Complex.conv, Op.Complex.product, Op.Complex.mul, Op.Complex.sub, Op.Complex.add, a1, a2, a3, a4, a5, a6]
    · rw [b3, b1, b2]; rfl
    · rw [b6, b4, b5]; rfl
  all_goals exact Yields.mk (by simp [binOp, Op.complexOp, Op.Complex.cmp, Op.floatCmp, FloatKind.format, feq, od1, od2, asBool]) (rel_v_mk _)

theorem strBin_yields {op : BinOp} {a b : ByteArray} {v : AV} (h : strBin op a b = some v) (t : TypeId) : Yields P ρ old w (binOp op t (.string a) (.string b)) v := by
  unfold strBin at h
  split at h <;> first | (cases h; done) | skip
  · split at h
    · rename_i hl
      cases h
      refine Yields.mk (u := .string (a ++ b)) ?_ (rel_v_mk _)
      have : ¬ (((a.size + b.size : Nat) : Int) > IntKind.i64.max) := by
        have e : IntKind.i64.max = 9223372036854775807 := rfl
        rw [e]; omega
      simp only [binOp, Op.stringOp, this, if_false, Sem.run_pure]
    · cases h
  all_goals (cases h; exact Yields.mk (by simp [binOp, Op.stringOp]) (rel_v_mk _))

theorem eqGuard_run {op : BinOp} {t : TypeId} {x y : Operand} {a b : Value} (h1 : ¬ (a = .nilIface ∧ b = .nilIface)) (h2 : ∀ c d, ¬ (a = .agg c ∧ b = .agg d)) (w : World) : (eqGuard op t x y a b).run P w = .ok () w := by
  have key : (match a, b with
      | .nilIface, .nilIface => (do
        if (x matches .const _) || (y matches .const _) then return
        if ← Op.eqGuardIn Op.maxDepth t a b then unsupported (.noEntry "binop/eql: two nil values of an interface type with methods, neither of them the literal nil") : Sem Unit)
      | .agg _, .agg _ => (do
        if !(← program).eqGuardType (← program).depth t then return
        if ← Op.eqGuardIn Op.maxDepth t a b then unsupported (.noEntry "binop/eql: two nil values of an interface type with methods, in a part of a struct or an array"))
      | _, _ => pure ()).run P w = .ok () w := by
    split
    · exact absurd ⟨rfl, rfl⟩ h1
    · exact absurd ⟨rfl, rfl⟩ (h2 _ _)
    · rfl
  unfold eqGuard
  cases op <;> first | rfl | exact key

theorem eqKind_bool {t : TypeId} (h : eqKind P t = .bool) : P.underlying t = some .bool := by
  unfold eqKind at h
  split at h <;> first | assumption | cases h
theorem eqKind_slice {t : TypeId} (h : eqKind P t = .slice) : ∃ e, P.underlying t = some (.slice e) := by
  unfold eqKind at h
  split at h <;> first | exact ⟨_, by assumption⟩ | cases h
theorem eqKind_func {t : TypeId} (h : eqKind P t = .func) : ∃ a b c, P.underlying t = some (.func a b c) := by
  unfold eqKind at h
  split at h <;> first | exact ⟨_, _, _, by assumption⟩ | cases h
theorem eqKind_ptr {t : TypeId} (h : eqKind P t = .ptr) : ∃ e, P.underlying t = some (.pointer e) := by
  unfold eqKind at h
  split at h <;> first | exact ⟨_, by assumption⟩ | cases h

theorem eqIn_bool {t : TypeId} (h : P.underlying t = some .bool) (d : Nat) (a b : Bool) (w : World) : (Op.equalIn (d + 1) t (.bool a) (.bool b)).run P w = .ok (a == b) w := by
  simp [Op.equalIn, run_underlying h]
theorem eqIn_slice_l {t e : TypeId} (h : P.underlying t = some (.slice e)) (d : Nat) (a : Option Addr) (l c : Nat) (w : World) : (Op.equalIn (d + 1) t (.slice none 0 0) (.slice a l c)).run P w = .ok a.isNone w := by
  simp [Op.equalIn, run_underlying h]
theorem eqIn_slice_r {t e : TypeId} (h : P.underlying t = some (.slice e)) (d : Nat) (a : Option Addr) (l c : Nat) (w : World) : (Op.equalIn (d + 1) t (.slice a l c) (.slice none 0 0)).run P w = .ok a.isNone w := by
  cases a <;> simp [Op.equalIn, run_underlying h]
theorem eqIn_func0 {t : TypeId} {x y z} (h : P.underlying t = some (.func x y z)) (d : Nat) (w : World) : (Op.equalIn (d + 1) t .nilFunc .nilFunc).run P w = .ok true w := by
  simp [Op.equalIn, run_underlying h]
theorem eqIn_func_l {t : TypeId} {x y z} (h : P.underlying t = some (.func x y z)) (d : Nat) (f : Fn) (a b : Array Value) (w : World) : (Op.equalIn (d + 1) t .nilFunc (.func f a b)).run P w = .ok false w := by
  simp [Op.equalIn, run_underlying h]
theorem eqIn_func_r {t : TypeId} {x y z} (h : P.underlying t = some (.func x y z)) (d : Nat) (f : Fn) (a b : Array Value) (w : World) : (Op.equalIn (d + 1) t (.func f a b) .nilFunc).run P w = .ok false w := by
  simp [Op.equalIn, run_underlying h]
theorem eqIn_ptr_l {t e : TypeId} (h : P.underlying t = some (.pointer e)) (d : Nat) (a : Option Addr) (w : World) : (Op.equalIn (d + 1) t (.pointer none) (.pointer a)).run P w = .ok a.isNone w := by
  simp [Op.equalIn, run_underlying h]
theorem eqIn_ptr_r {t e : TypeId} (h : P.underlying t = some (.pointer e)) (d : Nat) (a : Option Addr) (w : World) : (Op.equalIn (d + 1) t (.pointer a) (.pointer none)).run P w = .ok a.isNone w := by
  cases a <;> simp [Op.equalIn, run_underlying h]

/-- what '==' and '!=' of two values come to, if they are compared so -/
structure Compares (P : Program) (w : World) (t : TypeId) (u1 u2 : Value) (b : Bool) : Prop where
  run : (Op.equal t u1 u2).run P w = .ok b w
  n1 : ¬ (u1 = .nilIface ∧ u2 = .nilIface)
  n2 : ∀ c d, ¬ (u1 = .agg c ∧ u2 = .agg d)
  eql : binOp .eql t u1 u2 = (do pure (.bool (← Op.equal t u1 u2)))
  neq : binOp .neq t u1 u2 = (do pure (.bool (!(← Op.equal t u1 u2))))
theorem nilSl_rel {x : AV} {b : Bool} {u : Value} (h : nilSl x = some b) (hx : RelV ρ old w x u) : ∃ a l c, u = .slice a l c ∧ a.isNone = b := by
  unfold nilSl at h
  split at h <;> first | (cases h; done) | skip
  · cases h; simp only [RelV] at hx; exact ⟨none, 0, 0, hx, rfl⟩
  · cases h; simp only [RelV] at hx; obtain ⟨_, p, cap, e, _⟩ := hx; exact ⟨some p, _, cap, e, rfl⟩
  · cases h; simp only [RelV] at hx; obtain ⟨p, cap, e, _⟩ := hx; exact ⟨some p, _, cap, e, rfl⟩
theorem nilPt_rel {x : AV} {b : Bool} {u : Value} (h : nilPt x = some b) (hx : RelV ρ old w x u) : ∃ a, u = .pointer a ∧ a.isNone = b := by
  unfold nilPt at h
  split at h <;> first | (cases h; done) | skip
  · cases h; exact ⟨none, rel_v hx, rfl⟩
  · cases h; simp only [RelV] at hx; obtain ⟨_, p, e, _⟩ := hx; exact ⟨some p, e, rfl⟩
  · cases h; simp only [RelV] at hx; obtain ⟨b, o, e, _⟩ := hx; exact ⟨some _, e, rfl⟩
theorem nilFn_rel {x : AV} {b : Bool} {u : Value} (h : nilFn x = some b) (hx : RelV ρ old w x u) : (u = .nilFunc ∧ b = true) ∨ ((∃ f a' b', u = .func f a' b') ∧ b = false) := by
  unfold nilFn at h
  split at h <;> first | (cases h; done) | skip
  · cases h; exact .inl ⟨rel_v hx, rfl⟩
  · cases h; simp only [RelV] at hx; obtain ⟨a', b', e, _⟩ := hx; exact .inr ⟨⟨_, a', b', e⟩, rfl⟩
/-- '==' of what is no number -/
theorem eqBin_run {t : TypeId} {x y : AV} {u1 u2 : Value} {b : Bool} (hx : RelV ρ old w x u1) (hy : RelV ρ old w y u2) (h : eqBin (eqKind P t) x y = some b) : Compares P w t u1 u2 b := by
  unfold eqBin at h
  split at h
  · cases h
  · rename_i hk
    have hu := eqKind_bool hk
    split at h
    · cases h
      cases rel_v hx; cases rel_v hy
      exact ⟨eqIn_bool hu 9999 _ _ w, by simp, by simp, rfl, rfl⟩
    · cases h
  · rename_i hk
    obtain ⟨e, hu⟩ := eqKind_slice hk
    split at h
    · obtain rfl : u2 = .slice none 0 0 := by simpa only [RelV] using hy
      obtain ⟨a, l, c, rfl, rfl⟩ := nilSl_rel h hx
      exact ⟨eqIn_slice_r hu 9999 _ _ _ w, by simp, by simp, rfl, rfl⟩
    · split at h
      · obtain rfl : u1 = .slice none 0 0 := by simpa only [RelV] using hx
        obtain ⟨a, l, c, rfl, rfl⟩ := nilSl_rel h hy
        exact ⟨eqIn_slice_l hu 9999 _ _ _ w, by simp, by simp, rfl, rfl⟩
      · cases h
  · rename_i hk
    obtain ⟨e1, e2, e3, hu⟩ := eqKind_func hk
    split at h
    · obtain rfl := rel_v hy
      rcases nilFn_rel h hx with ⟨rfl, rfl⟩ | ⟨⟨f, a', b', rfl⟩, rfl⟩
      · exact ⟨eqIn_func0 hu 9999 w, by simp, by simp, rfl, rfl⟩
      · exact ⟨eqIn_func_r hu 9999 _ _ _ w, by simp, by simp, rfl, rfl⟩
    · split at h
      · obtain rfl := rel_v hx
        rcases nilFn_rel h hy with ⟨rfl, rfl⟩ | ⟨⟨f, a', b', rfl⟩, rfl⟩
        · exact ⟨eqIn_func0 hu 9999 w, by simp, by simp, rfl, rfl⟩
        · exact ⟨eqIn_func_l hu 9999 _ _ _ w, by simp, by simp, rfl, rfl⟩
      · cases h
  · rename_i hk
    obtain ⟨e, hu⟩ := eqKind_ptr hk
    split at h
    · obtain rfl := rel_v hy
      obtain ⟨a, rfl, rfl⟩ := nilPt_rel h hx
      exact ⟨eqIn_ptr_r hu 9999 _ w, by simp, by simp, rfl, rfl⟩
    · split at h
      · obtain rfl := rel_v hx
        obtain ⟨a, rfl, rfl⟩ := nilPt_rel h hy
        exact ⟨eqIn_ptr_l hu 9999 _ w, by simp, by simp, rfl, rfl⟩
      · cases h

theorem binSem_yields {op : BinOp} {t : TypeId} {ox oy : Operand} {x y : AV} {u1 u2 : Value} {v : AV} (hx : RelV ρ old w x u1) (hy : RelV ρ old w y u2) (h : binSem op (eqKind P t) x y = some v) :
    Yields P ρ old w (do eqGuard op t ox oy u1 u2; binOp op t u1 u2) v := by
  have key : (¬ (u1 = .nilIface ∧ u2 = .nilIface) ∧ (∀ c d, ¬ (u1 = .agg c ∧ u2 = .agg d))) ∧ Yields P ρ old w (binOp op t u1 u2) v := by
    unfold binSem at h
    split at h
    · rename_i k a k' b
      obtain rfl := rel_v hx
      obtain rfl := rel_v hy
      refine ⟨by simp, ?_⟩
      split at h
      · exact shiftBin_yields (by simp) h t
      · exact shiftBin_yields (by simp) h t
      · rename_i n1 n2
        split at h
        · rename_i hk; subst hk; exact intBin_yields ⟨fun e => n1 e, fun e => n2 e⟩ h t
        · cases h
    · obtain ⟨c, rfl, rfl⟩ := rel_flt hx
      obtain ⟨d, rfl, rfl⟩ := rel_flt hy
      exact ⟨by simp, fltBin_yields h t⟩
    · obtain ⟨c, d, rfl, rfl, rfl⟩ := rel_cpx hx
      obtain ⟨c', d', rfl, rfl, rfl⟩ := rel_cpx hy
      exact ⟨by simp, cpxBin_yields h t⟩
    · obtain rfl := rel_v hx
      obtain rfl := rel_v hy
      exact ⟨by simp, strBin_yields h t⟩
    · split at h <;> first | (cases h; done) | skip
      · cases hb : eqBin (eqKind P t) x y with
        | none => simp [hb] at h
        | some b =>
          simp [hb] at h; subst h
          have h1 := eqBin_run hx hy hb
          exact ⟨⟨h1.n1, h1.n2⟩, Yields.mk (by rw [h1.eql]; simp [h1.run]) (rel_v_mk _)⟩
      · cases hb : eqBin (eqKind P t) x y with
        | none => simp [hb] at h
        | some b =>
          simp [hb] at h; subst h
          have h1 := eqBin_run hx hy hb
          exact ⟨⟨h1.n1, h1.n2⟩, Yields.mk (by rw [h1.neq]; simp [h1.run]) (rel_v_mk _)⟩
  exact key.2.of_run fun w => by simp [eqGuard_run key.1.1 key.1.2]

theorem unSem_yields {op : UnOp} {x v : AV} {u : Value} (hx : RelV ρ old w x u) (h : unSem op x = some v) : Yields P ρ old w (Op.unary op u) v := by
  unfold unSem at h
  split at h <;> first | (cases h; done) | skip
  · cases h; obtain rfl := rel_v hx; exact Yields.mk (by simp [Op.unary, Op.intArith]) (rel_v_mk _)
  · cases h; obtain rfl := rel_v hx; exact Yields.mk (by simp [Op.unary, Op.intBits]) (rel_v_mk _)
  · cases h; obtain ⟨b, rfl, rfl⟩ := rel_flt hx
    exact Yields.mk (u := .float .f64 (b ^^^ 2 ^ 63)) (by simp [Op.unary, Op.negFloat]; rfl) (rel_flt_mk (fneg_canon b))
  · cases h; obtain ⟨b, c, rfl, rfl, rfl⟩ := rel_cpx hx
    exact Yields.mk (u := .complex .f64 (b ^^^ 2 ^ 63) (c ^^^ 2 ^ 63)) (by simp [Op.unary, Op.negFloat]; exact ⟨rfl, rfl⟩) (rel_cpx_mk (fneg_canon b) (fneg_canon c))
  · cases h; obtain rfl := rel_v hx; exact Yields.mk (by simp [Op.unary]) (rel_v_mk _)
end
end Go.Proofs.Ytnccnmeecngopaa.Fw
