/- The abstract evaluator, part G: conversions, builtins, functions without a body. -/
import Derived.Test.YtnccnmeecngopaaFwF
import Derived.KernelRfl
set_option linter.unusedVariables false
set_option linter.unusedSimpArgs false
namespace Go.Proofs.Ytnccnmeecngopaa.Fw
open Go

section
variable {P : Program} {ρ : Map} {old : List Nat → Prop} {w : World}

theorem conv_int {src dst : TypeId} {d : TypeDesc} {k : IntKind} {x v : AV} {u : Value} (hs : P.underlying src = some d) (hd : P.underlying dst = some (.int k)) (hx : RelV ρ old w x u) (h : convSem (.toInt k) x = some v) :
    Yields P ρ old w (convert src dst u) v := by
  unfold convSem at h
  split at h <;> first | (cases h; done) | skip
  · rename_i e; cases e; cases h; obtain rfl := rel_v hx
    exact Yields.mk (by cases d <;> simp [convert, run_underlying hs, run_underlying hd, Conv.intToInt]) (rel_v_mk _)
  · rename_i a e
    cases e
    obtain ⟨b, rfl, hb⟩ := rel_flt hx
    cases hn : isNaN b with
    | true =>
      rw [← hb, canon_nan hn] at h
      simp [ftoInt, toInt_canon qnan isNaN_qnan .zero] at h
    | false =>
      rw [canon_num hn] at hb
      subst hb
      unfold ftoInt at h
      split at h
      · rename_i n hi
        split at h
        · rename_i hr
          simp at h; subst h
          exact Yields.mk (u := .int k n) (by cases d <;> simp [convert, run_underlying hs, run_underlying hd, Conv.floatToInt, FloatKind.decode, FloatKind.format, hi, hr.1, hr.2]) (rel_v_mk _)
        · simp at h
      · simp at h
  all_goals (rename_i e; cases e)
theorem conv_flt {src dst : TypeId} {d : TypeDesc} {x v : AV} {u : Value} (hs : P.underlying src = some d) (hd : P.underlying dst = some (.float .f64)) (hx : RelV ρ old w x u) (h : convSem .toFlt x = some v) :
    Yields P ρ old w (convert src dst u) v := by
  unfold convSem at h
  split at h <;> first | (cases h; done) | skip
  · rename_i e; cases e
  · rename_i e; cases e
  · cases h; obtain rfl := rel_v hx
    exact Yields.mk (by cases d <;> simp [convert, run_underlying hs, run_underlying hd, Conv.intToFloat]; all_goals rfl) (rel_flt_mk rfl)
  · cases h; obtain ⟨b, rfl, hb⟩ := rel_flt hx
    exact Yields.mk (u := .float .f64 b) (by cases d <;> simp [convert, run_underlying hs, run_underlying hd, Conv.floatToFloat]) (rel_flt_mk hb)
  · rename_i e; cases e
theorem conv_str {src dst : TypeId} {x v : AV} {u : Value} (hs : P.underlying src = some .string) (hd : P.underlying dst = some .string) (hx : RelV ρ old w x u) (h : convSem .str x = some v) :
    Yields P ρ old w (convert src dst u) v := by
  unfold convSem at h
  split at h <;> first | (cases h; done) | skip
  all_goals first | (rename_i e; cases e; done) | skip
  cases h; obtain rfl := rel_v hx
  exact Yields.mk (by simp [convert, run_underlying hs, run_underlying hd]) (rel_v_mk _)

theorem max2_yields {x y v : AV} {u1 u2 : Value} (hx : RelV ρ old w x u1) (hy : RelV ρ old w y u2) (h : max2A x y = some v) : Yields P ρ old w (Builtin.max2 u1 u2) v := by
  unfold max2A at h
  split at h <;> first | (cases h; done) | skip
  · cases h; obtain rfl := rel_v hx; obtain rfl := rel_v hy
    exact Yields.mk (by simp only [Builtin.max2, Sem.run_pure]) (rel_v_mk _)
  · cases h; obtain ⟨a, rfl, rfl⟩ := rel_flt hx; obtain ⟨b, rfl, rfl⟩ := rel_flt hy
    have od : ford (canon a) (canon b) = Ieee.double.order a b := (order_canon a b).symm
    have hnum : Ieee.double.order a b ≠ none → canon a = a ∧ canon b = b := by
      intro hne
      constructor
      · cases hn : isNaN a
        · exact canon_num hn
        · obtain ⟨s, t, e⟩ := (isNaN_iff a).1 hn
          exact absurd (by simp [Ieee.Format.order, e, Ieee.Datum.order]) hne
      · cases hn : isNaN b
        · exact canon_num hn
        · obtain ⟨s, t, e⟩ := (isNaN_iff b).1 hn
          exact absurd (by simp [Ieee.Format.order, e, order_nan_r]) hne
    cases ho : Ieee.double.order a b with
    | none =>
      obtain ⟨n, w1, hr, hi, hs⟩ := run_choose_nan P w (.nanMinMax .f64 true a b) rfl nan_cut
      refine ⟨.float .f64 n, w1, ?_, hs, rel_flt_mk ?_⟩
      · simp only [Builtin.max2, FloatKind.format, ho, Sem.run_bind, hr, Result.andThen_ok, Sem.run_pure]
      · simp only [fmax2, od, ho, canon_nan hi]
    | some c =>
      obtain ⟨ea, eb⟩ := hnum (by rw [ho]; simp)
      cases c
      · exact Yields.mk (u := .float .f64 b) (by simp only [Builtin.max2, FloatKind.format, ho, Sem.run_pure]) (rel_flt_mk (by simp only [fmax2, od, ho]))
      · exact Yields.mk (u := .float .f64 (if (FloatKind.f64.decode a).neg then b else a)) (by simp only [Builtin.max2, FloatKind.format, ho, Sem.run_pure]) (rel_flt_mk (by
          simp only [fmax2, od, ho, FloatKind.decode, FloatKind.format]
          rw [ea]; split <;> simp_all))
      · exact Yields.mk (u := .float .f64 a) (by simp only [Builtin.max2, FloatKind.format, ho, Sem.run_pure]) (rel_flt_mk (by simp only [fmax2, od, ho]))
theorem min2_yields {x y v : AV} {u1 u2 : Value} (hx : RelV ρ old w x u1) (hy : RelV ρ old w y u2) (h : min2A x y = some v) : Yields P ρ old w (Builtin.min2 u1 u2) v := by
  unfold min2A at h
  split at h <;> first | (cases h; done) | skip
  · cases h; obtain rfl := rel_v hx; obtain rfl := rel_v hy
    exact Yields.mk (by simp only [Builtin.min2, Sem.run_pure]) (rel_v_mk _)
  · cases h; obtain ⟨a, rfl, rfl⟩ := rel_flt hx; obtain ⟨b, rfl, rfl⟩ := rel_flt hy
    have od : ford (canon a) (canon b) = Ieee.double.order a b := (order_canon a b).symm
    have hnum : Ieee.double.order a b ≠ none → canon a = a ∧ canon b = b := by
      intro hne
      constructor
      · cases hn : isNaN a
        · exact canon_num hn
        · obtain ⟨s, t, e⟩ := (isNaN_iff a).1 hn
          exact absurd (by simp [Ieee.Format.order, e, Ieee.Datum.order]) hne
      · cases hn : isNaN b
        · exact canon_num hn
        · obtain ⟨s, t, e⟩ := (isNaN_iff b).1 hn
          exact absurd (by simp [Ieee.Format.order, e, order_nan_r]) hne
    cases ho : Ieee.double.order a b with
    | none =>
      obtain ⟨n, w1, hr, hi, hs⟩ := run_choose_nan P w (.nanMinMax .f64 false a b) rfl nan_cut
      refine ⟨.float .f64 n, w1, ?_, hs, rel_flt_mk ?_⟩
      · simp only [Builtin.min2, FloatKind.format, ho, Sem.run_bind, hr, Result.andThen_ok, Sem.run_pure]
      · simp only [fmin2, od, ho, canon_nan hi]
    | some c =>
      obtain ⟨ea, eb⟩ := hnum (by rw [ho]; simp)
      cases c
      · exact Yields.mk (u := .float .f64 a) (by simp only [Builtin.min2, FloatKind.format, ho, Sem.run_pure]) (rel_flt_mk (by simp only [fmin2, od, ho]))
      · exact Yields.mk (u := .float .f64 (if (FloatKind.f64.decode a).neg then a else b)) (by simp only [Builtin.min2, FloatKind.format, ho, Sem.run_pure]) (rel_flt_mk (by
          simp only [fmin2, od, ho, FloatKind.decode, FloatKind.format]
          rw [ea]; split <;> simp_all))
      · exact Yields.mk (u := .float .f64 b) (by simp only [Builtin.min2, FloatKind.format, ho, Sem.run_pure]) (rel_flt_mk (by simp only [fmin2, od, ho]))

theorem Still.keep {w w' : World} (h : Still w w') (ρ : Map) (old : List Nat → Prop) : Keep ρ ρ old old w w' := ⟨fun b _ hn => ⟨by rw [h.heap], hn⟩, fun _ _ _ _ e _ => e, fun _ h => h, fun _ _ _ _ _ _ => by unfold World.shape?; rw [h.heap]⟩

theorem Still.symm {w w' : World} (h : Still w w') : Still w' w := ⟨h.heap.symm, h.os.symm, h.tape.symm, h.output.symm⟩
theorem fold_yields {f : AV → AV → Option AV} {g : Value → Value → Sem Value} (hfg : ∀ {w : World} {x y v : AV} {u1 u2 : Value}, RelV ρ old w x u1 → RelV ρ old w y u2 → f x y = some v → Yields P ρ old w (g u1 u2) v) :
    ∀ (l : List AV) (us : List Value) (x v : AV) (u : Value) (w : World), RelV ρ old w x u → RelL ρ old w l us → foldA f x l = some v → Yields P ρ old w (us.foldlM g u) v
  | [], us, x, v, u, w, hx, hl, h => by
    cases us with
    | nil => simp only [foldA] at h; cases h; exact Yields.mk (by simp) hx
    | cons _ _ => simp only [RelL] at hl
  | a :: r, us, x, v, u, w, hx, hl, h => by
    cases us with
    | nil => simp only [RelL] at hl
    | cons b s =>
      simp only [RelL] at hl
      simp only [foldA] at h
      cases hf : f x a with
      | none => simp [hf] at h
      | some c =>
        simp [hf] at h
        obtain ⟨u', w1, h1, h2, h3⟩ := hfg hx hl.1 hf
        obtain ⟨u2, w2, h4, h5, h6⟩ := fold_yields hfg r s c v u' w1 (RelV.mono (h2.keep ρ old) _ _ h3) (RelL.mono (h2.keep ρ old) _ _ hl.2) h
        exact ⟨u2, w2, by simp [h1, h4], h2.trans h5, RelV.mono (h2.symm.keep ρ old) _ _ h6⟩

/-- which builtin it is -/
def biOf (P : Program) : Builtin → Array TypeId → BiK → Prop
  | .real, _, .real | .imag, _, .imag | .complex, _, .complex | .max, _, .max | .min, _, .min => True
  | .len, ts, .lenS => ∃ t e, ts[0]? = some t ∧ P.underlying t = some (.slice e)
  | .len, ts, .lenArr n => ∃ t e, ts[0]? = some t ∧ P.underlying t = some (.array n e)
  | .len, ts, .lenStr => ∃ t, ts[0]? = some t ∧ P.underlying t = some .string
  | _, _, _ => False
theorem biOf_comp {b : Builtin} {ts : Array TypeId} {xs ys : List Opd} {k : BiK} (h : compBi P b ts xs = some (.bi k ys)) : biOf P b ts k ∧ ys = xs := by
  unfold compBi at h
  split at h <;> first | (cases h; done) | skip
  all_goals first | (cases h; exact ⟨trivial, rfl⟩) | skip
  · split at h
    · cases h
    · rename_i t ht
      split at h <;> first | (cases h; done) | skip
      all_goals (cases h; refine ⟨?_, rfl⟩)
      · exact ⟨t, _, ht, by assumption⟩
      · exact ⟨t, _, ht, by assumption⟩
      · exact ⟨t, ht, by assumption⟩
  · split at h <;> first | (cases h; done) | skip
    split at h <;> first | (cases h; done) | skip
    split at h <;> first | (cases h; done) | skip
    split at h <;> cases h

theorem relL_one {x : AV} {us : List Value} (h : RelL ρ old w [x] us) : ∃ u, us = [u] ∧ RelV ρ old w x u := by
  match us, h with
  | [u], h => simp only [RelL] at h; exact ⟨u, rfl, h.1⟩
  | [], h => simp only [RelL] at h
  | _ :: _ :: _, h => simp only [RelL] at h; exact h.2.elim
theorem relL_two {x y : AV} {us : List Value} (h : RelL ρ old w [x, y] us) : ∃ u v, us = [u, v] ∧ RelV ρ old w x u ∧ RelV ρ old w y v := by
  match us, h with
  | u :: r, h =>
    simp only [RelL] at h
    obtain ⟨h1, h2⟩ := h
    obtain ⟨v, rfl, h3⟩ := relL_one h2
    exact ⟨u, v, rfl, h1, h3⟩
  | [], h => simp only [RelL] at h

theorem bi_yields {b : Builtin} {ts : Array TypeId} {ty : TypeId} {cs : Array Bool} {k : BiK} {xs : List AV} {us : Array Value} {v : AV} (hb : biOf P b ts k) (hx : RelL ρ old w xs us.toList) (h : biSem k xs = some v) :
    ∃ u w', (builtin b ts ty cs us).run P w = .ok (.value u) w' ∧ Still w w' ∧ RelV ρ old w v u := by
  obtain ⟨us⟩ := us
  unfold biSem at h
  split at h <;> first | (cases h; done) | skip
  · cases h
    obtain ⟨u, rfl, hu⟩ := relL_one hx
    obtain ⟨c, d, rfl, rfl, rfl⟩ := rel_cpx hu
    cases b <;> simp only [biOf] at hb
    exact ⟨.float .f64 c, w, rfl, Still.refl w, rel_flt_mk rfl⟩
  · cases h
    obtain ⟨u, rfl, hu⟩ := relL_one hx
    obtain ⟨c, d, rfl, rfl, rfl⟩ := rel_cpx hu
    cases b <;> simp only [biOf] at hb
    exact ⟨.float .f64 d, w, rfl, Still.refl w, rel_flt_mk rfl⟩
  · cases h
    obtain ⟨u1, u2, rfl, h1, h2⟩ := relL_two hx
    obtain ⟨c, rfl, rfl⟩ := rel_flt h1
    obtain ⟨d, rfl, rfl⟩ := rel_flt h2
    cases b <;> simp only [biOf] at hb
    exact ⟨.complex .f64 c d, w, rfl, Still.refl w, rel_cpx_mk rfl rfl⟩
  · cases b <;> simp only [biOf] at hb
    match us, hx with
    | [], hx => simp only [RelL] at hx
    | u :: s, hx =>
      simp only [RelL] at hx
      obtain ⟨u', w', h1, h2, h3⟩ := fold_yields (P := P) (g := Builtin.max2) (fun hx hy h => max2_yields hx hy h) _ _ _ _ _ w hx.1 hx.2 h
      exact ⟨u', w', by simp [builtin, Builtin.max_, h1], h2, h3⟩
  · cases b <;> simp only [biOf] at hb
    match us, hx with
    | [], hx => simp only [RelL] at hx
    | u :: s, hx =>
      simp only [RelL] at hx
      obtain ⟨u', w', h1, h2, h3⟩ := fold_yields (P := P) (g := Builtin.min2) (fun hx hy h => min2_yields hx hy h) _ _ _ _ _ w hx.1 hx.2 h
      exact ⟨u', w', by simp [builtin, Builtin.min_, h1], h2, h3⟩
  · cases h
    obtain ⟨u, rfl, hu⟩ := relL_one hx
    obtain rfl : u = .slice none 0 0 := by simpa only [RelV] using hu
    cases b <;> simp only [biOf] at hb
    obtain ⟨t, e, h1, h2⟩ := hb
    exact ⟨.int .i64 0, w, by simp [builtin, Builtin.len_, h1, run_underlying h2, goInt], Still.refl w, rel_v_mk _⟩
  · cases h
    obtain ⟨u, rfl, hu⟩ := relL_one hx
    simp only [RelV] at hu
    obtain ⟨_, p, cap, rfl, _⟩ := hu
    cases b <;> simp only [biOf] at hb
    obtain ⟨t, e, h1, h2⟩ := hb
    exact ⟨_, w, by simp [builtin, Builtin.len_, h1, run_underlying h2, goInt], Still.refl w, rel_v_mk _⟩
  · cases h
    obtain ⟨u, rfl, hu⟩ := relL_one hx
    simp only [RelV] at hu
    obtain ⟨p, cap, rfl, _⟩ := hu
    cases b <;> simp only [biOf] at hb
    obtain ⟨t, e, h1, h2⟩ := hb
    exact ⟨_, w, by simp [builtin, Builtin.len_, h1, run_underlying h2, goInt], Still.refl w, rel_v_mk _⟩
  · cases h
    cases b <;> simp only [biOf] at hb
    obtain ⟨t, e, h1, h2⟩ := hb
    obtain ⟨u, rfl, hu⟩ := relL_one hx
    exact ⟨_, w, by simp [builtin, Builtin.len_, h1, run_underlying h2, goInt], Still.refl w, rel_v_mk _⟩
  · cases h
    obtain ⟨u, rfl, hu⟩ := relL_one hx
    obtain rfl := rel_v hu
    cases b <;> simp only [biOf] at hb
    obtain ⟨t, h1, h2⟩ := hb
    exact ⟨_, w, by simp [builtin, Builtin.len_, h1, run_underlying h2, goInt], Still.refl w, rel_v_mk _⟩
end
end Go.Proofs.Ytnccnmeecngopaa.Fw
