/- The abstract evaluator, part H: functions without a body; cells; loads, stores, addresses. -/
import Derived.Test.YtnccnmeecngopaaFwG
import Derived.Laws.CopyRow
set_option linter.unusedVariables false
set_option linter.unusedSimpArgs false
namespace Go.Proofs.Ytnccnmeecngopaa.Fw
open Go

/-! ### functions without a body -/
theorem next_row {fn : Func} (ho : fn.origin = "") (h : Extern.allNextRows.lookup fn.name = none) : Extern.findNext fn = none := by
  unfold Extern.findNext
  simp only [h, ho, Option.map_none, show Extern.allNextRows.lookup "" = none from by kernel_rfl]
  rfl
theorem find_row {fn : Func} {e : Array Value → Sem Value} (h1 : Extern.allGenericRows.lookup fn.name = none) (h2 : Extern.allTypedRows.lookup fn.name = none) (h3 : Extern.allRows.lookup fn.name = some e) : Extern.find fn = some e := by
  unfold Extern.find
  simp only [h1, h2, h3, Option.map_none]
  rfl

theorem isNaN_quiet (s : Bool) (t : Nat) : isNaN (Ieee.double.write (.nan s (Ieee.double.quiet t))) = true := by
  have hq : (Ieee.double.quiet t) % 2 ^ 52 ≠ 0 := by
    intro h0
    have h1 : ((Ieee.double.quiet t) % 2 ^ 52).testBit 51 = true := by
      rw [Nat.testBit_mod_two_pow]
      simp only [Ieee.Format.quiet, show Ieee.double.fractionBits = 52 from rfl, Nat.testBit_or, show (2 ^ (52 - 1) : Nat).testBit 51 = true from by decide +kernel, Bool.or_true, Bool.and_true]
      decide
    rw [h0] at h1
    simp at h1
  have hlt : (Ieee.double.quiet t) % 2 ^ 52 < 2 ^ 52 := Nat.mod_lt _ (by decide)
  unfold isNaN Ieee.Format.read Ieee.Format.write Ieee.Format.word
  simp only [show Ieee.double.signWeight = 2 ^ 63 from rfl, show Ieee.double.binade = 2 ^ 52 from rfl, show Ieee.double.infRung = 0x7ff0000000000000 from rfl]
  generalize (Ieee.double.quiet t) % 2 ^ 52 = r at *
  have e : (if s = true then 2 ^ 63 + (0x7ff0000000000000 + r) else 0x7ff0000000000000 + r) % 2 ^ 63 = 0x7ff0000000000000 + r := by
    split <;> omega
  rw [e, if_neg (by omega), if_neg (by omega), if_neg (by omega)]
  rfl

section
variable {P : Program} {ρ : Map} {old : List Nat → Prop} {w : World}

theorem toIntegral_eq (nm : String) (way : Ieee.Toward) (x : Nat) : Extern.MathFloor.toIntegral nm way #[.float .f64 x] = (match Ieee.double.read x with
    | .nan s t =>
      if Ieee.double.quiet t = t then pure (.float .f64 x) else do
      let kept ← choose (.extern "math.Floor,Ceil,Trunc,RoundToEven.signallingNaN kept" 2)
      pure (.float .f64 (if kept == 1 then x else Ieee.double.write (.nan s (Ieee.double.quiet t))))
    | d => pure (.float .f64 (Ieee.double.write (d.integral way)))) := rfl
theorem fint_yields {way : Ieee.Toward} {nm : String} {b : Nat} : Yields P ρ old w (Extern.MathFloor.toIntegral nm way #[.float .f64 b]) (.flt (fint way (canon b))) := by
  cases hn : isNaN b with
  | false =>
    rw [canon_num hn]
    cases hd : Ieee.double.read b with
    | nan s t => exact absurd ((isNaN_iff b).2 ⟨s, t, hd⟩) (by simp [hn])
    | infinity s =>
      exact Yields.mk (u := .float .f64 (Ieee.double.write ((Ieee.Datum.infinity s).integral way))) (by rw [toIntegral_eq, hd]; rfl) (rel_flt_mk (by simp [fint, hn, hd]))
    | number s m e =>
      exact Yields.mk (u := .float .f64 (Ieee.double.write ((Ieee.Datum.number s m e).integral way))) (by rw [toIntegral_eq, hd]; rfl) (rel_flt_mk (by simp [fint, hn, hd]))
  | true =>
    obtain ⟨s, t, hd⟩ := (isNaN_iff b).1 hn
    rw [canon_nan hn]
    have hf : fint way qnan = qnan := by simp [fint, isNaN_qnan]
    rw [hf]
    by_cases hq : Ieee.double.quiet t = t
    · exact Yields.mk (u := .float .f64 b) (by rw [toIntegral_eq, hd]; simp [hq]) (rel_flt_mk (canon_nan hn))
    · refine ⟨.float .f64 (if ((Question.extern "math.Floor,Ceil,Trunc,RoundToEven.signallingNaN kept" 2).cut (w.tape w.drawn (Question.extern "math.Floor,Ceil,Trunc,RoundToEven.signallingNaN kept" 2)) == 1) = true then b else Ieee.double.write (.nan s (Ieee.double.quiet t))), { w with drawn := w.drawn + 1 }, ?_, ⟨rfl, rfl, rfl, rfl⟩, rel_flt_mk ?_⟩
      · rw [toIntegral_eq, hd]; simp [hq, choose, Sem.run, Question.forced]
      · split
        · exact canon_nan hn
        · exact canon_nan (isNaN_quiet s t)

theorem ext_yields {f : FuncId} {fn : Func} {k : ExtK} {xs : List AV} {us : Array Value} {v : AV} (hf : P.funcs[f]? = some fn) (hb : fn.body.isNone = true) (hk : extKind fn = some k) (hx : RelL ρ old w xs us.toList) (h : extSem k xs = some v) :
    ∃ u w', (callFunc f us).run P w = .ok (.value u) w' ∧ Still w w' ∧ RelV ρ old w v u := by
  obtain ⟨us⟩ := us
  have go : ∀ (e : Array Value → Sem Value), fn.name ≠ "runtime.NumGoroutine" → Extern.findNext fn = none → Extern.find fn = some e → Yields P ρ old w (e ⟨us⟩) v → ∃ u w', (callFunc f ⟨us⟩).run P w = .ok (.value u) w' ∧ Still w w' ∧ RelV ρ old w v u := by
    intro e h0 h1 h2 ⟨u, w', h3, h4, h5⟩
    refine ⟨u, w', ?_, h4, h5⟩
    have hb0 : fn.body = none := by simpa using hb
    simp [callFunc, hf, h0, hb0, h1, h2, h3]
  unfold extKind at hk
  split at hk
  case isFalse => cases hk
  rename_i hot
  have nx : Extern.allNextRows.lookup fn.name = none → Extern.findNext fn = none := next_row hot.1
  split at hk
  · rename_i hn
    cases hk
    unfold extSem at h
    split at h <;> first | (cases h; done) | skip
    all_goals first | (rename_i e; cases e; done) | skip
    obtain ⟨u, rfl, hu⟩ := relL_one hx
    obtain ⟨b, rfl, hb'⟩ := rel_flt hu
    split at h
    · cases h
    · rename_i hna
      cases h
      rw [← hb', isNaN_canon] at hna
      rw [canon_num (by simpa using hna)] at hb'
      subst hb'
      refine go Extern.MathFloatBits.float64bits (by rw [hn]; decide) (nx (by rw [hn]; kernel_rfl)) (find_row (by rw [hn]; kernel_rfl) (by rw [hn]; kernel_rfl) (by rw [hn]; kernel_rfl)) ?_
      exact Yields.mk (u := .int .u64 b) rfl (rel_v_mk _)
  split at hk
  · rename_i hn
    cases hk
    unfold extSem at h
    split at h <;> first | (cases h; done) | skip
    all_goals first | (rename_i e; cases e; done) | skip
    obtain ⟨u, rfl, hu⟩ := relL_one hx
    obtain rfl := rel_v hu
    cases h
    refine go Extern.MathFloatBits.float64frombits (by rw [hn]; decide) (nx (by rw [hn]; kernel_rfl)) (find_row (by rw [hn]; kernel_rfl) (by rw [hn]; kernel_rfl) (by rw [hn]; kernel_rfl)) ?_
    exact Yields.mk (u := .float .f64 _) rfl (rel_flt_mk rfl)
  split at hk
  · rename_i hn
    cases hk
    unfold extSem at h
    split at h <;> first | (cases h; done) | skip
    all_goals first | (rename_i e; cases e; done) | skip
    rename_i e; cases e
    obtain ⟨u, rfl, hu⟩ := relL_one hx
    obtain ⟨b, rfl, rfl⟩ := rel_flt hu
    cases h
    exact go (Extern.MathFloor.toIntegral "math.archFloor" .down) (by rw [hn]; decide) (nx (by rw [hn]; kernel_rfl)) (find_row (by rw [hn]; kernel_rfl) (by rw [hn]; kernel_rfl) (by rw [hn]; kernel_rfl)) fint_yields
  split at hk
  · rename_i hn
    cases hk
    unfold extSem at h
    split at h <;> first | (cases h; done) | skip
    all_goals first | (rename_i e; cases e; done) | skip
    rename_i e; cases e
    obtain ⟨u, rfl, hu⟩ := relL_one hx
    obtain ⟨b, rfl, rfl⟩ := rel_flt hu
    cases h
    exact go (Extern.MathFloor.toIntegral "math.archTrunc" .zero) (by rw [hn]; decide) (nx (by rw [hn]; kernel_rfl)) (find_row (by rw [hn]; kernel_rfl) (by rw [hn]; kernel_rfl) (by rw [hn]; kernel_rfl)) fint_yields
  split at hk
  · rename_i hn
    cases hk
    unfold extSem at h
    split at h <;> first | (cases h; done) | skip
    all_goals first | (rename_i e; cases e; done) | skip
    rename_i e; cases e
    obtain ⟨u, rfl, hu⟩ := relL_one hx
    obtain ⟨b, rfl, rfl⟩ := rel_flt hu
    cases h
    exact go (Extern.MathFloor.toIntegral "math.archCeil" .up) (by rw [hn]; decide) (nx (by rw [hn]; kernel_rfl)) (find_row (by rw [hn]; kernel_rfl) (by rw [hn]; kernel_rfl) (by rw [hn]; kernel_rfl)) fint_yields
  split at hk
  · rename_i hn
    cases hk
    unfold extSem at h
    split at h <;> first | (cases h; done) | skip
    all_goals first | (rename_i e; cases e; done) | skip
    rename_i e; cases e
    obtain ⟨u, rfl, hu⟩ := relL_one hx
    obtain ⟨b, rfl, rfl⟩ := rel_flt hu
    cases h
    exact go (Extern.MathFloor.toIntegral "math.RoundToEven" .even) (by rw [hn]; decide) (nx (by rw [hn]; kernel_rfl)) (find_row (by rw [hn]; kernel_rfl) (by rw [hn]; kernel_rfl) (by rw [hn]; kernel_rfl)) fint_yields
  · cases hk
end
end Go.Proofs.Ytnccnmeecngopaa.Fw
