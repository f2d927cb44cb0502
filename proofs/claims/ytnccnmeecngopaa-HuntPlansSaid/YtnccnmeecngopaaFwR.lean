/- The abstract evaluator, part R: whole functions. -/
import Derived.Test.YtnccnmeecngopaaFwQ
set_option linter.unusedVariables false
set_option linter.unusedSimpArgs false
set_option linter.unnecessarySimpa false
namespace Go.Proofs.Ytnccnmeecngopaa.Fw
open Go Go.RowKit

def resF (tmps : Array Value) : ResultVar → Sem Value
  | .tmp t => pure (tmps.getD t undef)
  | .cell a t => do loadVar t (← asAddr (tmps.getD a undef))

section
variable {P : Program} {PP : Prog} {D n B : Nat} {ρ : Map} {old : List Nat → Prop} {w : World}

theorem results_eq (fn : Func) (tmps : Array Value) : results fn tmps = (do let vs ← fn.results.mapM (resF tmps); pure (if h : vs.size = 1 then vs[0] else .tuple vs)) := rfl

theorem res_run {s : St} {a : Act} (g : Good D n B ρ old w s.env s.H a) : ∀ (l : List ResultVar) (rvs : List RV) (vs : List AV), compRes P l = some rvs → optList (resOne s) rvs = some vs →
    ∃ us, (l.mapM (resF a.tmps)).run P w = .ok us w ∧ RelL ρ old w vs us
  | [], rvs, vs, h, hv => by
    simp only [compRes] at h; cases h
    simp only [optList] at hv; cases hv
    exact ⟨[], by simp, by simp only [RelL]⟩
  | .tmp t :: r, rvs, vs, h, hv => by
    simp only [compRes] at h
    rw [Option.map_eq_some_iff] at h
    obtain ⟨l, h1, rfl⟩ := h
    obtain ⟨y, ys, e1, e2, rfl⟩ := optList_cons hv
    obtain ⟨us, h2, h3⟩ := res_run g r l ys h1 e2
    simp only [resOne] at e1
    cases e1
    exact ⟨a.tmps.getD t undef :: us, by simp [List.mapM_cons, resF, h2], by simp only [RelL]; exact ⟨g.env t, h3⟩⟩
  | .cell t ty :: r, rvs, vs, h, hv => by
    simp only [compRes] at h
    split at h
    · rename_i agg k l e0 h1
      cases h
      obtain ⟨y, ys, e1, e2, rfl⟩ := optList_cons hv
      obtain ⟨us, h2, h3⟩ := res_run g r l ys h1 e2
      simp only [resOne] at e1
      split at e1 <;> first | (cases e1; done) | skip
      rename_i x st i off hx
      have hr := g.env t
      rw [hx] at hr
      split at e1
      · cases e1
      · rename_i blk hrow
        obtain ⟨b, hρ, hBb, hs, hg, c, ty', hb, hc⟩ := g.heap.at hrow
        split at e1
        · cases e1
        · rename_i cs hi
          simp only [RelV] at hr
          obtain ⟨_, p, hp, hq⟩ := hr
          obtain rfl := hq _ _ hρ
          obtain ⟨u, hu, hr'⟩ := take_run (P := P) e0 (hc.at hb hi) e1
          refine ⟨u :: us, ?_, by simp only [RelL]; exact ⟨hr', h3⟩⟩
          simp only [List.mapM_cons, resF, hp, asAddr]
          simp [hu, h2]
    · cases h

theorem relL_tuple {vs : List AV} {us : List Value} (h : RelL ρ old w vs us) {r : AV} (hr : (match vs with | [x] => some x | xs => some (.tup xs)) = some r) :
    RelV ρ old w r (if h : us.toArray.size = 1 then us.toArray[0] else .tuple us.toArray) := by
  have hl := relL_length h
  match vs, us with
  | [x], [u] =>
    simp only [RelL] at h
    cases hr
    simpa using h.1
  | [], [] => cases hr; simp [RelV, RelL]
  | x :: y :: vs, u :: v :: us =>
    cases hr
    simpa [RelV] using h
  | [], _ :: _ => simp at hl
  | [_], [] => simp at hl
  | [_], _ :: _ :: _ => simp at hl
  | _ :: _ :: _, [] => simp at hl
  | _ :: _ :: _, [_] => simp at hl

theorem results_run {s : St} {a : Act} {fn : Func} {rvs : List RV} {r : AV} (g : Good D n B ρ old w s.env s.H a) (h : compRes P fn.results.toList = some rvs) (hv : resOf s rvs = some r) :
    ∃ u, (results fn a.tmps).run P w = .ok u w ∧ RelV ρ old w r u := by
  unfold resOf at hv
  cases hq : optList (resOne s) rvs with
  | none => rw [hq] at hv; cases hv
  | some vs =>
    rw [hq] at hv
    obtain ⟨us, h1, h2⟩ := res_run g _ _ _ h hq
    refine ⟨_, ?_, relL_tuple h2 (r := r) ?_⟩
    · rw [results_eq, Array.mapM_eq_mapM_toList]
      simp [h1]
    · match vs, hv with
      | [], hv => exact hv
      | [_], hv => exact hv
      | _ :: _ :: _, hv => exact hv

theorem comp_bare (P : Program) : ∀ c : Code, (comp P c).bare = comp P c
  | .seq a b => by simp only [comp, MC.bare, comp_bare P a, comp_bare P b]
  | .cond c a b => by
    simp only [comp]
    split
    · simp only [MC.bare, comp_bare P a, comp_bare P b]
    · rfl
  | .block id b => by simp only [comp, MC.bare, comp_bare P b]
  | .loop b => by simp only [comp, MC.bare, comp_bare P b]
  | .region id ops d => by
    cases d
    · rfl
    · simp only [comp]; split <;> rfl
  | .skip => rfl
  | .exit _ => rfl
  | .ret => rfl
  | .label _ => rfl
  | .goto _ => rfl
  | .rangeFunc .. => rfl
  | .scope _ => rfl
  | .refuse _ => rfl

theorem get_argEnv : ∀ (args : List AV) (i t : Nat), (argEnv i args).get t = if i ≤ t ∧ t < i + args.length then (args[t - i]?).getD .junk else .junk
  | [], i, t => by simp [argEnv, Env.get]
  | a :: r, i, t => by
    simp only [argEnv, Env.get]
    by_cases h : i = t
    · subst h; simp
    · rw [if_neg h, get_argEnv r (i + 1) t]
      by_cases h2 : i + 1 ≤ t ∧ t < i + 1 + r.length
      · rw [if_pos h2, if_pos (by simp; omega)]
        have : t - i = (t - (i + 1)) + 1 := by omega
        rw [this]; rfl
      · rw [if_neg h2, if_neg (by simp; omega)]

theorem argEnv_rel {args : List AV} {cargs : Array Value} {k : Nat} (h : RelL ρ old w args cargs.toList) : ERel ρ old w (argEnv 0 args) (cargs ++ Array.replicate k undef) := by
  intro t
  rw [get_argEnv]
  have hl := relL_length h
  by_cases ht : 0 ≤ t ∧ t < 0 + args.length
  · rw [if_pos ht]
    have hlt : t < args.length := by omega
    obtain ⟨u, hu, hr⟩ := relL_at h t args[t] (by simp [hlt])
    have hu' : cargs[t]? = some u := by simpa using hu
    have hs : t < cargs.size := (Array.getElem?_eq_some_iff.1 hu').1
    have : (cargs ++ Array.replicate k undef).getD t undef = u := by
      rw [Array.getD_eq_getD_getElem?, Array.getElem?_append_left hs, hu']; rfl
    rw [this]
    simpa [hlt] using hr
  · rw [if_neg ht]; simp only [RelV]

/-- the small code stands for the program's -/
def FnsOk (P : Program) (PP : Prog) : Prop := ∀ f fm, PP.fn f = some fm → ∃ fn, P.funcs[f]? = some fn ∧ fn.name ≠ "runtime.NumGoroutine" ∧ compFn P fm.inl fn = some fm

theorem runF_ok (hS : SpecOk P PP) (hF : FnsOk P PP) (hD : ∀ C, CallerOk P C → DrawOk P PP C) : ∀ k, CallerOk P (runF PP k)
  | 0 => by
    intro d π f args H r H' h
    simp only [runF] at h; cases h
  | k + 1 => by
    intro d π f args H r H' h hl B ρ old w cargs hr hH hB hst
    have hC := runF_ok hS hF hD k
    simp only [runF] at h
    cases hfm : PP.fn f with
    | none => rw [hfm] at h; cases h
    | some fm =>
      rw [hfm] at h
      simp only at h
      obtain ⟨fn, h1, h2, h3⟩ := hF f fm hfm
      unfold compFn at h3
      split at h3 <;> first | (cases h3; done) | skip
      rename_i c res hbody hres
      simp only at h3
      split at h3 <;> first | (cases h3; done) | skip
      rename_i hfits
      simp only [Option.some.injEq] at h3
      refine ⟨⟨fn, h1, h2, by simp [hbody]⟩, calls_of_wp h1 hbody ?_⟩
      cases hev : evC PP (runF PP k) d fm.code π ⟨argEnv 0 args, H, 0⟩ with
      | none => rw [hev] at h; cases h
      | some xs =>
        obtain ⟨x, s⟩ := xs
        rw [hev] at h
        have hcode : fm.code.bare = comp P c := by rw [← h3]; simp only; rw [annot_bare, comp_bare]
        have hfit : fm.code.fits fn.ntmps = true := by rw [← h3]; simp only; rw [annot_fits]; exact hfits
        have hrs : fm.res = res := by rw [← h3]
        obtain ⟨hk, hw⟩ := evC_walks (n := fn.ntmps) (B := B) hC hS (hD _ hC) d fm.code c hcode hfit π _ x s hev
        have g0 : Good d fn.ntmps B ρ old w (argEnv 0 args) H { tmps := cargs ++ Array.replicate (fn.ntmps - cargs.size) undef, defers := [] } :=
          ⟨argEnv_rel hr, hH, hB, by simp; omega, rfl, hl⟩
        refine hw ρ old w _ g0 (fun q hq τ m _ => hst q hq τ m) _ ?_
        have post : ∀ ρ' old' a' w', After d B H ρ old w (fun q => ∃ τ m, q = τ ++ m :: π ∧ 0 ≤ m ∧ m < s.k) s.H ρ' old' w' → Good d fn.ntmps B ρ' old' w' s.env s.H a' → (resOf s fm.res).map (fun r => (r, s.H)) = some (r, H') →
            a'.defers = [] ∧ ∃ v, (results fn a'.tmps).run P w' = .ok v w' ∧ CallPost d B H ρ old w r H' (fun q => ∃ τ m, q = τ ++ m :: π) (.returned v) w' := by
          intro ρ' old' a' w' ha g hres'
          rw [Option.map_eq_some_iff] at hres'
          obtain ⟨r', e1, e2⟩ := hres'
          cases e2
          rw [hrs] at e1
          obtain ⟨u, hu, hru⟩ := results_run g hres e1
          exact ⟨g.defers, u, hu, u, ρ', old', rfl, ha.keep, hru, g.heap, ha.below, fun q hq => (ha.news q hq).imp id fun ⟨τ, m, e, _⟩ => ⟨τ, m, e⟩, ha.av, ha.fr⟩
        intro ρ' old' a' w' ha g
        cases x with
        | nrm => exact post ρ' old' a' w' ha g h
        | ret => exact post ρ' old' a' w' ha g h
        | exit i => cases h

/-- A function that is handed values alone, and answers by a plain value. -/
theorem den_calls (hS : SpecOk P PP) (hF : FnsOk P PP) (hD : ∀ C, CallerOk P C → DrawOk P PP C) {k : Nat} {f : FuncId} {args : List AV} {x : Value} (h : den PP k f args = some (.v x)) {cargs : Array Value}
    (hr : RelL (ρ0 fun _ => False) old0 w args cargs.toList) : Calls P f cargs w fun e w' => e = .returned x ∧ Below w.heap.size w w' := by
  unfold den at h
  split at h <;> first | (cases h; done) | skip
  rename_i r H hrun
  split at h <;> first | (cases h; done) | skip
  have hrx : r = .v x := by
    cases r <;> simp only [packT, packA, packC] at h
    case v y => split at h <;> first | (cases h; done) | (cases h; rfl)
    all_goals (repeat' split at h)
    all_goals first | (cases h; done) | (rw [Option.map_eq_some_iff] at h; obtain ⟨_, _, h⟩ := h; cases h; done)
  subst hrx
  have hnil : HRel w.heap.size (ρ0 fun _ => False) old0 w [] := ⟨fun s blk hg => by simp [Heap.get] at hg, fun s b z q e => by simp [ρ0] at e, fun s s' b z z' q q' e _ => by simp [ρ0] at e⟩
  refine ((runF_ok hS hF hD k) _ _ _ _ _ _ _ hrun (Low.nil 0) w.heap.size _ _ w cargs hr hnil (Nat.le_refl _) (fun q hq => hq.elim)).2.mono ?_
  rintro e w' ⟨u, ρ', old', he, _, hu, _, hb, _⟩
  simp only [RelV] at hu
  subst hu
  exact ⟨he, hb⟩
end
end Go.Proofs.Ytnccnmeecngopaa.Fw
