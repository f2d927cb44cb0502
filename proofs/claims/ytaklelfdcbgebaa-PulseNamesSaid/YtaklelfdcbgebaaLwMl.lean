/- pulse.Named, spoken for. -/
import Derived.Test.YtaklelfdcbgebaaLwMk
set_option maxRecDepth 100000
set_option maxHeartbeats 4000000
set_option linter.unusedSimpArgs false
set_option linter.unusedVariables false
namespace Go.Proofs.Ytaklelfdcbgebaa.Fw
open Go Go.RowKit Go.Proofs
theorem spec_walks {P : Program} {f : FuncId} {fn : Func} {c : Code} {res : List RV} {run : List Nat → St → Option (Ex × St)} (h1 : P.funcs[f]? = some fn) (hbody : fn.body = some c) (hres : compRes P fn.results.toList = some res)
    (hw : ∀ B, Walks P 0 fn.ntmps B run c) {args : List AV} {x : Ex} {s : St} {r0 r : AV} (hr : run [] ⟨argEnv 0 args, [], 0⟩ = some (x, s)) (hx : x = .nrm ∨ x = .ret) (hv : resOf s res = some r0) (hdis : distinct r0.refs = true) (hp : packT true 0 s.H r0 = some r)
    {w : World} {cargs : Array Value} (hrel : RelL (ρ0 fun _ => False) old0 w args cargs.toList) : Calls P f cargs w (SpecPost w r) := by
  refine calls_of_wp h1 hbody ?_
  obtain ⟨hk, hwk⟩ := hw w.heap.size [] _ x s hr
  have hnil : HRel w.heap.size (ρ0 fun _ => False) old0 w [] := ⟨fun s blk hg => by simp [Heap.get] at hg, fun _ _ h => h.elim, fun s b z q e => by simp [ρ0] at e, fun s s' b z z' q q' e _ => by simp [ρ0] at e⟩
  have g0 : Good 0 fn.ntmps w.heap.size (ρ0 fun _ => False) old0 w (argEnv 0 args) [] { tmps := cargs ++ Array.replicate (fn.ntmps - cargs.size) undef, defers := [] } :=
    ⟨argEnv_rel hrel, hnil, Nat.le_refl _, by simp; omega, rfl, Low.nil 0⟩
  refine hwk (ρ0 fun _ => False) old0 w _ g0 (fun q hq => hq.elim) _ ?_
  intro ρ' old' a' w' ha g
  obtain ⟨u, hu, hru⟩ := results_run g hres hv
  have fin : a'.defers = [] ∧ ∃ v, (results fn a'.tmps).run P w' = .ok v w' ∧ SpecPost w r (.returned v) w' :=
    ⟨g.defers, u, hu, r0, s.H, ⟨u, ρ', old', rfl, ha.keep, hru, g.heap, ha.below, fun q hq => (ha.news q hq).imp id fun _ => trivial, ha.av, ha.fr⟩, hdis, pkT_of hp⟩
  rcases hx with rfl | rfl
  · exact fin
  · exact fin
noncomputable def runN (PP : Prog) (C : Caller) : List Nat → St → Option (Ex × St) := seqRun (evC PP C 0 (comp Try.prog (sL cN))) (seqRun (ev1 PP C) (evC PP C 0 (comp Try.prog (sR (sR cN)))))
theorem runN_walks {PP : Prog} {C : Caller} (hC : CallerOk Try.prog C) (hS : SpecOk Try.prog PP) (hD : DrawOk Try.prog PP C) (B : Nat) : Walks Try.prog 0 Try.f21.ntmps B (runN PP C) cN := by
  rw [cN_is]
  exact walks_seq (evC_walks hC hS hD 0 _ _ (comp_bare _ _) (by kernel_rfl)) (walks_seq (ev1_walks hC hS (Nat.le_of_ble_eq_true (by kernel_rfl)) (by kernel_rfl)) (evC_walks hC hS hD 0 _ _ (comp_bare _ _) (by kernel_rfl)))
def PN : Prog := ⟨fnOf, specAbs, 20⟩
noncomputable def resN : List RV := (compRes Try.prog Try.f21.results.toList).getD []
theorem resN_is : compRes Try.prog Try.f21.results.toList = some resN := by kernel_rfl
noncomputable def namedSem (avs : List AV) : Option AV :=
  match runN PN (runF PN 20) [] ⟨argEnv 0 avs, [], 0⟩ with
  | some (.exit _, _) => none
  | some (_, s) =>
    match resOf s resN with
    | some r => if distinct r.refs then packT true 0 s.H r else none
    | none => none
  | none => none
noncomputable def newNm : FuncId → Option (List AV → Option AV)
  | 21 => some namedSem
  | _ => none
noncomputable def specNm : FuncId → Option (List AV → Option AV) := fun f => match newNm f with | some g => some g | none => specAbs f
theorem spec_nm : SpecOk Try.prog ⟨fnOf, specNm, 0⟩ := by
  intro f g h
  have h : (match newNm f with | some g => some g | none => specAbs f) = some g := h
  cases hq : newNm f with
  | none => rw [hq] at h; exact spec_abs 0 fnOf f g h
  | some g' =>
    rw [hq] at h
    cases h
    unfold newNm at hq
    split at hq
    · cases hq
      refine ⟨⟨_, Try.func21, ne_of_beq_false (by kernel_rfl), by kernel_rfl⟩, fun avs r hr w cargs hrel => ?_⟩
      have hS : SpecOk Try.prog PN := spec_abs 20 fnOf
      have hF : FnsOk Try.prog PN := fnsOk _ _
      have hD : ∀ C, CallerOk Try.prog C → DrawOk Try.prog PN C := fun C hC => draw_ok follows hC hS
      have hC := runF_ok hS hF hD 20
      unfold namedSem at hr
      cases hrun : runN PN (runF PN 20) [] ⟨argEnv 0 avs, [], 0⟩ with
      | none => rw [hrun] at hr; cases hr
      | some xs =>
        obtain ⟨x, s⟩ := xs
        rw [hrun] at hr
        have key : (x = .nrm ∨ x = .ret) → (match resOf s resN with | some r => if distinct r.refs then packT true 0 s.H r else none | none => none) = some r → Calls Try.prog 21 cargs w (SpecPost w r) := fun hx hr => by
          cases hv : resOf s resN with
          | none => rw [hv] at hr; cases hr
          | some r0 =>
            rw [hv] at hr
            simp only at hr
            split at hr
            · rename_i hdis
              exact spec_walks Try.func21 cN_body resN_is (runN_walks hC hS (hD _ hC)) hrun hx hv hdis hr hrel
            · cases hr
        cases x with
        | nrm => exact key (.inl rfl) hr
        | ret => exact key (.inr rfl) hr
        | exit i => cases hr
    · cases hq
end Go.Proofs.Ytaklelfdcbgebaa.Fw
