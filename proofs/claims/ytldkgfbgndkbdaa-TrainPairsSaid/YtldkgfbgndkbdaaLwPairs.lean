/- TrainPairs: any order, any row of signs, any float: train.Pair, Auto and Step answer as the document does, in new memory. Conditions: none. -/
import Derived.Test.YtldkgfbgndkbdaaLwTpE
set_option maxRecDepth 100000
set_option maxHeartbeats 4000000
set_option linter.unusedSimpArgs false
set_option linter.unusedVariables false
namespace Go.Proofs.Ytldkgfbgndkbdaa.Fw
open Go Go.RowKit
/-- what the law is handed -/
theorem fits5 {avs : List AV} (h : FitsVs Try.prog 8 Try.f5.params.toList avs) : ∃ (x13 : Int) (a18 : AV) (x27 : Int), avs = [AV.v (.int .i64 x13), a18, AV.v (.int .u64 x27)] ∧ (Lit.int .i64 x13).wf = true ∧ (a18 = AV.nils ∨ ∃ els : List (List AV), a18 = AV.lst 1 els ∧ els.length * 1 ≤ reachBytes ∧ ∀ e20 ∈ els, ∃ (x22 : Int), e20 = [AV.v (.int .i8 x22)] ∧ (Lit.int .i8 x22).wf = true) ∧ (Lit.int .u64 x27).wf = true := by
  replace h : FitsVs Try.prog 8 [3, 23, 45] avs := by rw [Try.params5] at h; exact h
  obtain ⟨a1, r2, rfl, h3, h⟩ := fitsVs_cons h
  obtain ⟨a4, r5, rfl, h6, h⟩ := fitsVs_cons h
  obtain ⟨a7, r8, rfl, h9, h⟩ := fitsVs_cons h
  obtain rfl := fitsVs_nil h
  have h10 := fitsV_int Try.underlying3 h3
  obtain ⟨c11, h12⟩ : ∃ c, c = [a1] := ⟨_, rfl⟩
  rw [← h12] at h10
  obtain ⟨x13, rfl, w14⟩ := fits_int (n := 7) Try.underlying3 h10
  obtain rfl := one_inj h12
  have h15 := fitsV_slice Try.underlying23 h6
  obtain ⟨c16, h17⟩ : ∃ c, c = [a4] := ⟨_, rfl⟩
  rw [← h17] at h15
  obtain ⟨a18, rfl, w19⟩ : ∃ (a18 : AV), _ = [a18] ∧ (a18 = AV.nils ∨ ∃ els : List (List AV), a18 = AV.lst 1 els ∧ els.length * 1 ≤ reachBytes ∧ ∀ e20 ∈ els, ∃ (x22 : Int), e20 = [AV.v (.int .i8 x22)] ∧ (Lit.int .i8 x22).wf = true) := by
    rcases fits_slice (n := 7) Try.underlying23 h15 with hh | ⟨els, hh, h1, h2⟩
    · exact ⟨_, hh, .inl rfl⟩
    · refine ⟨_, hh, .inr ⟨els, ?_, ?_, fun e20 he => ?_⟩⟩
      · rw [show Try.prog.cellsOf 30 = 1 by kernel_rfl]
      · rw [show Try.prog.bytesOf 30 = 1 by kernel_rfl] at h1; exact h1
      · have h21 := h2 _ he
        obtain ⟨x22, rfl, w23⟩ := fits_int (n := 6) Try.underlying30 h21
        exact ⟨x22, rfl, w23⟩
  obtain rfl := one_inj h17
  have h24 := fitsV_int Try.underlying45 h9
  obtain ⟨c25, h26⟩ : ∃ c, c = [a7] := ⟨_, rfl⟩
  rw [← h26] at h24
  obtain ⟨x27, rfl, w28⟩ := fits_int (n := 7) Try.underlying45 h24
  obtain rfl := one_inj h26
  exact ⟨x13, a18, x27, rfl, w14, w19, w28⟩
theorem calls5 {avs : List AV} {W : World} {args : Array Value} (h : FitsVs Try.prog 8 Try.f5.params.toList avs) (hr : RelL (ρ0 fun _ => False) old0 W avs args.toList) :
    Calls Try.prog 5 args W fun e w' => e = .returned (.bool true) ∧ Below W.heap.size W w' := by
  obtain ⟨o, a, x, rfl, _, ha, _⟩ := fits5 h
  obtain ⟨xs, w1, l1⟩ := wi_of (f := celJ) (z := 1) (B := 1) (ha.imp id fun ⟨els, e1, e2, e3⟩ => ⟨els, e1, e2, fun e he => (e3 e he).imp fun _ h => h.1⟩)
  have hw : All2 WiA [AV.v (.int .i64 o), a, AV.v (.int .u64 x)] [AV.v (.int .i64 o), .lst 1 (xs.map celJ), AV.v (.int .u64 x)] := ⟨.refl _, .inr w1, .refl _, trivial⟩
  obtain ⟨L, hL⟩ : ∃ L, xs.length + 5000 ≤ L := ⟨_, Nat.le_refl _⟩
  have hb : reachBytes = 140737488351232 := by kernel_rfl
  exact law (spec_qL (L + 1)) (@law_pairs L 0 x o xs (by omega) hL) (relL_wi hw hr)
end Go.Proofs.Ytldkgfbgndkbdaa.Fw
namespace Go.Proofs.Ytldkgfbgndkbdaa
open Go.ChangeShapes Go.WideShapes Go.ChangeAt Go.RowKit Fw
theorem trainPairs_lifted (os : Os) (started : os.Started) (H : Type) (enc : TypeId × Value → H) :
    ReturnsInHanded {} Try.checked os 5 .any (Rows.trainPairsSpec.pre6 enc Try.prog Try.f5 Rows.trainPairsRow.domain false) (Rows.trainPairsSpec.post enc Try.prog Try.f5 false true false false) := by
  refine law_lifted (C := Try.checked) (n := 8) (tb := 4) own started (by kernel_rfl) Try.func5
    (ChangeSpec.witness6 (enc := enc) (C := Try.checked) false ⟨#[], #[.int .i64 0, .slice none 0 0, .int .u64 0], []⟩ 8 (by kernel_rfl) (by kernel_rfl) (by kernel_rfl) (by kernel_rfl))
    laidOut (by kernel_rfl) (by kernel_rfl) rfl ?_ rfl Try.underlying4 fun _ _ _ h hr => calls5 h hr
  intro ds hd
  have hd : ds.length = 3 := hd
  rcases ds with _ | ⟨a, _ | ⟨b, _ | ⟨c, _ | ⟨z, r⟩⟩⟩⟩ <;> simp at hd
  rfl
theorem trainPairs_holds : Rows.TrainPairsSaid :=
  OpenClaim.holds_of_wide 5 Try.f5 rfl rfl rfl rfl rfl rfl rfl ⟨rfl, rfl, rfl, rfl, rfl⟩ rfl rfl rfl rfl rfl (by kernel_rfl) Try.func5 (by kernel_rfl)
    (of_decide_eq_true (by kernel_rfl)) (by unfold Func.isWrapper; first | (rw [if_pos (by decide +kernel)]; kernel_rfl) | (rw [if_neg (by decide +kernel)]; exact ⟨rfl, rfl⟩))
    (fun os started H enc _ => trainPairs_lifted os started H enc)
end Go.Proofs.Ytldkgfbgndkbdaa
