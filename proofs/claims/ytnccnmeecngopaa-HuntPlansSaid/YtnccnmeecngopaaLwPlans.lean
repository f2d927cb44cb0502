/- HuntPlans: whatever the pulse and the numbers, hunt.Guard and hunt.Plan answer as the document's Guard and Plan do, hunt.Shift of the plan as the document's Shift; the places are new memory: overwritten they leave the others, and the plan asked again is the same. Conditions: none. -/
import Derived.Test.YtnccnmeecngopaaLwPlansA
set_option maxRecDepth 100000
set_option maxHeartbeats 4000000
set_option linter.unusedSimpArgs false
set_option linter.unusedVariables false
namespace Go.Proofs.Ytnccnmeecngopaa.Fw
open Go Go.RowKit
/-- what the law is handed -/
theorem fits6 {avs : List AV} (h : FitsVs Try.prog 8 Try.f6.params.toList avs) : ∃ (x35 : Int) (x37 : Int) (a39 : AV) (x48 : Int) (x53 : Int) (x58 : Int) (x63 : Int) (x68 : Int), avs = [AV.agg [AV.v (.int .i64 x35), AV.v (.int .i64 x37), a39], AV.v (.int .i64 x48), AV.v (.int .i64 x53), AV.v (.int .i64 x58), AV.v (.int .i64 x63), AV.v (.int .i64 x68)] ∧ (Lit.int .i64 x35).wf = true ∧ (Lit.int .i64 x37).wf = true ∧ (a39 = AV.nils ∨ ∃ els : List (List AV), a39 = AV.lst 1 els ∧ els.length * 8 ≤ reachBytes ∧ ∀ e41 ∈ els, ∃ (x43 : Int), e41 = [AV.v (.int .i64 x43)] ∧ (Lit.int .i64 x43).wf = true) ∧ (Lit.int .i64 x48).wf = true ∧ (Lit.int .i64 x53).wf = true ∧ (Lit.int .i64 x58).wf = true ∧ (Lit.int .i64 x63).wf = true ∧ (Lit.int .i64 x68).wf = true := by
  replace h : FitsVs Try.prog 8 [52, 3, 3, 3, 3, 3] avs := by rw [Try.params6] at h; exact h
  obtain ⟨a1, r2, rfl, h3, h⟩ := fitsVs_cons h
  obtain ⟨a4, r5, rfl, h6, h⟩ := fitsVs_cons h
  obtain ⟨a7, r8, rfl, h9, h⟩ := fitsVs_cons h
  obtain ⟨a10, r11, rfl, h12, h⟩ := fitsVs_cons h
  obtain ⟨a13, r14, rfl, h15, h⟩ := fitsVs_cons h
  obtain ⟨a16, r17, rfl, h18, h⟩ := fitsVs_cons h
  obtain rfl := fitsVs_nil h
  obtain ⟨c19, rfl, h20⟩ := fitsV_struct Try.underlying52 h3
  obtain ⟨p21, rfl, h22⟩ := fits_struct (n := 7) Try.underlying52 h20
  replace h22 : FitsEach (Fits Try.prog 7) [3, 3, 22] p21 := h22
  obtain ⟨p23, r24, rfl, h25, h26⟩ := fitsEach_cons h22
  obtain ⟨p27, r28, rfl, h29, h30⟩ := fitsEach_cons h26
  obtain ⟨p31, r32, rfl, h33, h34⟩ := fitsEach_cons h30
  obtain rfl := fitsEach_nil h34
  obtain ⟨x35, rfl, w36⟩ := fits_int (n := 6) Try.underlying3 h25
  obtain ⟨x37, rfl, w38⟩ := fits_int (n := 6) Try.underlying3 h29
  obtain ⟨a39, rfl, w40⟩ : ∃ (a39 : AV), _ = [a39] ∧ (a39 = AV.nils ∨ ∃ els : List (List AV), a39 = AV.lst 1 els ∧ els.length * 8 ≤ reachBytes ∧ ∀ e41 ∈ els, ∃ (x43 : Int), e41 = [AV.v (.int .i64 x43)] ∧ (Lit.int .i64 x43).wf = true) := by
    rcases fits_slice (n := 6) Try.underlying22 h33 with hh | ⟨els, hh, h1, h2⟩
    · exact ⟨_, hh, .inl rfl⟩
    · refine ⟨_, hh, .inr ⟨els, ?_, ?_, fun e41 he => ?_⟩⟩
      · rw [show Try.prog.cellsOf 3 = 1 by kernel_rfl]
      · rw [show Try.prog.bytesOf 3 = 8 by kernel_rfl] at h1; exact h1
      · have h42 := h2 _ he
        obtain ⟨x43, rfl, w44⟩ := fits_int (n := 5) Try.underlying3 h42
        exact ⟨x43, rfl, w44⟩
  have h45 := fitsV_int Try.underlying3 h6
  obtain ⟨c46, h47⟩ : ∃ c, c = [a4] := ⟨_, rfl⟩
  rw [← h47] at h45
  obtain ⟨x48, rfl, w49⟩ := fits_int (n := 7) Try.underlying3 h45
  obtain rfl := one_inj h47
  have h50 := fitsV_int Try.underlying3 h9
  obtain ⟨c51, h52⟩ : ∃ c, c = [a7] := ⟨_, rfl⟩
  rw [← h52] at h50
  obtain ⟨x53, rfl, w54⟩ := fits_int (n := 7) Try.underlying3 h50
  obtain rfl := one_inj h52
  have h55 := fitsV_int Try.underlying3 h12
  obtain ⟨c56, h57⟩ : ∃ c, c = [a10] := ⟨_, rfl⟩
  rw [← h57] at h55
  obtain ⟨x58, rfl, w59⟩ := fits_int (n := 7) Try.underlying3 h55
  obtain rfl := one_inj h57
  have h60 := fitsV_int Try.underlying3 h15
  obtain ⟨c61, h62⟩ : ∃ c, c = [a13] := ⟨_, rfl⟩
  rw [← h62] at h60
  obtain ⟨x63, rfl, w64⟩ := fits_int (n := 7) Try.underlying3 h60
  obtain rfl := one_inj h62
  have h65 := fitsV_int Try.underlying3 h18
  obtain ⟨c66, h67⟩ : ∃ c, c = [a16] := ⟨_, rfl⟩
  rw [← h67] at h65
  obtain ⟨x68, rfl, w69⟩ := fits_int (n := 7) Try.underlying3 h65
  obtain rfl := one_inj h67
  exact ⟨x35, x37, a39, x48, x53, x58, x63, x68, rfl, w36, w38, w40, w49, w54, w59, w64, w69⟩
theorem cells_of6 {els : List (List AV)} (h : ∀ el ∈ els, ∃ x : Int, el = [AV.v (.int .i64 x)]) : ∃ xs : List Int, els = cellsI xs := by
  induction els with
  | nil => exact ⟨[], rfl⟩
  | cons a r ih =>
    obtain ⟨x, rfl⟩ := h a (by simp)
    obtain ⟨xs, rfl⟩ := ih fun e he => h e (by simp [he])
    exact ⟨x :: xs, rfl⟩
theorem calls6 {avs : List AV} {W : World} {args : Array Value} (h : FitsVs Try.prog 8 Try.f6.params.toList avs) (hr : RelL (ρ0 fun _ => False) old0 W avs args.toList) :
    Calls Try.prog 6 args W fun e w' => e = .returned (.bool true) ∧ Below W.heap.size W w' := by
  obtain ⟨rate, fore, tp, taps, pair, points, blocks, y, rfl, hx⟩ := fits6 h
  obtain ⟨_, _, hb, _⟩ := hx
  rcases hb with rfl | ⟨els, rfl, hl, he⟩
  · exact law (spec_p 70006) (law6a (L := 70000) (n := 0) (.inl rfl) (by omega)) hr
  · obtain ⟨xs, rfl⟩ := cells_of6 fun e h => (he e h).imp fun _ h => h.1
    rw [cellsI_len] at hl
    rcases Nat.eq_zero_or_pos xs.length with h0 | h0
    · obtain rfl := List.length_eq_zero_iff.1 h0
      exact law (spec_p 70006) (law6a (L := 70000) (n := 0) (.inr rfl) (by omega)) hr
    · have hm : xs.length ≤ 17592186044415 := by
        have : reachBytes = 140737488351232 := by kernel_rfl
        omega
      exact law (spec_p _) (law6n (L := xs.length + 70000) (n := 0) h0 hm (by omega)) hr
end Go.Proofs.Ytnccnmeecngopaa.Fw
namespace Go.Proofs.Ytnccnmeecngopaa
open Go.ChangeShapes Go.WideShapes Go.ChangeAt Go.RowKit Fw
theorem huntPlans_lifted (os : Os) (started : os.Started) (H : Type) (enc : TypeId × Value → H) :
    ReturnsInHanded {} Try.checked os 6 .any (Rows.huntPlansSpec.pre6 enc Try.prog Try.f6 Rows.huntPlansRow.domain false) (Rows.huntPlansSpec.post enc Try.prog Try.f6 false true false false) := by
  refine law_lifted (C := Try.checked) (n := 8) (tb := 4) own started (by kernel_rfl) Try.func6
    (ChangeSpec.witness6 (enc := enc) (C := Try.checked) false ⟨#[], #[.agg #[.int .i64 0, .int .i64 0, .slice none 0 0], .int .i64 0, .int .i64 0, .int .i64 0, .int .i64 0, .int .i64 0], []⟩ 8 (by kernel_rfl) (by kernel_rfl) (by kernel_rfl) (by kernel_rfl))
    laidOut (by kernel_rfl) (by kernel_rfl) rfl ?_ rfl Try.underlying4 fun _ _ _ h hr => calls6 h hr
  intro ds hd
  have hd : ds.length = 6 := hd
  rcases ds with _ | ⟨a, _ | ⟨b, _ | ⟨c, _ | ⟨d, _ | ⟨e, _ | ⟨f, _ | ⟨z, r⟩⟩⟩⟩⟩⟩⟩ <;> simp at hd
  rfl
theorem huntPlans_holds : Rows.HuntPlansSaid :=
  OpenClaim.holds_of_wide 6 Try.f6 rfl rfl rfl rfl rfl rfl rfl ⟨rfl, rfl, rfl, rfl, rfl⟩ rfl rfl rfl rfl rfl (by kernel_rfl) Try.func6 (by kernel_rfl)
    (of_decide_eq_true (by kernel_rfl)) (by unfold Func.isWrapper; first | (rw [if_pos (by decide +kernel)]; kernel_rfl) | (rw [if_neg (by decide +kernel)]; exact ⟨rfl, rfl⟩))
    (fun os started H enc _ => huntPlans_lifted os started H enc)
end Go.Proofs.Ytnccnmeecngopaa
