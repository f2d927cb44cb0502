/- HuntShifts: whatever the marks, the blocks and the number, hunt.Shift and the document's Shift answer the same, and neither writes into what it was handed; it holds at every input. -/
import Derived.Test.YtnccnmeecngopaaLwShP
set_option maxRecDepth 100000
set_option maxHeartbeats 4000000
set_option linter.unusedSimpArgs false
set_option linter.unusedVariables false
namespace Go.Proofs.Ytnccnmeecngopaa.Fw
open Go Go.RowKit
/-- what the law is handed -/
theorem fits3 {avs : List AV} (h : FitsVs Try.prog 8 Try.f3.params.toList avs) : ∃ (x22 : Int) (x27 : Int) (x32 : Int) (x37 : Int) (a42 : AV) (x51 : Int), avs = [AV.v (.int .i64 x22), AV.v (.int .i64 x27), AV.v (.int .i64 x32), AV.v (.int .i64 x37), a42, AV.v (.int .i64 x51)] ∧ (Lit.int .i64 x22).wf = true ∧ (Lit.int .i64 x27).wf = true ∧ (Lit.int .i64 x32).wf = true ∧ (Lit.int .i64 x37).wf = true ∧ (a42 = AV.nils ∨ ∃ els : List (List AV), a42 = AV.lst 1 els ∧ els.length * 8 ≤ reachBytes ∧ ∀ e44 ∈ els, ∃ (x46 : Int), e44 = [AV.v (.int .i64 x46)] ∧ (Lit.int .i64 x46).wf = true) ∧ (Lit.int .i64 x51).wf = true := by
  replace h : FitsVs Try.prog 8 [3, 3, 3, 3, 22, 3] avs := by rw [Try.params3] at h; exact h
  obtain ⟨a1, r2, rfl, h3, h⟩ := fitsVs_cons h
  obtain ⟨a4, r5, rfl, h6, h⟩ := fitsVs_cons h
  obtain ⟨a7, r8, rfl, h9, h⟩ := fitsVs_cons h
  obtain ⟨a10, r11, rfl, h12, h⟩ := fitsVs_cons h
  obtain ⟨a13, r14, rfl, h15, h⟩ := fitsVs_cons h
  obtain ⟨a16, r17, rfl, h18, h⟩ := fitsVs_cons h
  obtain rfl := fitsVs_nil h
  have h19 := fitsV_int Try.underlying3 h3
  obtain ⟨c20, h21⟩ : ∃ c, c = [a1] := ⟨_, rfl⟩
  rw [← h21] at h19
  obtain ⟨x22, rfl, w23⟩ := fits_int (n := 7) Try.underlying3 h19
  obtain rfl := one_inj h21
  have h24 := fitsV_int Try.underlying3 h6
  obtain ⟨c25, h26⟩ : ∃ c, c = [a4] := ⟨_, rfl⟩
  rw [← h26] at h24
  obtain ⟨x27, rfl, w28⟩ := fits_int (n := 7) Try.underlying3 h24
  obtain rfl := one_inj h26
  have h29 := fitsV_int Try.underlying3 h9
  obtain ⟨c30, h31⟩ : ∃ c, c = [a7] := ⟨_, rfl⟩
  rw [← h31] at h29
  obtain ⟨x32, rfl, w33⟩ := fits_int (n := 7) Try.underlying3 h29
  obtain rfl := one_inj h31
  have h34 := fitsV_int Try.underlying3 h12
  obtain ⟨c35, h36⟩ : ∃ c, c = [a10] := ⟨_, rfl⟩
  rw [← h36] at h34
  obtain ⟨x37, rfl, w38⟩ := fits_int (n := 7) Try.underlying3 h34
  obtain rfl := one_inj h36
  have h39 := fitsV_slice Try.underlying22 h15
  obtain ⟨c40, h41⟩ : ∃ c, c = [a13] := ⟨_, rfl⟩
  rw [← h41] at h39
  obtain ⟨a42, rfl, w43⟩ : ∃ (a42 : AV), _ = [a42] ∧ (a42 = AV.nils ∨ ∃ els : List (List AV), a42 = AV.lst 1 els ∧ els.length * 8 ≤ reachBytes ∧ ∀ e44 ∈ els, ∃ (x46 : Int), e44 = [AV.v (.int .i64 x46)] ∧ (Lit.int .i64 x46).wf = true) := by
    rcases fits_slice (n := 7) Try.underlying22 h39 with hh | ⟨els, hh, h1, h2⟩
    · exact ⟨_, hh, .inl rfl⟩
    · refine ⟨_, hh, .inr ⟨els, ?_, ?_, fun e44 he => ?_⟩⟩
      · rw [show Try.prog.cellsOf 3 = 1 by kernel_rfl]
      · rw [show Try.prog.bytesOf 3 = 8 by kernel_rfl] at h1; exact h1
      · have h45 := h2 _ he
        obtain ⟨x46, rfl, w47⟩ := fits_int (n := 6) Try.underlying3 h45
        exact ⟨x46, rfl, w47⟩
  obtain rfl := one_inj h41
  have h48 := fitsV_int Try.underlying3 h18
  obtain ⟨c49, h50⟩ : ∃ c, c = [a16] := ⟨_, rfl⟩
  rw [← h50] at h48
  obtain ⟨x51, rfl, w52⟩ := fits_int (n := 7) Try.underlying3 h48
  obtain rfl := one_inj h50
  exact ⟨x22, x27, x32, x37, a42, x51, rfl, w23, w28, w33, w38, w43, w52⟩

theorem cells_of {els : List (List AV)} (h : ∀ el ∈ els, ∃ x : Int, el = [AV.v (.int .i64 x)]) : ∃ xs : List Int, els = cellsI xs := by
  induction els with
  | nil => exact ⟨[], rfl⟩
  | cons a r ih =>
    obtain ⟨x, rfl⟩ := h a (by simp)
    obtain ⟨xs, rfl⟩ := ih fun e he => h e (by simp [he])
    exact ⟨x :: xs, rfl⟩
theorem calls3 {avs : List AV} {W : World} {args : Array Value} (h : FitsVs Try.prog 8 Try.f3.params.toList avs) (hr : RelL (ρ0 fun _ => False) old0 W avs args.toList) :
    Calls Try.prog 3 args W fun e w' => e = .returned (.bool true) ∧ Below W.heap.size W w' := by
  obtain ⟨mk, a, b, ln, bl, y, rfl, hx⟩ := fits3 h
  obtain ⟨_, _, _, _, hb, _⟩ := hx
  rcases hb with rfl | ⟨els, rfl, hl, he⟩
  · exact law (spec_abs 6 fnOf) (law3e (L := 0) (n := 0) (.inl rfl)) hr
  · obtain ⟨xs, rfl⟩ := cells_of fun e h => (he e h).imp fun _ h => h.1
    rw [cellsI_len] at hl
    rcases Nat.eq_zero_or_pos xs.length with h0 | h0
    · obtain rfl := List.length_eq_zero_iff.1 h0
      exact law (spec_abs 6 fnOf) (law3e (L := 0) (n := 0) (.inr rfl)) hr
    · have hm : xs.length ≤ 17592186044411 := by
        have : reachBytes = 140737488351232 := by kernel_rfl
        omega
      exact law (spec_abs _ fnOf) (law3n (L := xs.length) (n := 0) h0 hm (by omega)) hr
end Go.Proofs.Ytnccnmeecngopaa.Fw
namespace Go.Proofs.Ytnccnmeecngopaa
open Go.ChangeShapes Go.WideShapes Go.ChangeAt Go.RowKit Fw
theorem shifts_lifted (os : Os) (started : os.Started) (H : Type) (enc : TypeId × Value → H) :
    ReturnsInHanded {} Try.checked os 3 .any (Rows.huntShiftsSpec.pre6 enc Try.prog Try.f3 Rows.huntShiftsRow.domain false) (Rows.huntShiftsSpec.post enc Try.prog Try.f3 false true false false) := by
  refine law_lifted (C := Try.checked) (n := 8) (tb := 4) own started (by kernel_rfl) Try.func3
    (ChangeSpec.witness6 (enc := enc) (C := Try.checked) false ⟨#[], #[.int .i64 0, .int .i64 0, .int .i64 0, .int .i64 0, .slice none 0 0, .int .i64 0], []⟩ 8 (by kernel_rfl) (by kernel_rfl) (by kernel_rfl) (by kernel_rfl))
    laidOut (by kernel_rfl) (by kernel_rfl) rfl ?_ rfl Try.underlying4 fun _ _ _ h hr => calls3 h hr
  intro ds hd
  have hd : ds.length = 6 := hd
  rcases ds with _ | ⟨a, _ | ⟨b, _ | ⟨c, _ | ⟨d, _ | ⟨e, _ | ⟨f, _ | ⟨g, r⟩⟩⟩⟩⟩⟩⟩ <;> simp at hd
  rfl
theorem shifts_holds : Rows.HuntShiftsSaid :=
  OpenClaim.holds_of_wide 3 Try.f3 rfl rfl rfl rfl rfl rfl rfl ⟨rfl, rfl, rfl, rfl, rfl⟩ rfl rfl rfl rfl rfl (by kernel_rfl) Try.func3 (by kernel_rfl)
    (of_decide_eq_true (by kernel_rfl)) (by unfold Func.isWrapper; first | (rw [if_pos (by decide +kernel)]; kernel_rfl) | (rw [if_neg (by decide +kernel)]; exact ⟨rfl, rfl⟩))
    (fun os started H enc _ => shifts_lifted os started H enc)
end Go.Proofs.Ytnccnmeecngopaa
