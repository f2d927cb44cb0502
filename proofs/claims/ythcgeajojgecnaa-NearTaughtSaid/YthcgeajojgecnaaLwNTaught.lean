/- NearTaught: whatever the order, the echo, the disturbance below one and the beginning: the echo's taps are learnt, and taken off. Conditions: none. -/
import Derived.Test.YthcgeajojgecnaaLwNtD
set_option maxRecDepth 100000
set_option maxHeartbeats 4000000
set_option linter.unusedSimpArgs false
set_option linter.unusedVariables false
namespace Go.Proofs.Ythcgeajojgecnaa.Fw
open Go Go.RowKit
/-- what the law is handed -/
theorem fits13 {avs : List AV} (h : FitsVs Try.prog 8 Try.f13.params.toList avs) : ∃ (x24 : Int) (x26 : Int) (a28 : AV) (a46 : AV), avs = [AV.agg [AV.v (.int .u8 x24), AV.v (.int .u8 x26), a28, a46]] ∧ (Lit.int .u8 x24).wf = true ∧ (Lit.int .u8 x26).wf = true ∧ (a28 = AV.nils ∨ ∃ els : List (List AV), a28 = AV.lst 2 els ∧ els.length * 2 ≤ reachBytes ∧ ∀ e30 ∈ els, ∃ (x42 : Int) (x44 : Int), e30 = [AV.v (.int .i8 x42), AV.v (.int .i8 x44)] ∧ (Lit.int .i8 x42).wf = true ∧ (Lit.int .i8 x44).wf = true) ∧ (a46 = AV.nils ∨ ∃ els : List (List AV), a46 = AV.lst 2 els ∧ els.length * 4 ≤ reachBytes ∧ ∀ e48 ∈ els, ∃ (x60 : Int) (x62 : Int), e48 = [AV.v (.int .i16 x60), AV.v (.int .i16 x62)] ∧ (Lit.int .i16 x60).wf = true ∧ (Lit.int .i16 x62).wf = true) := by
  replace h : FitsVs Try.prog 8 [116] avs := by rw [Try.params13] at h; exact h
  obtain ⟨a1, r2, rfl, h3, h⟩ := fitsVs_cons h
  obtain rfl := fitsVs_nil h
  obtain ⟨c4, rfl, h5⟩ := fitsV_struct Try.underlying116 h3
  obtain ⟨p6, rfl, h7⟩ := fits_struct (n := 7) Try.underlying116 h5
  replace h7 : FitsEach (Fits Try.prog 7) [5, 5, 72, 71] p6 := h7
  obtain ⟨p8, r9, rfl, h10, h11⟩ := fitsEach_cons h7
  obtain ⟨p12, r13, rfl, h14, h15⟩ := fitsEach_cons h11
  obtain ⟨p16, r17, rfl, h18, h19⟩ := fitsEach_cons h15
  obtain ⟨p20, r21, rfl, h22, h23⟩ := fitsEach_cons h19
  obtain rfl := fitsEach_nil h23
  obtain ⟨x24, rfl, w25⟩ := fits_int (n := 6) Try.underlying5 h10
  obtain ⟨x26, rfl, w27⟩ := fits_int (n := 6) Try.underlying5 h14
  obtain ⟨a28, rfl, w29⟩ : ∃ (a28 : AV), _ = [a28] ∧ (a28 = AV.nils ∨ ∃ els : List (List AV), a28 = AV.lst 2 els ∧ els.length * 2 ≤ reachBytes ∧ ∀ e30 ∈ els, ∃ (x42 : Int) (x44 : Int), e30 = [AV.v (.int .i8 x42), AV.v (.int .i8 x44)] ∧ (Lit.int .i8 x42).wf = true ∧ (Lit.int .i8 x44).wf = true) := by
    rcases fits_slice (n := 6) Try.underlying72 h18 with hh | ⟨els, hh, h1, h2⟩
    · exact ⟨_, hh, .inl rfl⟩
    · refine ⟨_, hh, .inr ⟨els, ?_, ?_, fun e30 he => ?_⟩⟩
      · rw [show Try.prog.cellsOf 138 = 2 by kernel_rfl]
      · rw [show Try.prog.bytesOf 138 = 2 by kernel_rfl] at h1; exact h1
      · have h31 := h2 _ he
        obtain ⟨p32, rfl, h33⟩ := fits_array (n := 5) Try.underlying138 h31
        replace h33 : FitsEach (Fits Try.prog 5) [30, 30] p32 := h33
        obtain ⟨p34, r35, rfl, h36, h37⟩ := fitsEach_cons h33
        obtain ⟨p38, r39, rfl, h40, h41⟩ := fitsEach_cons h37
        obtain rfl := fitsEach_nil h41
        obtain ⟨x42, rfl, w43⟩ := fits_int (n := 4) Try.underlying30 h36
        obtain ⟨x44, rfl, w45⟩ := fits_int (n := 4) Try.underlying30 h40
        exact ⟨x42, x44, rfl, w43, w45⟩
  obtain ⟨a46, rfl, w47⟩ : ∃ (a46 : AV), _ = [a46] ∧ (a46 = AV.nils ∨ ∃ els : List (List AV), a46 = AV.lst 2 els ∧ els.length * 4 ≤ reachBytes ∧ ∀ e48 ∈ els, ∃ (x60 : Int) (x62 : Int), e48 = [AV.v (.int .i16 x60), AV.v (.int .i16 x62)] ∧ (Lit.int .i16 x60).wf = true ∧ (Lit.int .i16 x62).wf = true) := by
    rcases fits_slice (n := 6) Try.underlying71 h22 with hh | ⟨els, hh, h1, h2⟩
    · exact ⟨_, hh, .inl rfl⟩
    · refine ⟨_, hh, .inr ⟨els, ?_, ?_, fun e48 he => ?_⟩⟩
      · rw [show Try.prog.cellsOf 119 = 2 by kernel_rfl]
      · rw [show Try.prog.bytesOf 119 = 4 by kernel_rfl] at h1; exact h1
      · have h49 := h2 _ he
        obtain ⟨p50, rfl, h51⟩ := fits_array (n := 5) Try.underlying119 h49
        replace h51 : FitsEach (Fits Try.prog 5) [118, 118] p50 := h51
        obtain ⟨p52, r53, rfl, h54, h55⟩ := fitsEach_cons h51
        obtain ⟨p56, r57, rfl, h58, h59⟩ := fitsEach_cons h55
        obtain rfl := fitsEach_nil h59
        obtain ⟨x60, rfl, w61⟩ := fits_int (n := 4) Try.underlying118 h54
        obtain ⟨x62, rfl, w63⟩ := fits_int (n := 4) Try.underlying118 h58
        exact ⟨x60, x62, rfl, w61, w63⟩
  exact ⟨x24, x26, a28, a46, rfl, w25, w27, w29, w47⟩
theorem u8_wf {o : Int} (h : (Lit.int .u8 o).wf = true) : 0 ≤ o ∧ o ≤ 255 := by
  have h : (decide (IntKind.min .u8 ≤ o) && decide (o ≤ IntKind.max .u8)) = true := h
  rw [Bool.and_eq_true] at h
  exact ⟨of_decide_eq_true h.1, of_decide_eq_true h.2⟩
theorem calls13 {avs : List AV} {W : World} {args : Array Value} (h : FitsVs Try.prog 8 Try.f13.params.toList avs) (hr : RelL (ρ0 fun _ => False) old0 W avs args.toList) :
    Calls Try.prog 13 args W fun e w' => e = .returned (.bool true) ∧ Below W.heap.size W w' := by
  obtain ⟨o, la, p, q, rfl, f1, f2, hp, hq⟩ := fits13 h
  obtain ⟨es, w1, l1⟩ := wi_of (f := celB) (z := 2) (B := 2) (hp.imp id fun ⟨els, e1, e2, e3⟩ => ⟨els, e1, e2, fun e he => by
    obtain ⟨x, y, rfl, _⟩ := e3 e he
    exact ⟨(x, y), rfl⟩⟩)
  obtain ⟨ds, w2, l2⟩ := wi_of (f := celH) (z := 2) (B := 4) (hq.imp id fun ⟨els, e1, e2, e3⟩ => ⟨els, e1, e2, fun e he => by
    obtain ⟨x, y, rfl, _⟩ := e3 e he
    exact ⟨(x, y), rfl⟩⟩)
  have b1 := u8_wf f1
  have b2 := u8_wf f2
  have hw : All2 WiA [AV.agg [.int .u8 o, .int .u8 la, p, q]] [AV.agg [.int .u8 o, .int .u8 la, .lst 2 (es.map celB), .lst 2 (ds.map celH)]] := ⟨.inl ⟨_, _, rfl, rfl, ⟨.inl rfl, .inl rfl, w1, w2, trivial⟩⟩, trivial⟩
  exact law (spec_nL (70000 + 1)) (@law_ntaught 70000 0 es ds o la (Nat.le_refl _) b1 b2) (relL_wi hw hr)
end Go.Proofs.Ythcgeajojgecnaa.Fw
namespace Go.Proofs.Ythcgeajojgecnaa
open Go.ChangeShapes Go.WideShapes Go.ChangeAt Go.RowKit Fw
theorem nearTaught_lifted (os : Os) (started : os.Started) (H : Type) (enc : TypeId × Value → H) :
    ReturnsInHanded {} Try.checked os 13 .any (Rows.nearTaughtSpec.pre6 enc Try.prog Try.f13 Rows.nearTaughtRow.domain false) (Rows.nearTaughtSpec.post enc Try.prog Try.f13 false true false false) := by
  refine law_lifted (C := Try.checked) (n := 8) (tb := 4) own started (by kernel_rfl) Try.func13
    (ChangeSpec.witness6 (enc := enc) (C := Try.checked) false ⟨#[], #[.agg #[.int .u8 0, .int .u8 0, .slice none 0 0, .slice none 0 0]], []⟩ 8 (by kernel_rfl) (by kernel_rfl) (by kernel_rfl) (by kernel_rfl))
    laidOut (by kernel_rfl) (by kernel_rfl) rfl ?_ rfl Try.underlying4 fun _ _ _ h hr => calls13 h hr
  intro ds hd
  have hd : ds.length = 1 := hd
  rcases ds with _ | ⟨a, _ | ⟨z, r⟩⟩ <;> simp at hd
  rfl
theorem nearTaught_holds : Rows.NearTaughtSaid :=
  OpenClaim.holds_of_wide 13 Try.f13 rfl rfl rfl rfl rfl rfl rfl ⟨rfl, rfl, rfl, rfl, rfl⟩ rfl rfl rfl rfl rfl (by kernel_rfl) Try.func13 (by kernel_rfl)
    (of_decide_eq_true (by kernel_rfl)) (by unfold Func.isWrapper; first | (rw [if_pos (by decide +kernel)]; kernel_rfl) | (rw [if_neg (by decide +kernel)]; exact ⟨rfl, rfl⟩))
    (fun os started H enc _ => nearTaught_lifted os started H enc)
end Go.Proofs.Ythcgeajojgecnaa
