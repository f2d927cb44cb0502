/- TrainTaught: whatever the plan, the taps, the disturbance and the beginning: a training through the taps tells them. Conditions: none. -/
import Derived.Test.YtldkgfbgndkbdaaLwTtF
set_option maxRecDepth 100000
set_option maxHeartbeats 4000000
set_option linter.unusedSimpArgs false
set_option linter.unusedVariables false
namespace Go.Proofs.Ytldkgfbgndkbdaa.Fw
open Go Go.RowKit
/-- what the law is handed -/
theorem fits9 {avs : List AV} (h : FitsVs Try.prog 8 Try.f9.params.toList avs) : ∃ (x29 : Int) (x31 : Int) (x33 : Int) (a38 : AV) (a47 : AV) (x68 : Int), avs = [AV.agg [AV.v (.int .i64 x29), AV.v (.int .i64 x31), AV.v (.int .i64 x33)], a38, a47, AV.v (.int .i64 x68)] ∧ (Lit.int .i64 x29).wf = true ∧ (Lit.int .i64 x31).wf = true ∧ (Lit.int .i64 x33).wf = true ∧ (a38 = AV.nils ∨ ∃ els : List (List AV), a38 = AV.lst 1 els ∧ els.length * 1 ≤ reachBytes ∧ ∀ e40 ∈ els, ∃ (x42 : Int), e40 = [AV.v (.int .i8 x42)] ∧ (Lit.int .i8 x42).wf = true) ∧ (a47 = AV.nils ∨ ∃ els : List (List AV), a47 = AV.lst 2 els ∧ els.length * 8 ≤ reachBytes ∧ ∀ e49 ∈ els, ∃ (x61 : Int) (x63 : Int), e49 = [AV.v (.int .i32 x61), AV.v (.int .i32 x63)] ∧ (Lit.int .i32 x61).wf = true ∧ (Lit.int .i32 x63).wf = true) ∧ (Lit.int .i64 x68).wf = true := by
  replace h : FitsVs Try.prog 8 [33, 23, 63, 3] avs := by rw [Try.params9] at h; exact h
  obtain ⟨a1, r2, rfl, h3, h⟩ := fitsVs_cons h
  obtain ⟨a4, r5, rfl, h6, h⟩ := fitsVs_cons h
  obtain ⟨a7, r8, rfl, h9, h⟩ := fitsVs_cons h
  obtain ⟨a10, r11, rfl, h12, h⟩ := fitsVs_cons h
  obtain rfl := fitsVs_nil h
  obtain ⟨c13, rfl, h14⟩ := fitsV_struct Try.underlying33 h3
  obtain ⟨p15, rfl, h16⟩ := fits_struct (n := 7) Try.underlying33 h14
  replace h16 : FitsEach (Fits Try.prog 7) [3, 3, 3] p15 := h16
  obtain ⟨p17, r18, rfl, h19, h20⟩ := fitsEach_cons h16
  obtain ⟨p21, r22, rfl, h23, h24⟩ := fitsEach_cons h20
  obtain ⟨p25, r26, rfl, h27, h28⟩ := fitsEach_cons h24
  obtain rfl := fitsEach_nil h28
  obtain ⟨x29, rfl, w30⟩ := fits_int (n := 6) Try.underlying3 h19
  obtain ⟨x31, rfl, w32⟩ := fits_int (n := 6) Try.underlying3 h23
  obtain ⟨x33, rfl, w34⟩ := fits_int (n := 6) Try.underlying3 h27
  have h35 := fitsV_slice Try.underlying23 h6
  obtain ⟨c36, h37⟩ : ∃ c, c = [a4] := ⟨_, rfl⟩
  rw [← h37] at h35
  obtain ⟨a38, rfl, w39⟩ : ∃ (a38 : AV), _ = [a38] ∧ (a38 = AV.nils ∨ ∃ els : List (List AV), a38 = AV.lst 1 els ∧ els.length * 1 ≤ reachBytes ∧ ∀ e40 ∈ els, ∃ (x42 : Int), e40 = [AV.v (.int .i8 x42)] ∧ (Lit.int .i8 x42).wf = true) := by
    rcases fits_slice (n := 7) Try.underlying23 h35 with hh | ⟨els, hh, h1, h2⟩
    · exact ⟨_, hh, .inl rfl⟩
    · refine ⟨_, hh, .inr ⟨els, ?_, ?_, fun e40 he => ?_⟩⟩
      · rw [show Try.prog.cellsOf 30 = 1 by kernel_rfl]
      · rw [show Try.prog.bytesOf 30 = 1 by kernel_rfl] at h1; exact h1
      · have h41 := h2 _ he
        obtain ⟨x42, rfl, w43⟩ := fits_int (n := 6) Try.underlying30 h41
        exact ⟨x42, rfl, w43⟩
  obtain rfl := one_inj h37
  have h44 := fitsV_slice Try.underlying63 h9
  obtain ⟨c45, h46⟩ : ∃ c, c = [a7] := ⟨_, rfl⟩
  rw [← h46] at h44
  obtain ⟨a47, rfl, w48⟩ : ∃ (a47 : AV), _ = [a47] ∧ (a47 = AV.nils ∨ ∃ els : List (List AV), a47 = AV.lst 2 els ∧ els.length * 8 ≤ reachBytes ∧ ∀ e49 ∈ els, ∃ (x61 : Int) (x63 : Int), e49 = [AV.v (.int .i32 x61), AV.v (.int .i32 x63)] ∧ (Lit.int .i32 x61).wf = true ∧ (Lit.int .i32 x63).wf = true) := by
    rcases fits_slice (n := 7) Try.underlying63 h44 with hh | ⟨els, hh, h1, h2⟩
    · exact ⟨_, hh, .inl rfl⟩
    · refine ⟨_, hh, .inr ⟨els, ?_, ?_, fun e49 he => ?_⟩⟩
      · rw [show Try.prog.cellsOf 68 = 2 by kernel_rfl]
      · rw [show Try.prog.bytesOf 68 = 8 by kernel_rfl] at h1; exact h1
      · have h50 := h2 _ he
        obtain ⟨p51, rfl, h52⟩ := fits_struct (n := 6) Try.underlying68 h50
        replace h52 : FitsEach (Fits Try.prog 6) [21, 21] p51 := h52
        obtain ⟨p53, r54, rfl, h55, h56⟩ := fitsEach_cons h52
        obtain ⟨p57, r58, rfl, h59, h60⟩ := fitsEach_cons h56
        obtain rfl := fitsEach_nil h60
        obtain ⟨x61, rfl, w62⟩ := fits_int (n := 5) Try.underlying21 h55
        obtain ⟨x63, rfl, w64⟩ := fits_int (n := 5) Try.underlying21 h59
        exact ⟨x61, x63, rfl, w62, w64⟩
  obtain rfl := one_inj h46
  have h65 := fitsV_int Try.underlying3 h12
  obtain ⟨c66, h67⟩ : ∃ c, c = [a10] := ⟨_, rfl⟩
  rw [← h67] at h65
  obtain ⟨x68, rfl, w69⟩ := fits_int (n := 7) Try.underlying3 h65
  obtain rfl := one_inj h67
  exact ⟨x29, x31, x33, a38, a47, x68, rfl, w30, w32, w34, w39, w48, w69⟩
theorem calls9 {avs : List AV} {W : World} {args : Array Value} (h : FitsVs Try.prog 8 Try.f9.params.toList avs) (hr : RelL (ρ0 fun _ => False) old0 W avs args.toList) :
    Calls Try.prog 9 args W fun e w' => e = .returned (.bool true) ∧ Below W.heap.size W w' := by
  obtain ⟨o, r, g, a, b, ah, rfl, _, _, _, ha, hb, _⟩ := fits9 h
  obtain ⟨ps, w1, l1⟩ := wi_of (f := celJ) (z := 1) (B := 1) (ha.imp id fun ⟨els, e1, e2, e3⟩ => ⟨els, e1, e2, fun e he => (e3 e he).imp fun _ h => h.1⟩)
  obtain ⟨ns, w2, l2⟩ := wi_of (f := celZ) (z := 2) (B := 8) (hb.imp id fun ⟨els, e1, e2, e3⟩ => ⟨els, e1, e2, fun e he => by
    obtain ⟨x, y, rfl, _⟩ := e3 e he
    exact ⟨(x, y), rfl⟩⟩)
  have hw : All2 WiA [AV.agg [.int .i64 o, .int .i64 r, .int .i64 g], a, b, AV.v (.int .i64 ah)] [AV.agg [.int .i64 o, .int .i64 r, .int .i64 g], .lst 1 (ps.map celJ), .lst 2 (ns.map celZ), AV.v (.int .i64 ah)] := ⟨.refl _, .inr w1, .inr w2, .refl _, trivial⟩
  exact law (spec_uL 20001) (@law_taught 20000 0 o r g ah ps ns (Nat.le_refl _)) (relL_wi hw hr)
end Go.Proofs.Ytldkgfbgndkbdaa.Fw
namespace Go.Proofs.Ytldkgfbgndkbdaa
open Go.ChangeShapes Go.WideShapes Go.ChangeAt Go.RowKit Fw
theorem trainTaught_lifted (os : Os) (started : os.Started) (H : Type) (enc : TypeId × Value → H) :
    ReturnsInHanded {} Try.checked os 9 .any (Rows.trainTaughtSpec.pre6 enc Try.prog Try.f9 Rows.trainTaughtRow.domain false) (Rows.trainTaughtSpec.post enc Try.prog Try.f9 false true false false) := by
  refine law_lifted (C := Try.checked) (n := 8) (tb := 4) own started (by kernel_rfl) Try.func9
    (ChangeSpec.witness6 (enc := enc) (C := Try.checked) false ⟨#[], #[.agg #[.int .i64 0, .int .i64 0, .int .i64 0], .slice none 0 0, .slice none 0 0, .int .i64 0], []⟩ 8 (by kernel_rfl) (by kernel_rfl) (by kernel_rfl) (by kernel_rfl))
    laidOut (by kernel_rfl) (by kernel_rfl) rfl ?_ rfl Try.underlying4 fun _ _ _ h hr => calls9 h hr
  intro ds hd
  have hd : ds.length = 4 := hd
  rcases ds with _ | ⟨a, _ | ⟨b, _ | ⟨c, _ | ⟨d, _ | ⟨z, r⟩⟩⟩⟩⟩ <;> simp at hd
  rfl
theorem trainTaught_holds : Rows.TrainTaughtSaid :=
  OpenClaim.holds_of_wide 9 Try.f9 rfl rfl rfl rfl rfl rfl rfl ⟨rfl, rfl, rfl, rfl, rfl⟩ rfl rfl rfl rfl rfl (by kernel_rfl) Try.func9 (by kernel_rfl)
    (of_decide_eq_true (by kernel_rfl)) (by unfold Func.isWrapper; first | (rw [if_pos (by decide +kernel)]; kernel_rfl) | (rw [if_neg (by decide +kernel)]; exact ⟨rfl, rfl⟩))
    (fun os started H enc _ => trainTaught_lifted os started H enc)
end Go.Proofs.Ytldkgfbgndkbdaa
