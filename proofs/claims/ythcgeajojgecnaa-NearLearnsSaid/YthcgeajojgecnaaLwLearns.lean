/- NearLearns: whatever the plan and the row, near.Learn answers as the document does. Conditions: none. -/
import Derived.Test.YthcgeajojgecnaaLwLeB
set_option maxRecDepth 100000
set_option maxHeartbeats 4000000
set_option linter.unusedSimpArgs false
set_option linter.unusedVariables false
namespace Go.Proofs.Ythcgeajojgecnaa.Fw
open Go Go.RowKit
/-- what the law is handed -/
theorem fits12 {avs : List AV} (h : FitsVs Try.prog 8 Try.f12.params.toList avs) : ∃ (x31 : Int) (x33 : Int) (x35 : Int) (x37 : Int) (x39 : Int) (a44 : AV), avs = [AV.agg [AV.v (.int .i64 x31), AV.v (.int .i64 x33), AV.v (.int .i64 x35), AV.v (.int .i64 x37), AV.v (.int .i64 x39)], a44] ∧ (Lit.int .i64 x31).wf = true ∧ (Lit.int .i64 x33).wf = true ∧ (Lit.int .i64 x35).wf = true ∧ (Lit.int .i64 x37).wf = true ∧ (Lit.int .i64 x39).wf = true ∧ (a44 = AV.nils ∨ ∃ els : List (List AV), a44 = AV.lst 3 els ∧ els.length * 24 ≤ reachBytes ∧ ∀ e46 ∈ els, ∃ (x62 : Nat) (x64 : Nat) (x66 : Bool), e46 = [AV.flt (canon x62), AV.flt (canon x64), AV.v (.bool x66)] ∧ x62 < 2 ^ 64 ∧ x64 < 2 ^ 64) := by
  replace h : FitsVs Try.prog 8 [112, 105] avs := by rw [Try.params12] at h; exact h
  obtain ⟨a1, r2, rfl, h3, h⟩ := fitsVs_cons h
  obtain ⟨a4, r5, rfl, h6, h⟩ := fitsVs_cons h
  obtain rfl := fitsVs_nil h
  obtain ⟨c7, rfl, h8⟩ := fitsV_struct Try.underlying112 h3
  obtain ⟨p9, rfl, h10⟩ := fits_struct (n := 7) Try.underlying112 h8
  replace h10 : FitsEach (Fits Try.prog 7) [3, 3, 3, 3, 3] p9 := h10
  obtain ⟨p11, r12, rfl, h13, h14⟩ := fitsEach_cons h10
  obtain ⟨p15, r16, rfl, h17, h18⟩ := fitsEach_cons h14
  obtain ⟨p19, r20, rfl, h21, h22⟩ := fitsEach_cons h18
  obtain ⟨p23, r24, rfl, h25, h26⟩ := fitsEach_cons h22
  obtain ⟨p27, r28, rfl, h29, h30⟩ := fitsEach_cons h26
  obtain rfl := fitsEach_nil h30
  obtain ⟨x31, rfl, w32⟩ := fits_int (n := 6) Try.underlying3 h13
  obtain ⟨x33, rfl, w34⟩ := fits_int (n := 6) Try.underlying3 h17
  obtain ⟨x35, rfl, w36⟩ := fits_int (n := 6) Try.underlying3 h21
  obtain ⟨x37, rfl, w38⟩ := fits_int (n := 6) Try.underlying3 h25
  obtain ⟨x39, rfl, w40⟩ := fits_int (n := 6) Try.underlying3 h29
  have h41 := fitsV_slice Try.underlying105 h6
  obtain ⟨c42, h43⟩ : ∃ c, c = [a4] := ⟨_, rfl⟩
  rw [← h43] at h41
  obtain ⟨a44, rfl, w45⟩ : ∃ (a44 : AV), _ = [a44] ∧ (a44 = AV.nils ∨ ∃ els : List (List AV), a44 = AV.lst 3 els ∧ els.length * 24 ≤ reachBytes ∧ ∀ e46 ∈ els, ∃ (x62 : Nat) (x64 : Nat) (x66 : Bool), e46 = [AV.flt (canon x62), AV.flt (canon x64), AV.v (.bool x66)] ∧ x62 < 2 ^ 64 ∧ x64 < 2 ^ 64) := by
    rcases fits_slice (n := 7) Try.underlying105 h41 with hh | ⟨els, hh, h1, h2⟩
    · exact ⟨_, hh, .inl rfl⟩
    · refine ⟨_, hh, .inr ⟨els, ?_, ?_, fun e46 he => ?_⟩⟩
      · rw [show Try.prog.cellsOf 98 = 3 by kernel_rfl]
      · rw [show Try.prog.bytesOf 98 = 24 by kernel_rfl] at h1; exact h1
      · have h47 := h2 _ he
        obtain ⟨p48, rfl, h49⟩ := fits_struct (n := 6) Try.underlying98 h47
        replace h49 : FitsEach (Fits Try.prog 6) [46, 46, 4] p48 := h49
        obtain ⟨p50, r51, rfl, h52, h53⟩ := fitsEach_cons h49
        obtain ⟨p54, r55, rfl, h56, h57⟩ := fitsEach_cons h53
        obtain ⟨p58, r59, rfl, h60, h61⟩ := fitsEach_cons h57
        obtain rfl := fitsEach_nil h61
        obtain ⟨x62, rfl, w63⟩ := fits_flt (n := 5) Try.underlying46 h52
        obtain ⟨x64, rfl, w65⟩ := fits_flt (n := 5) Try.underlying46 h56
        obtain ⟨x66, rfl⟩ := fits_bool (n := 5) Try.underlying4 h60
        exact ⟨x62, x64, x66, rfl, w63, w65⟩
  obtain rfl := one_inj h43
  exact ⟨x31, x33, x35, x37, x39, a44, rfl, w32, w34, w36, w38, w40, w45⟩
theorem calls12 {avs : List AV} {W : World} {args : Array Value} (h : FitsVs Try.prog 8 Try.f12.params.toList avs) (hr : RelL (ρ0 fun _ => False) old0 W avs args.toList) :
    Calls Try.prog 12 args W fun e w' => e = .returned (.bool true) ∧ Below W.heap.size W w' := by
  obtain ⟨o, r, g, a, m, p, rfl, _, _, _, _, _, hp⟩ := fits12 h
  obtain ⟨ps, w1, l1⟩ := wi_of (f := celP) (z := 3) (B := 24) (hp.imp id fun ⟨els, e1, e2, e3⟩ => ⟨els, e1, e2, fun e he => by
    obtain ⟨x, y, b, rfl, _⟩ := e3 e he
    exact ⟨((canon x, canon y), b), rfl⟩⟩)
  have hw : All2 WiA [AV.agg [.int .i64 o, .int .i64 r, .int .i64 g, .int .i64 a, .int .i64 m], p] [AV.agg [.int .i64 o, .int .i64 r, .int .i64 g, .int .i64 a, .int .i64 m], .lst 3 (ps.map celP)] := ⟨.refl _, .inr w1, trivial⟩
  obtain ⟨L, hL⟩ : ∃ L, ps.length + 100 ≤ L := ⟨_, Nat.le_refl _⟩
  have hb : reachBytes = 140737488351232 := by kernel_rfl
  exact law (spec_xL (L + 1)) (@law_learns L 0 o r g a m ps (by omega) hL) (relL_wi hw hr)
end Go.Proofs.Ythcgeajojgecnaa.Fw
namespace Go.Proofs.Ythcgeajojgecnaa
open Go.ChangeShapes Go.WideShapes Go.ChangeAt Go.RowKit Fw
theorem nearLearns_lifted (os : Os) (started : os.Started) (H : Type) (enc : TypeId × Value → H) :
    ReturnsInHanded {} Try.checked os 12 .any (Rows.nearLearnsSpec.pre6 enc Try.prog Try.f12 Rows.nearLearnsRow.domain false) (Rows.nearLearnsSpec.post enc Try.prog Try.f12 false true false false) := by
  refine law_lifted (C := Try.checked) (n := 8) (tb := 4) own started (by kernel_rfl) Try.func12
    (ChangeSpec.witness6 (enc := enc) (C := Try.checked) false ⟨#[], #[.agg #[.int .i64 0, .int .i64 0, .int .i64 0, .int .i64 0, .int .i64 0], .slice none 0 0], []⟩ 8 (by kernel_rfl) (by kernel_rfl) (by kernel_rfl) (by kernel_rfl))
    laidOut (by kernel_rfl) (by kernel_rfl) rfl ?_ rfl Try.underlying4 fun _ _ _ h hr => calls12 h hr
  intro ds hd
  have hd : ds.length = 2 := hd
  rcases ds with _ | ⟨a, _ | ⟨b, _ | ⟨z, r⟩⟩⟩ <;> simp at hd
  rfl
theorem nearLearns_holds : Rows.NearLearnsSaid :=
  OpenClaim.holds_of_wide 12 Try.f12 rfl rfl rfl rfl rfl rfl rfl ⟨rfl, rfl, rfl, rfl, rfl⟩ rfl rfl rfl rfl rfl (by kernel_rfl) Try.func12 (by kernel_rfl)
    (of_decide_eq_true (by kernel_rfl)) (by unfold Func.isWrapper; first | (rw [if_pos (by decide +kernel)]; kernel_rfl) | (rw [if_neg (by decide +kernel)]; exact ⟨rfl, rfl⟩))
    (fun os started H enc _ => nearLearns_lifted os started H enc)
end Go.Proofs.Ythcgeajojgecnaa
