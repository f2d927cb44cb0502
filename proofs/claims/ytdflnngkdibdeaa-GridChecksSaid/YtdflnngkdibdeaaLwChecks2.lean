/- GridChecks: any samples, lost or not: grid.Check tells what the document tells; what is handed in and what lies behind it stands. Conditions: none. -/
import Derived.Test.YtdflnngkdibdeaaLwGkD
set_option maxRecDepth 100000
set_option maxHeartbeats 4000000
set_option linter.unusedSimpArgs false
set_option linter.unusedVariables false
namespace Go.Proofs.Ytdflnngkdibdeaa.Fw
open Go Go.RowKit
/-- what the law is handed -/
theorem fits4 {avs : List AV} (h : FitsVs Try.prog 8 Try.f4.params.toList avs) : ∃ (a10 : AV) (a19 : AV), avs = [a10, a19] ∧ (a10 = AV.nils ∨ ∃ els : List (List AV), a10 = AV.lst 1 els ∧ els.length * 8 ≤ reachBytes ∧ ∀ e12 ∈ els, ∃ (x14 : Int), e12 = [AV.v (.int .u64 x14)] ∧ (Lit.int .u64 x14).wf = true) ∧ (a19 = AV.nils ∨ ∃ els : List (List AV), a19 = AV.lst 1 els ∧ els.length * 1 ≤ reachBytes ∧ ∀ e21 ∈ els, ∃ (x23 : Bool), e21 = [AV.v (.bool x23)]) := by
  replace h : FitsVs Try.prog 8 [32, 33] avs := by rw [Try.params4] at h; exact h
  obtain ⟨a1, r2, rfl, h3, h⟩ := fitsVs_cons h
  obtain ⟨a4, r5, rfl, h6, h⟩ := fitsVs_cons h
  obtain rfl := fitsVs_nil h
  have h7 := fitsV_slice Try.underlying32 h3
  obtain ⟨c8, h9⟩ : ∃ c, c = [a1] := ⟨_, rfl⟩
  rw [← h9] at h7
  obtain ⟨a10, rfl, w11⟩ : ∃ (a10 : AV), _ = [a10] ∧ (a10 = AV.nils ∨ ∃ els : List (List AV), a10 = AV.lst 1 els ∧ els.length * 8 ≤ reachBytes ∧ ∀ e12 ∈ els, ∃ (x14 : Int), e12 = [AV.v (.int .u64 x14)] ∧ (Lit.int .u64 x14).wf = true) := by
    rcases fits_slice (n := 7) Try.underlying32 h7 with hh | ⟨els, hh, h1, h2⟩
    · exact ⟨_, hh, .inl rfl⟩
    · refine ⟨_, hh, .inr ⟨els, ?_, ?_, fun e12 he => ?_⟩⟩
      · rw [show Try.prog.cellsOf 41 = 1 by kernel_rfl]
      · rw [show Try.prog.bytesOf 41 = 8 by kernel_rfl] at h1; exact h1
      · have h13 := h2 _ he
        obtain ⟨x14, rfl, w15⟩ := fits_int (n := 6) Try.underlying41 h13
        exact ⟨x14, rfl, w15⟩
  obtain rfl := one_inj h9
  have h16 := fitsV_slice Try.underlying33 h6
  obtain ⟨c17, h18⟩ : ∃ c, c = [a4] := ⟨_, rfl⟩
  rw [← h18] at h16
  obtain ⟨a19, rfl, w20⟩ : ∃ (a19 : AV), _ = [a19] ∧ (a19 = AV.nils ∨ ∃ els : List (List AV), a19 = AV.lst 1 els ∧ els.length * 1 ≤ reachBytes ∧ ∀ e21 ∈ els, ∃ (x23 : Bool), e21 = [AV.v (.bool x23)]) := by
    rcases fits_slice (n := 7) Try.underlying33 h16 with hh | ⟨els, hh, h1, h2⟩
    · exact ⟨_, hh, .inl rfl⟩
    · refine ⟨_, hh, .inr ⟨els, ?_, ?_, fun e21 he => ?_⟩⟩
      · rw [show Try.prog.cellsOf 4 = 1 by kernel_rfl]
      · rw [show Try.prog.bytesOf 4 = 1 by kernel_rfl] at h1; exact h1
      · have h22 := h2 _ he
        obtain ⟨x23, rfl⟩ := fits_bool (n := 6) Try.underlying4 h22
        exact ⟨x23, rfl⟩
  obtain rfl := one_inj h18
  exact ⟨a10, a19, rfl, w11, w20⟩
theorem room8 {m : Nat} (h : m * 8 ≤ reachBytes) : m ≤ 17592186043904 := by
  have : reachBytes = 140737488351232 := by kernel_rfl
  omega
theorem calls4 {avs : List AV} {W : World} {args : Array Value} (h : FitsVs Try.prog 8 Try.f4.params.toList avs) (hr : RelL (ρ0 fun _ => False) old0 W avs args.toList) :
    Calls Try.prog 4 args W fun e w' => e = .returned (.bool true) ∧ Below W.heap.size W w' := by
  obtain ⟨a, b, rfl, ha, hb⟩ := fits4 h
  obtain ⟨xs, w1, l1⟩ := wi_of (f := celU) (z := 1) (B := 8) (ha.imp id fun ⟨els, e1, e2, e3⟩ => ⟨els, e1, e2, fun e he => (e3 e he).imp fun _ h => h.1⟩)
  obtain ⟨bs, w2, l2⟩ := wi_of (f := celB) (z := 1) (B := 1) (hb.imp id fun ⟨els, e1, e2, e3⟩ => ⟨els, e1, e2, fun e he => (e3 e he).imp fun _ h => h⟩)
  have hw : All2 WiA [a, b] [.lst 1 (xs.map celU), .lst 1 (bs.map celB)] := ⟨.inr w1, .inr w2, trivial⟩
  obtain ⟨L, hL⟩ : ∃ L, xs.length + 70000 ≤ L := ⟨_, Nat.le_refl _⟩
  exact law (spec_gL (L + 1)) (@law_checks L 0 xs bs (room8 l1) hL) (relL_wi hw hr)
end Go.Proofs.Ytdflnngkdibdeaa.Fw
namespace Go.Proofs.Ytdflnngkdibdeaa
open Go.ChangeShapes Go.WideShapes Go.ChangeAt Go.RowKit Fw
theorem gridChecks_lifted (os : Os) (started : os.Started) (H : Type) (enc : TypeId × Value → H) :
    ReturnsInHanded {} Try.checked os 4 .any (Rows.gridChecksSpec.pre6 enc Try.prog Try.f4 Rows.gridChecksRow.domain false) (Rows.gridChecksSpec.post enc Try.prog Try.f4 false true false false) := by
  refine law_lifted (C := Try.checked) (n := 8) (tb := 4) own started (by kernel_rfl) Try.func4
    (ChangeSpec.witness6 (enc := enc) (C := Try.checked) false ⟨#[], #[.slice none 0 0, .slice none 0 0], []⟩ 8 (by kernel_rfl) (by kernel_rfl) (by kernel_rfl) (by kernel_rfl))
    laidOut (by kernel_rfl) (by kernel_rfl) rfl ?_ rfl Try.underlying4 fun _ _ _ h hr => calls4 h hr
  intro ds hd
  have hd : ds.length = 2 := hd
  rcases ds with _ | ⟨a, _ | ⟨b, _ | ⟨z, r⟩⟩⟩ <;> simp at hd
  rfl
theorem gridChecks_holds : Rows.GridChecksSaid :=
  OpenClaim.holds_of_wide 4 Try.f4 rfl rfl rfl rfl rfl rfl rfl ⟨rfl, rfl, rfl, rfl, rfl⟩ rfl rfl rfl rfl rfl (by kernel_rfl) Try.func4 (by kernel_rfl)
    (of_decide_eq_true (by kernel_rfl)) (by unfold Func.isWrapper; first | (rw [if_pos (by decide +kernel)]; kernel_rfl) | (rw [if_neg (by decide +kernel)]; exact ⟨rfl, rfl⟩))
    (fun os started H enc _ => gridChecks_lifted os started H enc)
end Go.Proofs.Ytdflnngkdibdeaa
