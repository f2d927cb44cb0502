/- pulse.Named: what it answers, name by name, rate by rate. -/
import Derived.Test.YtaklelfdcbgebaaLwNmS
set_option maxRecDepth 100000
set_option maxHeartbeats 4000000
set_option linter.unusedSimpArgs false
set_option linter.unusedVariables false
namespace Go.Proofs.Ytaklelfdcbgebaa.Fw
open Go Go.RowKit
def badN (e : Int) : AV := .tup [.agg [.int .i64 0, .int .i64 0, .nils], .int .i64 e]
noncomputable def stA (s : ByteArray) (r : Int) : St := match evC PN (runF PN 20) 0 (comp Try.prog (sL cN)) [] ⟨argEnv 0 [.v (.string s), .int .i64 r], [], 0⟩ with | some (_, s1) => s1 | none => ⟨[], [], 0⟩
theorem stA_is (s : ByteArray) (r : Int) : evC PN (runF PN 20) 0 (comp Try.prog (sL cN)) [] ⟨argEnv 0 [.v (.string s), .int .i64 r], [], 0⟩ = some (.nrm, stA s r) := by kernel_rfl
theorem stA_0 (s : ByteArray) (r : Int) : (stA s r).env.get 0 = .v (.string s) := by kernel_rfl
noncomputable def stB (f : AV) (b : Bool) (s : ByteArray) (r : Int) : St := match evOps PN (runF PN 20) 0 [] ops1 ⟨(13, .tup [f, .v (.bool b)]) :: (12, .junk) :: (11, .junk) :: (stA s r).env, (stA s r).H, (stA s r).k⟩ with | some s1 => s1 | none => ⟨[], [], 0⟩
theorem stB_is (f : AV) (b : Bool) (s : ByteArray) (r : Int) : evOps PN (runF PN 20) 0 [] ops1 ⟨(13, .tup [f, .v (.bool b)]) :: (12, .junk) :: (11, .junk) :: (stA s r).env, (stA s r).H, (stA s r).k⟩ = some (stB f b s r) := by kernel_rfl
noncomputable def endN (y : Option (Ex × St)) : Option AV :=
  match y with
  | some (.exit _, _) => none
  | some (_, s) =>
    match resOf s resN with
    | some r => if distinct r.refs then packT true 0 s.H r else none
    | none => none
  | none => none
theorem named_end (s : ByteArray) (r : Int) (f : AV) (b : Bool) (hf : fnN s = f) (hb : (posN s).isSome = b) : namedSem [.v (.string s), .int .i64 r] = endN (evC PN (runF PN 20) 0 (comp Try.prog (sR (sR cN))) [] (stB f b s r)) := by
  have h1 : ev1 PN (runF PN 20) [] (stA s r) = some (.nrm, stB f b s r) := by
    unfold ev1
    rw [stA_0]
    simp only
    rw [hf, hb, stB_is]
    rfl
  have h2 : runN PN (runF PN 20) [] ⟨argEnv 0 [.v (.string s), .int .i64 r], [], 0⟩ = evC PN (runF PN 20) 0 (comp Try.prog (sR (sR cN))) [] (stB f b s r) := by
    unfold runN
    simp only [seqRun, stA_is, h1]
  show endN (runN PN (runF PN 20) [] ⟨argEnv 0 [.v (.string s), .int .i64 r], [], 0⟩) = _
  rw [h2]
/-- no such name -/
theorem named_none {s : ByteArray} (r : Int) (h1 : (s == nSpike) = false) (h2 : (s == nBox) = false) (h3 : (s == nTent) = false) (h4 : (s == nSoft) = false) : namedSem [.v (.string s), .int .i64 r] = some (badN 6) := by
  have hf : fnN s = .junk := by unfold fnN; rw [h1, h2, h3, h4]
  have hp : (posN s).isSome = false := by unfold posN; rw [h1, h2, h3, h4]; rfl
  have e : endN (evC PN (runF PN 20) 0 (comp Try.prog (sR (sR cN))) [] (stB .junk false s r)) = some (badN 6) := by kernel_rfl
  exact (named_end s r _ _ hf hp).trans e
/-- a name, a rate out of reach -/
theorem end_low {s : ByteArray} {f : AV} (r : Int) (h : r < 1) : endN (evC PN (runF PN 20) 0 (comp Try.prog (sR (sR cN))) [] (stB f true s r)) = some (badN 1) := by
  obtain ⟨x, hx⟩ : ∃ x, x = (match codeD PN (runF PN 20) 0 (comp Try.prog (sR (sR cN))) [] (stB f true s r) [(some 20, .b true)] with | some y => y | none => (.nrm, ⟨[], [], 0⟩, [], [])) := ⟨_, rfl⟩
  have h1 : codeD PN (runF PN 20) 0 (comp Try.prog (sR (sR cN))) [] (stB f true s r) [(some 20, .b true)] = some (x.1, x.2.1, x.2.2.1, [.b (decide (r < 1)) true, .st [0] [0]]) := by subst hx; kernel_rfl
  have h2 := codeD_sound h1 ⟨decide_eq_true h, rfl, trivial⟩
  have e : endN (some (x.1, x.2.1)) = some (badN 1) := by subst hx; kernel_rfl
  exact (congrArg endN h2).trans e
theorem end_high {s : ByteArray} {f : AV} (r : Int) (h : 8 < r) : endN (evC PN (runF PN 20) 0 (comp Try.prog (sR (sR cN))) [] (stB f true s r)) = some (badN 1) := by
  obtain ⟨x, hx⟩ : ∃ x, x = (match codeD PN (runF PN 20) 0 (comp Try.prog (sR (sR cN))) [] (stB f true s r) [(some 20, .b false), (some 23, .b true)] with | some y => y | none => (.nrm, ⟨[], [], 0⟩, [], [])) := ⟨_, rfl⟩
  have h1 : codeD PN (runF PN 20) 0 (comp Try.prog (sR (sR cN))) [] (stB f true s r) [(some 20, .b false), (some 23, .b true)] = some (x.1, x.2.1, x.2.2.1, [.b (decide (r < 1)) false, .b (decide (8 < r)) true, .st [0] [0]]) := by subst hx; kernel_rfl
  have h2 := codeD_sound h1 ⟨decide_eq_false (by omega), decide_eq_true h, rfl, trivial⟩
  have e : endN (some (x.1, x.2.1)) = some (badN 1) := by subst hx; kernel_rfl
  exact (congrArg endN h2).trans e
theorem fn_spike : fnN nSpike = .fn (.func 45) [] [] ∧ (posN nSpike).isSome = true := ⟨by kernel_rfl, by kernel_rfl⟩
theorem fn_box : fnN nBox = .fn (.func 46) [] [] ∧ (posN nBox).isSome = true := ⟨by kernel_rfl, by kernel_rfl⟩
theorem fn_tent : fnN nTent = .fn (.func 48) [] [] ∧ (posN nTent).isSome = true := ⟨by kernel_rfl, by kernel_rfl⟩
theorem fn_soft : fnN nSoft = .fn (.func 49) [] [] ∧ (posN nSoft).isSome = true := ⟨by kernel_rfl, by kernel_rfl⟩
theorem named_far {s : ByteArray} {r : Int} (hs : s = nSpike ∨ s = nBox ∨ s = nTent ∨ s = nSoft) (h : r < 1 ∨ 8 < r) : namedSem [.v (.string s), .int .i64 r] = some (badN 1) := by
  rcases hs with rfl | rfl | rfl | rfl
  · rw [named_end _ r _ _ fn_spike.1 fn_spike.2]; exact h.elim (end_low r) (end_high r)
  · rw [named_end _ r _ _ fn_box.1 fn_box.2]; exact h.elim (end_low r) (end_high r)
  · rw [named_end _ r _ _ fn_tent.1 fn_tent.2]; exact h.elim (end_low r) (end_high r)
  · rw [named_end _ r _ _ fn_soft.1 fn_soft.2]; exact h.elim (end_low r) (end_high r)
end Go.Proofs.Ytaklelfdcbgebaa.Fw
