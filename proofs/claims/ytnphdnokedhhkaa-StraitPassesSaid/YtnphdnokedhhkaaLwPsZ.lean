/- Pass spoken for (a failed one hands an empty row); made, same, samePoints by their own answers. -/
import Derived.Test.YtnphdnokedhhkaaLwPsY
set_option maxRecDepth 100000
set_option maxHeartbeats 4000000
set_option linter.unusedSimpArgs false
set_option linter.unusedVariables false
namespace Go.Proofs.Ytnphdnokedhhkaa.Fw
open Go Go.RowKit
/-- what Pass hands out, as told: an empty row where it fails -/
def pasQ (e : Int) (l : List (Nat × Nat)) : AV := .tup [.own 1 ((if e = 0 then l else []).map celC) true, .int .i64 e]
theorem pas_wk (e : Int) (l : List (Nat × Nat)) : WkT (passA e l) (pasQ e l) := by
  unfold passA pasQ
  by_cases h : e = 0
  · rw [if_pos h, if_pos h, h]; exact WkT.refl _
  · rw [if_neg h, if_neg h]
    exact .inl ⟨_, _, rfl, rfl, ⟨.inr (.inr ⟨rfl, 1, true, rfl⟩), .inr (.inl rfl), trivial⟩⟩
def pasSem (doc : Bool) : List AV → Option AV
  | [.agg [.v (.int .i64 rate), .v (.int .i64 delay), .lst 1 e1, .lst 1 e2], .lst 1 e3, .lst 1 e4, .v (.int .i64 nn)] =>
    (unL unC e1).bind fun ts => (unL unC e2).bind fun es => (unL unC e3).bind fun xs => (unL unC e4).bind fun vs =>
      if shortL ts ∧ shortL es ∧ shortL xs ∧ shortL vs then some (pasQ (passE rate delay nn ts es xs vs) (if doc then passD rate delay nn ts es xs vs else passP rate delay nn ts es xs vs)) else none
  | _ => none
theorem pasSem_is {doc : Bool} {avs : List AV} {r : AV} (h : pasSem doc avs = some r) : ∃ rate delay nn ts es xs vs, avs = [.agg [.int .i64 rate, .int .i64 delay, .lst 1 (ts.map celC), .lst 1 (es.map celC)], .lst 1 (xs.map celC), .lst 1 (vs.map celC), .int .i64 nn] ∧
    shortL ts ∧ shortL es ∧ shortL xs ∧ shortL vs ∧ r = pasQ (passE rate delay nn ts es xs vs) (if doc then passD rate delay nn ts es xs vs else passP rate delay nn ts es xs vs) := by
  unfold pasSem at h
  split at h
  · rename_i rate delay e1 e2 e3 e4 nn
    rw [Option.bind_eq_some_iff] at h
    obtain ⟨ts, h1, h⟩ := h
    rw [Option.bind_eq_some_iff] at h
    obtain ⟨es, h2, h⟩ := h
    rw [Option.bind_eq_some_iff] at h
    obtain ⟨xs, h3, h⟩ := h
    rw [Option.bind_eq_some_iff] at h
    obtain ⟨vs, h4, h⟩ := h
    split at h
    · rename_i hm
      cases h
      have g1 := unL_inv (enc := celC) unC_is h1
      have g2 := unL_inv (enc := celC) unC_is h2
      have g3 := unL_inv (enc := celC) unC_is h3
      have g4 := unL_inv (enc := celC) unC_is h4
      subst g1; subst g2; subst g3; subst g4
      exact ⟨rate, delay, nn, ts, es, xs, vs, rfl, hm.1, hm.2.1, hm.2.2.1, hm.2.2.2, rfl⟩
    · cases h
  · cases h
theorem pasSem_at (doc : Bool) {rate delay nn : Int} {ts es xs vs : List (Nat × Nat)} (h1 : shortL ts) (h2 : shortL es) (h3 : shortL xs) (h4 : shortL vs) : pasSem doc [.agg [.int .i64 rate, .int .i64 delay, .lst 1 (ts.map celC), .lst 1 (es.map celC)], .lst 1 (xs.map celC), .lst 1 (vs.map celC), .int .i64 nn] =
    some (pasQ (passE rate delay nn ts es xs vs) (if doc then passD rate delay nn ts es xs vs else passP rate delay nn ts es xs vs)) := by
  simp only [pasSem, unC_L, Option.bind_some, if_pos (And.intro h1 (And.intro h2 (And.intro h3 h4)))]
def newP1 : FuncId → Option (List AV → Option AV)
  | 19 => some (pasSem false)
  | 20 => some (pasSem true)
  | _ => none
theorem spec_p1 : SpecOk Try.prog ⟨fnOf, fun f => match newP1 f with | some g => some g | none => specX f, 0⟩ :=
  spec_adds spec_x (fun L => fnsOk _ _) follows newP1 fun f g h => by
    unfold newP1 at h
    split at h
    · cases h
      refine ⟨⟨_, Try.func19, ne_of_beq_false (by kernel_rfl), by kernel_rfl⟩, fun avs r h => ?_⟩
      obtain ⟨rate, delay, nn, ts, es, xs, vs, rfl, h1, h2, h3, h4, rfl⟩ := pasSem_is h
      exact toldZ (P := ⟨fnOf, specX, 0⟩) (@pass_both 70000 0 rate delay nn ts es xs vs (Nat.le_refl _) h1 h2 h3 h4).1 (pas_wk _ _)
    · cases h
      refine ⟨⟨_, Try.func20, ne_of_beq_false (by kernel_rfl), by kernel_rfl⟩, fun avs r h => ?_⟩
      obtain ⟨rate, delay, nn, ts, es, xs, vs, rfl, h1, h2, h3, h4, rfl⟩ := pasSem_is h
      exact toldZ (P := ⟨fnOf, specX, 0⟩) (@pass_both 70000 0 rate delay nn ts es xs vs (Nat.le_refl _) h1 h2 h3 h4).2 (pas_wk _ _)
    · cases h
def newP2 : FuncId → Option (List AV → Option AV)
  | 13 => some (fun avs => den ⟨fnOf, specK, 20000000000001⟩ 2 13 avs)
  | 16 => some (fun avs => den ⟨fnOf, specK, 20000000000001⟩ 2 16 avs)
  | 21 => some (fun avs => den ⟨fnOf, specK, 20000000000001⟩ 1 21 avs)
  | 18 => some (fun avs => den ⟨fnOf, specK, 20000000000001⟩ 1 18 avs)
  | _ => none
theorem spec_p2 : SpecOk Try.prog ⟨fnOf, fun f => match newP2 f with | some g => some g | none => specK f, 0⟩ :=
  spec_adds spec_k (fun L => fnsOk _ _) follows newP2 fun f g h => by
    unfold newP2 at h
    split at h
    · cases h
      exact ⟨⟨_, Try.func13, ne_of_beq_false (by kernel_rfl), by kernel_rfl⟩, fun avs r h => toldZ (P := ⟨fnOf, specK, 0⟩) h (WkT.refl _)⟩
    · cases h
      exact ⟨⟨_, Try.func16, ne_of_beq_false (by kernel_rfl), by kernel_rfl⟩, fun avs r h => toldZ (P := ⟨fnOf, specK, 0⟩) h (WkT.refl _)⟩
    · cases h
      exact ⟨⟨_, Try.func21, ne_of_beq_false (by kernel_rfl), by kernel_rfl⟩, fun avs r h => toldZ (P := ⟨fnOf, specK, 0⟩) h (WkT.refl _)⟩
    · cases h
      exact ⟨⟨_, Try.func18, ne_of_beq_false (by kernel_rfl), by kernel_rfl⟩, fun avs r h => toldZ (P := ⟨fnOf, specK, 0⟩) h (WkT.refl _)⟩
    · cases h
def newY : FuncId → Option (List AV → Option AV)
  | 19 => some (pasSem false)
  | 20 => some (pasSem true)
  | 13 => some (fun avs => den ⟨fnOf, specK, 20000000000001⟩ 2 13 avs)
  | 16 => some (fun avs => den ⟨fnOf, specK, 20000000000001⟩ 2 16 avs)
  | 21 => some (fun avs => den ⟨fnOf, specK, 20000000000001⟩ 1 21 avs)
  | 18 => some (fun avs => den ⟨fnOf, specK, 20000000000001⟩ 1 18 avs)
  | _ => none
def specY : FuncId → Option (List AV → Option AV) := fun f => match newY f with | some g => some g | none => specX f
theorem spec_y : SpecOk Try.prog ⟨fnOf, specY, 0⟩ := by
  intro f g h
  have h : (match newY f with | some g => some g | none => specX f) = some g := h
  unfold newY at h
  split at h
  · rename_i g' hq
    split at hq
    · cases hq; cases h; exact spec_p1 19 _ rfl
    · cases hq; cases h; exact spec_p1 20 _ rfl
    · cases hq; cases h; exact spec_p2 13 _ rfl
    · cases hq; cases h; exact spec_p2 16 _ rfl
    · cases hq; cases h; exact spec_p2 21 _ rfl
    · cases hq; cases h; exact spec_p2 18 _ rfl
    · cases hq
  · exact spec_x f g h
theorem spec_yL (L : Nat) : SpecOk Try.prog ⟨fnOf, specY, L⟩ := fun f g h => spec_y f g h
/-- two rows that are alike, number by number -/
def likeC (us vs : List (Nat × Nat)) : Prop := us.length = vs.length ∧ ∀ i, i < us.length → alF (us.getD i (0, 0)).1 (vs.getD i (0, 0)).1 = true ∧ alF (us.getD i (0, 0)).2 (vs.getD i (0, 0)).2 = true
theorem points_like {L n : Nat} {us vs : List (Nat × Nat)} (hL : us.length ≤ L) (hm : shortL us) (h : likeC us vs) :
    den ⟨fnOf, specK, L+1⟩ (n+1) 21 [.lst 1 (us.map celC), .lst 1 (vs.map celC)] = some (.v (.bool true)) := by
  have hu : (us.map celC).length = us.length := map_len
  have hv : (vs.map celC).length = vs.length := map_len
  unfold shortL at hm
  obtain ⟨hl, h⟩ := h
  refine @sp_1 (L+1) n us vs us.length (by rw [hu, hv, hl]; simp) ?_
  refine loopX (res := m21.res) (fun i => spSt us vs i) us.length rfl hL (fun i hi => ?_) ?_ (by simp)
  · have he := elD_map (P := ⟨fnOf, specK, L+1⟩) (C := runF ⟨fnOf, specK, L+1⟩ n) (f := celC) (d := (0, 0)) hi
    have hf := elD_map (P := ⟨fnOf, specK, L+1⟩) (C := runF ⟨fnOf, specK, L+1⟩ n) (f := celC) (d := (0, 0)) (show i < vs.length by omega)
    have := @spr_2 (L+1) n us vs i [7] (us.getD i (0, 0)) (vs.getD i (0, 0)) (us.getD i (0, 0)) (vs.getD i (0, 0)) (by rw [hu]; exact dLt hi) he hf (by rw [(h i hi).1]; rfl) he hf (by rw [(h i hi).2]; rfl)
    rw [wrap_id (n := (i : Int) + 1) (by omega)] at this
    exact this
  · exact @spr_3 (L+1) n us vs us.length [7] (by rw [hu]; exact dNlt)
theorem likeC_self (us : List (Nat × Nat)) : likeC us us := ⟨rfl, fun i hi => ⟨alF_self _, alF_self _⟩⟩
theorem pass_like (rate delay nn : Int) (ts es xs vs : List (Nat × Nat)) : likeC (if passE rate delay nn ts es xs vs = 0 then passP rate delay nn ts es xs vs else []) (if passE rate delay nn ts es xs vs = 0 then passD rate delay nn ts es xs vs else []) := by
  by_cases h : passE rate delay nn ts es xs vs = 0
  · rw [if_pos h, if_pos h]
    obtain ⟨h1, h2, h3, h4⟩ := pass_same h
    refine ⟨h1.trans h2.symm, fun i hi => ?_⟩
    obtain ⟨a, b, _, _, g1, g2, g3, g4⟩ := h4 i (by omega)
    unfold alF
    rw [grid_eq g1 g3, grid_eq g2 g4, decide_eq_true rfl, decide_eq_true rfl]
    exact ⟨rfl, rfl⟩
  · rw [if_neg h, if_neg h]; exact likeC_self []
end Go.Proofs.Ytnphdnokedhhkaa.Fw
