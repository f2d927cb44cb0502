/- train: plans, pairs, steps, samples: all that is spoken for, together. -/
import Derived.Test.YthcgeajojgecnaaLwRwB
import Derived.Test.YthcgeajojgecnaaLwTlD
set_option maxRecDepth 100000
set_option maxHeartbeats 4000000
set_option linter.unusedSimpArgs false
set_option linter.unusedVariables false
namespace Go.Proofs.Ythcgeajojgecnaa.Fw
open Go Go.RowKit
def maySem : List AV → Option AV
  | [.agg [.v (.int .i64 o), .v (.int .i64 r), .v (.int .i64 g)]] => some (.v (.bool (mayB o r g)))
  | _ => none
theorem maySem_is {avs : List AV} {x : AV} (h : maySem avs = some x) : ∃ o r g : Int, avs = [.agg [.int .i64 o, .int .i64 r, .int .i64 g]] ∧ x = .v (.bool (mayB o r g)) := by
  unfold maySem at h
  split at h
  · rename_i o r g; cases h; exact ⟨o, r, g, rfl, rfl⟩
  · cases h
def halfSem : List AV → Option AV
  | [.agg [.v (.int .i64 o), .v (.int .i64 r), .v (.int .i64 g)]] => if mayB o r g = true then some (.int .i64 (r * 2 ^ o.toNat + g)) else none
  | _ => none
theorem halfSem_is {avs : List AV} {x : AV} (h : halfSem avs = some x) : ∃ o r g : Int, mayB o r g = true ∧ avs = [.agg [.int .i64 o, .int .i64 r, .int .i64 g]] ∧ x = .int .i64 (r * 2 ^ o.toNat + g) := by
  unfold halfSem at h
  split at h
  · rename_i o r g
    split at h
    · rename_i hm; cases h; exact ⟨o, r, g, hm, rfl, rfl⟩
    · cases h
  · cases h
theorem halfSem_at {o r g : Int} (h : mayB o r g = true) : halfSem [.agg [.int .i64 o, .int .i64 r, .int .i64 g]] = some (.int .i64 (r * 2 ^ o.toNat + g)) := by
  simp only [halfSem]; rw [if_pos h]
theorem half_may {L n : Nat} {o r g : Int} (hm : mayB o r g = true) : den ⟨fnOf, specR, L⟩ (n+1) 71 [.agg [.int .i64 o, .int .i64 r, .int .i64 g]] = some (.int .i64 (r * 2 ^ o.toNat + g)) ∧ den ⟨fnOf, specR, L⟩ (n+1) 69 [.agg [.int .i64 o, .int .i64 r, .int .i64 g]] = some (.int .i64 (r * 2 ^ o.toNat + g)) := by
  have h := of_decide_eq_true hm
  obtain ⟨k, rfl⟩ : ∃ k : Nat, o = (k : Int) := ⟨o.toNat, by omega⟩
  have := @half_both L n r g k (by omega) (by omega) (by omega) (by omega) (by omega) (by omega)
  rw [Int.toNat_natCast]
  exact this
def newM : FuncId → Option (List AV → Option AV)
  | 70 => some maySem
  | 29 => some maySem
  | 71 => some halfSem
  | 69 => some halfSem
  | _ => none
def specM : FuncId → Option (List AV → Option AV) := fun f => match newM f with | some g => some g | none => specR f
theorem spec_m : SpecOk Try.prog ⟨fnOf, specM, 0⟩ :=
  spec_addz spec_r (fun L => fnsOk _ _) follows newM fun f g h => by
    unfold newM at h
    split at h
    · cases h
      refine ⟨⟨_, Try.func70, ne_of_beq_false (by kernel_rfl), by kernel_rfl⟩, fun avs r h => ?_⟩
      obtain ⟨o, r, g, rfl, rfl⟩ := maySem_is h
      exact toldZ (P := ⟨fnOf, specR, 0⟩) (@may_both 0 0 o r g).1 (WkT.refl _)
    · cases h
      refine ⟨⟨_, Try.func29, ne_of_beq_false (by kernel_rfl), by kernel_rfl⟩, fun avs r h => ?_⟩
      obtain ⟨o, r, g, rfl, rfl⟩ := maySem_is h
      exact toldZ (P := ⟨fnOf, specR, 0⟩) (@may_both 0 0 o r g).2 (WkT.refl _)
    · cases h
      refine ⟨⟨_, Try.func71, ne_of_beq_false (by kernel_rfl), by kernel_rfl⟩, fun avs r h => ?_⟩
      obtain ⟨o, r, g, hm, rfl, rfl⟩ := halfSem_is h
      exact toldZ (P := ⟨fnOf, specR, 0⟩) (@half_may 0 0 o r g hm).1 (WkT.refl _)
    · cases h
      refine ⟨⟨_, Try.func69, ne_of_beq_false (by kernel_rfl), by kernel_rfl⟩, fun avs r h => ?_⟩
      obtain ⟨o, r, g, hm, rfl, rfl⟩ := halfSem_is h
      exact toldZ (P := ⟨fnOf, specR, 0⟩) (@half_may 0 0 o r g hm).2 (WkT.refl _)
    · cases h
/-- what either speaks for -/
theorem spec_or {P : Program} {fn : FuncId → Option FnM} {s1 s2 : FuncId → Option (List AV → Option AV)} (h1 : SpecOk P ⟨fn, s1, 0⟩) (h2 : SpecOk P ⟨fn, s2, 0⟩) : SpecOk P ⟨fn, fun f => match s1 f with | some g => some g | none => s2 f, 0⟩ := by
  intro f g h
  simp only at h
  cases hq : s1 f with
  | some g' => rw [hq] at h; cases h; exact h1 f g hq
  | none => rw [hq] at h; exact h2 f g h
noncomputable def specZ : FuncId → Option (List AV → Option AV) := fun f => match specM f with | some g => some g | none => (fun f => match specQ f with | some g => some g | none => specV f) f
theorem spec_z : SpecOk Try.prog ⟨fnOf, specZ, 0⟩ := spec_or spec_m (spec_or spec_q spec_v)
end Go.Proofs.Ythcgeajojgecnaa.Fw
