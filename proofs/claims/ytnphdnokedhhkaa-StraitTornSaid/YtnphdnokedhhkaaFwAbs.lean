/- The abstract evaluator: math.Abs, by hand (its bits of a NaN are not the evaluator's). -/
import Derived.Test.YtnphdnokedhhkaaFwW
import Derived.Test.YtnphdnokedhhkaaRows
import Derived.WalkKit
import Derived.WalkSpells
import Derived.WalkLawsBesides
set_option linter.unusedVariables false
set_option linter.unusedSimpArgs false
namespace Go.Proofs.Ytnphdnokedhhkaa.Fw
open Go Go.RowKit Go.Proofs.Ytnphdnokedhhkaa

def absF (a : Nat) : Nat := if isNaN a then qnan else a % 2 ^ 63
theorem isNaN_low (c : Nat) : isNaN (c % 2 ^ 63) = isNaN c := by
  have hs : Ieee.double.signWeight = 2 ^ 63 := by decide
  unfold isNaN Ieee.Format.read
  simp only [hs, Nat.mod_mod]
  split
  · rfl
  · split
    · rfl
    · split <;> rfl
theorem canon_abs (c : Nat) : canon (c % 2 ^ 63) = absF (canon c) := by
  unfold absF
  rw [isNaN_canon]
  unfold canon
  rw [isNaN_low]
  cases isNaN c <;> simp

theorem andNot_sign (c : Nat) : bits .andNot .u64 (c : Int) 9223372036854775808 = ((c % 2 ^ 63 : Nat) : Int) := by
  have h : ((BitVec.ofInt 64 (c : Int)) &&& ~~~(BitVec.ofInt 64 9223372036854775808)).toNat = c % 2 ^ 63 := by
    have e1 : BitVec.ofInt 64 (c : Int) = BitVec.ofNat 64 c := by simp
    have e2 : ~~~(BitVec.ofInt 64 9223372036854775808) = BitVec.ofNat 64 (2 ^ 63 - 1) := by decide
    rw [e1, e2, BitVec.toNat_and, BitVec.toNat_ofNat, BitVec.toNat_ofNat]
    rw [show (2 ^ 63 - 1) % 2 ^ 64 = 2 ^ 63 - 1 by decide, Nat.and_two_pow_sub_one_eq_mod]
    omega
  unfold bits
  simp only [IntKind.bits]
  show IntKind.wrap .u64 (((BitVec.ofInt 64 (c : Int)) &&& ~~~(BitVec.ofInt 64 9223372036854775808)).toNat : Int) = _
  rw [h]
  simp only [IntKind.wrap, IntKind.signed, IntKind.bits]
  have : c % 2 ^ 63 < 2 ^ 63 := Nat.mod_lt _ (by decide)
  simp
  omega

theorem bits_run (c : Nat) (w : World) : (callFunc 72 #[.float .f64 c]).run Try.prog w = .ok (.value (.int .u64 c)) w := by
  have hb0 : Try.f72.body = none := by kernel_rfl
  have h0 : Try.f72.name ≠ "runtime.NumGoroutine" := ne_of_beq_false (by kernel_rfl)
  have h1 : Extern.findNext Try.f72 = none := next_row (by kernel_rfl) (by kernel_rfl)
  have h2 : Extern.find Try.f72 = some Extern.MathFloatBits.float64bits := find_row (by kernel_rfl) (by kernel_rfl) (by kernel_rfl)
  simp [callFunc, Try.func72, h0, hb0, h1, h2]
  rfl
theorem frombits_run (n : Nat) (w : World) : (callFunc 71 #[.int .u64 (n : Int)]).run Try.prog w = .ok (.value (.float .f64 n)) w := by
  have hb0 : Try.f71.body = none := by kernel_rfl
  have h0 : Try.f71.name ≠ "runtime.NumGoroutine" := ne_of_beq_false (by kernel_rfl)
  have h1 : Extern.findNext Try.f71 = none := next_row (by kernel_rfl) (by kernel_rfl)
  have h2 : Extern.find Try.f71 = some Extern.MathFloatBits.float64frombits := find_row (by kernel_rfl) (by kernel_rfl) (by kernel_rfl)
  simp [callFunc, Try.func71, h0, hb0, h1, h2]
  rfl

set_option maxHeartbeats 400000 in
theorem abs_any0 (c m : Nat) (ha : bits .andNot .u64 (c : Int) 9223372036854775808 = (m : Int)) (w : World) :
    Calls Try.prog 57 #[.float .f64 c] w fun e w' => e = .returned (.float .f64 m) ∧ w' = w := by
  have hb := bits_run
  have hf := frombits_run m
  go_enter Try.func57, Try.ntmps57
  go_wp2
  go_ret
  exact ⟨rfl, rfl⟩
theorem abs_any (c : Nat) (w : World) : Calls Try.prog 57 #[.float .f64 c] w fun e w' => e = .returned (.float .f64 (c % 2 ^ 63)) ∧ w' = w := abs_any0 c _ (andNot_sign c) w

def absSem : List AV → Option AV
  | [.flt a] => some (.flt (absF a))
  | _ => none
def specAbs : FuncId → Option (List AV → Option AV) := fun f => if f = 57 then some absSem else none
theorem spec_abs (L : Nat) (fn : FuncId → Option FnM) : SpecOk Try.prog ⟨fn, specAbs, L⟩ := by
  intro f g h
  have h' : specAbs f = some g := h
  unfold specAbs at h'
  split at h'
  · rename_i hf
    cases h'
    subst hf
    refine ⟨⟨_, Try.func57, ne_of_beq_false (by kernel_rfl), by kernel_rfl⟩, fun avs r hr w cargs hrel => ?_⟩
    unfold absSem at hr
    split at hr
    · rename_i a
      cases hr
      obtain ⟨us⟩ := cargs
      obtain ⟨u, rfl, hu⟩ := relL_one hrel
      obtain ⟨b, rfl, hb'⟩ := rel_flt hu
      refine (abs_any b w).mono ?_
      rintro e w' ⟨rfl, rfl⟩
      refine specPost_flat rfl rfl ?_ (Below.refl _ _)
      simp only [RelV]
      exact ⟨_, rfl, by rw [canon_abs, hb']⟩
    · cases hr
  · cases h'
end Go.Proofs.Ytnphdnokedhhkaa.Fw
