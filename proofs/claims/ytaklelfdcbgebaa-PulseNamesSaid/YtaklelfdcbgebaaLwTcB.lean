/- The pulse that a law makes; how many samples points become: pulse.Length and the document's Length, spoken for. -/
import Derived.Test.YtaklelfdcbgebaaLwTcA
set_option maxRecDepth 100000
set_option maxHeartbeats 4000000
set_option linter.unusedSimpArgs false
set_option linter.unusedVariables false
namespace Go.Proofs.Ytaklelfdcbgebaa.Fw
open Go Go.RowKit
/-- a loop, by what holds at each round's head; what it leaves -/
theorem loopI {P : Prog} {C : Caller} {L d : Nat} {live π : List Nat} {m : MC} {A : St} (R : Nat → St → Prop) (Q : St → Prop) (n : Nat) {x : Ex} (hx : x ≠ .nrm) (hL : P.L = L + 1) (hn : n ≤ L) (h0 : R 0 A)
    (h : ∀ i s, i < n → R i s → ∃ s', rnd d live (bodyOf P C d m (i :: π) s) = some (.nrm, s') ∧ R (i + 1) s')
    (he : ∀ s, R n s → ∃ s', rnd d live (bodyOf P C d m (n :: π) s) = some (x, s') ∧ Q s') : ∃ s', Con.holds P C (.loop d live m π A x s') ∧ Q s' := by
  obtain ⟨s0, h1, s', h2, h3⟩ := LP_inv (body := bodyOf P C d m) (d := d) (live := live) (π := π) R (fun s0 => ∃ s', outP d live x s0 = s' ∧ Q s') hx n hn h0
    (fun i s _ hi hR => by
      obtain ⟨s', h1, h2⟩ := h i s (by omega) hR
      exact ⟨s', rnd_nxt h1, h2⟩)
    (fun s hR => by
      rw [Nat.zero_add] at hR ⊢
      obtain ⟨s', h1, h2⟩ := he s hR
      obtain ⟨s0, h3, h4⟩ := rnd_out h1 hx
      exact ⟨s0, h3, s', h4, h2⟩)
  exact ⟨s', ⟨L, s0, hL, h1, by rw [h2], by rw [h2]⟩, h3⟩
section
variable {σ : FuncId → Option (List AV → Option AV)} {L n : Nat} {rate fore att : Int} {odd : Nat} {xs : List Int}
end
/-- what Length answers -/
def lenF (rate fore : Int) (ts : List Nat) (k : Int) : Int × Int :=
  if chkF rate fore ts ≠ 0 then (0, chkF rate fore ts)
  else if k = 0 then (0, 0)
  else if k < 0 ∨ 65536 < k ∨ 65536 < (k - 1) * rate + ts.length then (0, 1)
  else ((k - 1) * rate + ts.length, 0)
theorem lenF_ok {rate fore k : Int} {ts : List Nat} (h : (lenF rate fore ts k).2 = 0) : chkF rate fore ts = 0 ∧ 0 ≤ k ∧ k ≤ 65536 ∧ (k = 0 ∧ (lenF rate fore ts k).1 = 0 ∨ 0 < k ∧ (lenF rate fore ts k).1 = (k - 1) * rate + ts.length ∧ (k - 1) * rate + ts.length ≤ 65536) := by
  unfold lenF at h ⊢
  split at h
  · exact absurd h (by assumption)
  · rename_i h0
    rw [if_neg h0]
    split at h
    · rename_i h1
      rw [if_pos h1]
      exact ⟨by simpa using h0, by omega, by omega, .inl ⟨h1, rfl⟩⟩
    · rename_i h1
      rw [if_neg h1]
      split at h
      · cases h
      · rename_i h2
        rw [if_neg h2]
        exact ⟨by simpa using h0, by omega, by omega, .inr ⟨by omega, rfl, by omega⟩⟩
section
variable {L n : Nat} {rate fore k : Int} {ts : List Nat}
theorem mul_small {a r : Int} (h1 : -1 ≤ a) (h2 : a ≤ 65536) (h3 : 1 ≤ r) (h4 : r ≤ 8) : -8 ≤ a * r ∧ a * r ≤ 524288 := by
  have e : r = 1 ∨ r = 2 ∨ r = 3 ∨ r = 4 ∨ r = 5 ∨ r = 6 ∨ r = 7 ∨ r = 8 := by omega
  rcases e with rfl | rfl | rfl | rfl | rfl | rfl | rfl | rfl <;> omega
theorem len_wrap (h : chkF rate fore ts = 0) (h1 : 0 ≤ k) (h2 : k ≤ 65536) : IntKind.wrap .i64 (IntKind.wrap .i64 (IntKind.wrap .i64 (k - 1) * rate) + (((ts.map celF).length : Nat) : Int)) = (k - 1) * rate + ts.length := by
  obtain ⟨r1, r2, _, _, r5, _⟩ := chkF_ok h
  have := mul_small (a := k - 1) (by omega) (by omega) r1 r2
  rw [map_len, wrap_id (n := k - 1) (by omega), wrap_id (n := (k - 1) * rate) (by omega), wrap_id (by omega)]
theorem len_both : den ⟨fnOf, specC, L⟩ (n+1) 13 [.agg [.int .i64 rate, .int .i64 fore, .lst 1 (ts.map celF)], .int .i64 k] = some (.tup [.int .i64 (lenF rate fore ts k).1, .int .i64 (lenF rate fore ts k).2]) ∧
    den ⟨fnOf, specC, L⟩ (n+1) 14 [.agg [.int .i64 rate, .int .i64 fore, .lst 1 (ts.map celF)], .int .i64 k] = some (.tup [.int .i64 (lenF rate fore ts k).1, .int .i64 (lenF rate fore ts k).2]) := by
  have hc := spec_is (P := ⟨fnOf, specC, L⟩) (C := runF ⟨fnOf, specC, L⟩ n) (f := 28) rfl (chkSem_at rate fore ts)
  have hd := spec_is (P := ⟨fnOf, specC, L⟩) (C := runF ⟨fnOf, specC, L⟩ n) (f := 29) rfl (chkSem_at rate fore ts)
  by_cases h0 : chkF rate fore ts = 0
  · have b0 : (chkF rate fore ts != 0) = false := by rw [h0]; rfl
    by_cases h1 : k = 0
    · have e : lenF rate fore ts k = (0, 0) := by unfold lenF; rw [if_neg (by simpa using h0), if_pos h1]
      rw [e]
      exact ⟨ln_3 hc b0 (dF (by omega)) (dF (by omega)) (by rw [h1]; rfl), ld_1 hd b0 (by rw [h1]; rfl)⟩
    have b1 : (k == 0) = false := beq_eq_false_iff_ne.2 h1
    by_cases h2 : k < 0
    · have e : lenF rate fore ts k = (0, 1) := by unfold lenF; rw [if_neg (by simpa using h0), if_neg h1, if_pos (.inl h2)]
      rw [e]
      exact ⟨ln_1 hc b0 (dT h2), ld_2 hd b0 b1 (dT h2)⟩
    by_cases h3 : k > 65536
    · have e : lenF rate fore ts k = (0, 1) := by unfold lenF; rw [if_neg (by simpa using h0), if_neg h1, if_pos (.inr (.inl h3))]
      rw [e]
      exact ⟨ln_2 hc b0 (dF h2) (dT h3), ld_3 hd b0 b1 (dF h2) (dT h3)⟩
    have hw := len_wrap (k := k) h0 (by omega) (by omega)
    by_cases h4 : 65536 < (k - 1) * rate + ts.length
    · have e : lenF rate fore ts k = (0, 1) := by unfold lenF; rw [if_neg (by simpa using h0), if_neg h1, if_pos (.inr (.inr h4))]
      rw [e]
      exact ⟨ln_5 hc b0 (dF h2) (dF h3) b1 (by rw [hw]; exact dF (by omega)), ld_4 hd b0 b1 (dF h2) (dF h3) (by rw [hw]; exact dT h4)⟩
    · have e : lenF rate fore ts k = ((k - 1) * rate + ts.length, 0) := by unfold lenF; rw [if_neg (by simpa using h0), if_neg h1, if_neg (by omega)]
      have l1 := @ln_4 L n rate fore k ts _ hc b0 (dF h2) (dF h3) b1 (by rw [hw]; exact dT (by omega))
      have l2 := @ld_5 L n rate fore k ts _ hd b0 b1 (dF h2) (dF h3) (by rw [hw]; exact dF (by omega))
      rw [hw] at l1 l2
      rw [e]
      exact ⟨l1, l2⟩
  · have b0 : (chkF rate fore ts != 0) = true := by simpa using h0
    have e : lenF rate fore ts k = (0, chkF rate fore ts) := by unfold lenF; rw [if_pos h0]
    rw [e]
    exact ⟨ln_0 hc b0, ld_0 hd b0⟩
end
def lenSem : List AV → Option AV
  | [.agg [.v (.int .i64 rate), .v (.int .i64 fore), .lst 1 els], .v (.int .i64 k)] => (unL unF els).map fun ts => .tup [.int .i64 (lenF rate fore ts k).1, .int .i64 (lenF rate fore ts k).2]
  | _ => none
theorem lenSem_is {avs : List AV} {r : AV} (h : lenSem avs = some r) : ∃ rate fore ts k, avs = [.agg [.int .i64 rate, .int .i64 fore, .lst 1 (ts.map celF)], .int .i64 k] ∧ r = .tup [.int .i64 (lenF rate fore ts k).1, .int .i64 (lenF rate fore ts k).2] := by
  unfold lenSem at h
  split at h
  · rename_i rate fore els k
    rw [Option.map_eq_some_iff] at h
    obtain ⟨ts, h1, rfl⟩ := h
    have := unL_inv (enc := celF) unF_is h1
    subst this
    exact ⟨rate, fore, ts, k, rfl, rfl⟩
  · cases h
theorem lenSem_at (rate fore : Int) (ts : List Nat) (k : Int) : lenSem [.agg [.int .i64 rate, .int .i64 fore, .lst 1 (ts.map celF)], .int .i64 k] = some (.tup [.int .i64 (lenF rate fore ts k).1, .int .i64 (lenF rate fore ts k).2]) := by
  simp only [lenSem, unF_L, Option.map_some]
def newL : FuncId → Option (List AV → Option AV)
  | 13 => some lenSem
  | 14 => some lenSem
  | _ => none
/-- Length, too -/
def specL : FuncId → Option (List AV → Option AV) := fun f => match newL f with | some g => some g | none => specC f
theorem spec_l : SpecOk Try.prog ⟨fnOf, specL, 0⟩ :=
  spec_adds spec_c (fun L => fnsOk _ _) follows newL fun f g h => by
    unfold newL at h
    split at h
    · cases h
      refine ⟨⟨_, Try.func13, ne_of_beq_false (by kernel_rfl), by kernel_rfl⟩, fun avs r h => ?_⟩
      obtain ⟨rate, fore, ts, k, rfl, rfl⟩ := lenSem_is h
      exact told (P := ⟨fnOf, specC, 0⟩) ⟨0, 1, len_both.1⟩
    · cases h
      refine ⟨⟨_, Try.func14, ne_of_beq_false (by kernel_rfl), by kernel_rfl⟩, fun avs r h => ?_⟩
      obtain ⟨rate, fore, ts, k, rfl, rfl⟩ := lenSem_is h
      exact told (P := ⟨fnOf, specC, 0⟩) ⟨0, 1, len_both.2⟩
    · cases h
end Go.Proofs.Ytaklelfdcbgebaa.Fw
