/- train: Step, Pair of any order, signs; all spoken for. -/
import Derived.Test.YthcgeajojgecnaaLwTpB
set_option maxRecDepth 100000
set_option maxHeartbeats 4000000
set_option exponentiation.threshold 4000
set_option linter.unusedSimpArgs false
set_option linter.unusedVariables false
namespace Go.Proofs.Ythcgeajojgecnaa.Fw
open Go Go.RowKit
theorem tmodT (k : Int) : (k.tmod 2 != 0) = decide (k % 2 ≠ 0) := by
  have h1 : (2 : Int) ∣ k ↔ k.tmod 2 = 0 := ⟨fun h => Int.tmod_eq_zero_of_dvd h, fun h => Int.dvd_of_tmod_eq_zero h⟩
  have h2 : (2 : Int) ∣ k ↔ k % 2 = 0 := ⟨fun h => Int.emod_eq_zero_of_dvd h, fun h => Int.dvd_of_emod_eq_zero h⟩
  rw [Bool.eq_iff_iff, bne_iff_ne, decide_eq_true_eq, Ne, Ne, ← h1, ← h2]
def stpE (x : Nat) : Int := bif wiS x then 0 else 1
def stpV (x : Nat) : Nat := bif wiS x then stepF x else 0
def stpW (x : Nat) : Nat := bif wiS x then fdiv (fofInt (stepK x)) 4634204016564240384 else 0
def stpA (x : Nat) : AV := .tup [.flt (stpV x), .int .i64 (stpE x)]
def stpD (x : Nat) : AV := .tup [.flt (stpW x), .int .i64 (stpE x)]
section
variable {L n x : Nat}
theorem stp_den : den ⟨fnOf, specAbs, L⟩ (n+1) 28 [.flt x] = some (stpA x) := by
  unfold stpA stpV stpE
  cases c : wiS x with
  | true =>
    have h := c
    unfold wiS at h
    rw [Bool.and_eq_true] at h
    exact tst_1 h.1 (by rw [h.2]; rfl)
  | false =>
    unfold wiS at c
    cases h : fge x 13920626448202203136 with
    | false => exact tst_2 h
    | true =>
      rw [h, Bool.true_and] at c
      exact tst_0 h (by rw [c]; rfl)
theorem stpD_den : den ⟨fnOf, specAbs, L⟩ (n+1) 26 [.flt x] = some (stpD x) := by
  unfold stpD stpW stpE
  cases c : wiS x with
  | true =>
    have h := c
    unfold wiS at h
    rw [Bool.and_eq_true] at h
    obtain ⟨q1, hlt⟩ := up6_is c
    obtain ⟨b26, q2, _⟩ := trunc_is q1 hlt
    have fl := floor_is q1 hlt
    have rs := rest_is q1 hlt
    have g1 : (!fle x 4697254411347427328) = false := by rw [h.2]; rfl
    have ha : Con.holds ⟨fnOf, specAbs, L⟩ (runF ⟨fnOf, specAbs, L⟩ n) (.any 0 [13] (MO.mk (some 17) (MOp.conv (ConvK.toInt .i64) (Opd.t 16)) none []) [(16, (.flt (fmul x 4634204016564240384)))] [] (.v (.int .i64 ((fv (up6 x)).tdiv (2 ^ 1074)))) []) := by
      show (((ftoInt (up6 x) .i64).map (AV.int .i64)).map fun v => (v, ([] : Heap))) = _
      rw [q2]; rfl
    have eK : stepK x = fv (up6 x) / 2 ^ 1074 + (halfUp (fv (up6 x))).toNat := rfl
    generalize hk : (fv (up6 x)).tdiv (2 ^ 1074) = t at *
    generalize hV : fv (up6 x) / 2 ^ 1074 = q at *
    generalize halfUp (fv (up6 x)) = hu at *
    have hq : q.natAbs < 2 ^ 31 := by
      rw [← fl]
      split <;> omega
    have wq : IntKind.wrap .i64 (q + 1) = q + 1 := wrap_id (by omega)
    show den _ _ _ _ = some (.tup [.flt (fdiv (fofInt (stepK x)) 4634204016564240384), .int .i64 0])
    rw [eK]
    cases c1 : fgt (fofInt t) (up6 x) with
    | true =>
      rw [c1, if_pos rfl] at fl
      have wt : IntKind.wrap .i64 (t - 1) = q := by rw [fl]; exact wrap_id (by omega)
      cases c2 : fgt (fsub (up6 x) (fofInt q)) 4602678819172646912 with
      | true =>
        rw [c2, Bool.true_or] at rs
        have := @tsd_1 L n x t h.1 g1 ha c1 (by rw [wt]; exact c2)
        rw [wt, wq] at this
        rw [this, ← rs]; rfl
      | false =>
        rw [c2, Bool.false_or] at rs
        cases c3 : feq (fsub (up6 x) (fofInt q)) 4602678819172646912 with
        | true =>
          rw [c3, Bool.true_and] at rs
          cases c4 : decide (q % 2 ≠ 0) with
          | true =>
            have := @tsd_2 L n x t h.1 g1 ha c1 (by rw [wt]; exact c2) (by rw [wt]; exact c3) (by rw [wt, tmodT, c4])
            rw [wt, wq] at this
            rw [this, ← rs, c4]; rfl
          | false =>
            have := @tsd_3 L n x t h.1 g1 ha c1 (by rw [wt]; exact c2) (by rw [wt]; exact c3) (by rw [wt, tmodT, c4])
            rw [wt] at this
            rw [this, ← rs, c4, Bool.toNat_false, Int.natCast_zero, Int.add_zero]
        | false =>
          rw [c3, Bool.false_and] at rs
          have := @tsd_4 L n x t h.1 g1 ha c1 (by rw [wt]; exact c2) (by rw [wt]; exact c3)
          rw [wt] at this
          rw [this, ← rs, Bool.toNat_false, Int.natCast_zero, Int.add_zero]
    | false =>
      rw [c1, if_neg (by decide)] at fl
      subst fl
      cases c2 : fgt (fsub (up6 x) (fofInt t)) 4602678819172646912 with
      | true =>
        rw [c2, Bool.true_or] at rs
        have := @tsd_5 L n x t h.1 g1 ha c1 c2
        rw [wq] at this
        rw [this, ← rs]; rfl
      | false =>
        rw [c2, Bool.false_or] at rs
        cases c3 : feq (fsub (up6 x) (fofInt t)) 4602678819172646912 with
        | true =>
          rw [c3, Bool.true_and] at rs
          cases c4 : decide (t % 2 ≠ 0) with
          | true =>
            have := @tsd_6 L n x t h.1 g1 ha c1 c2 c3 (by rw [tmodT, c4])
            rw [wq] at this
            rw [this, ← rs, c4]; rfl
          | false =>
            have := @tsd_7 L n x t h.1 g1 ha c1 c2 c3 (by rw [tmodT, c4])
            rw [this, ← rs, c4, Bool.toNat_false, Int.natCast_zero, Int.add_zero]
        | false =>
          rw [c3, Bool.false_and] at rs
          have := @tsd_8 L n x t h.1 g1 ha c1 c2 c3
          rw [this, ← rs, Bool.toNat_false, Int.natCast_zero, Int.add_zero]
  | false =>
    show den _ _ _ _ = some (.tup [.flt 0, .int .i64 1])
    unfold wiS at c
    cases h : fge x 13920626448202203136 with
    | false => exact tsd_9 (k := 0) h
    | true =>
      rw [h, Bool.true_and] at c
      exact tsd_0 (k := 0) h (by rw [c]; rfl)
end
/-- the pair of any order; none, if there is none -/
def prsU (k : Int) : List Int := if 0 ≤ k ∧ k ≤ 8 then (prs k.toNat).1 else []
def prsV (k : Int) : List Int := if 0 ≤ k ∧ k ≤ 8 then (prs k.toNat).2 else []
def prsE (k : Int) : Int := if 0 ≤ k ∧ k ≤ 8 then 0 else 1
def prsA (k : Int) : AV := .tup [.own 1 ((prsU k).map celJ) true, .own 1 ((prsV k).map celJ) true, .int .i64 (prsE k)]
theorem Pairs_den (k : Int) : ∃ a b, den ⟨fnOf, specAbs, 600⟩ 14 16 [.int .i64 k] = some a ∧ den ⟨fnOf, specAbs, 600⟩ 14 24 [.int .i64 k] = some b ∧ WkT a (prsA k) ∧ WkT b (prsA k) := by
  by_cases h : 0 ≤ k ∧ k ≤ 8
  · have e : prsA k = prE k.toNat := by unfold prsA prE prsU prsV prsE; rw [if_pos h, if_pos h, if_pos h]
    rw [e]
    have a := Pair_den (k := k.toNat) (by omega)
    have b := rPair_den (k := k.toNat) (by omega)
    rw [Int.toNat_of_nonneg h.1] at a b
    exact ⟨_, _, a, b, WkT.refl _, WkT.refl _⟩
  · have e : prsA k = .tup [.own 1 (([] : List Int).map celJ) true, .own 1 (([] : List Int).map celJ) true, .int .i64 1] := by unfold prsA prsU prsV prsE; rw [if_neg h, if_neg h, if_neg h]
    rw [e]
    have w : WkT (.tup [.nils, .nils, .int .i64 1]) (.tup [.own 1 (([] : List Int).map celJ) true, .own 1 (([] : List Int).map celJ) true, .int .i64 1]) := .inl ⟨_, _, rfl, rfl, .inr (.inr ⟨rfl, 1, true, rfl⟩), .inr (.inr ⟨rfl, 1, true, rfl⟩), .inr (.inl rfl), trivial⟩
    by_cases h0 : k < 0
    · exact ⟨_, _, @tpp_0 600 13 k (dT h0), @tpd_0 600 13 k (dT h0), w, w⟩
    · exact ⟨_, _, @tpp_1 600 13 k (dF h0) (dT (by omega)), @tpd_1 600 13 k (dF h0) (dT (by omega)), w, w⟩
def unJ : List AV → Option Int
  | [.v (.int .i8 x)] => some x
  | _ => none
theorem unJ_is (e : List AV) (x : Int) (h : unJ e = some x) : e = celJ x := by
  unfold unJ at h; split at h <;> cases h; rfl
def autoSem : List AV → Option AV
  | [.lst 1 els] => (unL unJ els).map autoA
  | _ => none
theorem autoSem_is {avs : List AV} {r : AV} (h : autoSem avs = some r) : ∃ xs, avs = [.lst 1 (xs.map celJ)] ∧ r = autoA xs := by
  unfold autoSem at h
  split at h
  · rename_i els
    rw [Option.map_eq_some_iff] at h
    obtain ⟨ts, h1, rfl⟩ := h
    have := unL_inv (enc := celJ) unJ_is h1
    subst this
    exact ⟨ts, rfl, rfl⟩
  · cases h
def prsSem : List AV → Option AV
  | [.v (.int .i64 k)] => some (prsA k)
  | _ => none
theorem prsSem_is {avs : List AV} {r : AV} (h : prsSem avs = some r) : ∃ k : Int, avs = [.int .i64 k] ∧ r = prsA k := by
  unfold prsSem at h
  split at h
  · rename_i k; cases h; exact ⟨k, rfl, rfl⟩
  · cases h
def stpSem : List AV → Option AV
  | [.flt a] => some (stpA a)
  | _ => none
def stpDSem : List AV → Option AV
  | [.flt a] => some (stpD a)
  | _ => none
theorem stpSem_is {avs : List AV} {r : AV} (h : stpSem avs = some r) : ∃ a, avs = [.flt a] ∧ r = stpA a := by
  unfold stpSem at h
  split at h
  · rename_i a; cases h; exact ⟨a, rfl, rfl⟩
  · cases h
theorem stpDSem_is {avs : List AV} {r : AV} (h : stpDSem avs = some r) : ∃ a, avs = [.flt a] ∧ r = stpD a := by
  unfold stpDSem at h
  split at h
  · rename_i a; cases h; exact ⟨a, rfl, rfl⟩
  · cases h
def newQ : FuncId → Option (List AV → Option AV)
  | 16 => some prsSem
  | 24 => some prsSem
  | 17 => some autoSem
  | 25 => some autoSem
  | 28 => some stpSem
  | 26 => some stpDSem
  | _ => none
def specQ : FuncId → Option (List AV → Option AV) := fun f => match newQ f with | some g => some g | none => specAbs f
theorem spec_q : SpecOk Try.prog ⟨fnOf, specQ, 0⟩ :=
  spec_addz (spec_abs 0 fnOf) (fun L => fnsOk _ _) follows newQ fun f g h => by
    unfold newQ at h
    split at h
    · cases h
      refine ⟨⟨_, Try.func16, ne_of_beq_false (by kernel_rfl), by kernel_rfl⟩, fun avs r h => ?_⟩
      obtain ⟨k, rfl, rfl⟩ := prsSem_is h
      obtain ⟨a, b, h1, _, h2, _⟩ := Pairs_den k
      exact toldZ (P := ⟨fnOf, specAbs, 0⟩) h1 h2
    · cases h
      refine ⟨⟨_, Try.func24, ne_of_beq_false (by kernel_rfl), by kernel_rfl⟩, fun avs r h => ?_⟩
      obtain ⟨k, rfl, rfl⟩ := prsSem_is h
      obtain ⟨a, b, _, h1, _, h2⟩ := Pairs_den k
      exact toldZ (P := ⟨fnOf, specAbs, 0⟩) h1 h2
    · cases h
      refine ⟨⟨_, Try.func17, ne_of_beq_false (by kernel_rfl), by kernel_rfl⟩, fun avs r h => ?_⟩
      obtain ⟨xs, rfl, rfl⟩ := autoSem_is h
      obtain ⟨a, h1, h2⟩ := @auto_den 4096 0 xs (Nat.le_refl _)
      exact toldZ (P := ⟨fnOf, specAbs, 0⟩) h1 h2
    · cases h
      refine ⟨⟨_, Try.func25, ne_of_beq_false (by kernel_rfl), by kernel_rfl⟩, fun avs r h => ?_⟩
      obtain ⟨xs, rfl, rfl⟩ := autoSem_is h
      obtain ⟨a, h1, h2⟩ := @autoD_den 4096 0 xs (Nat.le_refl _)
      exact toldZ (P := ⟨fnOf, specAbs, 0⟩) h1 h2
    · cases h
      refine ⟨⟨_, Try.func28, ne_of_beq_false (by kernel_rfl), by kernel_rfl⟩, fun avs r h => ?_⟩
      obtain ⟨a, rfl, rfl⟩ := stpSem_is h
      exact toldZ (P := ⟨fnOf, specAbs, 0⟩) (stp_den (L := 0) (n := 0)) (WkT.refl _)
    · cases h
      refine ⟨⟨_, Try.func26, ne_of_beq_false (by kernel_rfl), by kernel_rfl⟩, fun avs r h => ?_⟩
      obtain ⟨a, rfl, rfl⟩ := stpDSem_is h
      exact toldZ (P := ⟨fnOf, specAbs, 0⟩) (stpD_den (L := 0) (n := 0)) (WkT.refl _)
    · cases h
section
variable {σ : FuncId → Option (List AV → Option AV)} {L n : Nat}
end
end Go.Proofs.Ythcgeajojgecnaa.Fw
