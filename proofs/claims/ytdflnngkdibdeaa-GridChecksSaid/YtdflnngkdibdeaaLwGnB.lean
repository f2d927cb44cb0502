/- grid.On, Near, Units, OfUnits and the document's On and Near: what they answer; spoken for. -/
import Derived.Test.YtdflnngkdibdeaaLwGnA
import Derived.Test.YtdflnngkdibdeaaLwAd
set_option maxRecDepth 100000
set_option maxHeartbeats 4000000
set_option exponentiation.threshold 4000
set_option linter.unusedSimpArgs false
set_option linter.unusedVariables false
namespace Go.Proofs.Ytdflnngkdibdeaa.Fw
open Go Go.RowKit
section
variable {L n x : Nat} {k : Int}
theorem within_den : den ⟨fnOf, specAbs, L⟩ (n+1) 23 [.flt x] = some (.v (.bool (wi x))) := by
  unfold wi
  cases h : fge x 13875590451928498176 with
  | true => exact gw_0 h
  | false => exact gw_1 h
theorem on_den : den ⟨fnOf, specAbs, L⟩ (n+2) 18 [.flt x] = some (.v (.bool (onF x))) := by
  have h := call_den (@within_den L n x)
  unfold onF
  cases c : wi x with
  | true => rw [c] at h; exact gon_0 h rfl (call_den gfl_0)
  | false => rw [c] at h; exact gon_1 h rfl
theorem onr_den : den ⟨fnOf, specAbs, L⟩ (n+1) 16 [.flt x] = some (.v (.bool (onF x))) := by
  cases c : wi x with
  | true =>
    have h := c
    unfold wi at h
    rw [Bool.and_eq_true] at h
    obtain ⟨q1, _, _⟩ := up12_is c
    obtain ⟨_, q2, _⟩ := trunc_is q1 (up12_lt c)
    obtain ⟨o1, o2⟩ := on_iff c
    have e : onF x = feq (fofInt ((fv (up12 x)).tdiv (2 ^ 1074))) (up12 x) := by unfold onF; rw [c, o1, o2, Bool.true_and]
    rw [e]
    refine gor_1 h.1 (by rw [h.2]; rfl) ?_
    show (((ftoInt (up12 x) .i64).map (AV.int .i64)).map fun v => (v, ([] : Heap))) = _
    rw [q2]; rfl
  | false =>
    have e : onF x = false := by unfold onF; rw [c]; rfl
    rw [e]
    unfold wi at c
    cases h : fge x 13875590451928498176 with
    | false => exact gor_2 (k := 0) h
    | true =>
      rw [h, Bool.true_and] at c
      exact gor_0 (k := 0) h (by rw [c]; rfl)
def nearA (x : Nat) : AV := .tup [.flt (bif wi x then nearF x else 0), .bool (wi x)]
def nearD (x : Nat) : AV := .tup [.flt (bif wi x then fdiv (fofInt (nearK x)) 4661225614328463360 else 0), .bool (wi x)]
theorem near_den : den ⟨fnOf, specAbs, L⟩ (n+2) 7 [.flt x] = some (nearA x) := by
  have h := call_den (@within_den L n x)
  unfold nearA
  cases c : wi x with
  | true => rw [c] at h; exact gne_1 h rfl
  | false => rw [c] at h; exact gne_0 h rfl
theorem tmod2 (k : Int) : (k.tmod 2 != 0) = decide (k % 2 ≠ 0) := by
  have h1 : (2 : Int) ∣ k ↔ k.tmod 2 = 0 := ⟨fun h => Int.tmod_eq_zero_of_dvd h, fun h => Int.dvd_of_tmod_eq_zero h⟩
  have h2 : (2 : Int) ∣ k ↔ k % 2 = 0 := ⟨fun h => Int.emod_eq_zero_of_dvd h, fun h => Int.dvd_of_emod_eq_zero h⟩
  rw [Bool.eq_iff_iff, bne_iff_ne, decide_eq_true_eq, Ne, Ne, ← h1, ← h2]
theorem nearr_den : den ⟨fnOf, specAbs, L⟩ (n+1) 14 [.flt x] = some (nearD x) := by
  unfold nearD
  cases c : wi x with
  | true =>
    have h := c
    unfold wi at h
    rw [Bool.and_eq_true] at h
    have hlt := up12_lt c
    obtain ⟨q1, _, _⟩ := up12_is c
    obtain ⟨b26, q2, _⟩ := trunc_is q1 hlt
    have fl := floor_is q1 hlt
    have rs := rest_is q1 hlt
    have hK := nearK_le c
    have g1 : (!fle x 4652218415073722368) = false := by rw [h.2]; rfl
    have ha : Con.holds ⟨fnOf, specAbs, L⟩ (runF ⟨fnOf, specAbs, L⟩ n) (.any 0 [13] (MO.mk (some 17) (MOp.conv (ConvK.toInt .i64) (Opd.t 16)) none []) [(16, (.flt (fmul x 4661225614328463360)))] [] (.v (.int .i64 ((fv (up12 x)).tdiv (2 ^ 1074)))) []) := by
      show (((ftoInt (up12 x) .i64).map (AV.int .i64)).map fun v => (v, ([] : Heap))) = _
      rw [q2]; rfl
    have eK : nearK x = fv (up12 x) / 2 ^ 1074 + (halfUp (fv (up12 x))).toNat := rfl
    generalize hk : (fv (up12 x)).tdiv (2 ^ 1074) = t at *
    generalize hV : fv (up12 x) / 2 ^ 1074 = q at *
    generalize halfUp (fv (up12 x)) = hu at *
    have hq : q.natAbs < 2 ^ 31 := by
      rw [← fl]
      split <;> omega
    have wq : IntKind.wrap .i64 (q + 1) = q + 1 := wrap_id (by omega)
    show den _ _ _ _ = some (.tup [.flt (fdiv (fofInt (nearK x)) 4661225614328463360), .bool true])
    rw [eK]
    cases c1 : fgt (fofInt t) (up12 x) with
    | true =>
      rw [c1, if_pos rfl] at fl
      have wt : IntKind.wrap .i64 (t - 1) = q := by rw [fl]; exact wrap_id (by omega)
      cases c2 : fgt (fsub (up12 x) (fofInt q)) 4602678819172646912 with
      | true =>
        rw [c2, Bool.true_or] at rs
        have := @gnr_1 L n x t h.1 g1 ha c1 (by rw [wt]; exact c2)
        rw [wt, wq] at this
        rw [this, ← rs]; rfl
      | false =>
        rw [c2, Bool.false_or] at rs
        cases c3 : feq (fsub (up12 x) (fofInt q)) 4602678819172646912 with
        | true =>
          rw [c3, Bool.true_and] at rs
          cases c4 : decide (q % 2 ≠ 0) with
          | true =>
            have := @gnr_2 L n x t h.1 g1 ha c1 (by rw [wt]; exact c2) (by rw [wt]; exact c3) (by rw [wt, tmod2, c4])
            rw [wt, wq] at this
            rw [this, ← rs, c4]; rfl
          | false =>
            have := @gnr_3 L n x t h.1 g1 ha c1 (by rw [wt]; exact c2) (by rw [wt]; exact c3) (by rw [wt, tmod2, c4])
            rw [wt] at this
            rw [this, ← rs, c4, Bool.toNat_false, Int.natCast_zero, Int.add_zero]
        | false =>
          rw [c3, Bool.false_and] at rs
          have := @gnr_4 L n x t h.1 g1 ha c1 (by rw [wt]; exact c2) (by rw [wt]; exact c3)
          rw [wt] at this
          rw [this, ← rs, Bool.toNat_false, Int.natCast_zero, Int.add_zero]
    | false =>
      rw [c1, if_neg (by decide)] at fl
      subst fl
      cases c2 : fgt (fsub (up12 x) (fofInt t)) 4602678819172646912 with
      | true =>
        rw [c2, Bool.true_or] at rs
        have := @gnr_5 L n x t h.1 g1 ha c1 c2
        rw [wq] at this
        rw [this, ← rs]; rfl
      | false =>
        rw [c2, Bool.false_or] at rs
        cases c3 : feq (fsub (up12 x) (fofInt t)) 4602678819172646912 with
        | true =>
          rw [c3, Bool.true_and] at rs
          cases c4 : decide (t % 2 ≠ 0) with
          | true =>
            have := @gnr_6 L n x t h.1 g1 ha c1 c2 c3 (by rw [tmod2, c4])
            rw [wq] at this
            rw [this, ← rs, c4]; rfl
          | false =>
            have := @gnr_7 L n x t h.1 g1 ha c1 c2 c3 (by rw [tmod2, c4])
            rw [this, ← rs, c4, Bool.toNat_false, Int.natCast_zero, Int.add_zero]
        | false =>
          rw [c3, Bool.false_and] at rs
          have := @gnr_8 L n x t h.1 g1 ha c1 c2 c3
          rw [this, ← rs, Bool.toNat_false, Int.natCast_zero, Int.add_zero]
  | false =>
    show den _ _ _ _ = some (.tup [.flt 0, .bool false])
    unfold wi at c
    cases h : fge x 13875590451928498176 with
    | false => exact gnr_9 (k := 0) h
    | true =>
      rw [h, Bool.true_and] at c
      exact gnr_0 (k := 0) h (by rw [c]; rfl)
/-- so many steps -/
def stepsK (x : Nat) : Int := (fv (up12 x)).tdiv (2 ^ 1074)
def unitK (x : Nat) : Int := bif onF x then stepsK x else 0
def unitE (x : Nat) : Int := bif onF x then 0 else 7
def unitA (x : Nat) : AV := .tup [.int .i32 (unitK x), .int .i64 (unitE x)]
theorem unit_den : den ⟨fnOf, specAbs, L⟩ (n+3) 15 [.flt x] = some (unitA x) := by
  have h := call_den (@on_den L n x)
  unfold unitA unitK unitE
  cases c : onF x with
  | true =>
    rw [c] at h
    have hw : wi x = true := by unfold onF at c; rw [Bool.and_eq_true] at c; exact c.1
    obtain ⟨q1, _, _⟩ := up12_is hw
    obtain ⟨_, _, q2⟩ := trunc_is q1 (up12_lt hw)
    refine gun_1 h rfl ?_
    show (((ftoInt (up12 x) .i32).map (AV.int .i32)).map fun v => (v, ([] : Heap))) = _
    rw [q2]; rfl
  | false => rw [c] at h; exact gun_0 (k := 0) h rfl
end
def onSem : List AV → Option AV
  | [.flt a] => some (.v (.bool (onF a)))
  | _ => none
def nearSem : List AV → Option AV
  | [.flt a] => some (nearA a)
  | _ => none
def nearDSem : List AV → Option AV
  | [.flt a] => some (nearD a)
  | _ => none
def unitSem : List AV → Option AV
  | [.flt a] => some (unitA a)
  | _ => none
theorem flt_is {g : Nat → AV} {s : List AV → Option AV} (hs : ∀ avs, s avs = match avs with | [.flt a] => some (g a) | _ => none) {avs : List AV} {r : AV} (h : s avs = some r) : ∃ a, avs = [.flt a] ∧ r = g a := by
  rw [hs] at h
  split at h
  · rename_i a; cases h; exact ⟨a, rfl, rfl⟩
  · cases h
def newG : FuncId → Option (List AV → Option AV)
  | 18 => some onSem
  | 16 => some onSem
  | 7 => some nearSem
  | 14 => some nearDSem
  | 15 => some unitSem
  | _ => none
def specG : FuncId → Option (List AV → Option AV) := fun f => match newG f with | some g => some g | none => specAbs f
theorem toldG {P : Prog} {f : FuncId} {avs : List AV} {r : AV} {L k : Nat} (h : den ⟨P.fn, P.spec, L⟩ k f avs = some r) : ∃ avs1 L k r1, All2 WiA avs avs1 ∧ den ⟨P.fn, P.spec, L⟩ k f avs1 = some r1 ∧ WkT r1 r :=
  ⟨avs, L, k, r, all2_refl WiA.refl _, h, WkT.refl _⟩
theorem spec_g : SpecOk Try.prog ⟨fnOf, specG, 0⟩ :=
  spec_addz (spec_abs 0 fnOf) (fun L => fnsOk _ _) follows newG fun f g h => by
    unfold newG at h
    split at h
    · cases h
      refine ⟨⟨_, Try.func18, ne_of_beq_false (by kernel_rfl), by kernel_rfl⟩, fun avs r h => ?_⟩
      obtain ⟨a, rfl, rfl⟩ := flt_is (g := fun a => .v (.bool (onF a))) (fun avs => by unfold onSem; split <;> rfl) h
      exact toldG (P := ⟨fnOf, specAbs, 0⟩) (on_den (L := 0) (n := 0))
    · cases h
      refine ⟨⟨_, Try.func16, ne_of_beq_false (by kernel_rfl), by kernel_rfl⟩, fun avs r h => ?_⟩
      obtain ⟨a, rfl, rfl⟩ := flt_is (g := fun a => .v (.bool (onF a))) (fun avs => by unfold onSem; split <;> rfl) h
      exact toldG (P := ⟨fnOf, specAbs, 0⟩) (onr_den (L := 0) (n := 0))
    · cases h
      refine ⟨⟨_, Try.func7, ne_of_beq_false (by kernel_rfl), by kernel_rfl⟩, fun avs r h => ?_⟩
      obtain ⟨a, rfl, rfl⟩ := flt_is (g := nearA) (fun avs => by unfold nearSem; split <;> rfl) h
      exact toldG (P := ⟨fnOf, specAbs, 0⟩) (near_den (L := 0) (n := 0))
    · cases h
      refine ⟨⟨_, Try.func14, ne_of_beq_false (by kernel_rfl), by kernel_rfl⟩, fun avs r h => ?_⟩
      obtain ⟨a, rfl, rfl⟩ := flt_is (g := nearD) (fun avs => by unfold nearDSem; split <;> rfl) h
      exact toldG (P := ⟨fnOf, specAbs, 0⟩) (nearr_den (L := 0) (n := 0))
    · cases h
      refine ⟨⟨_, Try.func15, ne_of_beq_false (by kernel_rfl), by kernel_rfl⟩, fun avs r h => ?_⟩
      obtain ⟨a, rfl, rfl⟩ := flt_is (g := unitA) (fun avs => by unfold unitSem; split <;> rfl) h
      exact toldG (P := ⟨fnOf, specAbs, 0⟩) (unit_den (L := 0) (n := 0))
    · cases h
theorem spec_gL (L : Nat) : SpecOk Try.prog ⟨fnOf, specG, L⟩ := fun f g h => spec_g f g h
end Go.Proofs.Ytdflnngkdibdeaa.Fw
namespace Go.Proofs.Ytdflnngkdibdeaa.Fw
open Go Go.RowKit
def celU (x : Int) : List AV := [.int .u64 x]
def celB (b : Bool) : List AV := [.v (.bool b)]
end Go.Proofs.Ytdflnngkdibdeaa.Fw
