/- Check spoken for, the program's and the document's; Times and alike, too. -/
import Derived.Test.YtnphdnokedhhkaaLwTcK
set_option maxRecDepth 100000
set_option maxHeartbeats 4000000
set_option linter.unusedSimpArgs false
set_option linter.unusedVariables false
namespace Go.Proofs.Ytnphdnokedhhkaa.Fw
open Go Go.RowKit
def shortL (zs : List (Nat × Nat)) : Prop := zs.length ≤ 17592186044415
instance (zs : List (Nat × Nat)) : Decidable (shortL zs) := by unfold shortL; exact inferInstance
/-- what Check answers -/
def chkT (rate delay : Int) (ts es : List (Nat × Nat)) : Int :=
  if rate < 1 ∨ 8 < rate ∨ delay < 0 ∨ 65536 < delay then 1
  else if tapsF ts = true ∧ (es.length = 0 ∨ tapsF es = true) then 0 else 8
theorem check_both {L n : Nat} {rate delay : Int} {ts es : List (Nat × Nat)} (h1 : shortL ts) (h2 : shortL es) :
    den ⟨fnOf, specT, L⟩ (n+1) 22 [.agg [.int .i64 rate, .int .i64 delay, .lst 1 (ts.map celC), .lst 1 (es.map celC)]] = some (.int .i64 (chkT rate delay ts es)) ∧
    den ⟨fnOf, specT, L⟩ (n+1) 23 [.agg [.int .i64 rate, .int .i64 delay, .lst 1 (ts.map celC), .lst 1 (es.map celC)]] = some (.int .i64 (chkT rate delay ts es)) := by
  have hlen : (es.map celC).length = es.length := map_len
  by_cases c1 : rate < 1
  · rw [show chkT rate delay ts es = 1 from if_pos (.inl c1)]
    exact ⟨skp_0 (dT c1), skd_0 (dT c1)⟩
  by_cases c2 : rate > 8
  · rw [show chkT rate delay ts es = 1 from if_pos (.inr (.inl c2))]
    exact ⟨skp_1 (dF c1) (dT c2), skd_1 (dF c1) (dT c2)⟩
  by_cases c3 : delay < 0
  · rw [show chkT rate delay ts es = 1 from if_pos (.inr (.inr (.inl c3)))]
    exact ⟨skp_2 (dF c1) (dF c2) (dT c3), skd_2 (dF c1) (dF c2) (dT c3)⟩
  by_cases c4 : delay > 65536
  · rw [show chkT rate delay ts es = 1 from if_pos (.inr (.inr (.inr c4)))]
    exact ⟨skp_3 (dF c1) (dF c2) (dF c3) (dT c4), skd_3 (dF c1) (dF c2) (dF c3) (dT c4)⟩
  have hno : ¬ (rate < 1 ∨ 8 < rate ∨ delay < 0 ∨ 65536 < delay) := by omega
  have hch : chkT rate delay ts es = if tapsF ts = true ∧ (es.length = 0 ∨ tapsF es = true) then 0 else 8 := if_neg hno
  have p1 := spec_is (P := ⟨fnOf, specT, L⟩) (C := runF ⟨fnOf, specT, L⟩ n) (f := 41) rfl (tapSem_at h1)
  have p2 := spec_is (P := ⟨fnOf, specT, L⟩) (C := runF ⟨fnOf, specT, L⟩ n) (f := 41) rfl (tapSem_at h2)
  have d1 := spec_is (P := ⟨fnOf, specT, L⟩) (C := runF ⟨fnOf, specT, L⟩ n) (f := 43) rfl (tapSem_at h1)
  have d2 := spec_is (P := ⟨fnOf, specT, L⟩) (C := runF ⟨fnOf, specT, L⟩ n) (f := 43) rfl (tapSem_at h2)
  cases t1 : tapsF ts with
  | false =>
    rw [hch, if_neg (by rw [t1]; simp)]
    exact ⟨skp_4 (dF c1) (dF c2) (dF c3) (dF c4) p1 (by rw [t1]; rfl), skd_4 (dF c1) (dF c2) (dF c3) (dF c4) d1 (by rw [t1]; rfl)⟩
  | true =>
    by_cases c5 : es.length = 0
    · rw [hch, if_pos ⟨t1, .inl c5⟩]
      exact ⟨skp_7 (dF c1) (dF c2) (dF c3) (dF c4) p1 (by rw [t1]; rfl) (by rw [hlen]; exact dF (by omega)), skd_7 (dF c1) (dF c2) (dF c3) (dF c4) d1 (by rw [t1]; rfl) (by rw [hlen]; exact dF (by omega))⟩
    · have b5 : decide (((es.map celC).length : Int) > 0) = true := by rw [hlen]; exact dT (by omega)
      cases t2 : tapsF es with
      | false =>
        rw [hch, if_neg (by rw [t2]; simp [c5])]
        exact ⟨skp_5 (dF c1) (dF c2) (dF c3) (dF c4) p1 (by rw [t1]; rfl) b5 p2 (by rw [t2]; rfl), skd_5 (dF c1) (dF c2) (dF c3) (dF c4) d1 (by rw [t1]; rfl) b5 d2 (by rw [t2]; rfl)⟩
      | true =>
        rw [hch, if_pos ⟨t1, .inr t2⟩]
        exact ⟨skp_6 (dF c1) (dF c2) (dF c3) (dF c4) p1 (by rw [t1]; rfl) b5 p2 (by rw [t2]; rfl), skd_6 (dF c1) (dF c2) (dF c3) (dF c4) d1 (by rw [t1]; rfl) b5 d2 (by rw [t2]; rfl)⟩
def chkSem : List AV → Option AV
  | [.agg [.v (.int .i64 rate), .v (.int .i64 delay), .lst 1 e1, .lst 1 e2]] => (unL unC e1).bind fun ts => (unL unC e2).bind fun es => if shortL ts ∧ shortL es then some (.int .i64 (chkT rate delay ts es)) else none
  | _ => none
theorem chkSem_is {avs : List AV} {r : AV} (h : chkSem avs = some r) : ∃ rate delay ts es, avs = [.agg [.int .i64 rate, .int .i64 delay, .lst 1 (ts.map celC), .lst 1 (es.map celC)]] ∧ shortL ts ∧ shortL es ∧ r = .int .i64 (chkT rate delay ts es) := by
  unfold chkSem at h
  split at h
  · rename_i rate delay e1 e2
    rw [Option.bind_eq_some_iff] at h
    obtain ⟨ts, h1, h⟩ := h
    rw [Option.bind_eq_some_iff] at h
    obtain ⟨es, h2, h⟩ := h
    split at h
    · rename_i hm
      cases h
      have g1 := unL_inv (enc := celC) unC_is h1
      have g2 := unL_inv (enc := celC) unC_is h2
      subst g1; subst g2
      exact ⟨rate, delay, ts, es, rfl, hm.1, hm.2, rfl⟩
    · cases h
  · cases h
theorem chkSem_at {rate delay : Int} {ts es : List (Nat × Nat)} (h1 : shortL ts) (h2 : shortL es) : chkSem [.agg [.int .i64 rate, .int .i64 delay, .lst 1 (ts.map celC), .lst 1 (es.map celC)]] = some (.int .i64 (chkT rate delay ts es)) := by
  simp only [chkSem, unC_L, Option.bind_some, if_pos (And.intro h1 h2)]
/-- the product of two numbers, by parts -/
def timP (a b : Nat × Nat) : Nat × Nat := (fsub (fmul a.1 b.1) (fmul a.2 b.2), fadd (fmul a.1 b.2) (fmul a.2 b.1))
def timSem : List AV → Option AV
  | [.cpx a b, .cpx c d] => some (.cpx (fsub (fmul a c) (fmul b d)) (fadd (fmul a d) (fmul b c)))
  | _ => none
def alF (a b : Nat) : Bool := feq a b || (!feq a a && !feq b b)
def alSem : List AV → Option AV
  | [.flt a, .flt b] => some (.v (.bool (alF a b)))
  | _ => none
theorem alF_self (a : Nat) : alF a a = true := by
  unfold alF
  cases feq a a <;> rfl
theorem den_times {L n a b c d : Nat} : den ⟨fnOf, specT, L⟩ (n+1) 58 [.cpx a b, .cpx c d] = some (.cpx (fsub (fmul a c) (fmul b d)) (fadd (fmul a d) (fmul b c))) := by
  have hd : denD ⟨fnOf, specT, L⟩ n 58 [.cpx a b, .cpx c d] [] = some (.cpx (fsub (fmul a c) (fmul b d)) (fadd (fmul a d) (fmul b c)), []) := by kernel_rfl
  exact denD_sound hd trivial
theorem den_alike {L n a b : Nat} : den ⟨fnOf, specT, L⟩ (n+1) 34 [.flt a, .flt b] = some (.v (.bool (alF a b))) := by
  unfold alF
  cases h : feq a b with
  | true => exact @al_0 specT L n a b h
  | false =>
    cases h2 : feq a a with
    | true => exact @al_2 specT L n a b h (by rw [h2]; rfl)
    | false =>
      rw [@al_1 specT L n a b h (by rw [h2]; rfl)]
      rfl
def newK : FuncId → Option (List AV → Option AV)
  | 22 => some chkSem
  | 23 => some chkSem
  | 58 => some timSem
  | 34 => some alSem
  | _ => none
def specK : FuncId → Option (List AV → Option AV) := fun f => match newK f with | some g => some g | none => specT f
theorem spec_k : SpecOk Try.prog ⟨fnOf, specK, 0⟩ :=
  spec_adds spec_t (fun L => fnsOk _ _) follows newK fun f g h => by
    unfold newK at h
    split at h
    · cases h
      refine ⟨⟨_, Try.func22, ne_of_beq_false (by kernel_rfl), by kernel_rfl⟩, fun avs r h => ?_⟩
      obtain ⟨rate, delay, ts, es, rfl, m1, m2, rfl⟩ := chkSem_is h
      exact told (P := ⟨fnOf, specT, 0⟩) ⟨0, 1, (check_both m1 m2).1⟩
    · cases h
      refine ⟨⟨_, Try.func23, ne_of_beq_false (by kernel_rfl), by kernel_rfl⟩, fun avs r h => ?_⟩
      obtain ⟨rate, delay, ts, es, rfl, m1, m2, rfl⟩ := chkSem_is h
      exact told (P := ⟨fnOf, specT, 0⟩) ⟨0, 1, (check_both m1 m2).2⟩
    · cases h
      refine ⟨⟨_, Try.func58, ne_of_beq_false (by kernel_rfl), by kernel_rfl⟩, fun avs r h => ?_⟩
      unfold timSem at h
      split at h
      · cases h; exact told (P := ⟨fnOf, specT, 0⟩) ⟨0, 1, den_times⟩
      · cases h
    · cases h
      refine ⟨⟨_, Try.func34, ne_of_beq_false (by kernel_rfl), by kernel_rfl⟩, fun avs r h => ?_⟩
      unfold alSem at h
      split at h
      · cases h; exact told (P := ⟨fnOf, specT, 0⟩) ⟨0, 1, den_alike⟩
      · cases h
    · cases h
end Go.Proofs.Ytnphdnokedhhkaa.Fw
