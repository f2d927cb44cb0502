/- grid.Check and the document's Check: the first sample that may not be; spoken for. -/
import Derived.Test.YthcgeajojgecnaaLwOnC
set_option maxRecDepth 100000
set_option maxHeartbeats 4000000
set_option exponentiation.threshold 4000
set_option linter.unusedSimpArgs false
set_option linter.unusedVariables false
namespace Go.Proofs.Ythcgeajojgecnaa.Fw
open Go Go.RowKit
/-- may a sample be? -/
def mayF (s : (Nat × Nat) × Bool) : Bool := if s.2 then feq s.1.1 0 && feq s.1.2 0 else onF s.1.1 && onF s.1.2
section
variable {L n : Nat}
theorem may_den {s : (Nat × Nat) × Bool} : den ⟨fnOf, specO, L⟩ (n+1) 99 [.agg [.cpx s.1.1 s.1.2, .v (.bool s.2)]] = some (.v (.bool (mayF s))) ∧ den ⟨fnOf, specO, L⟩ (n+1) 59 [.agg [.cpx s.1.1 s.1.2, .v (.bool s.2)]] = some (.v (.bool (mayF s))) := by
  obtain ⟨⟨a, b⟩, c⟩ := s
  unfold mayF
  cases c with
  | true =>
    refine ⟨gma_0 rfl, ?_⟩
    show den _ _ _ _ = some (.v (.bool (feq a 0 && feq b 0)))
    cases h : feq a 0 with
    | true => exact gMa_0 rfl h
    | false => exact gMa_1 rfl h
  | false =>
    show den _ _ _ _ = some (.v (.bool (onF a && onF b))) ∧ den _ _ _ _ = some (.v (.bool (onF a && onF b)))
    cases h : onF a with
    | true => exact ⟨gma_1 rfl h, gMa_2 rfl h⟩
    | false => exact ⟨gma_2 rfl h, gMa_3 rfl h⟩
theorem checks_den (ss : List ((Nat × Nat) × Bool)) (hL : 65536 ≤ L) : ∃ k e : Int, ((e = 0 ↔ ss.length ≤ 65536 ∧ ∀ i, i < ss.length → mayF (ss.getD i ((0, 0), false)) = true) ∧ (e = 0 ∨ e = 1 ∧ 65536 < ss.length ∨ e = 7 ∧ ss.length ≤ 65536)) ∧ den ⟨fnOf, specO, L+1⟩ (n+2) 100 [.lst 2 (ss.map celS)] = some (.tup [.int .i64 k, .int .i64 e]) ∧ den ⟨fnOf, specO, L+1⟩ (n+2) 73 [.lst 2 (ss.map celS)] = some (.tup [.int .i64 k, .int .i64 e]) := by
  have hl : (ss.map celS).length = ss.length := map_len
  by_cases hbig : 65536 < ss.length
  · exact ⟨0, 1, ⟨⟨fun h => absurd h (by decide), fun h => by omega⟩, .inr (.inl ⟨rfl, hbig⟩)⟩, gcd_0 (i := 0) (π := []) (by rw [hl]; exact dT (by omega)), gpd_0 (i := 0) (π := []) (by rw [hl]; exact dT (by omega))⟩
  · have g0 : decide (((ss.map celS).length : Int) > 65536) = false := by rw [hl]; exact dF (by omega)
    have d0 : ((0, 0), false) = (((0, 0), false) : (Nat × Nat) × Bool) := rfl
    have r1 : ∀ i, i < ss.length → mayF (ss.getD i ((0, 0), false)) = true → seeZ 0 [0, 4] m100.res (bodyOf ⟨fnOf, specO, L+1⟩ (runF ⟨fnOf, specO, L+1⟩ (n+1)) 0 m100b0 (i :: [6]) (gcdSt ss i)) = some (.go .nrm (gcdSt ss (i + 1))) := fun i hi hm => by
      have := @gcb_1 (L+1) (n+1) ss i [6] (ss.getD i ((0, 0), false)) true (by rw [hl]; exact dLt hi) (elD_map (f := celS) hi) (by rw [← hm]; exact call_den may_den.2) rfl
      rw [wrapUp hi (by omega)] at this
      exact this
    have r2 : ∀ i, i < ss.length → mayF (ss.getD i ((0, 0), false)) = true → seeZ 0 [9, 10, 11] m73.res (bodyOf ⟨fnOf, specO, L+1⟩ (runF ⟨fnOf, specO, L+1⟩ (n+1)) 0 m73b0 (i :: [8]) (gcpSt ss i)) = some (.go .nrm (gcpSt ss (i + 1))) := fun i hi hm => by
      have := @gpb_1 (L+1) (n+1) ss i [8] (ss.getD i ((0, 0), false)) true (by rw [hl]; exact dLt hi) (elD_map (f := celS) hi) (by rw [← hm]; exact call_den may_den.1) rfl
      rw [wrapUp hi (by omega)] at this
      exact this
    rcases firstN (fun i => mayF (ss.getD i ((0, 0), false))) ss.length with hall | ⟨k, hk, hp, hb⟩
    · refine ⟨0, 0, ⟨⟨fun _ => ⟨by omega, hall⟩, fun _ => rfl⟩, .inl rfl⟩, gcd_1 (i := ss.length) (π := []) g0 ?_, gpd_1 (i := ss.length) (π := []) g0 ?_⟩
      · exact loopX (res := m100.res) (fun i => gcdSt ss i) ss.length rfl (by omega) (fun i hi => r1 i hi (hall i hi)) (@gcb_2 (L+1) (n+1) ss ss.length [6] (by rw [hl]; exact dNlt)) (by simp)
      · exact loopX (res := m73.res) (fun i => gcpSt ss i) ss.length rfl (by omega) (fun i hi => r2 i hi (hall i hi)) (@gpb_2 (L+1) (n+1) ss ss.length [8] (by rw [hl]; exact dNlt)) (by simp)
    · have hb : mayF (ss.getD k ((0, 0), false)) = false := hb
      have m1 := (@may_den (L+1) n (ss.getD k ((0, 0), false))).1
      have m2 := (@may_den (L+1) n (ss.getD k ((0, 0), false))).2
      rw [hb] at m1 m2
      obtain ⟨s1, a1, b1⟩ := loopZ (P := ⟨fnOf, specO, L+1⟩) (C := runF ⟨fnOf, specO, L+1⟩ (n+1)) (π := [6]) (res := m100.res) (fun i => gcdSt ss i) k rfl (by omega) (fun i hi => r1 i (by omega) (hp i hi))
        (@gcb_0 (L+1) (n+1) ss k [6] (ss.getD k ((0, 0), false)) false (by rw [hl]; exact dLt hk) (elD_map (f := celS) hk) (call_den m2) rfl)
      obtain ⟨s2, a2, b2⟩ := loopZ (P := ⟨fnOf, specO, L+1⟩) (C := runF ⟨fnOf, specO, L+1⟩ (n+1)) (π := [8]) (res := m73.res) (fun i => gcpSt ss i) k rfl (by omega) (fun i hi => r2 i (by omega) (hp i hi))
        (@gpb_0 (L+1) (n+1) ss k [8] (ss.getD k ((0, 0), false)) false (by rw [hl]; exact dLt hk) (elD_map (f := celS) hk) (call_den m1) rfl)
      exact ⟨k, 7, ⟨⟨fun h => absurd h (by decide), fun h => absurd (h.2 k hk) (by rw [hb]; decide)⟩, .inr (.inr ⟨rfl, by omega⟩)⟩, gct_1 (i := 0) (π := []) g0 a1 b1, gpt_1 (i := 0) (π := []) g0 a2 b2⟩
end
theorem chk_ex (ss : List ((Nat × Nat) × Bool)) : ∃ w : Int × Int, ((w.2 = 0 ↔ ss.length ≤ 65536 ∧ ∀ i, i < ss.length → mayF (ss.getD i ((0, 0), false)) = true) ∧ (w.2 = 0 ∨ w.2 = 1 ∧ 65536 < ss.length ∨ w.2 = 7 ∧ ss.length ≤ 65536)) ∧
    den ⟨fnOf, specO, 65537⟩ 2 100 [.lst 2 (ss.map celS)] = some (.tup [.int .i64 w.1, .int .i64 w.2]) ∧ den ⟨fnOf, specO, 65537⟩ 2 73 [.lst 2 (ss.map celS)] = some (.tup [.int .i64 w.1, .int .i64 w.2]) := by
  obtain ⟨k, e, h⟩ := @checks_den 65536 0 ss (Nat.le_refl _)
  exact ⟨(k, e), h⟩
noncomputable def chkW (ss : List ((Nat × Nat) × Bool)) : Int × Int := Classical.choose (chk_ex ss)
theorem chkW_is (ss : List ((Nat × Nat) × Bool)) : (((chkW ss).2 = 0 ↔ ss.length ≤ 65536 ∧ ∀ i, i < ss.length → mayF (ss.getD i ((0, 0), false)) = true) ∧ ((chkW ss).2 = 0 ∨ (chkW ss).2 = 1 ∧ 65536 < ss.length ∨ (chkW ss).2 = 7 ∧ ss.length ≤ 65536)) ∧
    den ⟨fnOf, specO, 65537⟩ 2 100 [.lst 2 (ss.map celS)] = some (.tup [.int .i64 (chkW ss).1, .int .i64 (chkW ss).2]) ∧ den ⟨fnOf, specO, 65537⟩ 2 73 [.lst 2 (ss.map celS)] = some (.tup [.int .i64 (chkW ss).1, .int .i64 (chkW ss).2]) := Classical.choose_spec (chk_ex ss)
noncomputable def chkA (ss : List ((Nat × Nat) × Bool)) : AV := .tup [.int .i64 (chkW ss).1, .int .i64 (chkW ss).2]
noncomputable def chkSemS : List AV → Option AV
  | [.lst 2 els] => (unL unS els).map chkA
  | _ => none
theorem chkSemS_is {avs : List AV} {r : AV} (h : chkSemS avs = some r) : ∃ ss, avs = [.lst 2 (ss.map celS)] ∧ r = chkA ss := by
  unfold chkSemS at h
  split at h
  · rename_i els
    rw [Option.map_eq_some_iff] at h
    obtain ⟨ts, h1, rfl⟩ := h
    have := unL_inv (enc := celS) unS_is h1
    subst this
    exact ⟨ts, rfl, rfl⟩
  · cases h
theorem chkSemS_at (ss : List ((Nat × Nat) × Bool)) : chkSemS [.lst 2 (ss.map celS)] = some (chkA ss) := by simp only [chkSemS, unS_L, Option.map_some]
noncomputable def newV : FuncId → Option (List AV → Option AV)
  | 73 => some chkSemS
  | 100 => some chkSemS
  | _ => none
noncomputable def specV : FuncId → Option (List AV → Option AV) := fun f => match newV f with | some g => some g | none => specO f
theorem spec_v : SpecOk Try.prog ⟨fnOf, specV, 0⟩ :=
  spec_addz spec_o (fun L => fnsOk _ _) follows newV fun f g h => by
    unfold newV at h
    split at h
    · cases h
      refine ⟨⟨_, Try.func73, ne_of_beq_false (by kernel_rfl), by kernel_rfl⟩, fun avs r h => ?_⟩
      obtain ⟨ss, rfl, rfl⟩ := chkSemS_is h
      exact toldZ (P := ⟨fnOf, specO, 0⟩) (chkW_is ss).2.2 (WkT.refl _)
    · cases h
      refine ⟨⟨_, Try.func100, ne_of_beq_false (by kernel_rfl), by kernel_rfl⟩, fun avs r h => ?_⟩
      obtain ⟨ss, rfl, rfl⟩ := chkSemS_is h
      exact toldZ (P := ⟨fnOf, specO, 0⟩) (chkW_is ss).2.1 (WkT.refl _)
    · cases h
end Go.Proofs.Ythcgeajojgecnaa.Fw
