/- pulse.Stretch answers as the document's Stretch does; Turned and Stretch, spoken for. -/
import Derived.Test.YtaklelfdcbgebaaLwChC
set_option maxRecDepth 100000
set_option maxHeartbeats 4000000
set_option linter.unusedSimpArgs false
set_option linter.unusedVariables false
namespace Go.Proofs.Ytaklelfdcbgebaa.Fw
open Go Go.RowKit
section
variable {L n : Nat} {rate fore m : Int} {ts : List Nat}
theorem strOut_err {c : Int} (h : strC rate fore ts m = c) (h0 : c ≠ 0) : strOut rate fore ts m = .tup [.agg [.int .i64 0, .int .i64 0, .nils], .int .i64 c] := by
  unfold strOut; rw [h, if_neg h0]
theorem stretch_both (hL : 64 ≤ L) : den ⟨fnOf, specL, L+1⟩ (n+1) 26 [.agg [.int .i64 rate, .int .i64 fore, .lst 1 (ts.map celF)], .int .i64 m] = some (strOut rate fore ts m) ∧
    den ⟨fnOf, specL, L+1⟩ (n+1) 27 [.agg [.int .i64 rate, .int .i64 fore, .lst 1 (ts.map celF)], .int .i64 m] = some (strOut rate fore ts m) := by
  have hc := spec_is (P := ⟨fnOf, specL, L+1⟩) (C := runF ⟨fnOf, specL, L+1⟩ n) (f := 28) rfl (chkSem_at rate fore ts)
  have hd := spec_is (P := ⟨fnOf, specL, L+1⟩) (C := runF ⟨fnOf, specL, L+1⟩ n) (f := 29) rfl (chkSem_at rate fore ts)
  by_cases h0 : chkF rate fore ts = 0
  · have b0 : (chkF rate fore ts != 0) = false := by rw [h0]; rfl
    obtain ⟨r1, r2, r3, r4, r5, _⟩ := chkF_ok h0
    have hr : rate ≠ 0 := by omega
    by_cases h1 : m < 1
    · rw [strOut_err (c := 1) (by unfold strC; rw [if_neg (by simpa using h0), if_pos (.inl h1)]) (by decide)]
      exact ⟨st_1 (mm := 0) (out := []) (i := 0) hc b0 (dT h1), sd_1 (out := []) (st := []) (o := 0) (i := 0) hd b0 (dT h1)⟩
    obtain ⟨q1, q2⟩ := rate_m r1 r2 (show 1 ≤ m by omega)
    obtain ⟨t1, t2⟩ := tdiv8 r1 r2
    have w8 : IntKind.wrap .i64 ((8 : Int).tdiv rate) = (8 : Int).tdiv rate := wrap_id (by omega)
    by_cases h2 : 8 < rate * m
    · rw [strOut_err (c := 1) (by unfold strC; rw [if_neg (by simpa using h0), if_pos (.inr h2)]) (by decide)]
      refine ⟨st_2 (mm := 0) (out := []) (i := 0) hc b0 (dF h1) hr (by rw [w8]; exact dT (q1.2 h2)), ?_⟩
      by_cases h3 : m > 8
      · exact sd_2 (out := []) (st := []) (o := 0) (i := 0) hd b0 (dF h1) (dT h3)
      · have hs := mul_small (a := m) (r := rate) (by omega) (by omega) r1 r2
        rw [Int.mul_comm] at hs
        exact sd_3 (out := []) (st := []) (o := 0) (i := 0) hd b0 (dF h1) (dF h3) (by rw [wrap_id (by omega)]; exact dT h2)
    have hm8 := m_small r1 (show 1 ≤ m by omega) (by omega)
    obtain ⟨M, rfl⟩ : ∃ M : Nat, m = M := ⟨m.toNat, by omega⟩
    have hM : 0 < M := by omega
    have hM8 : M ≤ 8 := by omega
    have hts : 0 < ts.length := by omega
    have hb : (ts.length - 1) * M ≤ 63 * 8 := Nat.mul_le_mul (by omega) hM8
    have hcast : ((ts.length : Int) - 1) * (M : Int) + 1 = (((ts.length - 1) * M + 1 : Nat) : Int) := by
      rw [show (ts.length : Int) - 1 = ((ts.length - 1 : Nat) : Int) by omega, ← Int.natCast_mul]; omega
    have hw : IntKind.wrap .i64 (IntKind.wrap .i64 (IntKind.wrap .i64 (((ts.map celF).length : Int) - 1) * (M : Int)) + 1) = (((ts.length - 1) * M + 1 : Nat) : Int) := by
      rw [map_len, wrap_id (n := (ts.length : Int) - 1) (by omega), wrap_id (n := ((ts.length : Int) - 1) * (M : Int)) (by omega), wrap_id (by omega), hcast]
    have hs := mul_small (a := (M : Int)) (r := rate) (by omega) (by omega) r1 r2
    rw [Int.mul_comm] at hs
    have hf : 0 ≤ fore * (M : Int) ∧ fore * (M : Int) ≤ 64 * 8 := ⟨Int.mul_nonneg r3 (by omega), Int.le_trans (Int.mul_le_mul_of_nonneg_right (show fore ≤ 64 by omega) (by omega)) (Int.mul_le_mul_of_nonneg_left (by omega) (by omega))⟩
    have b1 : decide ((M : Int) > IntKind.wrap .i64 ((8 : Int).tdiv rate)) = false := dF (by rw [w8]; exact fun h => h2 (q1.1 h))
    have b2 : decide (IntKind.wrap .i64 (rate * (M : Int)) > 8) = false := dF (by rw [wrap_id (by omega)]; exact h2)
    obtain ⟨s', l2, st, rfl⟩ := @stretchD_loop L n rate fore ts M hL hM hM8 hts r5
    by_cases h3 : 64 < (ts.length - 1) * M + 1
    · rw [strOut_err (c := 8) (by unfold strC; rw [if_neg (by simpa using h0), if_neg (by omega), if_pos (by rw [hcast]; omega)]) (by decide)]
      exact ⟨st_3 (mm := 0) (out := []) (i := 0) hc b0 (dF h1) hr b1 (by rw [hw]; exact dT (by omega)), sd_4 hd b0 (dF h1) (dF (by omega)) b2 l2 (dT (by omega))⟩
    · have e0 : strC rate fore ts M = 0 := by unfold strC; rw [if_neg (by simpa using h0), if_neg (by omega), if_neg (by rw [hcast]; omega)]
      have e1 : strOut rate fore ts M = .tup [.agg [.int .i64 (rate * M), .int .i64 (fore * M), .own 1 ((gS M ts ((ts.length - 1) * M + 1)).map celF) true], .int .i64 0] := by
        unfold strOut; rw [if_pos e0, Int.toNat_natCast]
      rw [e1]
      have l1 := @stretchP_loop L n rate fore ts M hL hM hM8 hts r5 _ rfl
      have p1 := @st_4 (L+1) n rate fore (M : Nat) ts (gS M ts ((ts.length - 1) * M + 1)) ((ts.length - 1) * M + 1) ts.length _ hc b0 (dF h1) hr b1 (by rw [hw]; exact dF (by omega)) (mk_ok (f := celF) (a := 0) hw (by simp only [most]; omega) (by simp only [most]; omega)) l1 (by show _ ≤ _; rw [show List.length _ = _ from map_len, gS_len]; exact Nat.le_refl _)
      have p2 := @sd_5 (L+1) n rate fore (M : Nat) ts (gS M ts ((ts.length - 1) * M + 1)) st ((ts.length - 1) * M + 1) ts.length _ hd b0 (dF h1) (dF (by omega)) b2 l2 (dF (by omega)) (by show _ ≤ _; rw [show List.length _ = _ from map_len, gS_len]; exact Nat.le_refl _)
      rw [takeMap gS_len.symm, wrap_id (n := rate * (M : Int)) (by omega), wrap_id (n := fore * (M : Int)) (by omega)] at p1 p2
      exact ⟨p1, p2⟩
  · have b0 : (chkF rate fore ts != 0) = true := by simpa using h0
    rw [strOut_err (c := chkF rate fore ts) (by unfold strC; rw [if_pos h0]) h0]
    exact ⟨st_0 (mm := 0) (out := []) (i := 0) hc b0, sd_0 (out := []) (st := []) (o := 0) (i := 0) hd b0⟩
theorem turned_bad (h0 : chkF rate fore ts ≠ 0) : den ⟨fnOf, specL, L⟩ (n+1) 24 [.agg [.int .i64 rate, .int .i64 fore, .lst 1 (ts.map celF)]] = some (.tup [.agg [.int .i64 0, .int .i64 0, .nils], .int .i64 (chkF rate fore ts)]) ∧
    den ⟨fnOf, specL, L⟩ (n+1) 25 [.agg [.int .i64 rate, .int .i64 fore, .lst 1 (ts.map celF)]] = some (.tup [.agg [.int .i64 0, .int .i64 0, .nils], .int .i64 (chkF rate fore ts)]) := by
  have hc := spec_is (P := ⟨fnOf, specL, L⟩) (C := runF ⟨fnOf, specL, L⟩ n) (f := 28) rfl (chkSem_at rate fore ts)
  have hd := spec_is (P := ⟨fnOf, specL, L⟩) (C := runF ⟨fnOf, specL, L⟩ n) (f := 29) rfl (chkSem_at rate fore ts)
  have b0 : (chkF rate fore ts != 0) = true := by simpa using h0
  exact ⟨tu_0 (vs := []) hc b0, ud_0 (i := 0) (out := []) (st := []) (π := []) (o := 0) hd b0⟩
end
/-- a pulse and a number, as an answer -/
def pulA (r f : Int) (us : List Nat) (e : Int) : AV := .tup [.agg [.int .i64 r, .int .i64 f, .own 1 (us.map celF) true], .int .i64 e]
theorem wk_bad (e : Int) : WkT (.tup [.agg [.int .i64 0, .int .i64 0, .nils], .int .i64 e]) (pulA 0 0 [] e) :=
  .inl ⟨_, _, rfl, rfl, .inl ⟨_, _, rfl, rfl, .inl rfl, .inl rfl, .inr ⟨rfl, 1, true, rfl⟩, trivial⟩, .inr (.inl rfl), trivial⟩
def strL (rate fore : Int) (ts : List Nat) (m : Int) : List Nat := if strC rate fore ts m = 0 then gS m.toNat ts ((ts.length - 1) * m.toNat + 1) else []
def trnA (rate fore : Int) (ts : List Nat) : AV := pulA (trnF rate fore ts).1 (trnF rate fore ts).2.1 (trnL rate fore ts) (trnF rate fore ts).2.2
def strA (rate fore : Int) (ts : List Nat) (m : Int) : AV := pulA (if strC rate fore ts m = 0 then rate * m else 0) (if strC rate fore ts m = 0 then fore * m else 0) (strL rate fore ts m) (strC rate fore ts m)
def trnSem : List AV → Option AV
  | [.agg [.v (.int .i64 rate), .v (.int .i64 fore), .lst 1 els]] => (unL unF els).map fun ts => trnA rate fore ts
  | _ => none
def strSem : List AV → Option AV
  | [.agg [.v (.int .i64 rate), .v (.int .i64 fore), .lst 1 els], .v (.int .i64 m)] => (unL unF els).map fun ts => strA rate fore ts m
  | _ => none
theorem trnSem_is {avs : List AV} {r : AV} (h : trnSem avs = some r) : ∃ rate fore ts, avs = [.agg [.int .i64 rate, .int .i64 fore, .lst 1 (ts.map celF)]] ∧ r = trnA rate fore ts := by
  unfold trnSem at h
  split at h
  · rename_i rate fore els
    rw [Option.map_eq_some_iff] at h
    obtain ⟨ts, h1, rfl⟩ := h
    have := unL_inv (enc := celF) unF_is h1
    subst this
    exact ⟨rate, fore, ts, rfl, rfl⟩
  · cases h
theorem strSem_is {avs : List AV} {r : AV} (h : strSem avs = some r) : ∃ rate fore ts m, avs = [.agg [.int .i64 rate, .int .i64 fore, .lst 1 (ts.map celF)], .int .i64 m] ∧ r = strA rate fore ts m := by
  unfold strSem at h
  split at h
  · rename_i rate fore els m
    rw [Option.map_eq_some_iff] at h
    obtain ⟨ts, h1, rfl⟩ := h
    have := unL_inv (enc := celF) unF_is h1
    subst this
    exact ⟨rate, fore, ts, m, rfl, rfl⟩
  · cases h
theorem toldW {P : Prog} {f : FuncId} {avs : List AV} {r r1 : AV} {L k : Nat} (h : den ⟨P.fn, P.spec, L⟩ k f avs = some r1) (hw : WkT r1 r) : ∃ avs1 L k r1, All2 WiA avs avs1 ∧ den ⟨P.fn, P.spec, L⟩ k f avs1 = some r1 ∧ WkT r1 r :=
  ⟨avs, L, k, r1, all2_refl WiA.refl _, h, hw⟩
theorem strOut_wk (rate fore : Int) (ts : List Nat) (m : Int) : WkT (strOut rate fore ts m) (strA rate fore ts m) := by
  by_cases h : strC rate fore ts m = 0
  · have : strA rate fore ts m = strOut rate fore ts m := by
      unfold strA strOut strL pulA
      rw [if_pos h, if_pos h, if_pos h, if_pos h, h]
    rw [this]; exact WkT.refl _
  · have e : strA rate fore ts m = pulA 0 0 [] (strC rate fore ts m) := by
      unfold strA strL; rw [if_neg h, if_neg h, if_neg h]
    rw [e, strOut_err rfl h]
    exact wk_bad _
def newT : FuncId → Option (List AV → Option AV)
  | 24 => some trnSem
  | 25 => some trnSem
  | 26 => some strSem
  | 27 => some strSem
  | _ => none
/-- Turned and Stretch, too -/
def specT : FuncId → Option (List AV → Option AV) := fun f => match newT f with | some g => some g | none => specL f
theorem spec_t : SpecOk Try.prog ⟨fnOf, specT, 0⟩ :=
  spec_adds spec_l (fun L => fnsOk _ _) follows newT fun f g h => by
    have ok : ∀ (rate fore : Int) (ts : List Nat), chkF rate fore ts = 0 → trnA rate fore ts = .tup [.agg [.int .i64 rate, .int .i64 (ts.length - 1 - fore), .own 1 (ts.reverse.map celF) true], .int .i64 0] := fun rate fore ts h0 => by
      unfold trnA trnF trnL pulA
      rw [if_pos h0, if_pos h0]
    have bad : ∀ (rate fore : Int) (ts : List Nat), chkF rate fore ts ≠ 0 → trnA rate fore ts = pulA 0 0 [] (chkF rate fore ts) := fun rate fore ts h0 => by
      unfold trnA trnF trnL
      rw [if_neg h0, if_neg h0]
    unfold newT at h
    split at h
    · cases h
      refine ⟨⟨_, Try.func24, ne_of_beq_false (by kernel_rfl), by kernel_rfl⟩, fun avs r h => ?_⟩
      obtain ⟨rate, fore, ts, rfl, rfl⟩ := trnSem_is h
      by_cases h0 : chkF rate fore ts = 0
      · rw [ok _ _ _ h0]
        exact toldW (P := ⟨fnOf, specL, 0⟩) (turnedP_ok (L := 64) (n := 0) (Nat.le_refl _) h0) (WkT.refl _)
      · rw [bad _ _ _ h0]
        exact toldW (P := ⟨fnOf, specL, 0⟩) (turned_bad (L := 0) (n := 0) h0).1 (wk_bad _)
    · cases h
      refine ⟨⟨_, Try.func25, ne_of_beq_false (by kernel_rfl), by kernel_rfl⟩, fun avs r h => ?_⟩
      obtain ⟨rate, fore, ts, rfl, rfl⟩ := trnSem_is h
      by_cases h0 : chkF rate fore ts = 0
      · rw [ok _ _ _ h0]
        exact toldW (P := ⟨fnOf, specL, 0⟩) (turnedD_ok (L := 64) (n := 0) (Nat.le_refl _) h0) (WkT.refl _)
      · rw [bad _ _ _ h0]
        exact toldW (P := ⟨fnOf, specL, 0⟩) (turned_bad (L := 0) (n := 0) h0).2 (wk_bad _)
    · cases h
      refine ⟨⟨_, Try.func26, ne_of_beq_false (by kernel_rfl), by kernel_rfl⟩, fun avs r h => ?_⟩
      obtain ⟨rate, fore, ts, m, rfl, rfl⟩ := strSem_is h
      exact toldW (P := ⟨fnOf, specL, 0⟩) (stretch_both (L := 64) (n := 0) (Nat.le_refl _)).1 (strOut_wk _ _ _ _)
    · cases h
      refine ⟨⟨_, Try.func27, ne_of_beq_false (by kernel_rfl), by kernel_rfl⟩, fun avs r h => ?_⟩
      obtain ⟨rate, fore, ts, m, rfl, rfl⟩ := strSem_is h
      exact toldW (P := ⟨fnOf, specL, 0⟩) (stretch_both (L := 64) (n := 0) (Nat.le_refl _)).2 (strOut_wk _ _ _ _)
    · cases h
/-! ### like themselves -/
end Go.Proofs.Ytaklelfdcbgebaa.Fw
