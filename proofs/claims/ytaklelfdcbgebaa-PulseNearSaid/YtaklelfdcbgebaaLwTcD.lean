/- pulse.Touch answers as the document's Touch does; PulseTouches holds for all plain arguments. -/
import Derived.Test.YtaklelfdcbgebaaLwTcC
set_option maxRecDepth 100000
set_option maxHeartbeats 4000000
set_option linter.unusedSimpArgs false
set_option linter.unusedVariables false
namespace Go.Proofs.Ytaklelfdcbgebaa.Fw
open Go Go.RowKit
theorem touch_iff {att i r l : Int} (r1 : 1 ≤ r) (r2 : r ≤ 8) (hi : 0 ≤ i) (ha : 0 ≤ att) (hl : 1 ≤ l) : (0 ≤ att - i * r ↔ i < att / r + 1) ∧ (att - i * r < l ↔ max 0 (att - l + r) / r ≤ i) := by
  have e : r = 1 ∨ r = 2 ∨ r = 3 ∨ r = 4 ∨ r = 5 ∨ r = 6 ∨ r = 7 ∨ r = 8 := by omega
  rcases e with rfl | rfl | rfl | rfl | rfl | rfl | rfl | rfl <;> omega
theorem quot_bounds {a r : Int} (r1 : 1 ≤ r) (ha : 0 ≤ a) (h : a ≤ 100000) : 0 ≤ a / r ∧ a / r ≤ 100000 ∧ a.tdiv r = a / r := by
  refine ⟨Int.ediv_nonneg ha (by omega), Int.le_trans (Int.ediv_le_self r ha) h, Int.tdiv_eq_ediv_of_nonneg ha⟩
/-- the points that a sample is touched by: the first of them, one behind the last -/
def frF (rate att : Int) (l : Nat) : Int := max 0 (att - l + rate) / rate
def hiF (rate att : Int) : Int := att / rate + 1
def tT (fr hi : Int) (j : Int) : Int × Int := if fr < min j hi then (fr, min j hi) else (0, 0)
theorem tT_in {fr hi : Int} {j : Nat} (h0 : 0 ≤ fr) (h1 : fr ≤ j) (h2 : (j : Int) < hi) : tT fr hi ((j + 1 : Nat) : Int) = (if (tT fr hi j).2 == 0 then (j : Int) else (tT fr hi j).1, ((j + 1 : Nat) : Int)) := by
  unfold tT
  rw [if_pos (by omega), show min ((j + 1 : Nat) : Int) hi = ((j + 1 : Nat) : Int) by omega]
  by_cases h : fr < min (j : Int) hi
  · rw [if_pos h]
    have : ((fr, min (j : Int) hi).2 == 0) = false := by rw [beq_eq_false_iff_ne]; simp only; omega
    rw [this]; rfl
  · rw [if_neg h]
    have : fr = j := by omega
    subst this; rfl
theorem tT_out {fr hi : Int} {j : Nat} (h : ¬ (fr ≤ j ∧ (j : Int) < hi)) : tT fr hi ((j + 1 : Nat) : Int) = tT fr hi j := by
  unfold tT
  by_cases h1 : fr < min (j : Int) hi
  · rw [if_pos h1, if_pos (by omega), show min ((j + 1 : Nat) : Int) hi = min (j : Int) hi by omega]
  · rw [if_neg h1, if_neg (by omega)]
def tchF (rate fore : Int) (ts : List Nat) (k att : Int) : Int × Int × Int :=
  if (lenF rate fore ts k).2 ≠ 0 then (0, 0, (lenF rate fore ts k).2)
  else if att < 0 ∨ (lenF rate fore ts k).1 ≤ att then (0, 0, 1)
  else ((tT (frF rate att ts.length) (hiF rate att) k).1, (tT (frF rate att ts.length) (hiF rate att) k).2, 0)
section
variable {L n : Nat} {rate fore k att : Int} {ts : List Nat}
theorem touch_both (hL : 65536 ≤ L) : den ⟨fnOf, specL, L+1⟩ (n+1) 15 [.agg [.int .i64 rate, .int .i64 fore, .lst 1 (ts.map celF)], .int .i64 k, .int .i64 att] = some (.tup [.int .i64 (tchF rate fore ts k att).1, .int .i64 (tchF rate fore ts k att).2.1, .int .i64 (tchF rate fore ts k att).2.2]) ∧
    den ⟨fnOf, specL, L+1⟩ (n+1) 16 [.agg [.int .i64 rate, .int .i64 fore, .lst 1 (ts.map celF)], .int .i64 k, .int .i64 att] = some (.tup [.int .i64 (tchF rate fore ts k att).1, .int .i64 (tchF rate fore ts k att).2.1, .int .i64 (tchF rate fore ts k att).2.2]) := by
  have hc := spec_is (P := ⟨fnOf, specL, L+1⟩) (C := runF ⟨fnOf, specL, L+1⟩ n) (f := 13) rfl (lenSem_at rate fore ts k)
  have hd := spec_is (P := ⟨fnOf, specL, L+1⟩) (C := runF ⟨fnOf, specL, L+1⟩ n) (f := 14) rfl (lenSem_at rate fore ts k)
  by_cases h0 : (lenF rate fore ts k).2 = 0
  · have b0 : ((lenF rate fore ts k).2 != 0) = false := by rw [h0]; rfl
    by_cases h1 : att < 0
    · have e : tchF rate fore ts k att = (0, 0, 1) := by unfold tchF; rw [if_neg (by simpa using h0), if_pos (.inl h1)]
      rw [e]
      exact ⟨tc_1 hc b0 (dT h1), td_1 (fr := 0) (bh := 0) (i := 0) (π := []) hd b0 (dT h1)⟩
    by_cases h2 : att ≥ (lenF rate fore ts k).1
    · have e : tchF rate fore ts k att = (0, 0, 1) := by unfold tchF; rw [if_neg (by simpa using h0), if_pos (.inr h2)]
      rw [e]
      exact ⟨tc_2 hc b0 (dF h1) (dT h2), td_2 (fr := 0) (bh := 0) (i := 0) (π := []) hd b0 (dF h1) (dT h2)⟩
    have e : tchF rate fore ts k att = ((tT (frF rate att ts.length) (hiF rate att) k).1, (tT (frF rate att ts.length) (hiF rate att) k).2, 0) := by
      unfold tchF; rw [if_neg (by simpa using h0), if_neg (by omega)]
    rw [e]
    obtain ⟨q1, q2, q3, q4⟩ := lenF_ok h0
    obtain ⟨r1, r2, r3, r4, r5, _⟩ := chkF_ok q1
    have hk : 0 < k ∧ att < 65536 := by
      rcases q4 with ⟨_, q4⟩ | ⟨q4, q5, q6⟩ <;> omega
    have hr : rate ≠ 0 := by omega
    obtain ⟨a1, a2, a3⟩ := quot_bounds (a := att) (r := rate) r1 (by omega) (by omega)
    obtain ⟨c1, c2, c3⟩ := quot_bounds (a := max 0 (att - ts.length + rate)) (r := rate) r1 (by omega) (by omega)
    have hlen : ((ts.map celF).length : Int) = ts.length := by rw [map_len]
    have w1 : IntKind.wrap .i64 (IntKind.wrap .i64 (att - ((ts.map celF).length : Int)) + rate) = att - ts.length + rate := by
      rw [hlen, wrap_id (n := att - ts.length) (by omega), wrap_id (by omega)]
    have w2 : (if att - (ts.length : Int) + rate > 0 then att - (ts.length : Int) + rate else 0) = max 0 (att - ts.length + rate) := by
      split <;> omega
    have w3 : IntKind.wrap .i64 ((max 0 (att - ts.length + rate)).tdiv rate) = frF rate att ts.length := by
      rw [c3, wrap_id (by omega)]; rfl
    have w4 : IntKind.wrap .i64 (IntKind.wrap .i64 (att.tdiv rate) + 1) = hiF rate att := by
      rw [a3, wrap_id (n := att / rate) (by omega), wrap_id (by omega)]; rfl
    have w5 : (if hiF rate att < k then hiF rate att else k) = min k (hiF rate att) := by
      split <;> omega
    refine ⟨?_, ?_⟩
    · by_cases h3 : frF rate att ts.length < min k (hiF rate att)
      · have := @tc_4 (L+1) n rate fore k att ts _ _ hc b0 (dF h1) (dF h2) hr (by rw [w1, w2, w3, w4, w5]; exact dF (by omega))
        rw [w1, w2, w3, w4, w5] at this
        rw [show tT (frF rate att ts.length) (hiF rate att) k = (frF rate att ts.length, min k (hiF rate att)) from if_pos h3]
        exact this
      · have := @tc_3 (L+1) n rate fore k att ts _ _ hc b0 (dF h1) (dF h2) hr (by rw [w1, w2, w3, w4, w5]; exact dT (by omega))
        rw [show tT (frF rate att ts.length) (hiF rate att) k = (0, 0) from if_neg h3]
        exact this
    · obtain ⟨K, rfl⟩ : ∃ K : Nat, k = K := ⟨k.toNat, by omega⟩
      have hfr : 0 ≤ frF rate att ts.length := c1
      have lp : Con.holds ⟨fnOf, specL, L+1⟩ (runF ⟨fnOf, specL, L+1⟩ n) (.loop 0 [1, 2, 3, 11, 12, 13] m16b0 [24] (tdSt rate fore K att ts 0 0 0) (.exit 0)
          (tdSt rate fore K att ts (tT (frF rate att ts.length) (hiF rate att) K).1 (tT (frF rate att ts.length) (hiF rate att) K).2 K)) := by
        have z : tT (frF rate att ts.length) (hiF rate att) ((0 : Nat) : Int) = (0, 0) := if_neg (by omega)
        have hA : tdSt rate fore K att ts 0 0 0 = (fun i : Nat => tdSt rate fore K att ts (tT (frF rate att ts.length) (hiF rate att) i).1 (tT (frF rate att ts.length) (hiF rate att) i).2 i) 0 := by
          show _ = tdSt rate fore K att ts (tT _ _ ((0 : Nat) : Int)).1 (tT _ _ ((0 : Nat) : Int)).2 0
          rw [z]
        rw [hA]
        refine loop0 (fun i : Nat => tdSt rate fore K att ts (tT (frF rate att ts.length) (hiF rate att) i).1 (tT (frF rate att ts.length) (hiF rate att) i).2 i) K rfl (by omega) (fun i hi => ?_) ?_ (by simp)
        · have hw := wrapUp hi (by omega)
          have hs := mul_small (a := (i : Int)) (r := rate) (by omega) (by omega) r1 r2
          have hm : IntKind.wrap .i64 (att - IntKind.wrap .i64 ((i : Int) * rate)) = att - i * rate := by
            rw [wrap_id (n := (i : Int) * rate) (by omega), wrap_id (by omega)]
          obtain ⟨t1, t2⟩ := touch_iff (att := att) (i := i) (r := rate) (l := ts.length) r1 r2 (by omega) (by omega) (by omega)
          generalize hT : tT (frF rate att ts.length) (hiF rate att) i = T
          obtain ⟨fr, bh⟩ := T
          by_cases h3 : 0 ≤ att - i * rate
          · by_cases h4 : att - i * rate < ts.length
            · have hin := @tT_in (frF rate att ts.length) (hiF rate att) i hfr (t2.1 h4) (t1.1 h3)
              rw [hT] at hin
              cases hb : bh == 0 with
              | true =>
                have := @tr_0 (L+1) n rate fore K att fr bh ts i [24] (dLt hi) (by rw [hm]; exact dT h3) (by rw [hm, hlen]; exact dT h4) hb
                rw [hw] at this
                rw [hin]
                simp only [hb]
                exact this
              | false =>
                have := @tr_1 (L+1) n rate fore K att fr bh ts i [24] (dLt hi) (by rw [hm]; exact dT h3) (by rw [hm, hlen]; exact dT h4) hb
                rw [hw] at this
                rw [hin]
                simp only [hb]
                exact this
            · have := @tr_2 (L+1) n rate fore K att fr bh ts i [24] (dLt hi) (by rw [hm]; exact dT h3) (by rw [hm, hlen]; exact dF h4)
              rw [hw] at this
              rw [tT_out (by rintro ⟨g1, _⟩; exact h4 (t2.2 g1)), hT]
              exact this
          · have := @tr_3 (L+1) n rate fore K att fr bh ts i [24] (dLt hi) (by rw [hm]; exact dF h3)
            rw [hw] at this
            rw [tT_out (by rintro ⟨_, g1⟩; exact h3 (t1.2 g1)), hT]
            exact this
        · exact @tr_4 (L+1) n rate fore K att _ _ ts K [24] dNlt
      exact td_3 (π := []) hd b0 (dF h1) (dF h2) lp
  · have b0 : ((lenF rate fore ts k).2 != 0) = true := by simpa using h0
    have e : tchF rate fore ts k att = (0, 0, (lenF rate fore ts k).2) := by unfold tchF; rw [if_pos h0]
    rw [e]
    exact ⟨tc_0 hc b0, td_0 (fr := 0) (bh := 0) (i := 0) (π := []) hd b0⟩
end
section
variable {L n : Nat} {rate fore at1 k att : Int} {xs : List Int} {odd : Nat}
end
end Go.Proofs.Ytaklelfdcbgebaa.Fw
