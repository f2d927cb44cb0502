/- train: against, the program's and the document's: signs times samples. -/
import Derived.Test.YthcgeajojgecnaaLwRwA
set_option maxRecDepth 100000
set_option maxHeartbeats 4000000
set_option exponentiation.threshold 4000
set_option linter.unusedSimpArgs false
set_option linter.unusedVariables false
namespace Go.Proofs.Ythcgeajojgecnaa.Fw
open Go Go.RowKit
/-- so many steps -/
def stK (x : Nat) : Int := (fv (up12 x)).tdiv (2 ^ 1074)
theorem on_grid {a : Nat} (h : wi a = true) (hz : fv (up12 a) % 2 ^ 1074 = 0) : grid (stK a) a ∧ (stK a).natAbs ≤ 2 ^ 22 := by
  obtain ⟨f1, f2⟩ := wi_fin h
  obtain ⟨h1, h2, h3⟩ := up12_is h
  have hG : (2 : Int) ^ 1074 = ((2 ^ 1074 : Nat) : Int) := by rw [Int.natCast_pow]; rfl
  have hpos : (0 : Int) < 2 ^ 1074 := Int.pow_pos (by decide)
  have e : fv (up12 a) = stK a * 2 ^ 1074 := by
    unfold stK
    have := Int.tdiv_mul_cancel (a := fv (up12 a)) (b := 2 ^ 1074) (Int.dvd_of_emod_eq_zero hz)
    exact this.symm
  have e2 : fv a = stK a * 2 ^ 1062 := by
    have hp : (0 : Int) < 2 ^ 12 := Int.pow_pos (by decide)
    have : fv a * 2 ^ 12 = (stK a * 2 ^ 1062) * 2 ^ 12 := by rw [← h2, e, Int.mul_assoc, ← Int.pow_add]
    exact Int.eq_of_mul_eq_mul_right (by omega) this
  refine ⟨⟨f1, e2⟩, ?_⟩
  have hb : (stK a).natAbs * 2 ^ 1062 ≤ 2 ^ 22 * 2 ^ 1062 := by
    rw [e2, Int.natAbs_mul, Int.natAbs_pow] at f2
    calc (stK a).natAbs * 2 ^ 1062 ≤ 2 ^ 1084 := f2
      _ = 2 ^ 22 * 2 ^ 1062 := by rw [← Nat.pow_add]
  exact Nat.le_of_mul_le_mul_right hb (Nat.pow_pos (by decide))
theorem zero_wi {a : Nat} (h : feq a 0 = true) : wi a = true ∧ fv (up12 a) = 0 := by
  have hr : Ieee.double.read 0 = .number false 0 (-1074) := by decide
  have h0 : fin 0 := ⟨_, _, _, hr, by decide⟩
  have r0 : rk 0 = 0 := by rw [rk_fin h0, fv_of hr, signed_zero]
  rw [feq_rk, r0] at h
  simp only [Bool.and_eq_true, decide_eq_true_eq, Bool.not_eq_true'] at h
  obtain ⟨⟨h1, _⟩, h2⟩ := h
  obtain ⟨e1, e2, e3, e4⟩ := edge_is
  have hw : wi a = true := by
    unfold wi
    rw [fge_rk, fle_rk, e1, e2, e3, e4, h1, h2]
    have p : (0 : Int) < 2 ^ 1084 := Int.pow_pos (by decide)
    generalize (2 : Int) ^ 1084 = B at *
    simp only [Bool.not_false, Bool.true_and, Bool.and_eq_true, decide_eq_true_eq]
    omega
  refine ⟨hw, ?_⟩
  have hf : fin a := (wi_fin hw).1
  obtain ⟨_, q, _⟩ := up12_is hw
  rw [q, ← rk_fin hf, h2, Int.zero_mul]
theorem may_grid {s : (Nat × Nat) × Bool} (h : mayF s = true) : (wi s.1.1 = true ∧ grid (stK s.1.1) s.1.1 ∧ (stK s.1.1).natAbs ≤ 2 ^ 22) ∧ (wi s.1.2 = true ∧ grid (stK s.1.2) s.1.2 ∧ (stK s.1.2).natAbs ≤ 2 ^ 22) := by
  have part : ∀ a, onF a = true ∨ feq a 0 = true → wi a = true ∧ grid (stK a) a ∧ (stK a).natAbs ≤ 2 ^ 22 := by
    intro a ha
    rcases ha with ha | ha
    · unfold onF at ha
      rw [Bool.and_eq_true] at ha
      obtain ⟨h1, h2⟩ := ha
      rw [(on_iff h1).1] at h2
      exact ⟨h1, on_grid h1 (of_decide_eq_true h2)⟩
    · obtain ⟨h1, h2⟩ := zero_wi ha
      exact ⟨h1, on_grid h1 (by rw [h2]; exact Int.zero_emod _)⟩
  unfold mayF at h
  split at h
  · rw [Bool.and_eq_true] at h
    exact ⟨part _ (.inr h.1), part _ (.inr h.2)⟩
  · rw [Bool.and_eq_true] at h
    exact ⟨part _ (.inl h.1), part _ (.inl h.2)⟩
theorem st_conv {a : Nat} (h : wi a = true) : ftoInt (up12 a) .i64 = some (stK a) := by
  obtain ⟨q1, _, _⟩ := up12_is h
  obtain ⟨_, q2, _⟩ := trunc_is q1 (up12_lt h)
  exact q2
/-- a sign times a number of the grid -/
theorem sign_grid {x K : Int} {a : Nat} (hx : x = 1 ∨ x = -1) (h : grid K a) (hK : K.natAbs < 2 ^ 53) : grid (x * K) (fmul (fofInt x) a) := by
  have hxb : x.natAbs < 2 ^ 53 := by rcases hx with rfl | rfl <;> decide
  obtain ⟨f1, f2⟩ := fofInt_exact hxb
  have hst : stout (fofInt x) := by
    unfold stout
    right
    rw [f2, Int.natAbs_mul, Int.natAbs_pow]
    have : x.natAbs = 1 := by rcases hx with rfl | rfl <;> rfl
    rw [this, Nat.one_mul]
    exact Nat.pow_le_pow_right (by decide) (by decide)
  have hb : (x * K).natAbs < 2 ^ 53 := by
    rw [Int.natAbs_mul]
    rcases hx with rfl | rfl <;> simpa using hK
  exact fmul_exact f1 h.1 hst (grid_stout h) (V := x * K * 2 ^ 1062) (by rw [f2, h.2]; rw [Int.mul_assoc, Int.mul_assoc, Int.mul_left_comm (2 ^ 1074), Int.mul_comm (2 ^ 1074) (2 ^ 1062), ← Int.mul_assoc, ← Int.mul_assoc]) (fits_grid hb (by decide))
section
variable {ss : List ((Nat × Nat) × Bool)} {sg : List Int} {att r : Nat}
/-- the sum so far, by a part of the samples -/
def sumS (pt : (Nat × Nat) × Bool → Int) (ss : List ((Nat × Nat) × Bool)) (sg : List Int) (att r : Nat) : Nat → Int
  | 0 => 0
  | i + 1 => sumS pt ss sg att r i + (if att + i * r < ss.length then sg.getD i 0 * pt (ss.getD (att + i * r) ((0, 0), false)) else 0)
def okS (ss : List ((Nat × Nat) × Bool)) (att r : Nat) : Nat → Bool
  | 0 => true
  | i + 1 => okS ss att r i && (if att + i * r < ss.length then !(ss.getD (att + i * r) ((0, 0), false)).2 else true)
def ptR (s : (Nat × Nat) × Bool) : Int := stK s.1.1
def ptI (s : (Nat × Nat) × Bool) : Int := stK s.1.2
theorem sumS_bound {pt : (Nat × Nat) × Bool → Int} (hp : ∀ i, i < ss.length → (pt (ss.getD i ((0, 0), false))).natAbs ≤ 2 ^ 22) (hs : ∀ i, i < sg.length → sg.getD i 0 = 1 ∨ sg.getD i 0 = -1) : ∀ {i : Nat}, i ≤ sg.length → (sumS pt ss sg att r i).natAbs ≤ i * 2 ^ 22
  | 0, _ => by simp [sumS]
  | i + 1, hi => by
    have h1 := sumS_bound hp hs (i := i) (by omega)
    rw [sumS]
    split
    · rename_i h
      have h2 := hp _ h
      rcases hs i (by omega) with e | e
      · rw [e]; omega
      · rw [e]; omega
    · omega
theorem sumS_stay {pt : (Nat × Nat) × Bool → Int} {m : Nat} (h : ss.length ≤ att + m * r) : ∀ {i : Nat}, m ≤ i → sumS pt ss sg att r i = sumS pt ss sg att r m ∧ okS ss att r i = okS ss att r m := by
  intro i hi
  induction i with
  | zero => obtain rfl : m = 0 := by omega
            exact ⟨rfl, rfl⟩
  | succ i ih =>
    by_cases e : m = i + 1
    · subst e; exact ⟨rfl, rfl⟩
    · obtain ⟨a, b⟩ := ih (by omega)
      have : m * r ≤ i * r := Nat.mul_le_mul_right _ (by omega)
      rw [sumS, okS, if_neg (by omega), if_neg (by omega), a, b, Int.add_zero, Bool.and_true]
      exact ⟨rfl, rfl⟩
theorem okS_all {m : Nat} (h : ∀ i, i < m → (decide (att + i * r < ss.length) && !(ss.getD (att + i * r) ((0, 0), false)).2) = true) : ∀ {i : Nat}, i ≤ m → okS ss att r i = true
  | 0, _ => rfl
  | i + 1, hi => by
    have := h i (by omega)
    rw [Bool.and_eq_true] at this
    rw [okS, okS_all h (by omega), Bool.true_and]
    split
    · exact this.2
    · rfl
theorem okS_no {m : Nat} (h1 : att + m * r < ss.length) (h2 : (ss.getD (att + m * r) ((0, 0), false)).2 = true) : ∀ {i : Nat}, m < i → okS ss att r i = false
  | 0, hi => by omega
  | i + 1, hi => by
    rw [okS]
    by_cases e : m = i
    · subst e; rw [if_pos h1, h2]; simp
    · rw [okS_no h1 h2 (by omega)]; rfl
end
section
variable {σ : FuncId → Option (List AV → Option AV)} {L n : Nat} {ss : List ((Nat × Nat) × Bool)} {sg : List Int} {att r : Nat}
theorem against_doc (hm : ∀ i, i < ss.length → mayF (ss.getD i ((0, 0), false)) = true) (hs : ∀ i, i < sg.length → sg.getD i 0 = 1 ∨ sg.getD i 0 = -1) (hl : ss.length ≤ 65536) (hg : sg.length ≤ 4096) (hr : r ≤ 8) (ha : att ≤ 1000000) (hL : 4096 ≤ L) :
    den ⟨fnOf, σ, L+1⟩ (n+1) 77 [.lst 2 (ss.map celS), .int .i64 att, .int .i64 r, .lst 1 (sg.map celJ)] = some (.tup [.int .i64 (sumS ptR ss sg att r sg.length), .int .i64 (sumS ptI ss sg att r sg.length), .v (.bool (okS ss att r sg.length))]) := by
  have gl : (sg.map celJ).length = sg.length := map_len
  have sl : (ss.map celS).length = ss.length := map_len
  have bR : ∀ i, i < ss.length → (ptR (ss.getD i ((0, 0), false))).natAbs ≤ 2 ^ 22 := fun i hi => (may_grid (hm i hi)).1.2.2
  have bI : ∀ i, i < ss.length → (ptI (ss.getD i ((0, 0), false))).natAbs ≤ 2 ^ 22 := fun i hi => (may_grid (hm i hi)).2.2.2
  refine @twd_0 σ (L+1) n ss sg att r 0 sg.length 0 [] 0 0 _ _ _ ?_
  refine loop0 (fun i => twdSt ss att r sg (sumS ptR ss sg att r i) (sumS ptI ss sg att r i) (okS ss att r i) i) sg.length rfl (by omega) (fun i hi => ?_) ?_ (by simp)
  · have him : i * r ≤ 4096 * 8 := Nat.mul_le_mul (by omega) hr
    have w1 : IntKind.wrap .i64 ((i : Int) * (r : Int)) = ((i * r : Nat) : Int) := by rw [← Int.natCast_mul, wrap_id (by omega)]
    have w2 : IntKind.wrap .i64 ((att : Int) + ((i * r : Nat) : Int)) = ((att + i * r : Nat) : Int) := by rw [← Int.natCast_add, wrap_id (by omega)]
    by_cases hin : att + i * r < ss.length
    · obtain ⟨⟨wR, gR, kR⟩, ⟨wI, gI, kI⟩⟩ := may_grid (hm _ hin)
      have b1 := sumS_bound bR hs (att := att) (r := r) (i := i) (by omega)
      have b2 := sumS_bound bI hs (att := att) (r := r) (i := i) (by omega)
      have eR : sumS ptR ss sg att r (i + 1) = IntKind.wrap .i64 (sumS ptR ss sg att r i + IntKind.wrap .i64 (IntKind.wrap .i64 (sg.getD i 0) * stK (ss.getD (att + i * r) ((0, 0), false)).1.1)) := by
        rw [sumS, if_pos hin]
        show _ + sg.getD i 0 * stK _ = _
        rcases hs i hi with e | e
        · rw [e, show IntKind.wrap .i64 1 = 1 from rfl, wrap_id (n := 1 * _) (by omega), wrap_id (by omega)]
        · rw [e, show IntKind.wrap .i64 (-1) = -1 from rfl, wrap_id (n := -1 * _) (by omega), wrap_id (by omega)]
      have eI : sumS ptI ss sg att r (i + 1) = IntKind.wrap .i64 (sumS ptI ss sg att r i + IntKind.wrap .i64 (IntKind.wrap .i64 (sg.getD i 0) * stK (ss.getD (att + i * r) ((0, 0), false)).1.2)) := by
        rw [sumS, if_pos hin]
        show _ + sg.getD i 0 * stK _ = _
        rcases hs i hi with e | e
        · rw [e, show IntKind.wrap .i64 1 = 1 from rfl, wrap_id (n := 1 * _) (by omega), wrap_id (by omega)]
        · rw [e, show IntKind.wrap .i64 (-1) = -1 from rfl, wrap_id (n := -1 * _) (by omega), wrap_id (by omega)]
      have eO : okS ss att r (i + 1) = (okS ss att r i && !(ss.getD (att + i * r) ((0, 0), false)).2) := by rw [okS, if_pos hin]
      have hge : decide (IntKind.wrap .i64 ((att : Int) + IntKind.wrap .i64 ((i : Int) * (r : Int))) ≥ (((ss.map celS).length : Nat) : Int)) = false := by rw [w1, w2, sl]; exact dF (by omega)
      have d1 : Con.holds ⟨fnOf, σ, L+1⟩ (runF ⟨fnOf, σ, L+1⟩ n) (.el (ss.map celS) (.int .i64 (IntKind.wrap .i64 ((att : Int) + IntKind.wrap .i64 ((i : Int) * (r : Int))))) [.cpx (ss.getD (att + i * r) ((0, 0), false)).1.1 (ss.getD (att + i * r) ((0, 0), false)).1.2, .v (.bool (ss.getD (att + i * r) ((0, 0), false)).2)]) := by
        rw [w1, w2]; exact elD_map (f := celS) hin
      have d2 : Con.holds ⟨fnOf, σ, L+1⟩ (runF ⟨fnOf, σ, L+1⟩ n) (.el (sg.map celJ) (.int .i64 i) [.int .i8 (sg.getD i 0)]) := elD_map (f := celJ) hi
      have c1 : Con.holds ⟨fnOf, σ, L+1⟩ (runF ⟨fnOf, σ, L+1⟩ n) (.any 0 ([37, i] ++ [7]) (MO.mk (some 53) (MOp.conv (ConvK.toInt .i64) (Opd.t 52)) none [12, 11, 10, 9, 8, 7, 6]) [(52, (.flt (fmul (ss.getD (att + i * r) ((0, 0), false)).1.1 4661225614328463360)))] [] (.v (.int .i64 (stK (ss.getD (att + i * r) ((0, 0), false)).1.1))) []) := by
        show (((ftoInt (up12 _) .i64).map (AV.int .i64)).map fun v => (v, ([] : Heap))) = _
        rw [st_conv wR]; rfl
      have c2 : Con.holds ⟨fnOf, σ, L+1⟩ (runF ⟨fnOf, σ, L+1⟩ n) (.any 0 ([54, i] ++ [7]) (MO.mk (some 69) (MOp.conv (ConvK.toInt .i64) (Opd.t 68)) none [12, 11, 10, 9, 8, 7, 6]) [(68, (.flt (fmul (ss.getD (att + i * r) ((0, 0), false)).1.2 4661225614328463360)))] [] (.v (.int .i64 (stK (ss.getD (att + i * r) ((0, 0), false)).1.2))) []) := by
        show (((ftoInt (up12 _) .i64).map (AV.int .i64)).map fun v => (v, ([] : Heap))) = _
        rw [st_conv wI]; rfl
      show rnd _ _ _ = some (.nrm, twdSt ss att r sg (sumS ptR ss sg att r (i + 1)) (sumS ptI ss sg att r (i + 1)) (okS ss att r (i + 1)) (i + 1))
      rw [eR, eI, eO]
      cases hok : okS ss att r i with
      | true =>
        have := @twe_1 σ (L+1) n ss sg att r 0 i 0 [7] 0 0 (sumS ptR ss sg att r i) (sumS ptI ss sg att r i) true _ _ (ss.getD (att + i * r) ((0, 0), false)) (sg.getD i 0) (ss.getD (att + i * r) ((0, 0), false)) (sg.getD i 0) (ss.getD (att + i * r) ((0, 0), false))
          (by rw [gl]; exact dLt hi) hge rfl d1 d2 d1 c1 d2 d1 c2
        rw [wrapUp hi (by omega)] at this
        rw [Bool.true_and]
        exact this
      | false =>
        have := @twe_2 σ (L+1) n ss sg att r 0 i 0 [7] 0 0 (sumS ptR ss sg att r i) (sumS ptI ss sg att r i) false _ _ (sg.getD i 0) (ss.getD (att + i * r) ((0, 0), false)) (sg.getD i 0) (ss.getD (att + i * r) ((0, 0), false))
          (by rw [gl]; exact dLt hi) hge rfl d2 d1 c1 d2 d1 c2
        rw [wrapUp hi (by omega)] at this
        rw [Bool.false_and]
        exact this
    · have := @twe_0 σ (L+1) n ss sg att r 0 i 0 [7] 0 0 (sumS ptR ss sg att r i) (sumS ptI ss sg att r i) (okS ss att r i) 0 0 (by rw [gl]; exact dLt hi) (by rw [w1, w2, sl]; exact dT (by omega))
      rw [wrapUp hi (by omega)] at this
      rw [this]
      show _ = some (Ex.nrm, twdSt ss att r sg (sumS ptR ss sg att r (i + 1)) (sumS ptI ss sg att r (i + 1)) (okS ss att r (i + 1)) (i + 1))
      rw [sumS, sumS, okS, if_neg hin, if_neg hin, if_neg hin, Int.add_zero, Int.add_zero, Bool.and_true]
      rfl
  · exact @twe_3 σ (L+1) n ss sg att r 0 sg.length 0 [7] 0 0 _ _ _ 0 0 (by rw [gl]; exact dNlt)
theorem grid_nought : grid 0 0 := by
  have hr : Ieee.double.read 0 = .number false 0 (-1074) := by decide
  exact ⟨⟨_, _, _, hr, by decide⟩, by rw [fv_of hr, signed_zero, Int.zero_mul]⟩
/-- a round of the program's -/
theorem against_step (hm : ∀ i, i < ss.length → mayF (ss.getD i ((0, 0), false)) = true) (hs : ∀ i, i < sg.length → sg.getD i 0 = 1 ∨ sg.getD i 0 = -1) (hl : ss.length ≤ 65536) (hg : sg.length ≤ 4096) (hr : r ≤ 8) (ha : att ≤ 1000000)
    {i : Nat} (hi : i < sg.length) (hin : att + i * r < ss.length) (hlost : (ss.getD (att + i * r) ((0, 0), false)).2 = false) {re im : Nat} (g1 : grid (sumS ptR ss sg att r i) re) (g2 : grid (sumS ptI ss sg att r i) im) :
    ∃ re' im', seeZ 0 [0, 1, 2, 10, 11, 14, 15, 16] m74.res (bodyOf ⟨fnOf, σ, L+1⟩ (runF ⟨fnOf, σ, L+1⟩ n) 0 m74b0 (i :: [7]) (twaSt ss ((att + i * r : Nat) : Int) r re im sg i)) = some (.go .nrm (twaSt ss ((att + (i + 1) * r : Nat) : Int) r re' im' sg (i + 1))) ∧
      grid (sumS ptR ss sg att r (i + 1)) re' ∧ grid (sumS ptI ss sg att r (i + 1)) im' := by
  have gl : (sg.map celJ).length = sg.length := map_len
  have sl : (ss.map celS).length = ss.length := map_len
  have bR : ∀ i, i < ss.length → (ptR (ss.getD i ((0, 0), false))).natAbs ≤ 2 ^ 22 := fun i hi => (may_grid (hm i hi)).1.2.2
  have bI : ∀ i, i < ss.length → (ptI (ss.getD i ((0, 0), false))).natAbs ≤ 2 ^ 22 := fun i hi => (may_grid (hm i hi)).2.2.2
  have b1 := sumS_bound bR hs (att := att) (r := r) (i := i + 1) (by omega)
  have b2 := sumS_bound bI hs (att := att) (r := r) (i := i + 1) (by omega)
  obtain ⟨⟨wR, gR, kR⟩, ⟨wI, gI, kI⟩⟩ := may_grid (hm _ hin)
  have him : i * r ≤ 4096 * 8 := Nat.mul_le_mul (by omega) hr
  have w : IntKind.wrap .i64 (((att + i * r : Nat) : Int) + (r : Int)) = ((att + (i + 1) * r : Nat) : Int) := by
    rw [Nat.succ_mul, ← Nat.add_assoc, Int.natCast_add (att + i * r) r, wrap_id (by omega)]
  have d1 : Con.holds ⟨fnOf, σ, L+1⟩ (runF ⟨fnOf, σ, L+1⟩ n) (.el (ss.map celS) (.int .i64 ((att + i * r : Nat) : Int)) [.cpx (ss.getD (att + i * r) ((0, 0), false)).1.1 (ss.getD (att + i * r) ((0, 0), false)).1.2, .v (.bool (ss.getD (att + i * r) ((0, 0), false)).2)]) := elD_map (f := celS) hin
  have d2 : Con.holds ⟨fnOf, σ, L+1⟩ (runF ⟨fnOf, σ, L+1⟩ n) (.el (sg.map celJ) (.int .i64 i) [.int .i8 (sg.getD i 0)]) := elD_map (f := celJ) hi
  have := @twb_2 σ (L+1) n ss sg ((att + i * r : Nat) : Int) r 0 i 0 [7] re im 0 0 false (sg.getD i 0) (ss.getD (att + i * r) ((0, 0), false)) (ss.getD (att + i * r) ((0, 0), false)) (ss.getD (att + i * r) ((0, 0), false))
    (by rw [gl]; exact dLt hi) d2 (by rw [sl]; exact dF (by omega)) d1 hlost d1 d1
  rw [wrapUp hi (by omega), w] at this
  have eR : sumS ptR ss sg att r (i + 1) = sumS ptR ss sg att r i + sg.getD i 0 * stK (ss.getD (att + i * r) ((0, 0), false)).1.1 := by rw [sumS, if_pos hin]; rfl
  have eI : sumS ptI ss sg att r (i + 1) = sumS ptI ss sg att r i + sg.getD i 0 * stK (ss.getD (att + i * r) ((0, 0), false)).1.2 := by rw [sumS, if_pos hin]; rfl
  refine ⟨_, _, this, ?_, ?_⟩
  · rw [eR] at b1 ⊢
    exact grid_add g1 (sign_grid (hs i hi) gR (by omega)) (by omega)
  · rw [eI] at b2 ⊢
    exact grid_add g2 (sign_grid (hs i hi) gI (by omega)) (by omega)
theorem against_prog (hm : ∀ i, i < ss.length → mayF (ss.getD i ((0, 0), false)) = true) (hs : ∀ i, i < sg.length → sg.getD i 0 = 1 ∨ sg.getD i 0 = -1) (hl : ss.length ≤ 65536) (hg : sg.length ≤ 4096) (hr : r ≤ 8) (ha : att ≤ 1000000) (hL : 4096 ≤ L) :
    ∃ re im, den ⟨fnOf, σ, L+1⟩ (n+1) 74 [.lst 2 (ss.map celS), .int .i64 att, .int .i64 r, .lst 1 (sg.map celJ)] = some (.tup [.cpx re im, .v (.bool (okS ss att r sg.length))]) ∧
      (okS ss att r sg.length = true → grid (sumS ptR ss sg att r sg.length) re ∧ grid (sumS ptI ss sg att r sg.length) im) := by
  have gl : (sg.map celJ).length = sg.length := map_len
  have sl : (ss.map celS).length = ss.length := map_len
  have e0 : att + 0 * r = att := by omega
  have run : ∀ m, m ≤ sg.length → (∀ i, i < m → (decide (att + i * r < ss.length) && !(ss.getD (att + i * r) ((0, 0), false)).2) = true) → ∀ {x : Ex} (hx : x ≠ .nrm) (Q : St → Prop),
      (∀ re im, grid (sumS ptR ss sg att r m) re → grid (sumS ptI ss sg att r m) im → ∃ s', rnd 0 [0, 1, 2, 10, 11, 14, 15, 16] (bodyOf ⟨fnOf, σ, L+1⟩ (runF ⟨fnOf, σ, L+1⟩ n) 0 m74b0 (m :: [7]) (twaSt ss ((att + m * r : Nat) : Int) r re im sg m)) = some (x, s') ∧ Q s') →
      ∃ s', Con.holds ⟨fnOf, σ, L+1⟩ (runF ⟨fnOf, σ, L+1⟩ n) (.loop 0 [0, 1, 2, 10, 11, 14, 15, 16] m74b0 [7] (twaSt ss att r 0 0 sg 0) x s') ∧ Q s' := by
    intro m hml hp x hx Q he
    refine loopJ (P := ⟨fnOf, σ, L+1⟩) (C := runF ⟨fnOf, σ, L+1⟩ n) (L := L) (d := 0) (live := [0, 1, 2, 10, 11, 14, 15, 16]) (π := [7]) (m := m74b0) (A := twaSt ss att r 0 0 sg 0)
      (fun i s => ∃ re im, s = twaSt ss ((att + i * r : Nat) : Int) r re im sg i ∧ grid (sumS ptR ss sg att r i) re ∧ grid (sumS ptI ss sg att r i) im) Q m hx rfl (by omega) ⟨0, 0, by rw [e0], grid_nought, grid_nought⟩ (fun i s hi hst => ?_) (fun s hst => ?_)
    · obtain ⟨re, im, rfl, g1, g2⟩ := hst
      have hpi := hp i hi
      rw [Bool.and_eq_true] at hpi
      obtain ⟨re', im', a, b, c⟩ := against_step (σ := σ) (L := L) (n := n) hm hs hl hg hr ha (i := i) (by omega) (of_decide_eq_true hpi.1) (by simpa using hpi.2) g1 g2
      exact ⟨_, seeZ_go a, re', im', rfl, b, c⟩
    · obtain ⟨re, im, rfl, g1, g2⟩ := hst
      exact he re im g1 g2
  rcases firstN (fun i => decide (att + i * r < ss.length) && !(ss.getD (att + i * r) ((0, 0), false)).2) sg.length with hall | ⟨m, hml, hp, hb⟩
  · have hok : okS ss att r sg.length = true := okS_all hall (Nat.le_refl _)
    obtain ⟨s', l1, re, im, k, i, rfl, g1, g2⟩ := run sg.length (Nat.le_refl _) hall (x := .exit 0) (by simp) (fun s => ∃ re im k i, s = twaSt ss k r re im sg i ∧ grid (sumS ptR ss sg att r sg.length) re ∧ grid (sumS ptI ss sg att r sg.length) im) (fun re im g1 g2 =>
      ⟨_, seeZ_go (@twb_3 σ (L+1) n ss sg ((att + sg.length * r : Nat) : Int) r 0 sg.length 0 [7] re im 0 0 false (by rw [gl]; exact dNlt)), re, im, _, _, rfl, g1, g2⟩)
    refine ⟨re, im, ?_, fun _ => ⟨g1, g2⟩⟩
    rw [hok]
    exact @twa_0 σ (L+1) n ss sg att r k i 0 [] re im 0 0 false l1
  · have d2 : Con.holds ⟨fnOf, σ, L+1⟩ (runF ⟨fnOf, σ, L+1⟩ n) (.el (sg.map celJ) (.int .i64 m) [.int .i8 (sg.getD m 0)]) := elD_map (f := celJ) hml
    by_cases hin : att + m * r < ss.length
    · have hlost : (ss.getD (att + m * r) ((0, 0), false)).2 = true := by
        have hb : (decide (att + m * r < ss.length) && !(ss.getD (att + m * r) ((0, 0), false)).2) = false := hb
        rw [decide_eq_true hin, Bool.true_and] at hb
        simpa using hb
      have hok : okS ss att r sg.length = false := okS_no hin hlost hml
      have d1 : Con.holds ⟨fnOf, σ, L+1⟩ (runF ⟨fnOf, σ, L+1⟩ n) (.el (ss.map celS) (.int .i64 ((att + m * r : Nat) : Int)) [.cpx (ss.getD (att + m * r) ((0, 0), false)).1.1 (ss.getD (att + m * r) ((0, 0), false)).1.2, .v (.bool (ss.getD (att + m * r) ((0, 0), false)).2)]) := elD_map (f := celS) hin
      obtain ⟨s', l1, ho⟩ := run m (by omega) hp (x := .ret) (by simp) (fun s => outS s m74.res = some (.tup [.cpx 0 0, .v (.bool false)])) (fun re im g1 g2 => by
        have := @twb_1 σ (L+1) n ss sg ((att + m * r : Nat) : Int) r 0 m 0 [7] re im 0 0 false (sg.getD m 0) (ss.getD (att + m * r) ((0, 0), false)) (by rw [gl]; exact dLt hml) d2 (by rw [sl]; exact dF (by omega)) d1 hlost
        exact seeZ_out this)
      refine ⟨0, 0, ?_, fun h => by rw [hok] at h; cases h⟩
      rw [hok]
      exact @twt_0 σ (L+1) n ss sg att r 0 0 0 [] 0 0 0 0 false s' _ l1 ho
    · have hst := sumS_stay (sg := sg) (pt := ptR) (show ss.length ≤ att + m * r by omega) (i := sg.length) (by omega)
      have hst2 := sumS_stay (sg := sg) (pt := ptI) (show ss.length ≤ att + m * r by omega) (i := sg.length) (by omega)
      have hok : okS ss att r sg.length = true := by rw [hst.2]; exact okS_all hp (Nat.le_refl _)
      obtain ⟨s', l1, re, im, k, i, rfl, g1, g2⟩ := run m (by omega) hp (x := .exit 0) (by simp) (fun s => ∃ re im k i, s = twaSt ss k r re im sg i ∧ grid (sumS ptR ss sg att r m) re ∧ grid (sumS ptI ss sg att r m) im) (fun re im g1 g2 =>
        ⟨_, seeZ_go (@twb_0 σ (L+1) n ss sg ((att + m * r : Nat) : Int) r 0 m 0 [7] re im 0 0 false (sg.getD m 0) (by rw [gl]; exact dLt hml) d2 (by rw [sl]; exact dT (by omega))), re, im, _, _, rfl, g1, g2⟩)
      refine ⟨re, im, ?_, fun _ => ⟨by rw [hst.1]; exact g1, by rw [hst2.1]; exact g2⟩⟩
      rw [hok]
      exact @twa_0 σ (L+1) n ss sg att r k i 0 [] re im 0 0 false l1
end
end Go.Proofs.Ythcgeajojgecnaa.Fw
