/- math.Ldexp: six or twelve places more, exactly, of every number that is not too great; strait.of. -/
import Derived.Test.YtnphdnokedhhkaaLwLdB
import Derived.Test.YtnphdnokedhhkaaLwNrC
set_option maxRecDepth 100000
set_option maxHeartbeats 4000000
set_option exponentiation.threshold 4000
set_option linter.unusedSimpArgs false
set_option linter.unusedVariables false
namespace Go.Proofs.Ytnphdnokedhhkaa.Fw
open Go Go.RowKit
section
variable {L n : Nat}
theorem one_read : Ieee.double.read 4607182418800017408 = .number false (2 ^ 52) (0 - 52) := by decide
theorem least_read : Ieee.double.read 4368491638549381120 = .number false (2 ^ 52) (-53 - 52) := by decide
theorem big52 : Ieee.double.read 4841369599423283200 = .number false (2 ^ 52) ((52 : Nat) - 52 : Int) := by decide
theorem least_norm : fin 4503599627370496 ∧ fv 4503599627370496 = 2 ^ 52 := ⟨⟨false, 2 ^ 52, -1074, by decide, by decide⟩, by kernel_rfl⟩
/-- a number made normal: its exponent's part told by D -/
theorem norm_den {x : Nat} (hx : fin x) (h0 : fv x ≠ 0) : ∃ y D : Nat, den ⟨fnOf, specAbs, L⟩ (n+1) 81 [.flt x] = some (.tup [.flt y, .int .i64 (-(D : Int))]) ∧ fin y ∧ fv y = fv x * 2 ^ D ∧ 2 ^ 52 ≤ (fv y).natAbs ∧ (D = 0 ∨ D = 52 ∧ (fv x).natAbs < 2 ^ 52) := by
  obtain ⟨l1, l2⟩ := least_norm
  have ha : fin (absF x) ∧ fv (absF x) = ((fv x).natAbs : Int) := by
    have hn := fin_num hx
    unfold absF
    rw [hn]
    simp only [Bool.false_eq_true, if_false]
    obtain ⟨s, m, i, hr, hi⟩ := hx
    have h2 := read_low x hr
    refine ⟨⟨_, _, _, h2, hi⟩, ?_⟩
    rw [fv_of h2, fv_of hr, signed_abs]
    unfold Ieee.signed
    simp [Nat.shiftLeft_eq]
  cases hb : flt (absF x) 4503599627370496 with
  | true =>
    have hlt : (fv x).natAbs < 2 ^ 52 := by
      rw [flt_fin ha.1 l1, ha.2, l2] at hb
      have := of_decide_eq_true hb
      omega
    obtain ⟨q1, q2⟩ := fmul_pow2 (k := 52) hx big52 (Nat.lt_trans (Nat.mul_lt_mul_of_pos_right hlt (by decide)) (by rw [← Nat.pow_add]; exact Nat.pow_lt_pow_right (by decide) (by decide)))
    refine ⟨_, 52, lnm_0 (k := 0) (e := 0) (b := 0) (w := 0) hb, q1, q2, ?_, .inr ⟨rfl, hlt⟩⟩
    rw [q2, Int.natAbs_mul, Int.natAbs_pow]
    exact Nat.le_mul_of_pos_left _ (Int.natAbs_pos.2 h0)
  | false =>
    have hle : 2 ^ 52 ≤ (fv x).natAbs := by
      rw [flt_fin ha.1 l1, ha.2, l2] at hb
      have := of_decide_eq_false hb
      omega
    exact ⟨x, 0, lnm_1 (k := 0) (e := 0) (b := 0) (w := 0) hb, hx, by simp, hle, .inl rfl⟩
theorem e_mess {b k D : Nat} (hk : k ≤ 12) (hD : D ≤ 52) : IntKind.wrap .i64 (IntKind.wrap .i64 ((k : Int) + -(D : Int)) + IntKind.wrap .i64 (IntKind.wrap .i64 ((BitVec.ofInt 64 (IntKind.wrap .i64 ((b : Int).fdiv (2 ^ 52))) &&& BitVec.ofInt 64 (2047)).toNat : Int) - 1023)) = (k : Int) - D + (b / 2 ^ 52 % 2048 : Nat) - 1023 := by
  rw [exp_bits]
  have : b / 2 ^ 52 % 2048 < 2048 := Nat.mod_lt _ (by decide)
  generalize b / 2 ^ 52 % 2048 = E at *
  rw [wrap_id (n := (E : Int)) (by omega), wrap_id (n := (E : Int) - 1023) (by omega), wrap_id (n := (k : Int) + -(D : Int)) (by omega), wrap_id (by omega)]
  omega
theorem w_mess {b E : Nat} {e : Int} (he : IntKind.wrap .i64 (e + 1023) = (E : Int)) (hE : E < 2048) : (IntKind.wrap .u64 ((BitVec.ofInt 64 (IntKind.wrap .u64 ((BitVec.ofInt 64 (b : Int) &&& ~~~BitVec.ofInt 64 (9218868437227405312)).toNat : Int)) ||| BitVec.ofInt 64 (IntKind.wrap .u64 (IntKind.wrap .u64 (IntKind.wrap .i64 (e + 1023)) * 2 ^ 52))).toNat : Int)).toNat = 2 ^ 63 * (b / 2 ^ 63 % 2) + (2 ^ 52 * E + b % 2 ^ 52) := by
  rw [and_bits, he, wrapU (n := (E : Int)) (by omega) (by omega)]
  have e1 : (E : Int) * 2 ^ 52 = ((E * 2 ^ 52 : Nat) : Int) := by rw [Int.natCast_mul]; rfl
  rw [e1, wrapU (n := ((E * 2 ^ 52 : Nat) : Int)) (by omega) (by omega), wrapU (n := ((2 ^ 63 * (b / 2 ^ 63 % 2) + b % 2 ^ 52 : Nat) : Int)) (by omega) (by omega), or_bits (by omega) (by omega) hE, wrapU (by omega) (by omega)]
  exact Int.toNat_natCast _
theorem bits_told {P : Prog} {C : Caller} {d : Nat} {π : List Nat} {y : Nat} (h : isNaN y = false) : Con.holds P C (.any d π (MO.mk (some 29) (MOp.extern ExtK.bits [(Opd.t 28)]) none []) [(28, (.flt y))] [] (.v (.int .u64 (y : Int))) []) := by
  show stepOp P C d π _ _ _ = _
  simp [stepOp, opSem, Opd.evs, Opd.ev, Env.get, extSem, h]
theorem max_is : isNaN 9218868437227405311 = false ∧ rk 9218868437227405311 = (2 ^ 53 - 1) * 2 ^ 2045 := ⟨by decide, by kernel_rfl⟩
theorem inf_case {x : Nat} (hx : isNaN x = false) : fgt (absF x) 9218868437227405311 = false → fin x := by
  intro h
  obtain ⟨m1, m2⟩ := max_is
  rw [fgt_rk, (absF_rk x).1, (absF_rk x).2, hx, m1, m2] at h
  simp only [Bool.not_false, Bool.true_and, decide_eq_false_iff_not, Int.not_lt] at h
  refine fin_of_rk' hx ?_
  have e : ((2 : Int) ^ 53 - 1) * 2 ^ 2045 = (((2 ^ 53 - 1) * 2 ^ 2045 : Nat) : Int) := by kernel_rfl
  rw [e] at h
  exact Nat.lt_of_le_of_lt (Int.ofNat_le.1 h) (of_decide_eq_true (by kernel_rfl))
theorem ldexp_den {x k : Nat} (hk : k ≤ 12) : ∃ y, den ⟨fnOf, specAbs, L⟩ (n+2) 75 [.flt x, .int .i64 (k : Int)] = some (.flt y) ∧ (fin x → (fv x).natAbs ≤ 2 ^ 1084 → fin y ∧ fv y = fv x * 2 ^ k) := by
  have z0 : fin 0 ∧ fv 0 = 0 := ⟨⟨false, 0, -1074, by decide, by decide⟩, by kernel_rfl⟩
  cases h0 : feq x 0 with
  | true =>
    refine ⟨x, lx_0 (e := 0) (b := 0) (w := 0) h0, fun hx _ => ⟨hx, ?_⟩⟩
    rw [feq_fin hx z0.1, z0.2] at h0
    rw [of_decide_eq_true h0]; simp
  | false =>
    have hin : Con.holds ⟨fnOf, specAbs, L⟩ (runF ⟨fnOf, specAbs, L⟩ (n+1)) (.call 79 [.flt x, .int .i64 0] (.v (.bool (fgt (absF x) 9218868437227405311)))) := call_den (lin_0 (k := 0) (e := 0) (b := 0) (w := 0))
    have hna : Con.holds ⟨fnOf, specAbs, L⟩ (runF ⟨fnOf, specAbs, L⟩ (n+1)) (.call 78 [.flt x] (.v (.bool (!feq x x)))) := call_den (lna_0 (k := 0) (e := 0) (b := 0) (w := 0))
    cases hi : fgt (absF x) 9218868437227405311 with
    | true =>
      refine ⟨x, lx_1 (e := 0) (b := 0) (w := 0) h0 hin hi, fun hx hb => ?_⟩
      exfalso
      obtain ⟨m1, m2⟩ := max_is
      rw [fgt_rk, (absF_rk x).2, rk_fin hx, m2] at hi
      simp only [Bool.and_eq_true, decide_eq_true_eq] at hi
      have e : ((2 : Int) ^ 53 - 1) * 2 ^ 2045 = (((2 ^ 53 - 1) * 2 ^ 2045 : Nat) : Int) := by kernel_rfl
      rw [e] at hi
      have h3 := Int.ofNat_lt.1 hi.2
      exact absurd (Nat.lt_of_lt_of_le h3 hb) (of_decide_eq_true (by kernel_rfl))
    | false =>
      cases hn : isNaN x with
      | true =>
        have h4 : (!feq x x) = true := by rw [feq_rk, hn]; rfl
        exact ⟨x, lx_2 (e := 0) (b := 0) (w := 0) h0 hin hi hna h4, fun hx _ => by rw [fin_num hx] at hn; cases hn⟩
      | false =>
        have hx : fin x := inf_case hn hi
        have h4 : (!feq x x) = false := by rw [feq_fin hx hx]; simp
        have hne : fv x ≠ 0 := by rw [feq_fin hx z0.1, z0.2] at h0; exact of_decide_eq_false h0
        obtain ⟨y, D, hd, hy, e1, e2, hD⟩ := @norm_den L n x hx hne
        have hD52 : D ≤ 52 := by omega
        obtain ⟨p1, p2, p3⟩ := fin_parts hy e2
        have hb := @bits_told ⟨fnOf, specAbs, L⟩ (runF ⟨fnOf, specAbs, L⟩ (n+1)) 0 [23] y (fin_num hy)
        have hem := @e_mess y k D hk hD52
        have hF : y % 2 ^ 52 < 2 ^ 52 := Nat.mod_lt _ (by decide)
        have hS : y / 2 ^ 63 % 2 < 2 := Nat.mod_lt _ (by decide)
        have c1 : decide (IntKind.wrap .i64 (IntKind.wrap .i64 ((k : Int) + -(D : Int)) + IntKind.wrap .i64 (IntKind.wrap .i64 ((BitVec.ofInt 64 (IntKind.wrap .i64 ((y : Int).fdiv (2 ^ 52))) &&& BitVec.ofInt 64 (2047)).toNat : Int) - 1023)) < -1075) = false := by rw [hem]; exact decide_eq_false (by omega)
        cases c2 : decide (IntKind.wrap .i64 (IntKind.wrap .i64 ((k : Int) + -(D : Int)) + IntKind.wrap .i64 (IntKind.wrap .i64 ((BitVec.ofInt 64 (IntKind.wrap .i64 ((y : Int).fdiv (2 ^ 52))) &&& BitVec.ofInt 64 (2047)).toNat : Int) - 1023)) > 1023) with
        | true =>
          have hbig : (fv x).natAbs ≤ 2 ^ 1084 → False := by
            intro hle
            rw [hem] at c2
            have c2 := of_decide_eq_true c2
            have h5 : 1034 ≤ y / 2 ^ 52 % 2048 - 1 := by omega
            have h6 : (fv y).natAbs ≤ 2 ^ 1084 := by
              rcases hD with rfl | ⟨rfl, hs⟩
              · rw [e1]; simpa using hle
              · rw [e1, Int.natAbs_mul, Int.natAbs_pow]
                refine Nat.le_trans (Nat.mul_le_mul_right _ (Nat.le_of_lt hs)) ?_
                rw [show (2 : Int).natAbs = 2 from rfl, ← Nat.pow_add]
                exact Nat.pow_le_pow_right (by decide) (by decide)
            rw [p3, signed_abs] at h6
            have h7 : 2 ^ 52 * 2 ^ 1034 ≤ (2 ^ 52 + y % 2 ^ 52) * 2 ^ (y / 2 ^ 52 % 2048 - 1) := Nat.mul_le_mul (by omega) (Nat.pow_le_pow_right (by decide) h5)
            rw [← Nat.pow_add] at h7
            exact absurd (Nat.le_trans h7 h6) (of_decide_eq_true (by kernel_rfl))
          cases c3 : flt y 0 with
          | true => exact ⟨_, lx_4 (e := 0) (b := y) (w := 0) h0 hin hi hna h4 (call_den hd) hb c1 c2 c3 (call_den lninf_0), fun _ hle => (hbig hle).elim⟩
          | false => exact ⟨_, lx_5 (e := 0) (b := y) (w := 0) h0 hin hi hna h4 (call_den hd) hb c1 c2 c3 (call_den linf_0), fun _ hle => (hbig hle).elim⟩
        | false =>
          have c2' := c2
          rw [hem] at c2'
          have c2' := of_decide_eq_false c2'
          cases c3 : decide (IntKind.wrap .i64 (IntKind.wrap .i64 ((k : Int) + -(D : Int)) + IntKind.wrap .i64 (IntKind.wrap .i64 ((BitVec.ofInt 64 (IntKind.wrap .i64 ((y : Int).fdiv (2 ^ 52))) &&& BitVec.ofInt 64 (2047)).toNat : Int) - 1023)) < -1022) with
          | false =>
            have c3' := c3
            rw [hem] at c3'
            have c3' := of_decide_eq_false c3'
            have hr := @lx_7 L (n+1) x k 0 y 0 _ _ y (-(D : Int)) h0 hin hi hna h4 (call_den hd) hb c1 c2 c3
            obtain ⟨E, hE⟩ : ∃ E : Nat, (k : Int) - D + (y / 2 ^ 52 % 2048 : Nat) = E := ⟨((k : Int) - D + (y / 2 ^ 52 % 2048 : Nat)).toNat, by omega⟩
            have hwe : IntKind.wrap .i64 ((k : Int) - D + (y / 2 ^ 52 % 2048 : Nat) - 1023 + 1023) = (E : Int) := by rw [wrap_id (by omega)]; omega
            rw [hem, w_mess hwe (by omega)] at hr
            have hrd := read_parts (s := y / 2 ^ 63 % 2) (E := E) hS hF (by omega) (by omega)
            rw [canon_fin ⟨_, _, _, hrd, by omega⟩] at hr
            refine ⟨_, hr, fun _ hle => ?_⟩
            have hfits : fits ((2 ^ 52 + y % 2 ^ 52) * 2 ^ (E - 1)) := by
              refine ⟨⟨_, _, by omega, rfl⟩, ?_⟩
              refine Nat.lt_of_lt_of_le (Nat.mul_lt_mul_of_pos_right (show 2 ^ 52 + y % 2 ^ 52 < 2 ^ 53 by omega) (Nat.pow_pos (by decide))) ?_
              rw [← Nat.pow_add]
              exact Nat.pow_le_pow_right (by decide) (by omega)
            have hpl : (-1075 + (E : Int) + 0 + (0 : Nat) + 1074).toNat = E - 1 := by omega
            obtain ⟨q1, q2⟩ := pow2_mul (M := 2 ^ 52 + y % 2 ^ 52) (t := 0) (j := 0) one_read hrd (by omega) (by omega) (by rw [hpl]; exact hfits)
            refine ⟨q1, ?_⟩
            rw [q2, hpl]
            have h8 : Ieee.signed (y / 2 ^ 63 % 2 == 1) (2 ^ 52 + y % 2 ^ 52) (E - 1) * 2 ^ D = fv x * 2 ^ k * 2 ^ D := by
              rw [← signed_add, show E - 1 + D = y / 2 ^ 52 % 2048 - 1 + k by omega, signed_add, ← p3, e1, Int.mul_assoc, Int.mul_assoc, Int.mul_comm (2 ^ D)]
            exact Int.eq_of_mul_eq_mul_right (Int.pow_ne_zero (by decide)) h8
          | true =>
            have c3' := c3
            rw [hem] at c3'
            have c3' := of_decide_eq_true c3'
            obtain rfl : D = 52 := by omega
            have hs : (fv x).natAbs < 2 ^ 52 := by omega
            have hr := @lx_6 L (n+1) x k 0 y 0 _ _ y (-((52 : Nat) : Int)) h0 hin hi hna h4 (call_den hd) hb c1 c2 c3
            have hwe : IntKind.wrap .i64 (IntKind.wrap .i64 ((k : Int) - (52 : Nat) + (y / 2 ^ 52 % 2048 : Nat) - 1023 + 53) + 1023) = ((k + y / 2 ^ 52 % 2048 + 1 : Nat) : Int) := by
              rw [wrap_id (n := (k : Int) - (52 : Nat) + (y / 2 ^ 52 % 2048 : Nat) - 1023 + 53) (by omega), wrap_id (by omega)]; omega
            rw [hem, w_mess hwe (by omega)] at hr
            have hrd := read_parts (s := y / 2 ^ 63 % 2) (E := k + y / 2 ^ 52 % 2048 + 1) hS hF (by omega) (by omega)
            rw [canon_fin ⟨_, _, _, hrd, by omega⟩] at hr
            refine ⟨_, hr, fun _ hle => ?_⟩
            clear hem c1 c2 c3 hb hd hr
            generalize y / 2 ^ 52 % 2048 = Y at *
            have hm : 2 ^ 52 + y % 2 ^ 52 = (fv x).natAbs * 2 ^ k * 2 ^ (53 - k - Y) := by
              have h9 : (2 ^ 52 + y % 2 ^ 52) * 2 ^ (Y - 1) = (fv x).natAbs * 2 ^ 52 := by
                rw [← signed_abs (y / 2 ^ 63 % 2 == 1), ← p3, e1, Int.natAbs_mul, Int.natAbs_pow]; rfl
              refine Nat.eq_of_mul_eq_mul_right (Nat.pow_pos (n := Y - 1) (show 0 < 2 by decide)) ?_
              rw [h9, Nat.mul_assoc, Nat.mul_assoc, ← Nat.pow_add, ← Nat.pow_add]
              congr 2
              omega
            have hpl : (-1075 + ((k + Y + 1 : Nat) : Int) + -53 + ((53 - k - Y : Nat) : Int) + 1074).toNat = 0 := by omega
            have hbound : (fv x).natAbs * 2 ^ k < 2 ^ 64 := by
              refine Nat.lt_of_lt_of_le (Nat.mul_lt_mul_of_pos_right hs (Nat.pow_pos (by decide))) ?_
              rw [← Nat.pow_add]; exact Nat.pow_le_pow_right (by decide) (by omega)
            obtain ⟨q1, q2⟩ := pow2_mul (M := (fv x).natAbs * 2 ^ k) (t := 53 - k - Y) (j := -53) least_read hrd hm (by omega) (by
              rw [hpl, Nat.pow_zero, Nat.mul_one]
              exact ⟨⟨_, k, Nat.lt_trans hs (by decide), rfl⟩, Nat.lt_trans hbound (Nat.pow_lt_pow_right (by decide) (by decide))⟩)
            refine ⟨q1, ?_⟩
            rw [q2, hpl]
            have hsg : (y / 2 ^ 63 % 2 == 1) = true ↔ fv x < 0 ∨ (fv x = 0 ∧ (y / 2 ^ 63 % 2 == 1) = true) := by
              have hpos : 0 < (2 ^ 52 + y % 2 ^ 52) * 2 ^ (Y - 1) := Nat.mul_pos (by omega) (Nat.pow_pos (by decide))
              have hsx : fv x * 2 ^ 52 = if (y / 2 ^ 63 % 2 == 1) then -(((2 ^ 52 + y % 2 ^ 52) * 2 ^ (Y - 1) : Nat) : Int) else (((2 ^ 52 + y % 2 ^ 52) * 2 ^ (Y - 1) : Nat) : Int) := by
                rw [← e1, p3]; unfold Ieee.signed; simp only [Nat.shiftLeft_eq]
              generalize (2 ^ 52 + y % 2 ^ 52) * 2 ^ (Y - 1) = N at *
              generalize (y / 2 ^ 63 % 2 == 1) = sg at *
              cases sg
              · rw [if_neg (by decide)] at hsx
                constructor
                · intro h; cases h
                · rintro (h | ⟨_, h⟩)
                  · omega
                  · cases h
              · rw [if_pos rfl] at hsx
                exact ⟨fun _ => .inl (by omega), fun _ => rfl⟩
            have h10 : (fv x * 2 ^ k).natAbs = (fv x).natAbs * 2 ^ k := by rw [Int.natAbs_mul, Int.natAbs_pow]; rfl
            have hsg2 : (y / 2 ^ 63 % 2 == 1) = true ↔ fv x * 2 ^ k < 0 ∨ (fv x * 2 ^ k = 0 ∧ (y / 2 ^ 63 % 2 == 1) = true) := by
              have hp : (0 : Int) < 2 ^ k := Int.pow_pos (by decide)
              rw [hsg]
              constructor
              · rintro (h | ⟨h, _⟩)
                · exact .inl (Int.mul_neg_of_neg_of_pos h hp)
                · exact absurd h hne
              · rintro (h | ⟨h, _⟩)
                · refine .inl ?_
                  rcases Int.lt_or_le (fv x) 0 with h2 | h2
                  · exact h2
                  · exact absurd (Int.mul_nonneg h2 (Int.le_of_lt hp)) (by omega)
                · rcases Int.mul_eq_zero.1 h with h2 | h2
                  · exact absurd h2 hne
                  · omega
            have := signed_natAbs hsg2 0
            rw [h10] at this
            rw [this]; simp
end
end Go.Proofs.Ytnphdnokedhhkaa.Fw
