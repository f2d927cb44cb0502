/- strait.of is the document's Plain; both and size spoken for. -/
import Derived.Test.YtnphdnokedhhkaaLwOfA
import Derived.Test.YtnphdnokedhhkaaLwLdC
import Derived.Test.YtnphdnokedhhkaaLwAd
set_option maxRecDepth 100000
set_option maxHeartbeats 4000000
set_option exponentiation.threshold 4000
set_option linter.unusedSimpArgs false
set_option linter.unusedVariables false
namespace Go.Proofs.Ytnphdnokedhhkaa.Fw
open Go Go.RowKit
theorem fint_zero {a : Nat} (ha : fin a) : fin (fint .zero a) ∧ fv (fint .zero a) = (fv a).tdiv (2 ^ 1074) * 2 ^ 1074 := by
  obtain ⟨s, m, i, h, hp⟩ := ha
  obtain ⟨q1, q2⟩ := fint_parts .zero h
  refine ⟨q1, ?_⟩
  obtain ⟨d1, _⟩ := parts_div (m := m) hp
  rw [q2, fv_of h, cut_eq]
  simp only [oneMore, Bool.toNat_false, Nat.add_zero]
  rw [← d1]
  unfold Ieee.signed
  simp only [Nat.shiftLeft_eq]
  generalize m * 2 ^ (i + 1074).toNat = N
  have hcast : (2 : Int) ^ 1074 = ((2 ^ 1074 : Nat) : Int) := by simp
  rw [hcast]
  generalize (2 : Nat) ^ 1074 = g
  cases s with
  | false => simp only [Bool.false_eq_true, if_false]; rfl
  | true => simp only [if_true]; rw [Int.neg_tdiv, Int.neg_mul]; rfl
theorem fin_of_rk {x : Nat} (h : isNaN x = false) (hb : (rk x).natAbs < 2 ^ 3000) : fin x := by
  unfold isNaN at h
  unfold rk at hb
  cases hr : Ieee.double.read x with
  | number s n i => exact ⟨s, n, i, hr, read_place hr⟩
  | nan s f => rw [hr] at h; cases h
  | infinity s =>
    rw [hr] at hb
    exfalso
    have e : (drk (.infinity s)).natAbs = 2 ^ 3000 := by
      show ((if s then -2 ^ 3000 else 2 ^ 3000 : Int)).natAbs = _
      cases s
      · rw [if_neg (by decide), Int.natAbs_pow]; rfl
      · rw [if_pos rfl, Int.natAbs_neg, Int.natAbs_pow]; rfl
    rw [e] at hb
    exact Nat.lt_irrefl _ hb
/-- a number made whole, and to an integer and back -/
theorem whole_same {y : Nat} (hy : fin y) (hb : (fv y).natAbs < 2 ^ 1100) : ∃ n : Int, ftoInt y .i64 = some n ∧ feq y (fofInt n) = feq (fint .zero y) y := by
  obtain ⟨z1, z2⟩ := fint_zero hy
  have ht := toInt_fin hy
  have hn : ((fv y).tdiv (2 ^ 1074)).natAbs < 2 ^ 26 := by
    rw [Int.natAbs_tdiv, Int.natAbs_pow]
    exact Nat.div_lt_of_lt_mul (by rw [show (2 : Int).natAbs = 2 from rfl, ← Nat.pow_add]; exact hb)
  refine ⟨(fv y).tdiv (2 ^ 1074), ?_, ?_⟩
  · unfold ftoInt
    rw [ht]
    simp only
    generalize (fv y).tdiv (2 ^ 1074) = r at hn ⊢
    have h1 : IntKind.i64.min ≤ r ∧ r ≤ IntKind.i64.max := by
      have e1 : IntKind.i64.min = -9223372036854775808 := rfl
      have e2 : IntKind.i64.max = 9223372036854775807 := rfl
      omega
    rw [if_pos h1]
  · obtain ⟨f1, f2⟩ := fofInt_exact (n := (fv y).tdiv (2 ^ 1074)) (Nat.lt_trans hn (by decide))
    rw [feq_fin hy f1, feq_fin z1 hy, f2, z2]
    exact decide_eq_decide.2 ⟨Eq.symm, Eq.symm⟩
def plainF (x m : Nat) : Bool := fle (absF x) m && feq (fint .zero (fmul x 4634204016564240384)) (fmul x 4634204016564240384)
theorem sixtyfour : Ieee.double.read 4634204016564240384 = .number false (2 ^ 52) ((6 : Nat) - 52 : Int) := by decide
def okM (m : Nat) : Prop := m = 4607182418800017408 ∨ m = 4638707616191610880
theorem okM_rk {m : Nat} (h : okM m) : isNaN m = false ∧ 0 ≤ rk m ∧ rk m ≤ 2 ^ 1081 := by
  rcases h with rfl | rfl
  · exact ⟨by decide, of_decide_eq_true (by kernel_rfl), of_decide_eq_true (by kernel_rfl)⟩
  · exact ⟨by decide, of_decide_eq_true (by kernel_rfl), of_decide_eq_true (by kernel_rfl)⟩
theorem within_same {x m : Nat} (h : okM m) : (fge x (fneg m) && fle x m) = fle (absF x) m := by
  obtain ⟨h1, h2, _⟩ := okM_rk h
  rw [fge_rk, fle_rk, fle_rk, (fneg_rk m).1, (fneg_rk m).2, (absF_rk x).1, (absF_rk x).2, h1]
  generalize rk m = M at *
  generalize rk x = X at *
  cases isNaN x with
  | true => rfl
  | false =>
    simp only [Bool.not_false, Bool.true_and]
    rw [← Bool.decide_and]
    exact decide_eq_decide.2 (by omega)
/-- a plain number is finite, and 64 times it is exact -/
theorem plain_fin {x m : Nat} (hm : okM m) (h : fle (absF x) m = true) : fin x ∧ (fv x).natAbs ≤ 2 ^ 1081 := by
  obtain ⟨h1, h2, h3⟩ := okM_rk hm
  rw [fle_rk, (absF_rk x).1, (absF_rk x).2, h1] at h
  simp only [Bool.and_eq_true, decide_eq_true_eq, Bool.not_eq_true'] at h
  obtain ⟨⟨hx, _⟩, hle⟩ := h
  have hb : ((rk x).natAbs : Int) ≤ 2 ^ 1081 := Int.le_trans hle h3
  have hb' : (rk x).natAbs ≤ 2 ^ 1081 := by
    have e : (2 : Int) ^ 1081 = ((2 ^ 1081 : Nat) : Int) := by rw [Int.natCast_pow]; rfl
    rw [e] at hb
    exact Int.ofNat_le.1 hb
  have hf : fin x := fin_of_rk hx (Nat.lt_of_le_of_lt hb' (Nat.pow_lt_pow_right (by decide) (by decide)))
  exact ⟨hf, by rw [← rk_fin hf]; exact hb'⟩
theorem mul64 {x m : Nat} (hm : okM m) (h : fle (absF x) m = true) : fin (fmul x 4634204016564240384) ∧ fv (fmul x 4634204016564240384) = fv x * 2 ^ 6 ∧ (fv (fmul x 4634204016564240384)).natAbs < 2 ^ 1100 := by
  obtain ⟨hf, hb⟩ := plain_fin hm h
  have hlt : (fv x).natAbs * 2 ^ 6 ≤ 2 ^ 1087 := by
    calc (fv x).natAbs * 2 ^ 6 ≤ 2 ^ 1081 * 2 ^ 6 := Nat.mul_le_mul_right _ hb
      _ = 2 ^ 1087 := by rw [← Nat.pow_add]
  obtain ⟨h1, h2⟩ := fmul_pow2 (k := 6) hf sixtyfour (Nat.lt_of_le_of_lt hlt (Nat.pow_lt_pow_right (by decide) (by decide)))
  refine ⟨h1, h2, ?_⟩
  rw [h2, Int.natAbs_mul, Int.natAbs_pow]
  exact Nat.lt_of_le_of_lt hlt (Nat.pow_lt_pow_right (by decide) (by decide))
def szF (a : Nat) : Nat := bif flt a 0 then fneg a else a
/-- a whole number, by the value alone -/
theorem whole_val {a b : Nat} (ha : fin a) (hb : fin b) (h : fv a = fv b) : feq (fint .zero a) a = feq (fint .zero b) b := by
  obtain ⟨z1, z2⟩ := fint_zero ha
  obtain ⟨z3, z4⟩ := fint_zero hb
  rw [feq_fin z1 ha, feq_fin z3 hb, z2, z4, h]
theorem of_six {L n x m : Nat} (hm : okM m) : den ⟨fnOf, specAbs, L⟩ (n+4) 51 [.flt x, .int .i64 6, .flt m] = some (.v (.bool (plainF x m))) := by
  obtain ⟨y, hd, hy⟩ := @ldexp_den L n x 6 (by decide)
  have h1 := call_den (lxd_0 (e := 0) (b := 0) (w := 0) (call_den hd))
  cases h : fle (absF x) m with
  | true =>
    obtain ⟨f1, f2⟩ := plain_fin hm h
    obtain ⟨g1, g2⟩ := hy f1 (Nat.le_trans f2 (Nat.pow_le_pow_right (by decide) (by decide)))
    obtain ⟨m1, m2, _⟩ := mul64 hm h
    have := @pof_0 L (n+3) x y m 6 y _ h1 h (call_den ptr_0)
    rw [this, whole_val g1 m1 (by rw [g2, m2])]
    unfold plainF; rw [h]; rfl
  | false =>
    have := @pof_1 L (n+3) x y m 6 y h1 h
    rw [this]; unfold plainF; rw [h]; rfl
/-- of a number: is it on the grid of 2^-12, and within the edge? -/
def onD (x : Nat) : Bool := fle (absF x) 4652218415073722368 && feq (fint .zero (fmul x 4661225614328463360)) (fmul x 4661225614328463360)
theorem twelve : Ieee.double.read 4661225614328463360 = .number false (2 ^ 52) ((12 : Nat) - 52 : Int) := by decide
theorem edge_fin {x : Nat} (h : fle (absF x) 4652218415073722368 = true) : fin x ∧ (fv x).natAbs ≤ 2 ^ 1084 := by
  obtain ⟨_, _, h1, h3⟩ := edge_is
  rw [fle_rk, (absF_rk x).1, (absF_rk x).2, h1, h3] at h
  simp only [Bool.and_eq_true, decide_eq_true_eq, Bool.not_eq_true'] at h
  obtain ⟨⟨hx, _⟩, hle⟩ := h
  have e : (2 : Int) ^ 1084 = ((2 ^ 1084 : Nat) : Int) := by rw [Int.natCast_pow]; rfl
  rw [e] at hle
  have hb := Int.ofNat_le.1 hle
  have hf : fin x := fin_of_rk hx (Nat.lt_of_le_of_lt hb (Nat.pow_lt_pow_right (by decide) (by decide)))
  exact ⟨hf, by rw [← rk_fin hf]; exact hb⟩
theorem of_twelve {L n x : Nat} : den ⟨fnOf, specAbs, L⟩ (n+4) 51 [.flt x, .int .i64 12, .flt 4652218415073722368] = some (.v (.bool (onD x))) := by
  obtain ⟨y, hd, hy⟩ := @ldexp_den L n x 12 (by decide)
  have h1 := call_den (lxd_0 (e := 0) (b := 0) (w := 0) (call_den hd))
  cases h : fle (absF x) 4652218415073722368 with
  | true =>
    obtain ⟨f1, f2⟩ := edge_fin h
    obtain ⟨g1, g2⟩ := hy f1 f2
    obtain ⟨m1, m2⟩ := fmul_pow2 (k := 12) f1 twelve (Nat.lt_of_le_of_lt (Nat.mul_le_mul_right _ f2) (by rw [← Nat.pow_add]; exact Nat.pow_lt_pow_right (by decide) (by decide)))
    have := @pof_0 L (n+3) x y 4652218415073722368 12 y _ h1 h (call_den ptr_0)
    rw [this, whole_val g1 m1 (by rw [g2, m2])]
    unfold onD; rw [h]; rfl
  | false =>
    have := @pof_1 L (n+3) x y 4652218415073722368 12 y h1 h
    rw [this]; unfold onD; rw [h]; rfl
theorem den_Plain1 {L n x m : Nat} (hm : okM m) : den ⟨fnOf, specAbs, L⟩ (n+1) 59 [.flt x, .flt m] = some (.v (.bool (plainF x m))) := by
  have hw := within_same (x := x) hm
  cases h : fle (absF x) m with
  | false =>
    rw [h] at hw
    have hp : plainF x m = false := by unfold plainF; rw [h]; rfl
    rw [hp]
    cases h1 : fge x (fneg m) with
    | false => exact qe_2 (k := 0) h1
    | true =>
      rw [h1] at hw
      have h2 : fle x m = false := by simpa using hw
      exact qe_0 (k := 0) h1 (by rw [h2]; rfl)
  | true =>
    rw [h] at hw
    simp only [Bool.and_eq_true] at hw
    obtain ⟨f1, f2, f3⟩ := mul64 hm h
    obtain ⟨k, hk, he⟩ := whole_same f1 f3
    have hp : plainF x m = feq (fmul x 4634204016564240384) (fofInt k) := by unfold plainF; rw [h, he]; rfl
    rw [hp]
    refine qe_1 hw.1 (by rw [hw.2]; rfl) ?_
    show (((ftoInt (fmul x 4634204016564240384) .i64).map (AV.int .i64)).map fun v => (v, ([] : Heap))) = _
    rw [hk]; rfl
theorem den_size2 {L n a : Nat} : den ⟨fnOf, specAbs, L⟩ (n+1) 60 [.flt a] = some (.flt (szF a)) := by
  unfold szF
  cases h : flt a 0 with
  | true => exact qs_0 h
  | false => exact qs_1 h
/-- several functions more are spoken for -/
theorem spec_adds {P : Program} {fn : FuncId → Option FnM} {spec : FuncId → Option (List AV → Option AV)} (hS : SpecOk P ⟨fn, spec, 0⟩) (hF : ∀ L, FnsOk P ⟨fn, spec, L⟩) (hm : P.follows .mixedOrders = true) (δ : FuncId → Option (List AV → Option AV))
    (hd : ∀ f g, δ f = some g → FnIs P f ∧ ∀ avs r, g avs = some r → ∃ avs1 L k r1, All2 WiA avs avs1 ∧ den ⟨fn, spec, L⟩ k f avs1 = some r1 ∧ WkT r1 r) : SpecOk P ⟨fn, fun f => match δ f with | some g => some g | none => spec f, 0⟩ := by
  intro f g h
  simp only at h
  cases hq : δ f with
  | none => rw [hq] at h; exact hS f g h
  | some g' =>
    rw [hq] at h
    cases h
    obtain ⟨h1, h2⟩ := hd f g hq
    exact spec_add hS hF hm f g h1 h2 f g (by simp)
theorem told {P : Prog} {f : FuncId} {avs : List AV} {r : AV} (h : ∃ L k, den ⟨P.fn, P.spec, L⟩ k f avs = some r) : ∃ avs1 L k r1, All2 WiA avs avs1 ∧ den ⟨P.fn, P.spec, L⟩ k f avs1 = some r1 ∧ WkT r1 r := by
  obtain ⟨L, k, h⟩ := h
  exact ⟨avs, L, k, r, all2_refl WiA.refl _, h, WkT.refl _⟩
def sizeSem : List AV → Option AV
  | [.flt a] => some (.flt (szF a))
  | _ => none
def plainSem : List AV → Option AV
  | [.flt x, .flt m] => if m = 4607182418800017408 ∨ m = 4638707616191610880 then some (.v (.bool (plainF x m))) else none
  | _ => none
def ofSem : List AV → Option AV
  | [.flt x, .v (.int .i64 k), .flt m] => if k = 6 ∧ (m = 4607182418800017408 ∨ m = 4638707616191610880) then some (.v (.bool (plainF x m))) else if k = 12 ∧ m = 4652218415073722368 then some (.v (.bool (onD x))) else none
  | _ => none
def newO : FuncId → Option (List AV → Option AV)
  | 51 => some ofSem
  | 59 => some plainSem
  | 60 => some sizeSem
  | _ => none
def specO : FuncId → Option (List AV → Option AV) := fun f => match newO f with | some g => some g | none => specAbs f
theorem spec_o : SpecOk Try.prog ⟨fnOf, specO, 0⟩ :=
  spec_adds (spec_abs 0 fnOf) (fun L => fnsOk _ _) follows newO fun f g h => by
    unfold newO at h
    split at h
    · cases h
      refine ⟨⟨_, Try.func51, ne_of_beq_false (by kernel_rfl), by kernel_rfl⟩, fun avs r h => ?_⟩
      unfold ofSem at h
      split at h
      · split at h
        · rename_i hm; cases h; obtain ⟨rfl, hm⟩ := hm; exact told (P := ⟨fnOf, specAbs, 0⟩) ⟨0, 4, of_six hm⟩
        · split at h
          · rename_i hm; cases h; obtain ⟨rfl, rfl⟩ := hm; exact told (P := ⟨fnOf, specAbs, 0⟩) ⟨0, 4, of_twelve⟩
          · cases h
      · cases h
    · cases h
      refine ⟨⟨_, Try.func59, ne_of_beq_false (by kernel_rfl), by kernel_rfl⟩, fun avs r h => ?_⟩
      unfold plainSem at h
      split at h
      · split at h
        · rename_i hm; cases h; exact told (P := ⟨fnOf, specAbs, 0⟩) ⟨0, 1, den_Plain1 hm⟩
        · cases h
      · cases h
    · cases h
      refine ⟨⟨_, Try.func60, ne_of_beq_false (by kernel_rfl), by kernel_rfl⟩, fun avs r h => ?_⟩
      unfold sizeSem at h
      split at h
      · cases h; exact told (P := ⟨fnOf, specAbs, 0⟩) ⟨0, 1, den_size2⟩
      · cases h
    · cases h
theorem szF_rk (a : Nat) : isNaN (szF a) = isNaN a ∧ rk (szF a) = ((rk a).natAbs : Int) := by
  have hz : rk 0 = 0 := by decide
  have hn : isNaN 0 = false := by decide
  have hs : szF a = bif (!isNaN a && !isNaN 0 && decide (rk a < rk 0)) then fneg a else a := by unfold szF; rw [flt_rk]
  rw [hn, hz] at hs
  cases h : isNaN a with
  | true =>
    rw [h] at hs
    have hs : szF a = a := hs
    rw [hs]
    exact ⟨h, by rw [rk_nan h]; rfl⟩
  | false =>
    rw [h] at hs
    by_cases h2 : rk a < 0
    · rw [decide_eq_true h2] at hs
      have hs : szF a = fneg a := hs
      obtain ⟨h3, h4⟩ := fneg_rk a
      rw [hs]
      exact ⟨by rw [h3, h], by rw [h4]; omega⟩
    · rw [decide_eq_false h2] at hs
      have hs : szF a = a := hs
      rw [hs]
      exact ⟨h, by omega⟩
def one : Nat := 4607182418800017408
/-- in parts of 2^-6 -/
def six (m : Int) (x : Nat) : Prop := fin x ∧ fv x = m * 2 ^ 1068
theorem okM_one : okM one := .inl rfl
theorem rk_one : rk one = 2 ^ 1074 := by kernel_rfl
theorem plain_six {x : Nat} (h : plainF x one = true) : ∃ m : Int, six m x ∧ m.natAbs ≤ 64 := by
  unfold plainF at h
  simp only [Bool.and_eq_true] at h
  obtain ⟨h1, h2⟩ := h
  obtain ⟨f1, f2, f3⟩ := mul64 okM_one h1
  obtain ⟨hf, _⟩ := plain_fin okM_one h1
  obtain ⟨z1, z2⟩ := fint_zero f1
  rw [feq_fin z1 f1, z2, f2] at h2
  simp only [decide_eq_true_eq] at h2
  refine ⟨(fv x * 2 ^ 6).tdiv (2 ^ 1074), ⟨hf, ?_⟩, ?_⟩
  · generalize (fv x * 2 ^ 6).tdiv (2 ^ 1074) = q at h2
    have e : q * 2 ^ 1074 = (q * 2 ^ 1068) * 2 ^ 6 := by rw [Int.mul_assoc, ← Int.pow_add]
    rw [e] at h2
    exact (Int.mul_eq_mul_right_iff (by decide)).1 h2.symm
  · rw [fle_rk, (absF_rk x).1, (absF_rk x).2, rk_one, rk_fin hf] at h1
    simp only [Bool.and_eq_true, decide_eq_true_eq] at h1
    have hb := h1.2
    generalize (fv x * 2 ^ 6).tdiv (2 ^ 1074) = q at h2
    have e : q * 2 ^ 1074 = (q * 2 ^ 1068) * 2 ^ 6 := by rw [Int.mul_assoc, ← Int.pow_add]
    rw [e] at h2
    have h3 : fv x = q * 2 ^ 1068 := (Int.mul_eq_mul_right_iff (by decide)).1 h2.symm
    rw [h3, Int.natAbs_mul, Int.natAbs_pow] at hb
    have hb' : q.natAbs * 2 ^ 1068 ≤ 64 * 2 ^ 1068 := by
      have e1 : (2 : Int) ^ 1074 = ((64 * 2 ^ 1068 : Nat) : Int) := by
        rw [Int.natCast_mul, Int.natCast_pow]
        have : (64 : Int) = 2 ^ 6 := by decide
        show (2 : Int) ^ 1074 = 64 * 2 ^ 1068
        rw [this, ← Int.pow_add]
      rw [e1] at hb
      exact Int.ofNat_le.1 hb
    exact Nat.le_of_mul_le_mul_right hb' (Nat.pow_pos (by decide))
theorem six_abs {m : Int} {x : Nat} (h : six m x) : six m.natAbs (absF x) ∧ six m.natAbs (szF x) := by
  have p : (0 : Int) < 2 ^ 1068 := Int.pow_pos (by decide)
  have hn : isNaN x = false := fin_num h.1
  have hr : rk x = m * 2 ^ 1068 := by rw [rk_fin h.1, h.2]
  have ha : ((m * 2 ^ 1068).natAbs : Int) = (m.natAbs : Int) * 2 ^ 1068 := by
    rw [Int.natAbs_mul, Int.natCast_mul]
    congr 1
  have key : ∀ y, isNaN y = false → rk y = ((rk x).natAbs : Int) → six m.natAbs y := fun y h1 h2 => by
    have hs := rk_small h.1
    have hf : fin y := fin_of_rk h1 (by rw [h2]; exact hs)
    exact ⟨hf, by rw [← rk_fin hf, h2, hr, ha]⟩
  exact ⟨key _ (by rw [(absF_rk x).1, hn]) (absF_rk x).2, key _ (by rw [(szF_rk x).1, hn]) (szF_rk x).2⟩
theorem six_add {m n : Int} {x y : Nat} (hx : six m x) (hy : six n y) (h : (m + n).natAbs < 2 ^ 53) : six (m + n) (fadd x y) := by
  have e : fv x + fv y = (m + n) * 2 ^ 1068 := by rw [hx.2, hy.2, Int.add_mul]
  obtain ⟨h1, h2⟩ := fadd_exact hx.1 hy.1 (by rw [e]; exact fits_grid h (by decide))
  exact ⟨h1, by rw [h2, e]⟩
theorem six_zero : six 0 0 := by
  have h := fofInt_exact (n := 0) (by decide)
  have e : fofInt 0 = 0 := by kernel_rfl
  rw [e] at h
  exact ⟨h.1, by rw [h.2]; simp⟩
end Go.Proofs.Ytnphdnokedhhkaa.Fw
