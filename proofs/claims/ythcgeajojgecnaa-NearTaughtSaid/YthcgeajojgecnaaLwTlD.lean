/- train: may, half, Length, Laid and the document's: what they answer; both Laids spoken for. -/
import Derived.Test.YthcgeajojgecnaaLwTlC
set_option maxRecDepth 100000
set_option maxHeartbeats 4000000
set_option linter.unusedSimpArgs false
set_option linter.unusedVariables false
namespace Go.Proofs.Ythcgeajojgecnaa.Fw
open Go Go.RowKit
/-- may a plan be? -/
def mayB (o r g : Int) : Bool := decide (1 ≤ o ∧ o ≤ 8 ∧ 1 ≤ r ∧ r ≤ 8 ∧ 0 ≤ g ∧ g ≤ 4096)
section
variable {L n : Nat} {o r g : Int}
theorem may_both : den ⟨fnOf, specR, L⟩ (n+1) 70 [.agg [.int .i64 o, .int .i64 r, .int .i64 g]] = some (.v (.bool (mayB o r g))) ∧ den ⟨fnOf, specR, L⟩ (n+1) 29 [.agg [.int .i64 o, .int .i64 r, .int .i64 g]] = some (.v (.bool (mayB o r g))) := by
  by_cases h1 : o ≥ 1
  · by_cases h2 : o ≤ 8
    · by_cases h3 : r ≥ 1
      · by_cases h4 : r ≤ 8
        · by_cases h5 : g ≥ 0
          · have e : mayB o r g = decide (g ≤ 4096) := decide_eq_decide.2 (by omega)
            rw [e]; exact ⟨tmr_0 (dT h1) (dT h2) (dT h3) (dT h4) (dT h5), tMr_0 (dT h1) (dT h2) (dT h3) (dT h4) (dT h5)⟩
          · have e : mayB o r g = false := decide_eq_false (by omega)
            rw [e]; exact ⟨tmr_1 (dT h1) (dT h2) (dT h3) (dT h4) (dF h5), tMr_1 (dT h1) (dT h2) (dT h3) (dT h4) (dF h5)⟩
        · have e : mayB o r g = false := decide_eq_false (by omega)
          rw [e]; exact ⟨tmr_2 (dT h1) (dT h2) (dT h3) (dF h4), tMr_2 (dT h1) (dT h2) (dT h3) (dF h4)⟩
      · have e : mayB o r g = false := decide_eq_false (by omega)
        rw [e]; exact ⟨tmr_3 (dT h1) (dT h2) (dF h3), tMr_3 (dT h1) (dT h2) (dF h3)⟩
    · have e : mayB o r g = false := decide_eq_false (by omega)
      rw [e]; exact ⟨tmr_4 (dT h1) (dF h2), tMr_4 (dT h1) (dF h2)⟩
  · have e : mayB o r g = false := decide_eq_false (by omega)
    rw [e]; exact ⟨tmr_5 (dF h1), tMr_5 (dF h1)⟩
theorem half_both {k : Nat} (h1 : 1 ≤ k) (h8 : k ≤ 8) (r1 : 1 ≤ r) (r8 : r ≤ 8) (g0 : 0 ≤ g) (g9 : g ≤ 4096) :
    den ⟨fnOf, specR, L⟩ (n+1) 71 [.agg [.int .i64 k, .int .i64 r, .int .i64 g]] = some (.int .i64 (r * 2 ^ k + g)) ∧ den ⟨fnOf, specR, L⟩ (n+1) 69 [.agg [.int .i64 k, .int .i64 r, .int .i64 g]] = some (.int .i64 (r * 2 ^ k + g)) := by
  have : k = 1 ∨ k = 2 ∨ k = 3 ∨ k = 4 ∨ k = 5 ∨ k = 6 ∨ k = 7 ∨ k = 8 := by omega
  rcases this with rfl | rfl | rfl | rfl | rfl | rfl | rfl | rfl
  · have e : (2 : Int) ^ 1 = 2 := rfl
    have a := @th1_0 L n r g
    have b := @tH1_0 L n r g
    rw [e] at a b
    rw [wrap_id (n := r * 2) (by omega), wrap_id (by omega)] at a
    rw [wrap_id (n := 1 * 2) (by omega), wrap_id (n := 1 * 2 * r) (by omega), wrap_id (by omega), show (1 * 2 * r : Int) = r * 2 by omega] at b
    exact ⟨a, b⟩
  · have e : (2 : Int) ^ 2 = 4 := rfl
    have a := @th2_0 L n r g
    have b := @tH2_0 L n r g
    rw [e] at a b
    rw [wrap_id (n := r * 4) (by omega), wrap_id (by omega)] at a
    rw [wrap_id (n := 1 * 4) (by omega), wrap_id (n := 1 * 4 * r) (by omega), wrap_id (by omega), show (1 * 4 * r : Int) = r * 4 by omega] at b
    exact ⟨a, b⟩
  · have e : (2 : Int) ^ 3 = 8 := rfl
    have a := @th3_0 L n r g
    have b := @tH3_0 L n r g
    rw [e] at a b
    rw [wrap_id (n := r * 8) (by omega), wrap_id (by omega)] at a
    rw [wrap_id (n := 1 * 8) (by omega), wrap_id (n := 1 * 8 * r) (by omega), wrap_id (by omega), show (1 * 8 * r : Int) = r * 8 by omega] at b
    exact ⟨a, b⟩
  · have e : (2 : Int) ^ 4 = 16 := rfl
    have a := @th4_0 L n r g
    have b := @tH4_0 L n r g
    rw [e] at a b
    rw [wrap_id (n := r * 16) (by omega), wrap_id (by omega)] at a
    rw [wrap_id (n := 1 * 16) (by omega), wrap_id (n := 1 * 16 * r) (by omega), wrap_id (by omega), show (1 * 16 * r : Int) = r * 16 by omega] at b
    exact ⟨a, b⟩
  · have e : (2 : Int) ^ 5 = 32 := rfl
    have a := @th5_0 L n r g
    have b := @tH5_0 L n r g
    rw [e] at a b
    rw [wrap_id (n := r * 32) (by omega), wrap_id (by omega)] at a
    rw [wrap_id (n := 1 * 32) (by omega), wrap_id (n := 1 * 32 * r) (by omega), wrap_id (by omega), show (1 * 32 * r : Int) = r * 32 by omega] at b
    exact ⟨a, b⟩
  · have e : (2 : Int) ^ 6 = 64 := rfl
    have a := @th6_0 L n r g
    have b := @tH6_0 L n r g
    rw [e] at a b
    rw [wrap_id (n := r * 64) (by omega), wrap_id (by omega)] at a
    rw [wrap_id (n := 1 * 64) (by omega), wrap_id (n := 1 * 64 * r) (by omega), wrap_id (by omega), show (1 * 64 * r : Int) = r * 64 by omega] at b
    exact ⟨a, b⟩
  · have e : (2 : Int) ^ 7 = 128 := rfl
    have a := @th7_0 L n r g
    have b := @tH7_0 L n r g
    rw [e] at a b
    rw [wrap_id (n := r * 128) (by omega), wrap_id (by omega)] at a
    rw [wrap_id (n := 1 * 128) (by omega), wrap_id (n := 1 * 128 * r) (by omega), wrap_id (by omega), show (1 * 128 * r : Int) = r * 128 by omega] at b
    exact ⟨a, b⟩
  · have e : (2 : Int) ^ 8 = 256 := rfl
    have a := @th8_0 L n r g
    have b := @tH8_0 L n r g
    rw [e] at a b
    rw [wrap_id (n := r * 256) (by omega), wrap_id (by omega)] at a
    rw [wrap_id (n := 1 * 256) (by omega), wrap_id (n := 1 * 256 * r) (by omega), wrap_id (by omega), show (1 * 256 * r : Int) = r * 256 by omega] at b
    exact ⟨a, b⟩
end
/-- the parts laid, sign by sign -/
def layW (us vs : List Int) (r h : Nat) : Nat → List (Nat × Nat)
  | 0 => List.replicate (2 * h) (0, 0)
  | i + 1 => ((layW us vs r h i).set (i * r) (fmul 4638707616191610880 (fofInt (us.getD i 0)), 0)).set (h + i * r) (fmul 4638707616191610880 (fofInt (vs.getD i 0)), 0)
theorem layW_len {us vs : List Int} {r h : Nat} : ∀ {i : Nat}, (layW us vs r h i).length = 2 * h
  | 0 => List.length_replicate
  | i + 1 => by rw [layW, List.length_set, List.length_set, layW_len]
theorem getD_mem1 {xs : List Int} {i : Nat} (h : i < xs.length) : xs.getD i 0 ∈ xs := by
  rw [List.getD_eq_getElem?_getD, List.getElem?_eq_getElem h]; exact List.getElem_mem h
section
variable {L n k R G : Nat}
theorem idx_in {i : Nat} (hi : i < 2 ^ k) (hR : 1 ≤ R) : i * R < R * 2 ^ k + G := by
  have : i * R < 2 ^ k * R := Nat.mul_lt_mul_of_pos_right hi hR
  rw [Nat.mul_comm R]; omega
theorem loops (hk1 : 1 ≤ k) (hk : k ≤ 8) (hR : 1 ≤ R) (hR8 : R ≤ 8) (hG : G ≤ 4096) (hL : 300 ≤ L) :
    Con.holds ⟨fnOf, specR, L+1⟩ (runF ⟨fnOf, specR, L+1⟩ (n+1)) (.loop 0 [1, 4, 5, 6, 22, 23] m22b0 [22] (tlpSt k R G (prs k).1 (prs k).2 (layW (prs k).1 (prs k).2 R (R * 2 ^ k + G) 0) (2 * (R * 2 ^ k + G)) 0) (.exit 0) (tlpSt k R G (prs k).1 (prs k).2 (layW (prs k).1 (prs k).2 R (R * 2 ^ k + G) (2 ^ k)) (2 * (R * 2 ^ k + G)) (2 ^ k))) ∧
    Con.holds ⟨fnOf, specR, L+1⟩ (runF ⟨fnOf, specR, L+1⟩ (n+1)) (.loop 0 [1, 4, 5, 7, 8] m21b0 [22] (tldSt k R G (prs k).1 (prs k).2 (layW (prs k).1 (prs k).2 R (R * 2 ^ k + G) 0) (2 * (R * 2 ^ k + G)) 0) (.exit 0) (tldSt k R G (prs k).1 (prs k).2 (layW (prs k).1 (prs k).2 R (R * 2 ^ k + G) (2 ^ k)) (2 * (R * 2 ^ k + G)) (2 ^ k))) := by
  obtain ⟨l1, l2⟩ := prs_len k
  have hp : 2 ^ k ≤ 256 := Nat.le_trans (Nat.pow_le_pow_right (by decide) hk) (by decide)
  obtain ⟨hh, hH⟩ := @half_both (L+1) n (R : Int) (G : Int) k hk1 hk (by omega) (by omega) (by omega) (by omega)
  have ec : ((R : Int) * 2 ^ k + (G : Int)) = ((R * 2 ^ k + G : Nat) : Int) := by rw [Int.natCast_add, Int.natCast_mul, Int.natCast_pow]; rfl
  rw [ec] at hh hH
  have hidx : ∀ i : Nat, i < 2 ^ k → i * R < R * 2 ^ k + G := fun i hi => idx_in hi hR
  have hmax : R * 2 ^ k ≤ 8 * 256 := Nat.mul_le_mul hR8 hp
  generalize hhd : R * 2 ^ k + G = h at hh hH hidx ⊢
  have hb : h ≤ 6144 := by omega
  generalize (prs k).1 = us at l1 ⊢
  generalize (prs k).2 = vs at l2 ⊢
  have m1 : (us.map celJ).length = us.length := map_len
  have m2 : (vs.map celJ).length = vs.length := map_len
  have step : ∀ i : Nat, i < 2 ^ k → (IntKind.wrap .i64 ((i : Int) * (R : Int)) = ((i * R : Nat) : Int) ∧ IntKind.wrap .i64 (((h : Nat) : Int) + ((i * R : Nat) : Int)) = ((h + i * R : Nat) : Int)) := fun i hi => by
    have := hidx i hi
    rw [← Int.natCast_mul, ← Int.natCast_add, wrap_id (by omega), wrap_id (by omega)]
    exact ⟨rfl, rfl⟩
  constructor
  · refine loop0 (fun i => tlpSt k R G us vs (layW us vs R h i) (2 * h) i) (2 ^ k) rfl (by omega) (fun i hi => ?_) ?_ (by simp)
    · obtain ⟨w1, w2⟩ := step i hi
      have i1 := hidx i hi
      have a1 : Con.holds ⟨fnOf, specR, L+1⟩ (runF ⟨fnOf, specR, L+1⟩ (n+1)) (.at (us.map celJ) (0 + i) [.int .i8 (us.getD i 0)]) := by rw [Nat.zero_add]; exact atD_map (f := celJ) (by omega)
      have a2 : Con.holds ⟨fnOf, specR, L+1⟩ (runF ⟨fnOf, specR, L+1⟩ (n+1)) (.at (vs.map celJ) (0 + i) [.int .i8 (vs.getD i 0)]) := by rw [Nat.zero_add]; exact atD_map (f := celJ) (by omega)
      have a3 : Con.holds ⟨fnOf, specR, L+1⟩ (runF ⟨fnOf, specR, L+1⟩ (n+1)) (.at ((layW us vs R h i).map celC) (0 + i * R) [.cpx ((layW us vs R h i).getD (i * R) (0, 0)).1 ((layW us vs R h i).getD (i * R) (0, 0)).2]) := by rw [Nat.zero_add]; exact atD_map (f := celC) (by rw [layW_len]; omega)
      have a4 : Con.holds ⟨fnOf, specR, L+1⟩ (runF ⟨fnOf, specR, L+1⟩ (n+1)) (.at (((layW us vs R h i).map celC).set (0 + i * R) [.cpx (fmul 4638707616191610880 (fofInt (us.getD i 0))) 0]) (0 + (h + i * R)) [.cpx (((layW us vs R h i).set (i * R) (fmul 4638707616191610880 (fofInt (us.getD i 0)), 0)).getD (h + i * R) (0, 0)).1 (((layW us vs R h i).set (i * R) (fmul 4638707616191610880 (fofInt (us.getD i 0)), 0)).getD (h + i * R) (0, 0)).2]) := by
        rw [Nat.zero_add, Nat.zero_add]
        have e : ((layW us vs R h i).map celC).set (i * R) [.cpx (fmul 4638707616191610880 (fofInt (us.getD i 0))) 0] = ((layW us vs R h i).set (i * R) (fmul 4638707616191610880 (fofInt (us.getD i 0)), 0)).map celC := by rw [List.map_set]; rfl
        rw [e]
        exact atD_map (f := celC) (by rw [List.length_set, layW_len]; omega)
      have := @tlb_0 (L+1) (n+1) k R G us vs (layW us vs R h i) 0 i (2 * h) [22] i (us.getD i 0) (i * R) _ h i (vs.getD i 0) (h + i * R) _
        (by rw [m1, l1]; exact dLt hi) (by rw [m1, l1]; exact ix_at hi) a1 (by rw [w1]; exact ix_at (by omega)) a3 (call_den hh) (by rw [m2, l2]; exact ix_at hi) a2 (by rw [w1, w2]; exact ix_at (by omega)) a4
      rw [wrapUp hi (by omega), Nat.zero_add, Nat.zero_add] at this
      rw [this]
      unfold tlpSt tlH
      rw [layW, List.map_set, List.map_set]
      rfl
    · exact @tlb_1 (L+1) (n+1) k R G us vs (layW us vs R h (2 ^ k)) 0 (2 ^ k) (2 * h) [22] (by rw [m1, l1]; exact dNlt)
  · refine loop0 (fun i => tldSt k R G us vs (layW us vs R h i) (2 * h) i) (2 ^ k) rfl (by omega) (fun i hi => ?_) ?_ (by simp)
    · obtain ⟨w1, w2⟩ := step i hi
      have i1 := hidx i hi
      have a1 : Con.holds ⟨fnOf, specR, L+1⟩ (runF ⟨fnOf, specR, L+1⟩ (n+1)) (.at (us.map celJ) (0 + i) [.int .i8 (us.getD i 0)]) := by rw [Nat.zero_add]; exact atD_map (f := celJ) (by omega)
      have a2 : Con.holds ⟨fnOf, specR, L+1⟩ (runF ⟨fnOf, specR, L+1⟩ (n+1)) (.at (vs.map celJ) (0 + i) [.int .i8 (vs.getD i 0)]) := by rw [Nat.zero_add]; exact atD_map (f := celJ) (by omega)
      have a3 : Con.holds ⟨fnOf, specR, L+1⟩ (runF ⟨fnOf, specR, L+1⟩ (n+1)) (.at ((layW us vs R h i).map celC) (0 + i * R) [.cpx ((layW us vs R h i).getD (i * R) (0, 0)).1 ((layW us vs R h i).getD (i * R) (0, 0)).2]) := by rw [Nat.zero_add]; exact atD_map (f := celC) (by rw [layW_len]; omega)
      have a4 : Con.holds ⟨fnOf, specR, L+1⟩ (runF ⟨fnOf, specR, L+1⟩ (n+1)) (.at (((layW us vs R h i).map celC).set (0 + i * R) [.cpx (fmul 4638707616191610880 (fofInt (us.getD i 0))) 0]) (0 + (h + i * R)) [.cpx (((layW us vs R h i).set (i * R) (fmul 4638707616191610880 (fofInt (us.getD i 0)), 0)).getD (h + i * R) (0, 0)).1 (((layW us vs R h i).set (i * R) (fmul 4638707616191610880 (fofInt (us.getD i 0)), 0)).getD (h + i * R) (0, 0)).2]) := by
        rw [Nat.zero_add, Nat.zero_add]
        have e : ((layW us vs R h i).map celC).set (i * R) [.cpx (fmul 4638707616191610880 (fofInt (us.getD i 0))) 0] = ((layW us vs R h i).set (i * R) (fmul 4638707616191610880 (fofInt (us.getD i 0)), 0)).map celC := by rw [List.map_set]; rfl
        rw [e]
        exact atD_map (f := celC) (by rw [List.length_set, layW_len]; omega)
      have := @tLb_0 (L+1) (n+1) k R G us vs (layW us vs R h i) 0 i (2 * h) [22] i (us.getD i 0) (i * R) _ h i (vs.getD i 0) (h + i * R) _
        (by rw [m1, l1]; exact dLt hi) (by rw [m1, l1]; exact ix_at hi) a1 (by rw [w1]; exact ix_at (by omega)) a3 (call_den hH) (by rw [m2, l2]; exact ix_at hi) a2 (by rw [w1, w2]; exact ix_at (by omega)) a4
      rw [wrapUp hi (by omega), Nat.zero_add, Nat.zero_add] at this
      rw [this]
      unfold tldSt tlH
      rw [layW, List.map_set, List.map_set]
      rfl
    · exact @tLb_1 (L+1) (n+1) k R G us vs (layW us vs R h (2 ^ k)) 0 (2 ^ k) (2 * h) [22] (by rw [m1, l1]; exact dNlt)
end
/-- a training -/
def layD (o r g : Int) : List (Nat × Nat) := if mayB o r g = true then layW (prs o.toNat).1 (prs o.toNat).2 r.toNat (r.toNat * 2 ^ o.toNat + g.toNat) (2 ^ o.toNat) else []
def layE (o r g : Int) : Int := if mayB o r g = true then 0 else 1
theorem layD_len (o r g : Int) : (layD o r g).length ≤ 12288 := by
  unfold layD
  split
  · rename_i h
    have h := of_decide_eq_true h
    rw [layW_len]
    have hp : 2 ^ o.toNat ≤ 256 := Nat.le_trans (Nat.pow_le_pow_right (by decide) (show o.toNat ≤ 8 by omega)) (by decide)
    have hmax : r.toNat * 2 ^ o.toNat ≤ 8 * 256 := Nat.mul_le_mul (by omega) hp
    generalize r.toNat * 2 ^ o.toNat = w at *
    omega
  · exact Nat.zero_le _
def laidA (o r g : Int) : AV := .tup [.own 1 ((layD o r g).map celC) true, .int .i64 (layE o r g)]
section
variable {L n : Nat}
theorem laid_both (o r g : Int) (hL : 300 ≤ L) : ∃ a b, den ⟨fnOf, specR, L+1⟩ (n+2) 22 [.agg [.int .i64 o, .int .i64 r, .int .i64 g]] = some a ∧ den ⟨fnOf, specR, L+1⟩ (n+2) 21 [.agg [.int .i64 o, .int .i64 r, .int .i64 g]] = some b ∧ WkT a (laidA o r g) ∧ WkT b (laidA o r g) := by
  obtain ⟨c1, c2⟩ := @may_both (L+1) n o r g
  cases hm : mayB o r g with
  | false =>
    rw [hm] at c1 c2
    have e : laidA o r g = .tup [.own 1 (([] : List (Nat × Nat)).map celC) true, .int .i64 1] := by unfold laidA layD layE; rw [hm, if_neg (by decide), if_neg (by decide)]
    rw [e]
    have w : WkT (.tup [.nils, .int .i64 1]) (.tup [.own 1 (([] : List (Nat × Nat)).map celC) true, .int .i64 1]) := .inl ⟨_, _, rfl, rfl, .inr (.inr ⟨rfl, 1, true, rfl⟩), .inr (.inl rfl), trivial⟩
    exact ⟨_, _, tla_0 (us := []) (vs := []) (out := []) (ln := 0) (i := 0) (m := 0) (π := []) (call_den c1) rfl, tLa_0 (us := []) (vs := []) (out := []) (ln := 0) (i := 0) (m := 0) (π := []) (call_den c2) rfl, w, w⟩
  | true =>
    rw [hm] at c1 c2
    have h := of_decide_eq_true hm
    obtain ⟨k, rfl⟩ : ∃ k : Nat, o = (k : Int) := ⟨o.toNat, by omega⟩
    obtain ⟨R, rfl⟩ : ∃ R : Nat, r = (R : Int) := ⟨r.toNat, by omega⟩
    obtain ⟨G, rfl⟩ : ∃ G : Nat, g = (G : Int) := ⟨g.toNat, by omega⟩
    have hk1 : 1 ≤ k := by omega
    have hk8 : k ≤ 8 := by omega
    obtain ⟨hh, hH⟩ := @half_both (L+1) n (R : Int) (G : Int) k hk1 hk8 (by omega) (by omega) (by omega) (by omega)
    have ec : ((R : Int) * 2 ^ k + (G : Int)) = ((R * 2 ^ k + G : Nat) : Int) := by rw [Int.natCast_add, Int.natCast_mul, Int.natCast_pow]; rfl
    rw [ec] at hh hH
    have hp : 2 ^ k ≤ 256 := Nat.le_trans (Nat.pow_le_pow_right (by decide) hk8) (by decide)
    have hmax : R * 2 ^ k ≤ 8 * 256 := Nat.mul_le_mul (by omega) hp
    obtain ⟨l1, l2⟩ := @loops L n k R G hk1 hk8 (by omega) (by omega) (by omega) hL
    have e : laidA k R G = .tup [.own 1 ((layW (prs k).1 (prs k).2 R (R * 2 ^ k + G) (2 ^ k)).map celC) true, .int .i64 0] := by
      unfold laidA layD layE; rw [if_pos hm, if_pos hm, Int.toNat_natCast, Int.toNat_natCast, Int.toNat_natCast]
    rw [e]
    obtain ⟨p1, p2⟩ := prs_len k
    have q1 : ((prs k).1.map celJ).length = 2 ^ k := by rw [map_len, p1]
    have q2 : ((prs k).2.map celJ).length = 2 ^ k := by rw [map_len, p2]
    have s1 := spec_is (P := ⟨fnOf, specR, L+1⟩) (C := runF ⟨fnOf, specR, L+1⟩ (n+1)) (f := 68) rfl (pairSem_at hk8)
    have s2 := spec_is (P := ⟨fnOf, specR, L+1⟩) (C := runF ⟨fnOf, specR, L+1⟩ (n+1)) (f := 24) rfl (PairSem_at hk8)
    have hmk : Con.holds ⟨fnOf, specR, L+1⟩ (runF ⟨fnOf, specR, L+1⟩ (n+1)) (.mk (2 * (R * 2 ^ k + G)) (2 * (R * 2 ^ k + G)) true ((List.replicate (2 * (R * 2 ^ k + G)) (0, 0)).map celC) (IntKind.wrap .i64 (2 * ((R * 2 ^ k + G : Nat) : Int))) (IntKind.wrap .i64 (2 * ((R * 2 ^ k + G : Nat) : Int))) 16 [.cpx 0 0]) := by
      generalize R * 2 ^ k = w at *
      exact mk_ok (f := celC) (a := (0, 0)) (by rw [wrap_id (by omega)]; omega) (by simp only [most]; omega) (by simp only [most]; omega)
    have d1 := @tla_1 (L+1) (n+1) k R G (prs k).1 (prs k).2 (layW (prs k).1 (prs k).2 R (R * 2 ^ k + G) (2 ^ k)) 0 (2 ^ k) (2 * (R * 2 ^ k + G)) [] true (prs k).1 (prs k).2 ((R * 2 ^ k + G : Nat) : Int) (2 * (R * 2 ^ k + G))
      (call_den c1) rfl s1 (call_den hh) hmk l1 (by show _ ≤ _; rw [show List.length _ = _ from map_len, layW_len]; exact Nat.le_refl _)
    have d2 := @tLa_1 (L+1) (n+1) k R G (prs k).1 (prs k).2 (layW (prs k).1 (prs k).2 R (R * 2 ^ k + G) (2 ^ k)) 0 (2 ^ k) (2 * (R * 2 ^ k + G)) [] true (prs k).1 (prs k).2 0 ((R * 2 ^ k + G : Nat) : Int) (2 * (R * 2 ^ k + G))
      (call_den c2) rfl s2 (call_den hH) hmk l2 (by show _ ≤ _; rw [show List.length _ = _ from map_len, layW_len]; exact Nat.le_refl _)
    rw [tkMap layW_len.symm] at d1 d2
    exact ⟨_, _, d1, d2, WkT.refl _, WkT.refl _⟩
end
def laidSem : List AV → Option AV
  | [.agg [.v (.int .i64 o), .v (.int .i64 r), .v (.int .i64 g)]] => some (laidA o r g)
  | _ => none
theorem laidSem_is {avs : List AV} {x : AV} (h : laidSem avs = some x) : ∃ o r g : Int, avs = [.agg [.int .i64 o, .int .i64 r, .int .i64 g]] ∧ x = laidA o r g := by
  unfold laidSem at h
  split at h
  · rename_i o r g; cases h; exact ⟨o, r, g, rfl, rfl⟩
  · cases h
/-- how long -/
def lenK (o r g : Int) : Int := if mayB o r g = true then 2 * (r * 2 ^ o.toNat + g) else 0
def lenA (o r g : Int) : AV := .tup [.int .i64 (lenK o r g), .int .i64 (layE o r g)]
theorem len_both (L n : Nat) (o r g : Int) : den ⟨fnOf, specR, L⟩ (n+2) 20 [.agg [.int .i64 o, .int .i64 r, .int .i64 g]] = some (lenA o r g) ∧ den ⟨fnOf, specR, L⟩ (n+2) 19 [.agg [.int .i64 o, .int .i64 r, .int .i64 g]] = some (lenA o r g) := by
  obtain ⟨c1, c2⟩ := @may_both L n o r g
  cases hm : mayB o r g with
  | false =>
    rw [hm] at c1 c2
    have e : lenA o r g = .tup [.int .i64 0, .int .i64 1] := by unfold lenA lenK layE; rw [hm, if_neg (by decide), if_neg (by decide)]
    rw [e]
    exact ⟨tlr_0 (call_den c1) rfl, tLr_0 (call_den c2) rfl⟩
  | true =>
    rw [hm] at c1 c2
    have h := of_decide_eq_true hm
    obtain ⟨k, rfl⟩ : ∃ k : Nat, o = (k : Int) := ⟨o.toNat, by omega⟩
    obtain ⟨hh, hH⟩ := @half_both L n r g k (by omega) (by omega) (by omega) (by omega) (by omega) (by omega)
    have e : lenA k r g = .tup [.int .i64 (IntKind.wrap .i64 (2 * (r * 2 ^ k + g))), .int .i64 0] := by
      unfold lenA lenK layE
      rw [if_pos hm, if_pos hm, Int.toNat_natCast]
      have hp : (2 : Int) ^ k ≤ 256 := by
        have : 2 ^ k ≤ 2 ^ 8 := Nat.pow_le_pow_right (by decide) (show k ≤ 8 by omega)
        have c : (2 : Int) ^ k = ((2 ^ k : Nat) : Int) := by rw [Int.natCast_pow]; rfl
        rw [c]; omega
      have hp0 : (0 : Int) < 2 ^ k := Int.pow_pos (by decide)
      have hmul : r * 2 ^ k ≤ 8 * 256 := Int.le_trans (Int.mul_le_mul_of_nonneg_right (show r ≤ 8 by omega) (Int.le_of_lt hp0)) (Int.mul_le_mul_of_nonneg_left hp (by decide))
      have hmul0 : 0 ≤ r * 2 ^ k := Int.mul_nonneg (by omega) (Int.le_of_lt hp0)
      generalize r * 2 ^ k = w at *
      rw [wrap_id (by omega)]
    rw [e]
    exact ⟨tlr_1 (call_den c1) rfl (call_den hh), tLr_1 (call_den c2) rfl (call_den hH)⟩
def lenSem : List AV → Option AV
  | [.agg [.v (.int .i64 o), .v (.int .i64 r), .v (.int .i64 g)]] => some (lenA o r g)
  | _ => none
theorem lenSem_is {avs : List AV} {x : AV} (h : lenSem avs = some x) : ∃ o r g : Int, avs = [.agg [.int .i64 o, .int .i64 r, .int .i64 g]] ∧ x = lenA o r g := by
  unfold lenSem at h
  split at h
  · rename_i o r g; cases h; exact ⟨o, r, g, rfl, rfl⟩
  · cases h
def newY : FuncId → Option (List AV → Option AV)
  | 22 => some laidSem
  | 21 => some laidSem
  | 20 => some lenSem
  | 19 => some lenSem
  | _ => none
def specY : FuncId → Option (List AV → Option AV) := fun f => match newY f with | some g => some g | none => specR f
theorem spec_y : SpecOk Try.prog ⟨fnOf, specY, 0⟩ :=
  spec_addz spec_r (fun L => fnsOk _ _) follows newY fun f g h => by
    unfold newY at h
    split at h
    · cases h
      refine ⟨⟨_, Try.func22, ne_of_beq_false (by kernel_rfl), by kernel_rfl⟩, fun avs r h => ?_⟩
      obtain ⟨o, r, g, rfl, rfl⟩ := laidSem_is h
      obtain ⟨a, b, h1, _, h2, _⟩ := @laid_both 300 0 o r g (Nat.le_refl _)
      exact toldZ (P := ⟨fnOf, specR, 0⟩) h1 h2
    · cases h
      refine ⟨⟨_, Try.func21, ne_of_beq_false (by kernel_rfl), by kernel_rfl⟩, fun avs r h => ?_⟩
      obtain ⟨o, r, g, rfl, rfl⟩ := laidSem_is h
      obtain ⟨a, b, _, h1, _, h2⟩ := @laid_both 300 0 o r g (Nat.le_refl _)
      exact toldZ (P := ⟨fnOf, specR, 0⟩) h1 h2
    · cases h
      refine ⟨⟨_, Try.func20, ne_of_beq_false (by kernel_rfl), by kernel_rfl⟩, fun avs r h => ?_⟩
      obtain ⟨o, r, g, rfl, rfl⟩ := lenSem_is h
      exact toldZ (P := ⟨fnOf, specR, 0⟩) (len_both 0 0 o r g).1 (WkT.refl _)
    · cases h
      refine ⟨⟨_, Try.func19, ne_of_beq_false (by kernel_rfl), by kernel_rfl⟩, fun avs r h => ?_⟩
      obtain ⟨o, r, g, rfl, rfl⟩ := lenSem_is h
      exact toldZ (P := ⟨fnOf, specR, 0⟩) (len_both 0 0 o r g).2 (WkT.refl _)
    · cases h
end Go.Proofs.Ythcgeajojgecnaa.Fw
