/- taps: the program's and the document's answer are the same; spoken for. -/
import Derived.Test.YtnphdnokedhhkaaLwTaA
set_option maxRecDepth 100000
set_option maxHeartbeats 4000000
set_option linter.unusedSimpArgs false
set_option linter.unusedVariables false
namespace Go.Proofs.Ytnphdnokedhhkaa.Fw
open Go Go.RowKit
theorem firstI (p : Nat → Bool) (m : Nat) : (∀ i, i < m → p i = true) ∨ ∃ k, k < m ∧ (∀ i, i < k → p i = true) ∧ p k = false := by
  rcases firstBad p (List.range m) with h | ⟨k, hk, h1, h2⟩
  · exact .inl fun i hi => List.all_eq_true.1 h i (List.mem_range.2 hi)
  · refine .inr ⟨k, by simpa using hk, fun i hi => ?_, by simpa using h2⟩
    have := h1 i hi
    simpa using this
def okTap (z : Nat × Nat) : Bool := plainF z.1 one && plainF z.2 one
def sP (zs : List (Nat × Nat)) : Nat → Nat
  | 0 => 0
  | i + 1 => fadd (sP zs i) (fadd (absF (zs.getD i (0, 0)).1) (absF (zs.getD i (0, 0)).2))
def sD (zs : List (Nat × Nat)) : Nat → Nat
  | 0 => 0
  | i + 1 => fadd (fadd (sD zs i) (szF (zs.getD i (0, 0)).1)) (szF (zs.getD i (0, 0)).2)
theorem six_fle {m : Int} {x y c : Nat} (hx : six m x) (hy : six m y) (hc : fin c) : fle x c = fle y c := by
  rw [fle_fin hx.1 hc, fle_fin hy.1 hc, hx.2, hy.2]
theorem fin4 : fin 4616189618054758400 := by
  have h := fofInt_exact (n := 4) (by decide)
  have e : fofInt 4 = 4616189618054758400 := by kernel_rfl
  rw [e] at h; exact h.1
theorem sums {zs : List (Nat × Nat)} (hl : zs.length ≤ 64) : ∀ i, i ≤ zs.length → (∀ j, j < i → okTap (zs.getD j (0, 0)) = true) → ∃ S : Int, 0 ≤ S ∧ S ≤ 128 * i ∧ six S (sP zs i) ∧ six S (sD zs i)
  | 0, _, _ => ⟨0, by omega, by omega, six_zero, six_zero⟩
  | i + 1, hi, h => by
    obtain ⟨S, s1, s2, s3, s4⟩ := sums hl i (by omega) fun j hj => h j (by omega)
    have hk := h i (by omega)
    unfold okTap at hk
    simp only [Bool.and_eq_true] at hk
    obtain ⟨m, hm, hb⟩ := plain_six hk.1
    obtain ⟨k, hk, hc⟩ := plain_six hk.2
    obtain ⟨a1, a2⟩ := six_abs hm
    obtain ⟨b1, b2⟩ := six_abs hk
    refine ⟨S + (m.natAbs + k.natAbs), by omega, by omega, six_add s3 (six_add a1 b1 (by omega)) (by omega), ?_⟩
    have := six_add (six_add s4 a2 (by omega)) b2 (by omega)
    rwa [Int.add_assoc] at this
/-- are numbers taps? -/
def tapsF (zs : List (Nat × Nat)) : Bool := decide (0 < zs.length) && decide (zs.length ≤ 64) && (List.range zs.length).all (fun i => okTap (zs.getD i (0, 0))) && fle (sP zs zs.length) 4616189618054758400
section
variable {L n : Nat} {zs : List (Nat × Nat)}
theorem tapsF_is : tapsF zs = true ↔ 0 < zs.length ∧ zs.length ≤ 64 ∧ (∀ i, i < zs.length → okTap (zs.getD i (0, 0)) = true) ∧ fle (sP zs zs.length) 4616189618054758400 = true := by
  unfold tapsF
  simp only [Bool.and_eq_true, decide_eq_true_eq, List.all_eq_true, List.mem_range, and_assoc]
theorem tapsF_bad {k : Nat} (hk : k < zs.length) (h : okTap (zs.getD k (0, 0)) = false) : tapsF zs = false := by
  cases hq : tapsF zs with
  | false => rfl
  | true =>
    have := (tapsF_is.1 hq).2.2.1 k hk
    rw [h] at this; cases this
theorem tapsF_long (h : ¬ (0 < zs.length ∧ zs.length ≤ 64)) : tapsF zs = false := by
  cases hq : tapsF zs with
  | false => rfl
  | true =>
    obtain ⟨h1, h2, _⟩ := tapsF_is.1 hq
    exact absurd ⟨h1, h2⟩ h
theorem tap_prog (hL : zs.length ≤ L) (hm : zs.length ≤ 17592186044415) : den ⟨fnOf, specO, L+1⟩ (n+1) 41 [.lst 1 (zs.map celC)] = some (.v (.bool (tapsF zs))) := by
  have hl : (zs.map celC).length = zs.length := map_len
  have hstep : ∀ k, k ≤ zs.length → (∀ i, i < k → okTap (zs.getD i (0, 0)) = true) → ∀ i, i < k →
      seeZ 0 [0, 3, 6, 7, 8] m41.res (bodyOf ⟨fnOf, specO, L+1⟩ (runF ⟨fnOf, specO, L+1⟩ n) 0 m41b0 (i :: [5]) (taSt zs (sP zs i) i)) = some (.go .nrm (taSt zs (sP zs (i + 1)) (i + 1))) := fun k hk h i hi => by
    have h1 := h i hi
    unfold okTap one at h1
    simp only [Bool.and_eq_true] at h1
    have := @tar_2 (L+1) n zs (sP zs i) i [5] (zs.getD i (0, 0)) (by rw [hl]; exact dLt (by omega)) (elD_map (f := celC) (by omega)) (by rw [h1.1]; rfl) (by rw [h1.2]; rfl)
    rw [wrap_id (n := (i : Int) + 1) (by omega)] at this
    exact this
  rcases firstI (fun i => okTap (zs.getD i (0, 0))) zs.length with h | ⟨k, hk, h1, h2⟩
  · have hlp : Con.holds ⟨fnOf, specO, L+1⟩ (runF ⟨fnOf, specO, L+1⟩ n) (.loop 0 [0, 3, 6, 7, 8] m41b0 [5] (taSt zs 0 0) (.exit 0) (taSt zs (sP zs zs.length) zs.length)) := by
      refine loopX (res := m41.res) (fun i => taSt zs (sP zs i) i) zs.length rfl hL (hstep _ (Nat.le_refl _) h) ?_ (by simp)
      exact @tar_3 (L+1) n zs (sP zs zs.length) zs.length [5] (by rw [hl]; exact dNlt)
    by_cases c1 : 0 < zs.length
    · by_cases c2 : zs.length ≤ 64
      · have := @tan_0 (L+1) n zs (sP zs zs.length) hlp (by rw [hl]; exact dT (by omega)) (by rw [hl]; exact dT (by omega))
        rw [this]
        congr 3
        rw [Bool.eq_iff_iff, tapsF_is]
        exact ⟨fun h3 => ⟨c1, c2, h, h3⟩, fun h3 => h3.2.2.2⟩
      · rw [tapsF_long (fun h => c2 h.2)]
        exact @tan_1 (L+1) n zs (sP zs zs.length) hlp (by rw [hl]; exact dT (by omega)) (by rw [hl]; exact dF (by omega))
    · rw [tapsF_long (fun h => c1 h.1)]
      exact @tan_2 (L+1) n zs (sP zs zs.length) hlp (by rw [hl]; exact dF (by omega))
  · rw [tapsF_bad hk h2]
    have hbad : seeZ 0 [0, 3, 6, 7, 8] m41.res (bodyOf ⟨fnOf, specO, L+1⟩ (runF ⟨fnOf, specO, L+1⟩ n) 0 m41b0 (k :: [5]) (taSt zs (sP zs k) k)) = some (.out (.v (.bool false))) := by
      have ha : decide ((k : Int) < ((zs.map celC).length : Int)) = true := by rw [hl]; exact dLt hk
      have he := elD_map (P := ⟨fnOf, specO, L+1⟩) (C := runF ⟨fnOf, specO, L+1⟩ n) (f := celC) (d := (0, 0)) hk
      unfold okTap one at h2
      cases hq : plainF (zs.getD k (0, 0)).1 4607182418800017408 with
      | false => exact @tar_0 (L+1) n zs (sP zs k) k [5] (zs.getD k (0, 0)) ha he (by rw [hq]; rfl)
      | true =>
        rw [hq, Bool.true_and] at h2
        exact @tar_1 (L+1) n zs (sP zs k) k [5] (zs.getD k (0, 0)) ha he (by rw [hq]; rfl) (by rw [h2]; rfl)
    obtain ⟨s1, hd, ho⟩ := loopZ (P := ⟨fnOf, specO, L+1⟩) (C := runF ⟨fnOf, specO, L+1⟩ n) (π := [5]) (fun i => taSt zs (sP zs i) i) k rfl (by omega) (hstep k (by omega) h1) hbad
    exact tat_0 hd ho
theorem tap_doc (hL : 64 ≤ L) (hm : zs.length ≤ 17592186044415) : den ⟨fnOf, specO, L+1⟩ (n+1) 43 [.lst 1 (zs.map celC)] = some (.v (.bool (tapsF zs))) := by
  have hl : (zs.map celC).length = zs.length := map_len
  by_cases c1 : 0 < zs.length
  · by_cases c2 : zs.length ≤ 64
    · have b1 : decide (((zs.map celC).length : Int) < 1) = false := by rw [hl]; exact dF (by omega)
      have b2 : decide (((zs.map celC).length : Int) > 64) = false := by rw [hl]; exact dF (by omega)
      have hstep : ∀ k, k ≤ zs.length → (∀ i, i < k → okTap (zs.getD i (0, 0)) = true) → ∀ i, i < k →
          seeZ 0 [0, 3, 4] m43.res (bodyOf ⟨fnOf, specO, L+1⟩ (runF ⟨fnOf, specO, L+1⟩ n) 0 m43b0 (i :: [11]) (tdSt zs (sD zs i) i)) = some (.go .nrm (tdSt zs (sD zs (i + 1)) (i + 1))) := fun k hk h i hi => by
        have h1 := h i hi
        unfold okTap one at h1
        simp only [Bool.and_eq_true] at h1
        have he := elD_map (P := ⟨fnOf, specO, L+1⟩) (C := runF ⟨fnOf, specO, L+1⟩ n) (f := celC) (d := (0, 0)) (show i < zs.length by omega)
        have := @tdr_2 (L+1) n zs (sD zs i) i [11] (zs.getD i (0, 0)) (zs.getD i (0, 0)) (zs.getD i (0, 0)) (zs.getD i (0, 0)) (by rw [hl]; exact dLt (by omega)) he (by rw [h1.1]; rfl) he (by rw [h1.2]; rfl) he he
        rw [wrap_id (n := (i : Int) + 1) (by omega)] at this
        exact this
      rcases firstI (fun i => okTap (zs.getD i (0, 0))) zs.length with h | ⟨k, hk, h1, h2⟩
      · have hlp : Con.holds ⟨fnOf, specO, L+1⟩ (runF ⟨fnOf, specO, L+1⟩ n) (.loop 0 [0, 3, 4] m43b0 [11] (tdSt zs 0 0) (.exit 0) (tdSt zs (sD zs zs.length) zs.length)) := by
          refine loopX (res := m43.res) (fun i => tdSt zs (sD zs i) i) zs.length rfl (by omega) (hstep _ (Nat.le_refl _) h) ?_ (by simp)
          exact @tdr_3 (L+1) n zs (sD zs zs.length) zs.length [11] (by rw [hl]; exact dNlt)
        obtain ⟨S, _, _, g1, g2⟩ := sums c2 zs.length (Nat.le_refl _) h
        have := @tdn_2 (L+1) n zs (sD zs zs.length) b1 b2 hlp
        rw [this, six_fle g2 g1 fin4]
        congr 3
        rw [Bool.eq_iff_iff, tapsF_is]
        exact ⟨fun h3 => ⟨c1, c2, h, h3⟩, fun h3 => h3.2.2.2⟩
      · rw [tapsF_bad hk h2]
        have hbad : seeZ 0 [0, 3, 4] m43.res (bodyOf ⟨fnOf, specO, L+1⟩ (runF ⟨fnOf, specO, L+1⟩ n) 0 m43b0 (k :: [11]) (tdSt zs (sD zs k) k)) = some (.out (.v (.bool false))) := by
          have ha : decide ((k : Int) < ((zs.map celC).length : Int)) = true := by rw [hl]; exact dLt hk
          have he := elD_map (P := ⟨fnOf, specO, L+1⟩) (C := runF ⟨fnOf, specO, L+1⟩ n) (f := celC) (d := (0, 0)) hk
          unfold okTap one at h2
          cases hq : plainF (zs.getD k (0, 0)).1 4607182418800017408 with
          | false => exact @tdr_0 (L+1) n zs (sD zs k) k [11] (zs.getD k (0, 0)) ha he (by rw [hq]; rfl)
          | true =>
            rw [hq, Bool.true_and] at h2
            exact @tdr_1 (L+1) n zs (sD zs k) k [11] (zs.getD k (0, 0)) (zs.getD k (0, 0)) ha he (by rw [hq]; rfl) he (by rw [h2]; rfl)
        obtain ⟨s1, hd, ho⟩ := loopZ (P := ⟨fnOf, specO, L+1⟩) (C := runF ⟨fnOf, specO, L+1⟩ n) (π := [11]) (fun i => tdSt zs (sD zs i) i) k rfl (by omega) (hstep k (by omega) h1) hbad
        exact tdt_2 b1 b2 hd ho
    · rw [tapsF_long (fun h => c2 h.2)]
      exact @tdn_1 (L+1) n zs 0 (by rw [hl]; exact dF (by omega)) (by rw [hl]; exact dT (by omega))
  · rw [tapsF_long (fun h => c1 h.1)]
    exact @tdn_0 (L+1) n zs 0 (by rw [hl]; exact dT (by omega))
end
end Go.Proofs.Ytnphdnokedhhkaa.Fw
