/- train: Taps and AreTaps, the program's and the document's: what they answer; Taps spoken for. -/
import Derived.Test.YthcgeajojgecnaaLwTkA
import Derived.Test.YthcgeajojgecnaaLwTkB
set_option maxRecDepth 100000
set_option maxHeartbeats 4000000
set_option exponentiation.threshold 4000
set_option linter.unusedSimpArgs false
set_option linter.unusedVariables false
namespace Go.Proofs.Ythcgeajojgecnaa.Fw
open Go Go.RowKit
section
variable {L n : Nat}
theorem size_den {x : Nat} : den ⟨fnOf, specG, L⟩ (n+1) 80 [.flt x] = some (.flt (sizF x)) := by
  unfold sizF
  cases c : flt x 0 with
  | true => exact @tkz_0 L n 0 0 0 [] 0 0 [] [] x 0 0 0 0 [] [] c
  | false => exact @tkz_1 L n 0 0 0 [] 0 0 [] [] x 0 0 0 0 [] [] c
end
/-- the sum of sizes, as the document adds -/
def sumD (zs : List (Nat × Nat)) : Nat → Nat
  | 0 => 0
  | i + 1 => fadd (fadd (sumD zs i) (sizF (zs.getD i (0, 0)).1)) (sizF (zs.getD i (0, 0)).2)
theorem sumA_bound {K J : Nat → Int} {m : Nat} (h : ∀ i, i < m → (K i).natAbs < 2 ^ 32 ∧ (J i).natAbs < 2 ^ 32) : ∀ {i}, i ≤ m → sumA K J i ≤ i * 2 ^ 33
  | 0, _ => by simp [sumA]
  | i + 1, hi => by
    have h1 := sumA_bound h (i := i) (by omega)
    obtain ⟨a, b⟩ := h i (by omega)
    rw [sumA]; omega
section
variable {L n : Nat} {zs : List (Nat × Nat)} {K J : Nat → Int}
theorem sumD_is (h : tapL K J zs) (hb : ∀ i, i < zs.length → (K i).natAbs < 2 ^ 32 ∧ (J i).natAbs < 2 ^ 32) (hl : zs.length ≤ 64) : ∀ {i}, i ≤ zs.length → grid6 (sumA K J i) (sumD zs i)
  | 0, _ => grid6_zero
  | i + 1, hi => by
    have h1 := sumD_is h hb hl (i := i) (by omega)
    obtain ⟨a, b⟩ := h i (by omega)
    obtain ⟨p, q⟩ := hb i (by omega)
    have hs := sumA_bound hb (i := i) (by omega)
    rw [sumD, sumA]
    have := grid6_add (grid6_add h1 (grid6_siz a) (by omega)) (grid6_siz b) (by omega)
    rw [Int.natCast_add, Int.natCast_add]
    exact this
theorem areTaps_den (h : tapL K J zs) (hb : ∀ i, i < zs.length → (K i).natAbs < 2 ^ 32 ∧ (J i).natAbs < 2 ^ 32) (hl : zs.length ≤ 64) (hL : 64 ≤ L) :
    den ⟨fnOf, specG, L+1⟩ (n+2) 40 [.lst 1 (zs.map celC)] = some (.v (.bool (decide (1 ≤ zs.length ∧ areT K J zs.length)))) := by
  have gl : (zs.map celC).length = zs.length := map_len
  have d : ∀ i, i < zs.length → Con.holds ⟨fnOf, specG, L+1⟩ (runF ⟨fnOf, specG, L+1⟩ (n+1)) (.el (zs.map celC) (.int .i64 i) [.cpx (zs.getD i (0, 0)).1 (zs.getD i (0, 0)).2]) := fun i hi => elD_map (f := celC) hi
  have one := grid6_one
  have sz := fun x => call_den (@size_den (L+1) n x)
  have cmp : ∀ i, i < zs.length → fgt (sizF (zs.getD i (0, 0)).1) 4607182418800017408 = !decide ((K i).natAbs ≤ 64) ∧ fgt (sizF (zs.getD i (0, 0)).2) 4607182418800017408 = !decide ((J i).natAbs ≤ 64) := fun i hi => by
    obtain ⟨a, b⟩ := h i hi
    rw [grid6_gt (grid6_siz a) one, grid6_gt (grid6_siz b) one]
    constructor
    · by_cases c : (K i).natAbs ≤ 64
      · rw [decide_eq_true c]; exact dF (by omega)
      · rw [decide_eq_false c]; exact dT (by omega)
    · by_cases c : (J i).natAbs ≤ 64
      · rw [decide_eq_true c]; exact dF (by omega)
      · rw [decide_eq_false c]; exact dT (by omega)
  have go : ∀ i, i < zs.length → tapB K J i = true → seeZ 0 [0, 3, 4] m40.res (bodyOf ⟨fnOf, specG, L+1⟩ (runF ⟨fnOf, specG, L+1⟩ (n+1)) 0 m40b0 (i :: [3]) (tkaSt zs (sumD zs i) i)) = some (.go .nrm (tkaSt zs (sumD zs (i + 1)) (i + 1))) := fun i hi hg => by
    unfold tapB at hg
    rw [Bool.and_eq_true] at hg
    obtain ⟨c1, c2⟩ := cmp i hi
    rw [hg.1] at c1
    rw [hg.2] at c2
    have := @tkb_2 (L+1) (n+1) 0 0 0 [] 0 0 zs [] 0 (sumD zs i) 0 i 0 [] [3] (zs.getD i (0, 0)) (sizF (zs.getD i (0, 0)).1) (zs.getD i (0, 0)) (sizF (zs.getD i (0, 0)).2) (by rw [gl]; exact dLt hi) (d i hi) (sz _) (d i hi) (sz _) c1 c2
    rw [wrapUp hi (by omega)] at this
    rw [this]; rfl
  rcases firstN (tapB K J) zs.length with hall | ⟨k, hk, hp, hbad⟩
  · have hs := sumD_is h hb hl (Nat.le_refl _)
    have lp : Con.holds ⟨fnOf, specG, L+1⟩ (runF ⟨fnOf, specG, L+1⟩ (n+1)) (.loop 0 [0, 3, 4] m40b0 [3] (tkaSt zs 0 0) (.exit 0) (tkaSt zs (sumD zs zs.length) zs.length)) :=
      loopX (res := m40.res) (fun i => tkaSt zs (sumD zs i) i) zs.length rfl (by omega) (fun i hi => go i hi (hall i hi)) (@tkb_3 (L+1) (n+1) 0 0 0 [] 0 0 zs [] 0 (sumD zs zs.length) 0 zs.length 0 [] [3] (by rw [gl]; exact dNlt)) (by simp)
    by_cases h1 : 1 ≤ zs.length
    · have e : fle (sumD zs zs.length) 4616189618054758400 = decide (1 ≤ zs.length ∧ areT K J zs.length) := by
        rw [grid6_le hs grid6_four]
        refine decide_eq_decide.2 ⟨fun q => ⟨h1, hall, by omega⟩, fun q => by have := q.2.2; omega⟩
      rw [← e]
      exact @tka_0 (L+1) (n+1) 0 0 0 [] 0 0 zs [] 0 (sumD zs zs.length) 0 zs.length 0 [] [] lp (by rw [gl]; exact dT (by omega)) (by rw [gl]; exact dT (by omega))
    · have e : decide (1 ≤ zs.length ∧ areT K J zs.length) = false := decide_eq_false fun q => h1 q.1
      rw [e]
      exact @tka_2 (L+1) (n+1) 0 0 0 [] 0 0 zs [] 0 (sumD zs zs.length) 0 zs.length 0 [] [] lp (by rw [gl]; exact dF (by omega))
  · have e : decide (1 ≤ zs.length ∧ areT K J zs.length) = false := decide_eq_false fun q => by have := q.2.1 k hk; rw [hbad] at this; cases this
    rw [e]
    obtain ⟨c1, c2⟩ := cmp k hk
    have out : seeZ 0 [0, 3, 4] m40.res (bodyOf ⟨fnOf, specG, L+1⟩ (runF ⟨fnOf, specG, L+1⟩ (n+1)) 0 m40b0 (k :: [3]) (tkaSt zs (sumD zs k) k)) = some (.out (.v (.bool false))) := by
      unfold tapB at hbad
      cases hx : decide ((K k).natAbs ≤ 64) with
      | false =>
        rw [hx] at c1
        exact @tkb_0 (L+1) (n+1) 0 0 0 [] 0 0 zs [] 0 (sumD zs k) 0 k 0 [] [3] (zs.getD k (0, 0)) (sizF (zs.getD k (0, 0)).1) (zs.getD k (0, 0)) (sizF (zs.getD k (0, 0)).2) (by rw [gl]; exact dLt hk) (d k hk) (sz _) (d k hk) (sz _) c1
      | true =>
        rw [hx, Bool.true_and] at hbad
        rw [hx] at c1
        rw [hbad] at c2
        exact @tkb_1 (L+1) (n+1) 0 0 0 [] 0 0 zs [] 0 (sumD zs k) 0 k 0 [] [3] (zs.getD k (0, 0)) (sizF (zs.getD k (0, 0)).1) (zs.getD k (0, 0)) (sizF (zs.getD k (0, 0)).2) (by rw [gl]; exact dLt hk) (d k hk) (sz _) (d k hk) (sz _) c1 c2
    obtain ⟨s1, a1, b1⟩ := loopZ (P := ⟨fnOf, specG, L+1⟩) (C := runF ⟨fnOf, specG, L+1⟩ (n+1)) (π := [3]) (res := m40.res) (fun i => tkaSt zs (sumD zs i) i) k rfl (by omega) (fun i hi => go i (by omega) (hp i hi)) out
    exact @tkc_0 (L+1) (n+1) 0 0 0 [] 0 0 zs [] 0 0 0 0 0 [] [] s1 _ a1 b1
end
section
variable {L n : Nat} {o r g : Int} {ss : List ((Nat × Nat) × Bool)} {a m : Int} {zs : List (Nat × Nat)} {T U : Nat → Int} {k : Nat}
theorem rawL_stp (h1 : 1 ≤ k) (hz : rawL T U k zs) (hT : ∀ j, j < zs.length → (T j).natAbs ≤ 2 ^ 31 ∧ (U j).natAbs ≤ 2 ^ 31) {j : Nat} (hj : j < zs.length) :
    (grid6 (tapK (T j) k) (stpV (zs.getD j (0, 0)).1) ∧ grid6 (tapK (U j) k) (stpV (zs.getD j (0, 0)).2)) ∧ (grid6 (tapK (T j) k) (stpW (zs.getD j (0, 0)).1) ∧ grid6 (tapK (U j) k) (stpW (zs.getD j (0, 0)).2)) ∧ (tapK (T j) k).natAbs < 2 ^ 32 ∧ (tapK (U j) k).natAbs < 2 ^ 32 := by
  obtain ⟨x, y⟩ := hz j hj
  obtain ⟨p, q⟩ := hT j hj
  obtain ⟨a1, a2, a3⟩ := raw_stp h1 p x
  obtain ⟨b1, b2, b3⟩ := raw_stp h1 q y
  exact ⟨⟨a1, b1⟩, ⟨a2, b2⟩, a3, b3⟩
theorem tapsP_run (h1 : 1 ≤ k) (hz : rawL T U k zs) (hT : ∀ j, j < zs.length → (T j).natAbs ≤ 2 ^ 31 ∧ (U j).natAbs ≤ 2 ^ 31) (hl : zs.length ≤ 64) (hL : 64 ≤ L)
    (hc : Con.holds ⟨fnOf, specG, L+1⟩ (runF ⟨fnOf, specG, L+1⟩ (n+1)) (.spec 31 (rawArg o r g ss a m) (cpxA zs 0))) :
    (areT (fun j => tapK (T j) k) (fun j => tapK (U j) k) zs.length → ∃ out, den ⟨fnOf, specG, L+1⟩ (n+2) 37 (rawArg o r g ss a m) = some (cpxA out 0) ∧ out.length = zs.length ∧ tapL (fun j => tapK (T j) k) (fun j => tapK (U j) k) out) ∧
    (¬ areT (fun j => tapK (T j) k) (fun j => tapK (U j) k) zs.length → den ⟨fnOf, specG, L+1⟩ (n+2) 37 (rawArg o r g ss a m) = some (.tup [.nils, .int .i64 8])) := by
  have gl : (zs.map celC).length = zs.length := map_len
  generalize hK : (fun j => tapK (T j) k) = K at *
  generalize hJ : (fun j => tapK (U j) k) = J at *
  have st : ∀ j, j < zs.length → (grid6 (K j) (stpV (zs.getD j (0, 0)).1) ∧ grid6 (J j) (stpV (zs.getD j (0, 0)).2)) ∧ (K j).natAbs < 2 ^ 32 ∧ (J j).natAbs < 2 ^ 32 := fun j hj => by
    obtain ⟨x, _, y⟩ := rawL_stp h1 hz hT hj
    subst hK hJ
    exact ⟨x, y⟩
  have hb : ∀ i, i < zs.length → (K i).natAbs < 2 ^ 32 ∧ (J i).natAbs < 2 ^ 32 := fun i hi => (st i hi).2
  -- a round
  have round : ∀ i, i < zs.length → ∀ us sum, us.length = zs.length → (∀ j, us.getD j (0, 0) = if j < i then (stpV (zs.getD j (0, 0)).1, stpV (zs.getD j (0, 0)).2) else zs.getD j (0, 0)) → grid6 (sumA K J i) sum →
      (tapG K J i = true → ∃ us' sum', seeZ 0 [10, 12, 30, 31, 32] m37.res (bodyOf ⟨fnOf, specG, L+1⟩ (runF ⟨fnOf, specG, L+1⟩ (n+1)) 0 m37b0 (i :: [19]) (tkpSt us sum zs.length i)) = some (.go .nrm (tkpSt us' sum' zs.length (i + 1))) ∧ us'.length = zs.length ∧ (∀ j, us'.getD j (0, 0) = if j < i + 1 then (stpV (zs.getD j (0, 0)).1, stpV (zs.getD j (0, 0)).2) else zs.getD j (0, 0)) ∧ grid6 (sumA K J (i + 1)) sum') ∧
      (tapG K J i = false → seeZ 0 [10, 12, 30, 31, 32] m37.res (bodyOf ⟨fnOf, specG, L+1⟩ (runF ⟨fnOf, specG, L+1⟩ (n+1)) 0 m37b0 (i :: [19]) (tkpSt us sum zs.length i)) = some (.out (.tup [.nils, .int .i64 8]))) := by
    intro i hi us sum ul ug hs
    obtain ⟨⟨g1, g2⟩, b1, b2⟩ := st i hi
    have ui : us.getD i (0, 0) = zs.getD i (0, 0) := by rw [ug, if_neg (Nat.lt_irrefl _)]
    have ha : Con.holds ⟨fnOf, specG, L+1⟩ (runF ⟨fnOf, specG, L+1⟩ (n+1)) (.at (us.map celC) (0 + i) [.cpx (zs.getD i (0, 0)).1 (zs.getD i (0, 0)).2]) := by
      rw [Nat.zero_add, ← ui]; exact atD_map (f := celC) (by rw [ul]; exact hi)
    have sb := sumA_bound hb (i := i) (by omega)
    have gs : grid6 (sumA K J (i + 1)) (fadd sum (fadd (absF (stpV (zs.getD i (0, 0)).1)) (absF (stpV (zs.getD i (0, 0)).2)))) := by
      have := grid6_add hs (grid6_add (grid6_abs g1) (grid6_abs g2) (by omega)) (by omega)
      rw [sumA, Int.natCast_add, Int.natCast_add, Int.add_assoc]
      exact this
    have e1 : fgt (absF (stpV (zs.getD i (0, 0)).1)) 4607182418800017408 = !decide ((K i).natAbs ≤ 64) := by
      rw [grid6_gt (grid6_abs g1) grid6_one]
      by_cases c : (K i).natAbs ≤ 64
      · rw [decide_eq_true c]; exact dF (by omega)
      · rw [decide_eq_false c]; exact dT (by omega)
    have e2 : fgt (absF (stpV (zs.getD i (0, 0)).2)) 4607182418800017408 = !decide ((J i).natAbs ≤ 64) := by
      rw [grid6_gt (grid6_abs g2) grid6_one]
      by_cases c : (J i).natAbs ≤ 64
      · rw [decide_eq_true c]; exact dF (by omega)
      · rw [decide_eq_false c]; exact dT (by omega)
    have e3 : fgt (fadd sum (fadd (absF (stpV (zs.getD i (0, 0)).1)) (absF (stpV (zs.getD i (0, 0)).2)))) 4616189618054758400 = !decide (sumA K J (i + 1) ≤ 256) := by
      rw [grid6_gt gs grid6_four]
      by_cases c : sumA K J (i + 1) ≤ 256
      · rw [decide_eq_true c]; exact dF (by omega)
      · rw [decide_eq_false c]; exact dT (by omega)
    unfold tapG tapB
    constructor
    · intro hg
      rw [Bool.and_eq_true, Bool.and_eq_true] at hg
      rw [hg.1.1] at e1
      rw [hg.1.2] at e2
      rw [hg.2] at e3
      have := @tkq_3 (L+1) (n+1) 0 0 0 [] 0 0 us [] 0 sum 0 i zs.length [] [19] i (zs.getD i (0, 0)) i (zs.getD i (0, 0)) (dLt hi) (ix_at hi) ha (ix_at hi) ha e1 e2 e3
      rw [wrapUp hi (by omega), Nat.zero_add] at this
      refine ⟨us.set i (stpV (zs.getD i (0, 0)).1, stpV (zs.getD i (0, 0)).2), _, ?_, by rw [List.length_set, ul], fun j => ?_, gs⟩
      · rw [this]
        unfold tkpSt
        rw [List.map_set]
        rfl
      · rw [getD_sets (by rw [ul]; exact hi)]
        by_cases c : i = j
        · subst c; rw [if_pos rfl, if_pos (Nat.lt_succ_self _)]
        · rw [if_neg c, ug]
          by_cases c2 : j < i
          · rw [if_pos c2, if_pos (by omega)]
          · rw [if_neg c2, if_neg (by omega)]
    · intro hg
      cases h1 : decide ((K i).natAbs ≤ 64) with
      | false =>
        rw [h1] at e1
        exact @tkq_0 (L+1) (n+1) 0 0 0 [] 0 0 us [] 0 sum 0 i zs.length [] [19] i (zs.getD i (0, 0)) i (zs.getD i (0, 0)) (dLt hi) (ix_at hi) ha (ix_at hi) ha e1
      | true =>
        rw [h1] at e1 hg
        cases h2 : decide ((J i).natAbs ≤ 64) with
        | false =>
          rw [h2] at e2
          exact @tkq_1 (L+1) (n+1) 0 0 0 [] 0 0 us [] 0 sum 0 i zs.length [] [19] i (zs.getD i (0, 0)) i (zs.getD i (0, 0)) (dLt hi) (ix_at hi) ha (ix_at hi) ha e1 e2
        | true =>
          rw [h2] at e2 hg
          rw [Bool.true_and, Bool.true_and] at hg
          rw [hg] at e3
          exact @tkq_2 (L+1) (n+1) 0 0 0 [] 0 0 us [] 0 sum 0 i zs.length [] [19] i (zs.getD i (0, 0)) i (zs.getD i (0, 0)) (dLt hi) (ix_at hi) ha (ix_at hi) ha e1 e2 e3
  have go : ∀ b, b ≤ zs.length → (∀ j, j < b → tapG K J j = true) → ∀ {x : Ex} (hx : x ≠ .nrm) (Q : St → Prop),
      (∀ us sum, us.length = zs.length → (∀ j, us.getD j (0, 0) = if j < b then (stpV (zs.getD j (0, 0)).1, stpV (zs.getD j (0, 0)).2) else zs.getD j (0, 0)) → grid6 (sumA K J b) sum → ∃ s', rnd 0 [10, 12, 30, 31, 32] (bodyOf ⟨fnOf, specG, L+1⟩ (runF ⟨fnOf, specG, L+1⟩ (n+1)) 0 m37b0 (b :: [19]) (tkpSt us sum zs.length b)) = some (x, s') ∧ Q s') →
      ∃ s', Con.holds ⟨fnOf, specG, L+1⟩ (runF ⟨fnOf, specG, L+1⟩ (n+1)) (.loop 0 [10, 12, 30, 31, 32] m37b0 [19] (tkpSt zs 0 zs.length 0) x s') ∧ Q s' := by
    intro b hbz hok x hx Q he
    refine loopJ (P := ⟨fnOf, specG, L+1⟩) (C := runF ⟨fnOf, specG, L+1⟩ (n+1)) (L := L) (d := 0) (live := [10, 12, 30, 31, 32]) (π := [19]) (m := m37b0) (A := tkpSt zs 0 zs.length 0)
      (fun i s => ∃ us sum, s = tkpSt us sum zs.length i ∧ us.length = zs.length ∧ (∀ j, us.getD j (0, 0) = if j < i then (stpV (zs.getD j (0, 0)).1, stpV (zs.getD j (0, 0)).2) else zs.getD j (0, 0)) ∧ grid6 (sumA K J i) sum) Q b hx rfl (by omega)
      ⟨zs, 0, rfl, rfl, fun j => by rw [if_neg (Nat.not_lt_zero _)], grid6_zero⟩ (fun i s hi hst => ?_) (fun s hst => ?_)
    · obtain ⟨us, sum, rfl, q1, q2, q3⟩ := hst
      obtain ⟨us', sum', p1, p2, p3, p4⟩ := (round i (by omega) us sum q1 q2 q3).1 (hok i hi)
      exact ⟨_, seeZ_go p1, us', sum', rfl, p2, p3, p4⟩
    · obtain ⟨us, sum, rfl, q1, q2, q3⟩ := hst
      exact he us sum q1 q2 q3
  constructor
  · intro hA
    obtain ⟨s', q1, us, sum, rfl, u1, u2⟩ := go zs.length (Nat.le_refl _) ((areT_iff K J).1 hA) (x := .exit 0) (by simp) (fun s => ∃ us sum, s = tkpSt us sum zs.length zs.length ∧ us.length = zs.length ∧ ∀ j, us.getD j (0, 0) = if j < zs.length then (stpV (zs.getD j (0, 0)).1, stpV (zs.getD j (0, 0)).2) else zs.getD j (0, 0))
      (fun us sum u1 u2 u3 => ⟨_, seeZ_go (@tkq_4 (L+1) (n+1) 0 0 0 [] 0 0 us [] 0 sum 0 zs.length zs.length [] [19] dNlt), us, sum, rfl, u1, u2⟩)
    have := @tkp_1 (L+1) (n+1) o r g ss a m [] us 0 sum 0 zs.length zs.length [] [] zs 0 hc rfl (by rw [gl]; exact q1) (by show _ ≤ _; rw [show List.length _ = _ from map_len, u1]; exact Nat.le_refl _)
    rw [tkMap u1.symm] at this
    refine ⟨us, this, u1, fun j hj => ?_⟩
    rw [u1] at hj
    rw [u2, if_pos hj]
    exact (st j hj).1
  · intro hA
    rcases firstN (tapG K J) zs.length with hall | ⟨b, hbz, hp, hbad⟩
    · exact absurd ((areT_iff K J).2 hall) hA
    · obtain ⟨s', q1, q2⟩ := go b (by omega) hp (x := .ret) (by simp) (fun s => outS s m37.res = some (.tup [.nils, .int .i64 8])) (fun us sum u1 u2 u3 => seeZ_out ((round b hbz us sum u1 u2 u3).2 hbad))
      exact @tkt_1 (L+1) (n+1) o r g ss a m [] [] 0 0 0 0 0 [] [] s' _ zs 0 hc rfl (by rw [gl]; exact q1) q2
theorem tapsD_run (h1 : 1 ≤ k) (hz : rawL T U k zs) (hT : ∀ j, j < zs.length → (T j).natAbs ≤ 2 ^ 31 ∧ (U j).natAbs ≤ 2 ^ 31) (hl0 : 1 ≤ zs.length) (hl : zs.length ≤ 64) (hL : 64 ≤ L)
    (hc : Con.holds ⟨fnOf, specG, L+1⟩ (runF ⟨fnOf, specG, L+1⟩ (n+2)) (.spec 35 (rawArg o r g ss a m) (cpxA zs 0))) :
    (areT (fun j => tapK (T j) k) (fun j => tapK (U j) k) zs.length → ∃ out, den ⟨fnOf, specG, L+1⟩ (n+3) 36 (rawArg o r g ss a m) = some (cpxA out 0) ∧ out.length = zs.length ∧ tapL (fun j => tapK (T j) k) (fun j => tapK (U j) k) out) ∧
    (¬ areT (fun j => tapK (T j) k) (fun j => tapK (U j) k) zs.length → den ⟨fnOf, specG, L+1⟩ (n+3) 36 (rawArg o r g ss a m) = some (.tup [.nils, .int .i64 8])) := by
  have gl : (zs.map celC).length = zs.length := map_len
  generalize hK : (fun j => tapK (T j) k) = K at *
  generalize hJ : (fun j => tapK (U j) k) = J at *
  have st : ∀ j, j < zs.length → (grid6 (K j) (stpW (zs.getD j (0, 0)).1) ∧ grid6 (J j) (stpW (zs.getD j (0, 0)).2)) ∧ (K j).natAbs < 2 ^ 32 ∧ (J j).natAbs < 2 ^ 32 := fun j hj => by
    obtain ⟨_, x, y⟩ := rawL_stp h1 hz hT hj
    subst hK hJ
    exact ⟨x, y⟩
  have hb : ∀ i, i < zs.length → (K i).natAbs < 2 ^ 32 ∧ (J i).natAbs < 2 ^ 32 := fun i hi => (st i hi).2
  obtain ⟨s', q1, out, stm, rfl, ho, hr⟩ := loopJ (P := ⟨fnOf, specG, L+1⟩) (C := runF ⟨fnOf, specG, L+1⟩ (n+2)) (L := L) (d := 0) (live := [10, 12, 13]) (π := [17]) (m := m36b0) (A := tkdSt zs [] [17] 0 0) (x := .exit 0)
      (fun i s => ∃ out stm, s = tkdSt zs out stm i i ∧ out.length = i ∧ tapL K J out) (fun s => ∃ out stm, s = tkdSt zs out stm zs.length zs.length ∧ out.length = zs.length ∧ tapL K J out) zs.length (by simp) rfl (by omega)
      ⟨[], [17], rfl, rfl, fun j hj => absurd hj (Nat.not_lt_zero _)⟩ (fun i s hi hst => by
        obtain ⟨out, stm, rfl, ho, hr⟩ := hst
        have ha : Con.holds ⟨fnOf, specG, L+1⟩ (runF ⟨fnOf, specG, L+1⟩ (n+2)) (.at (zs.map celC) (0 + i) [.cpx (zs.getD i (0, 0)).1 (zs.getD i (0, 0)).2]) := by rw [Nat.zero_add]; exact atD_map (f := celC) hi
        have hix : Con.holds ⟨fnOf, specG, L+1⟩ (runF ⟨fnOf, specG, L+1⟩ (n+2)) (.ix (.int .i64 i) (List.length (zs.map celC)) i) := by rw [gl]; exact ix_at hi
        have hpu : Con.holds ⟨fnOf, specG, L+1⟩ (runF ⟨fnOf, specG, L+1⟩ (n+2)) (.push i 1 16 (out.map celC)) := push_ok (by rw [map_len, ho]) (by simp only [most]; omega)
        have := @tke_0 (L+1) (n+2) 0 0 0 [] 0 0 zs out 0 0 0 i i stm [17] i (zs.getD i (0, 0)) i (zs.getD i (0, 0)) (by rw [gl]; exact dLt hi) hix ha hix ha hpu
        rw [wrapUp hi (by omega)] at this
        refine ⟨_, this, out ++ [(stpW (zs.getD i (0, 0)).1, stpW (zs.getD i (0, 0)).2)], [31, i, 17], ?_, by rw [List.length_append, ho]; rfl, fun j hj => ?_⟩
        · unfold tkdSt
          rw [List.map_append]
          rfl
        · rw [List.length_append, List.length_singleton] at hj
          rw [getD_apps]
          by_cases c : j < out.length
          · rw [if_pos c]; exact hr j c
          · obtain rfl : j = i := by omega
            rw [if_neg c, ho, Nat.sub_self]
            exact (st j hi).1) (fun s hst => by
        obtain ⟨out, stm, rfl, ho, hr⟩ := hst
        exact ⟨_, @tke_1 (L+1) (n+2) 0 0 0 [] 0 0 zs out 0 0 0 zs.length zs.length stm [17] (by rw [gl]; exact dNlt), out, stm, rfl, ho, hr⟩)
  have hat := @areTaps_den L n out K J hr (fun i hi => hb i (by omega)) (by omega) hL
  rw [ho] at hat
  have hcut : cutX (out.map celC) 0 zs.length = out.map celC := by rw [← ho]; exact tkMap rfl
  have lo : List.length (out.map celC) = zs.length := by rw [show List.length _ = _ from map_len, ho]
  constructor
  · intro hA
    have e : decide (1 ≤ zs.length ∧ areT K J zs.length) = true := decide_eq_true ⟨hl0, hA⟩
    rw [e] at hat
    have := @tkd_2 (L+1) (n+2) o r g ss a m zs out 0 0 0 zs.length zs.length stm [] zs 0 true hc rfl q1 (by rw [hcut]; exact call_den hat) (by show _ ≤ _; rw [lo]; omega) rfl (by show _ ≤ _; rw [lo]; exact Nat.le_refl _)
    rw [tkMap ho.symm] at this
    exact ⟨out, this, ho, hr⟩
  · intro hA
    have e : decide (1 ≤ zs.length ∧ areT K J zs.length) = false := decide_eq_false fun q => hA q.2
    rw [e] at hat
    exact @tkd_1 (L+1) (n+2) o r g ss a m zs out 0 0 0 zs.length zs.length stm [] zs 0 false hc rfl q1 (by rw [hcut]; exact call_den hat) (by show _ ≤ _; rw [lo]; omega) rfl
end
end Go.Proofs.Ythcgeajojgecnaa.Fw
