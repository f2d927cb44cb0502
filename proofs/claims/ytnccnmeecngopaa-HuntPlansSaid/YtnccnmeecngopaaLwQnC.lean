/- The document's Plan, whole: what it answers, once the guard and the pieces' length are known. -/
import Derived.Test.YtnccnmeecngopaaLwQnB
set_option maxRecDepth 100000
set_option maxHeartbeats 4000000
set_option linter.unusedSimpArgs false
set_option linter.unusedVariables false
namespace Go.Proofs.Ytnccnmeecngopaa.Fw
open Go Go.RowKit
section
variable {L n m g t4 : Nat} {blocks : Nat} {p q r : Int}
def qbA (m g t4 blocks : Nat) (p q r : Int) : Nat → St
  | 0 => ⟨qlE blocks g m 0, qlH p q r .nils t4, 0⟩
  | j + 1 => ⟨qlE blocks g m ((j + 1 : Nat) : Int), qlH p q r (.slc ⟨0,101,0⟩ [13, j, 72] 1 0 (j + 1) false) ((t4 + (j + 1) * (m + g) : Nat) : Int) ++ [(⟨0,101,0⟩, ⟨[13, j, 72], cellsI (plOut t4 (m + g) (j + 1)), 1, true⟩)], 0⟩
theorem qbA_zero : qbA m g t4 blocks p q r 0 = ⟨qlE blocks g m 0, qlH p q r .nils t4, 0⟩ := rfl
theorem qbA_succ {j : Nat} : qbA m g t4 blocks p q r (j + 1) = ⟨qlE blocks g m ((j + 1 : Nat) : Int), qlH p q r (.slc ⟨0,101,0⟩ [13, j, 72] 1 0 (j + 1) false) ((t4 + (j + 1) * (m + g) : Nat) : Int) ++ [(⟨0,101,0⟩, ⟨[13, j, 72], cellsI (plOut t4 (m + g) (j + 1)), 1, true⟩)], 0⟩ := rfl
theorem rounds_few {i : Nat} (hg : 3 ≤ g) (ht : t4 + i * (m + g) ≤ 65536) : i ≤ 65536 := by
  have : i * 1 ≤ i * (m + g) := Nat.mul_le_mul_left _ (by omega)
  omega
theorem qb_round {i : Nat} (hm : m ≤ 65536) (hg3 : 3 ≤ g) (hg : g ≤ 4096) (hi : i < blocks) (ht : t4 + i * (m + g) ≤ 65536) :
    rnd 0 [4, 10, 12, 16, 17, 18] (bodyOf ⟨fnOf, specP, L⟩ (runF ⟨fnOf, specP, L⟩ n) 0 m27b0 (i :: [72]) (qbA m g t4 blocks p q r i)) = some (.nrm, qbA m g t4 blocks p q r (i + 1)) := by
  have hfew := rounds_few hg3 ht
  have hw : IntKind.wrap .i64 ((i : Int) + 1) = ((i + 1 : Nat) : Int) := by rw [wrap_id (by omega)]; omega
  have hle : decide (((t4 + i * (m + g) : Nat) : Int) ≤ 65536) = true := dT (by omega)
  have hs : IntKind.wrap .i64 (IntKind.wrap .i64 (((t4 + i * (m + g) : Nat) : Int) + m) + g) = ((t4 + (i + 1) * (m + g) : Nat) : Int) := by
    rw [wrap_id (n := ((t4 + i * (m + g) : Nat) : Int) + m) (by omega), wrap_id (by omega), Nat.add_mul i 1, Nat.one_mul]
    omega
  cases i with
  | zero =>
    have e0 : t4 + 0 * (m + g) = t4 := by rw [Nat.zero_mul, Nat.add_zero]
    have h1 := @qr0_0 L n blocks g m p q r t4 0 0 [] [] [72] (dLt hi) (by rw [e0] at hle; exact hle)
    rw [e0] at hs
    rw [hw, hs] at h1
    have h2 : plOut t4 (m + g) 1 = [(t4 : Int)] := by simp [plOut]
    rw [qbA_zero, qbA_succ, h2]
    exact h1
  | succ i =>
    have h1 := @qr1_0 L n blocks g m p q r ((t4 + (i + 1) * (m + g) : Nat) : Int) (i + 1) (i + 1) (cellsI (plOut t4 (m + g) (i + 1))) [13, i, 72] [72] (dLt hi) hle ⟨by rw [cellsI_len, plOut_len], by simp only [roomOk, most]; omega⟩
    rw [hw, hs] at h1
    rw [qbA_succ, qbA_succ, plOut_up (k := i + 1), cells_up]
    exact h1
/-- the loop's end with nothing laid -/
theorem qb_end0 (hb : blocks = 0) : ∃ w93 w92 w91 w90 w89 w88 w87 w86, Con.holds ⟨fnOf, specP, L+1⟩ (runF ⟨fnOf, specP, L+1⟩ n) (.loop 0 [4, 10, 12, 16, 17, 18] m27b0 [72] (qbA m g t4 blocks p q r 0) (.exit 2) ⟨[(93, w93), (92, w92), (91, w91), (90, w90), (89, w89), (88, w88), (87, w87), (86, w86)] ++ qlE blocks g m 0, qlH p q r .nils t4 ++ [], 8⟩) := by
  subst hb
  have h1 := @qr0_2 (L+1) n ((0 : Nat) : Int) g m p q r t4 0 0 [] [] [72] dNlt
  exact ⟨_, _, _, _, _, _, _, _, loop0 (qbA m g t4 0 p q r) 0 rfl (Nat.zero_le _) (fun i hi => absurd hi (by omega)) h1 (by simp)⟩
/-- the loop's end after some rounds -/
theorem qb_end1 {k : Nat} (hm : m ≤ 65536) (hg3 : 3 ≤ g) (hg : g ≤ 4096) (hL : 70000 ≤ L) (hk : k < blocks) (ht : t4 + k * (m + g) ≤ 65536) (he : k + 1 = blocks ∨ ¬ t4 + (k + 1) * (m + g) ≤ 65536) :
    ∃ w93 w92 w91 w90 w89 w88 w87 w86, Con.holds ⟨fnOf, specP, L+1⟩ (runF ⟨fnOf, specP, L+1⟩ n) (.loop 0 [4, 10, 12, 16, 17, 18] m27b0 [72] (qbA m g t4 blocks p q r 0) (.exit 2)
      ⟨[(93, w93), (92, w92), (91, w91), (90, w90), (89, w89), (88, w88), (87, w87), (86, w86)] ++ qlE blocks g m ((k + 1 : Nat) : Int), qlH p q r (.slc ⟨0,101,0⟩ [13, k, 72] 1 0 (k + 1) false) ((t4 + (k + 1) * (m + g) : Nat) : Int) ++ [(⟨0,101,0⟩, ⟨[13, k, 72], cellsI (plOut t4 (m + g) (k + 1)), 1, true⟩)], 8⟩) := by
  have hfew := rounds_few hg3 ht
  have hround : ∀ i, i < k + 1 → rnd 0 [4, 10, 12, 16, 17, 18] (bodyOf ⟨fnOf, specP, L+1⟩ (runF ⟨fnOf, specP, L+1⟩ n) 0 m27b0 (i :: [72]) (qbA m g t4 blocks p q r i)) = some (.nrm, qbA m g t4 blocks p q r (i + 1)) := fun i hi =>
    qb_round hm hg3 hg (by omega) (mono_blocks ht (by omega))
  by_cases hb : k + 1 < blocks
  · have hov : ¬ t4 + (k + 1) * (m + g) ≤ 65536 := he.resolve_left (by omega)
    have h1 := @qr1_1 (L+1) n blocks g m p q r ((t4 + (k + 1) * (m + g) : Nat) : Int) (k + 1) (k + 1) (cellsI (plOut t4 (m + g) (k + 1))) [13, k, 72] [72] (dLt hb) (dF (by omega))
    exact ⟨_, _, _, _, _, _, _, _, loop0 (qbA m g t4 blocks p q r) (k + 1) rfl (by omega) hround h1 (by simp)⟩
  · have hbe : blocks = k + 1 := by omega
    subst hbe
    have h1 := @qr1_2 (L+1) n ((k + 1 : Nat) : Int) g m p q r ((t4 + (k + 1) * (m + g) : Nat) : Int) (k + 1) (k + 1) (cellsI (plOut t4 (m + g) (k + 1))) [13, k, 72] [72] dNlt
    exact ⟨_, _, _, _, _, _, _, _, loop0 (qbA m g t4 (k + 1) p q r) (k + 1) rfl (by omega) hround h1 (by simp)⟩
end
section
variable {L n m g blocks : Nat} {rate fore taps pair points : Int} {els : List (List AV)}
theorem plan27 {pr : Nat} (h25 : den ⟨fnOf, specP, L+1⟩ (n+1) 25 [.agg [.int .i64 rate, .int .i64 fore, .lst 1 els], .int .i64 taps] = some (.tup [.int .i64 (g : Nat), .int .i64 0]))
    (h43 : den ⟨fnOf, specP, L+1⟩ (n+1) 43 [.agg [.int .i64 rate, .int .i64 fore, .lst 1 els], .int .i64 points] = some (.tup [.int .i64 (m : Nat), .int .i64 0]))
    (h2 : twoAt pair 8 ≠ 0) (hpr : IntKind.wrap .i64 (pair * rate) = (pr : Nat)) (hg3 : 3 ≤ g) (hg : g ≤ 4096) (hm : m ≤ 65536) (hpl : 4 * g + 1 + 2 * pr ≤ 65536) (hL : 70000 ≤ L) :
    den ⟨fnOf, specP, L+1⟩ (n+2) 27 [.agg [.int .i64 rate, .int .i64 fore, .lst 1 els], .int .i64 taps, .int .i64 pair, .int .i64 points, .int .i64 (blocks : Nat)] = some (planRes g m pr blocks) := by
  have z0 : ((0 : Int) != 0) = false := rfl
  have b1 : decide ((blocks : Int) < 0) = false := dF (by omega)
  have h2' : (twoAt pair 8 == 0) = false := beq_eq_false_iff_ne.2 h2
  have hlp := @two_loop L (n+1) rate fore pair points blocks g els [15] (by omega)
  have e1 : IntKind.wrap .i64 ((g : Int) + 1) = g + 1 := wrap_id (by omega)
  have e2 : IntKind.wrap .i64 ((g : Int) + 1 + g) = ((2 * g + 1 : Nat) : Int) := by rw [wrap_id (by omega)]; omega
  have e3 : IntKind.wrap .i64 (((2 * g + 1 : Nat) : Int) + (pr : Nat)) = ((2 * g + 1 + pr : Nat) : Int) := by rw [wrap_id (by omega)]; omega
  have e4 : IntKind.wrap .i64 (((2 * g + 1 + pr : Nat) : Int) + g) = ((3 * g + 1 + pr : Nat) : Int) := by rw [wrap_id (by omega)]; omega
  have e5 : IntKind.wrap .i64 (((3 * g + 1 + pr : Nat) : Int) + (pr : Nat)) = ((3 * g + 1 + 2 * pr : Nat) : Int) := by rw [wrap_id (by omega)]; omega
  have e6 : IntKind.wrap .i64 (((3 * g + 1 + 2 * pr : Nat) : Int) + g) = ((4 * g + 1 + 2 * pr : Nat) : Int) := by rw [wrap_id (by omega)]; omega
  unfold planRes
  split
  · rename_i hgood
    cases hbl : blocks with
    | zero =>
      obtain ⟨w93, w92, w91, w90, w89, w88, w87, w86, h⟩ := @qb_end0 L (n+1) m g (4 * g + 1 + 2 * pr) blocks (g : Nat) ((2 * g + 1 : Nat) : Int) ((3 * g + 1 + pr : Nat) : Int) hbl
      subst hbl
      have h1 := @qp27a_5 (L+1) (n+1) rate fore taps pair points ((0 : Nat) : Int) g 0 m 0 (twoAt pair 8) (g : Nat) ((2 * g + 1 : Nat) : Int) ((3 * g + 1 + pr : Nat) : Int) ((4 * g + 1 + 2 * pr : Nat) : Int) 0 els [] [] 0 w93 w92 w91 w90 w89 w88 w87 w86 (call_den h25) z0 hlp (call_den h43) z0 h2' b1 (by rw [e1, e2, hpr, e3, e4, e5, e6]; exact h) (dF (by omega))
      rw [h1]
      simp
    | succ k =>
      subst hbl
      obtain ⟨w93, w92, w91, w90, w89, w88, w87, w86, h⟩ := @qb_end1 L (n+1) m g (4 * g + 1 + 2 * pr) (k + 1) (g : Nat) ((2 * g + 1 : Nat) : Int) ((3 * g + 1 + pr : Nat) : Int) k hm hg3 hg hL (by omega) (mono_blocks hgood (by omega)) (.inl rfl)
      have h1 := @qp27b_5 (L+1) (n+1) rate fore taps pair points ((k + 1 : Nat) : Int) g 0 m 0 (twoAt pair 8) (g : Nat) ((2 * g + 1 : Nat) : Int) ((3 * g + 1 + pr : Nat) : Int) ((4 * g + 1 + 2 * pr + (k + 1) * (m + g) : Nat) : Int) ((k + 1 : Nat) : Int) els (cellsI (plOut (4 * g + 1 + 2 * pr) (m + g) (k + 1))) [13, k, 72] (k + 1) w93 w92 w91 w90 w89 w88 w87 w86 (call_den h25) z0 hlp (call_den h43) z0 h2' b1 (by rw [e1, e2, hpr, e3, e4, e5, e6]; exact h) (dF (by omega))
        (by show _ ≤ _; rw [cellsI_len, plOut_len]; exact Nat.le_refl _)
      rw [h1, List.take_of_length_le (by rw [cellsI_len, plOut_len]; exact Nat.le_refl _)]
      rfl
  · rename_i hbad
    obtain ⟨k, hk, h3, h4⟩ := first_over (s := m + g) hpl hbad
    obtain ⟨w93, w92, w91, w90, w89, w88, w87, w86, h⟩ := @qb_end1 L (n+1) m g (4 * g + 1 + 2 * pr) blocks (g : Nat) ((2 * g + 1 : Nat) : Int) ((3 * g + 1 + pr : Nat) : Int) k hm hg3 hg hL hk h3 (.inr h4)
    exact @qp27b_4 (L+1) (n+1) rate fore taps pair points blocks g 0 m 0 (twoAt pair 8) (g : Nat) ((2 * g + 1 : Nat) : Int) ((3 * g + 1 + pr : Nat) : Int) ((4 * g + 1 + 2 * pr + (k + 1) * (m + g) : Nat) : Int) ((k + 1 : Nat) : Int) els (cellsI (plOut (4 * g + 1 + 2 * pr) (m + g) (k + 1))) [13, k, 72] (k + 1) w93 w92 w91 w90 w89 w88 w87 w86 (call_den h25) z0 hlp (call_den h43) z0 h2' b1 (by rw [e1, e2, hpr, e3, e4, e5, e6]; exact h) (dT (by omega))
end
end Go.Proofs.Ytnccnmeecngopaa.Fw
