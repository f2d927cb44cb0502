/- hunt.Plan, whole: what it answers, once the guard and the pieces' length are known. -/
import Derived.Test.YtnccnmeecngopaaLwQlA
set_option maxRecDepth 100000
set_option maxHeartbeats 4000000
set_option linter.unusedSimpArgs false
set_option linter.unusedVariables false
namespace Go.Proofs.Ytnccnmeecngopaa.Fw
open Go Go.RowKit
theorem calli42 {L n : Nat} {x t g t' : Int} {τ : List Nat} (h : IntKind.wrap .i64 (t + IntKind.wrap .i64 (x + g)) = t') :
    Con.holds ⟨fnOf, specP, L⟩ (runF ⟨fnOf, specP, L⟩ (n+1)) (.calli 0 τ 42 [.int .i64 x, .ptr ⟨0,15,0⟩ [48] 0 0, .ptr ⟨0,12,0⟩ [9] 0 0] (plHL t g) (.int .i64 t) (plHL t' g)) := by
  subst h
  exact @pl42_0 L n (0+1) x t g [48] [9] (0 :: τ)
theorem decF {p : Prop} [Decidable p] (h : ¬ p) : decide p = false := decide_eq_false h
theorem decT {p : Prop} [Decidable p] (h : p) : decide p = true := decide_eq_true h
/-- the places of the blocks -/
def plOut (t4 s : Nat) (k : Nat) : List Int := (List.range k).map fun i => ((t4 + i * s : Nat) : Int)
theorem plOut_len {t4 s k : Nat} : (plOut t4 s k).length = k := by simp [plOut]
theorem plOut_up {t4 s k : Nat} : plOut t4 s (k + 1) = plOut t4 s k ++ [((t4 + k * s : Nat) : Int)] := by simp [plOut, List.range_succ]
theorem cells_up {xs : List Int} {x : Int} : cellsI (xs ++ [x]) = cellsI xs ++ [[.int .i64 x]] := by simp [cellsI]
section
variable {L n : Nat} {m blocks g t4 : Nat} {p q r : Int}
def plA (m blocks g t4 : Nat) (p q r : Int) : Nat → St
  | 0 => plS0 m blocks (0 : Nat) g t4 p q r
  | i + 1 => plS1 m blocks ((i + 1 : Nat) : Int) g ((t4 + (i + 1) * (m + g) : Nat) : Int) p q r [7, i, 72] (i + 1) (cellsI (plOut t4 (m + g) (i + 1)))
theorem plA_zero : plA m blocks g t4 p q r 0 = plS0 m blocks (0 : Nat) g t4 p q r := rfl
theorem plA_succ {i : Nat} : plA m blocks g t4 p q r (i + 1) = plS1 m blocks ((i + 1 : Nat) : Int) g ((t4 + (i + 1) * (m + g) : Nat) : Int) p q r [7, i, 72] (i + 1) (cellsI (plOut t4 (m + g) (i + 1))) := rfl
theorem step_eq {m g t4 i : Nat} (hm : m ≤ 65536) (hg : g ≤ 4096) (ht : t4 + i * (m + g) ≤ 65536) :
    IntKind.wrap .i64 (((t4 + i * (m + g) : Nat) : Int) + IntKind.wrap .i64 ((m : Int) + (g : Int))) = ((t4 + (i + 1) * (m + g) : Nat) : Int) := by
  rw [wrap_id (n := (m : Int) + g) (by omega), wrap_id (by omega)]
  rw [Nat.add_mul, Nat.one_mul]
  omega
theorem plan_round {i : Nat} (hm : m ≤ 65536) (hg : g ≤ 4096) (hb : blocks ≤ 65536) (hi : i < blocks) (ht : t4 + (i + 1) * (m + g) ≤ 65536) :
    rnd 0 [10, 14, 15, 16, 17, 78, 79] (bodyOf ⟨fnOf, specP, L⟩ (runF ⟨fnOf, specP, L⟩ (n+1)) 0 m26b0 (i :: [72]) (plA m blocks g t4 p q r i)) = some (.nrm, plA m blocks g t4 p q r (i + 1)) := by
  have hw := wrap_up hi (by omega)
  have hlt : decide ((i : Int) < (blocks : Int)) = true := dlt hi
  have ht' : t4 + i * (m + g) ≤ 65536 := by rw [Nat.add_mul] at ht; omega
  have hs := step_eq hm hg ht'
  have hng : decide (((t4 + (i + 1) * (m + g) : Nat) : Int) > 65536) = false := decF (by omega)
  cases i with
  | zero =>
    have := @plr0_1 L (n+1) m blocks g t4 ((t4 + (0 + 1) * (m + g) : Nat) : Int) p q r 0 0 [] [] [72] hlt (calli42 (by simpa using hs)) hng
    rw [hw] at this
    have h2 : plOut t4 (m + g) 1 = [(t4 : Int)] := by simp [plOut]
    rw [plA_zero, plA_succ, h2]
    exact this
  | succ i =>
    have := @plr1_1 L (n+1) m blocks g ((t4 + (i + 1) * (m + g) : Nat) : Int) ((t4 + (i + 1 + 1) * (m + g) : Nat) : Int) p q r (i+1) (i+1) (cellsI (plOut t4 (m + g) (i + 1))) [7, i, 72] [72] hlt (calli42 hs) ⟨by rw [cellsI_len, plOut_len], by simp only [roomOk, most]; omega⟩ hng
    rw [hw] at this
    rw [plA_succ, plA_succ, plOut_up (k := i + 1), cells_up]
    exact this
end
section
variable {L n : Nat} {m blocks g : Nat} {rate fore taps pair points e : Int} {els : List (List AV)}
/-- what hunt.Plan answers: g the guard, m the pieces' length, pr the training's length -/
def planRes (g m pr blocks : Nat) : AV :=
  if 4 * g + 1 + 2 * pr + blocks * (m + g) ≤ 65536 then
    .tup [.agg [.int .i64 (g : Nat), .int .i64 (2 * g + 1 : Nat), .int .i64 (3 * g + 1 + pr : Nat), (match blocks with | 0 => .nils | _ => .own 1 (cellsI (plOut (4 * g + 1 + 2 * pr) (m + g) blocks)) true), .int .i64 (4 * g + 1 + 2 * pr + blocks * (m + g) : Nat)], .int .i64 0]
  else .tup [.agg [.int .i64 0, .int .i64 0, .int .i64 0, .nils, .int .i64 0], .int .i64 1]
theorem mono_blocks {t s b k : Nat} (h : t + b * s ≤ 65536) (hk : k ≤ b) : t + k * s ≤ 65536 := Nat.le_trans (Nat.add_le_add_left (Nat.mul_le_mul_right s hk) t) h
theorem first_over {t s : Nat} (h0 : t ≤ 65536) : ∀ {b : Nat}, ¬ t + b * s ≤ 65536 → ∃ k, k < b ∧ t + k * s ≤ 65536 ∧ ¬ t + (k + 1) * s ≤ 65536
  | 0, h => by omega
  | b + 1, h => by
    by_cases hb : t + b * s ≤ 65536
    · exact ⟨b, by omega, hb, h⟩
    · obtain ⟨k, h1, h2, h3⟩ := first_over h0 hb
      exact ⟨k, by omega, h2, h3⟩
theorem plan26 {pr : Nat} (h24 : den ⟨fnOf, specP, L+1⟩ (n+1) 24 [.agg [.int .i64 rate, .int .i64 fore, .lst 1 els], .int .i64 taps] = some (.tup [.int .i64 (g : Nat), .int .i64 0]))
    (h35 : den ⟨fnOf, specP, L+1⟩ (n+1) 35 [.agg [.int .i64 rate, .int .i64 fore, .lst 1 els], .int .i64 points] = some (.tup [.int .i64 (m : Nat), .int .i64 0]))
    (hp1 : ¬ pair < 2) (hp2 : ¬ pair > 256) (hp3 : (IntKind.wrap .i64 ((BitVec.ofInt 64 pair &&& BitVec.ofInt 64 (IntKind.wrap .i64 (pair - 1))).toNat : Int) != 0) = false)
    (hb : blocks ≤ 65536) (hpr : IntKind.wrap .i64 (pair * rate) = (pr : Nat)) (hg : g ≤ 4096) (hm : m ≤ 65536) (hpl : 4 * g + 1 + 2 * pr ≤ 65536) (hL : blocks ≤ L) :
    den ⟨fnOf, specP, L+1⟩ (n+2) 26 [.agg [.int .i64 rate, .int .i64 fore, .lst 1 els], .int .i64 taps, .int .i64 pair, .int .i64 points, .int .i64 (blocks : Nat)] = some (planRes g m pr blocks) := by
  have c1 : Con.holds ⟨fnOf, specP, L+1⟩ (runF ⟨fnOf, specP, L+1⟩ (n+1)) (.calli 0 [53] 42 [.int .i64 1, .ptr ⟨0,15,0⟩ [48] 0 0, .ptr ⟨0,12,0⟩ [9] 0 0] (plHL (g : Nat) (g : Nat)) (.int .i64 (g : Nat)) (plHL ((2 * g + 1 : Nat) : Int) (g : Nat))) :=
    calli42 (by rw [wrap_id (n := (1 : Int) + g) (by omega), wrap_id (by omega)]; omega)
  have c2 : Con.holds ⟨fnOf, specP, L+1⟩ (runF ⟨fnOf, specP, L+1⟩ (n+1)) (.calli 0 [59] 42 [.int .i64 (IntKind.wrap .i64 (pair * rate)), .ptr ⟨0,15,0⟩ [48] 0 0, .ptr ⟨0,12,0⟩ [9] 0 0] (plHL ((2 * g + 1 : Nat) : Int) (g : Nat)) (.int .i64 ((2 * g + 1 : Nat) : Int)) (plHL ((3 * g + 1 + pr : Nat) : Int) (g : Nat))) :=
    calli42 (by rw [hpr, wrap_id (n := (pr : Int) + g) (by omega), wrap_id (by omega)]; omega)
  have c3 : Con.holds ⟨fnOf, specP, L+1⟩ (runF ⟨fnOf, specP, L+1⟩ (n+1)) (.calli 0 [65] 42 [.int .i64 (IntKind.wrap .i64 (pair * rate)), .ptr ⟨0,15,0⟩ [48] 0 0, .ptr ⟨0,12,0⟩ [9] 0 0] (plHL ((3 * g + 1 + pr : Nat) : Int) (g : Nat)) (.int .i64 ((3 * g + 1 + pr : Nat) : Int)) (plHL ((4 * g + 1 + 2 * pr : Nat) : Int) (g : Nat))) :=
    calli42 (by rw [hpr, wrap_id (n := (pr : Int) + g) (by omega), wrap_id (by omega)]; omega)
  have z0 : ((0 : Int) != 0) = false := rfl
  have b1 : decide ((blocks : Int) < 0) = false := decF (by omega)
  have b2 : decide ((blocks : Int) > 65536) = false := decF (by omega)
  unfold planRes
  split
  · rename_i hgood
    cases hbl : blocks with
    | zero =>
      subst hbl
      have hl : Con.holds ⟨fnOf, specP, L+1⟩ (runF ⟨fnOf, specP, L+1⟩ (n+1)) (.loop 0 [10, 14, 15, 16, 17, 78, 79] m26b0 [72] (plA m 0 g (4 * g + 1 + 2 * pr) (g : Nat) (2 * g + 1 : Nat) (3 * g + 1 + pr : Nat) 0) (.exit 0) (plX0 m (0 : Nat) (0 : Nat) g (4 * g + 1 + 2 * pr : Nat) (g : Nat) (2 * g + 1 : Nat) (3 * g + 1 + pr : Nat))) :=
        loop0 (plA m 0 g (4 * g + 1 + 2 * pr) (g : Nat) (2 * g + 1 : Nat) (3 * g + 1 + pr : Nat)) 0 rfl (by omega) (fun i hi => absurd hi (by omega)) (@plr0_2 (L+1) (n+1) m (0 : Nat) g _ 0 _ _ _ 0 0 [] [] [72] (by simp)) (by simp)
      have := @pl26x_7 (L+1) (n+1) rate fore taps pair points (0 : Nat) g 0 m 0 (g : Nat) (2 * g + 1 : Nat) (3 * g + 1 + pr : Nat) (4 * g + 1 + 2 * pr : Nat) 0 0 els [] [] [] [] 0 0 (call_den h24) z0 (call_den h35) z0 (decF hp1) (decF hp2) hp3 b1 b2 c1 c2 c3 hl
      rw [this]
      simp
    | succ k =>
      subst hbl
      have hl : Con.holds ⟨fnOf, specP, L+1⟩ (runF ⟨fnOf, specP, L+1⟩ (n+1)) (.loop 0 [10, 14, 15, 16, 17, 78, 79] m26b0 [72] (plA m (k + 1) g (4 * g + 1 + 2 * pr) (g : Nat) (2 * g + 1 : Nat) (3 * g + 1 + pr : Nat) 0) (.exit 0)
          (plX1 m (k + 1 : Nat) (k + 1 : Nat) g (4 * g + 1 + 2 * pr + (k + 1) * (m + g) : Nat) (g : Nat) (2 * g + 1 : Nat) (3 * g + 1 + pr : Nat) [7, k, 72] (k + 1) (cellsI (plOut (4 * g + 1 + 2 * pr) (m + g) (k + 1))))) :=
        loop0 (plA m (k + 1) g (4 * g + 1 + 2 * pr) (g : Nat) (2 * g + 1 : Nat) (3 * g + 1 + pr : Nat)) (k + 1) rfl hL (fun i hi => plan_round hm hg hb hi (mono_blocks hgood (by omega)))
          (@plr1_2 (L+1) (n+1) m (k + 1 : Nat) g _ 0 _ _ _ (k + 1) (k + 1) (cellsI (plOut (4 * g + 1 + 2 * pr) (m + g) (k + 1))) [7, k, 72] [72] (by simp)) (by simp)
      have := @pl26y_7 (L+1) (n+1) rate fore taps pair points (k + 1 : Nat) g 0 m 0 (g : Nat) (2 * g + 1 : Nat) (3 * g + 1 + pr : Nat) (4 * g + 1 + 2 * pr : Nat) 0 (4 * g + 1 + 2 * pr + (k + 1) * (m + g) : Nat) els (cellsI (plOut (4 * g + 1 + 2 * pr) (m + g) (k + 1))) [7, k, 72] [] [] (k + 1) (k + 1) (call_den h24) z0 (call_den h35) z0 (decF hp1) (decF hp2) hp3 b1 b2 c1 c2 c3 hl (by show _ ≤ _; rw [cellsI_len, plOut_len]; exact Nat.le_refl _)
      rw [this, List.take_of_length_le (by rw [cellsI_len, plOut_len]; exact Nat.le_refl _)]
      rfl
  · rename_i hbad
    obtain ⟨k, hk, h1, h2⟩ := first_over (s := m + g) hpl hbad
    have hov : decide (((4 * g + 1 + 2 * pr + (k + 1) * (m + g) : Nat) : Int) > 65536) = true := decT (by omega)
    have hs := step_eq hm hg h1
    cases k with
    | zero =>
      have hr := @plr0_0 (L+1) (n+1) m blocks g (4 * g + 1 + 2 * pr : Nat) ((4 * g + 1 + 2 * pr + (0 + 1) * (m + g) : Nat) : Int) (g : Nat) (2 * g + 1 : Nat) (3 * g + 1 + pr : Nat) 0 0 [] [] [72] (dlt hk) (calli42 (by simpa using hs)) hov
      have hl := loop0 (P := ⟨fnOf, specP, L+1⟩) (C := runF ⟨fnOf, specP, L+1⟩ (n+1)) (plA m blocks g (4 * g + 1 + 2 * pr) (g : Nat) (2 * g + 1 : Nat) (3 * g + 1 + pr : Nat)) 0 rfl (by omega) (fun i hi => absurd hi (by omega)) hr (by simp)
      exact @pl26z_7 (L+1) (n+1) rate fore taps pair points blocks g 0 m 0 (g : Nat) (2 * g + 1 : Nat) (3 * g + 1 + pr : Nat) (4 * g + 1 + 2 * pr : Nat) _ _ els [] [72] [] [] 0 0 (call_den h24) z0 (call_den h35) z0 (decF hp1) (decF hp2) hp3 b1 b2 c1 c2 c3 hl
    | succ k =>
      have hr := @plr1_0 (L+1) (n+1) m blocks g ((4 * g + 1 + 2 * pr + (k + 1) * (m + g) : Nat) : Int) ((4 * g + 1 + 2 * pr + (k + 1 + 1) * (m + g) : Nat) : Int) (g : Nat) (2 * g + 1 : Nat) (3 * g + 1 + pr : Nat) (k + 1) (k + 1) (cellsI (plOut (4 * g + 1 + 2 * pr) (m + g) (k + 1))) [7, k, 72] [72] (dlt hk) (calli42 hs) ⟨by rw [cellsI_len, plOut_len], by simp only [roomOk, most]; omega⟩ hov
      have hl := loop0 (P := ⟨fnOf, specP, L+1⟩) (C := runF ⟨fnOf, specP, L+1⟩ (n+1)) (plA m blocks g (4 * g + 1 + 2 * pr) (g : Nat) (2 * g + 1 : Nat) (3 * g + 1 + pr : Nat)) (k + 1) rfl (by omega) (fun i hi => plan_round hm hg hb (by omega) (mono_blocks h1 (by omega))) hr (by simp)
      exact @pl26w_7 (L+1) (n+1) rate fore taps pair points blocks g 0 m 0 (g : Nat) (2 * g + 1 : Nat) (3 * g + 1 + pr : Nat) (4 * g + 1 + 2 * pr : Nat) _ _ els _ [72] [7, k, 72] [] (k + 1) (k + 1) (call_den h24) z0 (call_den h35) z0 (decF hp1) (decF hp2) hp3 b1 b2 c1 c2 c3 hl
end
end Go.Proofs.Ytnccnmeecngopaa.Fw
