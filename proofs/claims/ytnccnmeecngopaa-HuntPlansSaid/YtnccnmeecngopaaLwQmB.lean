/- Guard and Length: the program's and the document's answer the same, whatever the pulse. -/
import Derived.Test.YtnccnmeecngopaaLwQmA
set_option maxRecDepth 100000
set_option maxHeartbeats 4000000
set_option linter.unusedSimpArgs false
set_option linter.unusedVariables false
namespace Go.Proofs.Ytnccnmeecngopaa.Fw
open Go Go.RowKit
/-- a pulse as a value: with taps or without -/
def puls (rate fore : Int) (ts : List Nat) (nil : Bool) : AV := .agg [.int .i64 rate, .int .i64 fore, match nil with | true => .nils | false => .lst 1 (ts.map celF)]
theorem mul_bnd {a b A B : Int} (h0 : 0 ≤ a) (h1 : a ≤ A) (h2 : 0 ≤ b) (h3 : b ≤ B) : 0 ≤ a * b ∧ a * b ≤ A * B :=
  ⟨Int.mul_nonneg h0 h2, Int.le_trans (Int.mul_le_mul_of_nonneg_right h1 h2) (Int.mul_le_mul_of_nonneg_left h3 (Int.le_trans h0 h1))⟩
section
variable {L n : Nat} {rate fore k : Int} {ts : List Nat} {nil : Bool}
theorem guard_both (hL : 64 ≤ L) : ∃ g e : Int, (e = 0 → nil = false ∧ 1 ≤ rate ∧ rate ≤ 8 ∧ 3 ≤ g ∧ g ≤ 584) ∧
    den ⟨fnOf, specP, L+1⟩ (n+2) 24 [puls rate fore ts nil, .int .i64 k] = some (.tup [.int .i64 g, .int .i64 e]) ∧ den ⟨fnOf, specP, L+1⟩ (n+2) 25 [puls rate fore ts nil, .int .i64 k] = some (.tup [.int .i64 g, .int .i64 e]) := by
  cases nil with
  | true =>
    obtain ⟨c, hc, h1, h2⟩ := @check_nil (L+1) n rate fore
    have hc' : (c != 0) = true := by simpa using hc
    exact ⟨0, c, fun h => absurd h hc, gd24x_0 (els := []) (call_den h1) hc', gd25x_0 (els := []) (call_den h2) hc'⟩
  | false =>
    obtain ⟨c, hc, h1, h2⟩ := @check_both L n rate fore ts hL
    by_cases h0 : c = 0
    · subst h0
      obtain ⟨a1, a2, a3, a4, a5⟩ := hc rfl
      by_cases k1 : k < 1
      · exact ⟨0, 1, (fun h => by cases h), gd24_1 (call_den h1) rfl (dT k1), gd25_1 (call_den h2) rfl (dT k1)⟩
      by_cases k2 : k > 64
      · exact ⟨0, 1, (fun h => by cases h), gd24_2 (call_den h1) rfl (dF k1) (dT k2), gd25_2 (call_den h2) rfl (dF k1) (dT k2)⟩
      have hl : ((ts.map celF).length : Int) = ts.length := by rw [List.length_map]
      have e0 : IntKind.wrap .i64 (k + 1) = k + 1 := wrap_id (by omega)
      obtain ⟨m1, m2⟩ := mul_bnd (a := k + 1) (b := rate) (A := 65) (B := 8) (by omega) (by omega) (by omega) (by omega)
      have m3 : 2 * rate ≤ (k + 1) * rate := Int.mul_le_mul_of_nonneg_right (by omega) (by omega)
      have e1 : IntKind.wrap .i64 ((k + 1) * rate) = (k + 1) * rate := wrap_id (by omega)
      have e2 : IntKind.wrap .i64 (rate * (k + 1)) = (k + 1) * rate := by rw [Int.mul_comm rate]; exact e1
      have g1 := @gd24_3 (L+1) (n+1) rate fore k 0 (ts.map celF) (call_den h1) rfl (dF k1) (dF k2)
      have g2 := @gd25_3 (L+1) (n+1) rate fore k 0 (ts.map celF) (call_den h2) rfl (dF k1) (dF k2)
      rw [e0, e1, hl, wrap_id (by omega)] at g1
      rw [e0, e2, hl, wrap_id (by omega)] at g2
      exact ⟨(k + 1) * rate + ts.length, 0, fun _ => ⟨rfl, a1, a2, by omega, by omega⟩, g1, g2⟩
    · have hc' : (c != 0) = true := by simpa using h0
      exact ⟨0, c, fun h => absurd h h0, gd24_0 (call_den h1) hc', gd25_0 (call_den h2) hc'⟩
theorem length_both (hL : 64 ≤ L) : ∃ m e : Int, (e = 0 → nil = false ∧ 0 ≤ m ∧ m ≤ 65536) ∧
    den ⟨fnOf, specP, L+1⟩ (n+2) 35 [puls rate fore ts nil, .int .i64 k] = some (.tup [.int .i64 m, .int .i64 e]) ∧ den ⟨fnOf, specP, L+1⟩ (n+2) 43 [puls rate fore ts nil, .int .i64 k] = some (.tup [.int .i64 m, .int .i64 e]) := by
  cases nil with
  | true =>
    obtain ⟨c, hc, h1, h2⟩ := @check_nil (L+1) n rate fore
    have hc' : (c != 0) = true := by simpa using hc
    exact ⟨0, c, fun h => absurd h hc, ln35x_0 (els := []) (call_den h1) hc', ln43x_0 (els := []) (call_den h2) hc'⟩
  | false =>
    obtain ⟨c, hc, h1, h2⟩ := @check_both L n rate fore ts hL
    by_cases h0 : c = 0
    · subst h0
      obtain ⟨a1, a2, a3, a4, a5⟩ := hc rfl
      by_cases k0 : k = 0
      · subst k0
        exact ⟨0, 0, fun _ => ⟨rfl, by omega, by omega⟩, ln35_3 (call_den h1) rfl (dF (by decide)) (dF (by decide)) rfl, ln43_1 (call_den h2) rfl rfl⟩
      have kz : (k == 0) = false := by simpa using k0
      by_cases k1 : k < 0
      · exact ⟨0, 1, (fun h => by cases h), ln35_1 (call_den h1) rfl (dT k1), ln43_2 (call_den h2) rfl kz (dT k1)⟩
      by_cases k2 : k > 65536
      · exact ⟨0, 1, (fun h => by cases h), ln35_2 (call_den h1) rfl (dF k1) (dT k2), ln43_3 (call_den h2) rfl kz (dF k1) (dT k2)⟩
      have hl : ((ts.map celF).length : Int) = ts.length := by rw [List.length_map]
      have e0 : IntKind.wrap .i64 (k - 1) = k - 1 := wrap_id (by omega)
      obtain ⟨m1, m2⟩ := mul_bnd (a := k - 1) (b := rate) (A := 65536) (B := 8) (by omega) (by omega) (by omega) (by omega)
      have e1 : IntKind.wrap .i64 ((k - 1) * rate) = (k - 1) * rate := wrap_id (by omega)
      have ee : IntKind.wrap .i64 (IntKind.wrap .i64 (IntKind.wrap .i64 (k - 1) * rate) + ((ts.map celF).length : Int)) = (k - 1) * rate + ts.length := by rw [e0, e1, hl, wrap_id (by omega)]
      by_cases k3 : (k - 1) * rate + ts.length ≤ 65536
      · have g1 := @ln35_4 (L+1) (n+1) rate fore k 0 (ts.map celF) (call_den h1) rfl (dF k1) (dF k2) kz (by rw [ee]; exact dT k3)
        have g2 := @ln43_5 (L+1) (n+1) rate fore k 0 (ts.map celF) (call_den h2) rfl kz (dF k1) (dF k2) (by rw [ee]; exact dF (by omega))
        rw [ee] at g1 g2
        exact ⟨_, 0, fun _ => ⟨rfl, by omega, k3⟩, g1, g2⟩
      · exact ⟨0, 1, (fun h => by cases h), ln35_5 (call_den h1) rfl (dF k1) (dF k2) kz (by rw [ee]; exact dF k3), ln43_4 (call_den h2) rfl kz (dF k1) (dF k2) (by rw [ee]; exact dT (by omega))⟩
    · have hc' : (c != 0) = true := by simpa using h0
      exact ⟨0, c, fun h => absurd h h0, ln35_0 (call_den h1) hc', ln43_0 (call_den h2) hc'⟩
end
end Go.Proofs.Ytnccnmeecngopaa.Fw
