/- HuntBack: the two loops that make the rows. -/
import Derived.Test.YtnccnmeecngopaaLwBkB
set_option maxRecDepth 100000
set_option maxHeartbeats 4000000
set_option linter.unusedSimpArgs false
set_option linter.unusedVariables false
namespace Go.Proofs.Ytnccnmeecngopaa.Fw
open Go Go.RowKit
def pz (x : Int) : Nat := fdiv (fofInt (x.tmod 4194305)) 4661225614328463360
theorem pz_grid (x : Int) : grid (x.tmod 4194305) (pz x) ∧ (x.tmod 4194305).natAbs ≤ 4194304 := by
  have h : (x.tmod 4194305).natAbs < 4194305 := by
    rw [Int.natAbs_tmod]; exact Nat.mod_lt _ (by decide)
  exact ⟨grid_parts (Nat.lt_trans h (by decide)), by omega⟩
def prz (xs : List Int) : List Smp := (List.range (xs.length / 2)).map fun j => (pz (xs.getD (2 * j) 0), pz (xs.getD (2 * j + 1) 0), false)
theorem prz_len {xs : List Int} : (prz xs).length = xs.length / 2 := by simp [prz]
theorem prz_at {xs : List Int} {j : Nat} (h : j < (prz xs).length) : (prz xs)[j] = (pz (xs.getD (2 * j) 0), pz (xs.getD (2 * j + 1) 0), false) := by simp [prz]
def trz (n : Nat) (s : Smp) : Smp := ((trn n s).1, (trn n s).2.1, false)
abbrev zS : Smp := (0, 0, false)
theorem tr_den {L n q : Nat} {s : Smp} (hq : q < 4) : den ⟨fnOf, specS, L+5⟩ (n+1) 30 [.cpx s.1 s.2.1, .int .i64 (q : Nat)] = some (.cpx (trn q s).1 (trn q s).2.1) := by
  match q, hq with
  | 0, _ => exact bt30_0_0
  | 1, _ => exact bt30_1_0
  | 2, _ => exact bt30_2_0
  | 3, _ => exact bt30_3_0
theorem loopE {P : Prog} {C : Caller} {L d : Nat} {live π : List Nat} {m : MC} (A : Nat → St) (n : Nat) {x : Ex} {F : AV → AV → AV → AV → AV → AV → AV → AV → AV → AV → St} (hL : P.L = L + 1) (hn : n ≤ L)
    (h : ∀ i, i < n → rnd d live (bodyOf P C d m (i :: π) (A i)) = some (.nrm, A (i + 1))) (he : ∃ a b c e f g h i j k, rnd d live (bodyOf P C d m (n :: π) (A n)) = some (x, F a b c e f g h i j k)) (hx : x ≠ .nrm) :
    ∃ a b c e f g h i j k, Con.holds P C (.loop d live m π (A 0) x (F a b c e f g h i j k)) := by
  obtain ⟨a, b, c, e, f, g, h', i, j, k, he⟩ := he
  exact ⟨a, b, c, e, f, g, h', i, j, k, loop0 A n hL hn h he hx⟩
section
variable {L n q l : Nat} {xs : List Int} {la : Int}
abbrev XL (xs : List Int) : AV := .lst 1 (xs.map celI)
def b1A (X : AV) (la : Int) (q : Nat) : Nat → St
  | 0 => ⟨bkE X la q .nils .nils ++ [(21, .int .i64 0)], [], 0⟩
  | j + 1 => ⟨bkE X la q .nils (bkB 86 [6, j, 60] (j + 1)) ++ [(21, .int .i64 ((j + 1 : Nat) : Int))], bkH 86 [6, j, 60] (List.replicate (j + 1) [.cpx 0 0, .v (.bool false)]), 0⟩
theorem rep_up (j : Nat) (z : List AV) : List.replicate (j + 1) z = List.replicate j z ++ [z] := List.replicate_succ'

theorem b1_round_l {j : Nat} (hl : l ≤ 100) (hj : j < l) :
    rnd 0 [4, 5, 14, 19, 20, 21] (bodyOf ⟨fnOf, specS, L⟩ (runF ⟨fnOf, specS, L⟩ n) 0 m8b1 (j :: [60]) (b1A (XL xs) (l : Nat) q j)) = some (.nrm, b1A (XL xs) (l : Nat) q (j + 1)) := by
  have hw := wrapUp hj (by omega)
  cases j with
  | zero =>
    have := @bl0_0 L n (l : Nat) q ((0 : Nat) : Int) (xs.map celI) 0 [60] (dLt hj)
    rw [hw] at this
    exact this
  | succ j =>
    have := @bl1_0 L n (l : Nat) q ((j + 1 : Nat) : Int) (xs.map celI) (j + 1) [60] [6, j, 60] (j + 1) (List.replicate (j + 1) [.cpx 0 0, .v (.bool false)]) (dLt hj) ⟨by rw [List.length_replicate], by simp only [roomOk, most]; omega⟩
    rw [hw] at this
    rw [show b1A (XL xs) (l : Nat) q (j + 1 + 1) = ⟨bkE (XL xs) (l : Nat) q .nils (bkB 86 [6, j + 1, 60] (j + 1 + 1)) ++ [(21, .int .i64 ((j + 1 + 1 : Nat) : Int))], bkH 86 [6, j + 1, 60] (List.replicate (j + 1 + 1) [.cpx 0 0, .v (.bool false)]), 0⟩ from rfl, rep_up (j + 1)]
    exact this
theorem b1_loop0_l : Con.holds ⟨fnOf, specS, L+1⟩ (runF ⟨fnOf, specS, L+1⟩ n) (.loop 0 [4, 5, 14, 19, 20, 21] m8b1 [60] (b1A (XL xs) ((0 : Nat) : Int) q 0) (.exit 0)
    ⟨[(80, .v (.bool false)), (79, .int .i64 ((0 : Nat) : Int)), (78, .int .i64 ((0 : Nat) : Int))] ++ bkE (XL xs) ((0 : Nat) : Int) q .nils .nils ++ [(21, .int .i64 ((0 : Nat) : Int))], [], 3⟩) :=
  loop0 (b1A (XL xs) ((0 : Nat) : Int) q) 0 rfl (Nat.zero_le _) (fun i hi => absurd hi (by omega)) (@bl0_1 (L+1) n ((0 : Nat) : Int) q ((0 : Nat) : Int) (xs.map celI) 0 [60] dNlt) (by simp)
theorem b1_loop1_l {m : Nat} (hl : m < 100) (hL : m + 1 ≤ L) : Con.holds ⟨fnOf, specS, L+1⟩ (runF ⟨fnOf, specS, L+1⟩ n) (.loop 0 [4, 5, 14, 19, 20, 21] m8b1 [60] (b1A (XL xs) ((m + 1 : Nat) : Int) q 0) (.exit 0)
    ⟨[(80, .v (.bool false)), (79, .int .i64 ((m + 1 : Nat) : Int)), (78, .int .i64 ((m + 1 : Nat) : Int))] ++ bkE (XL xs) ((m + 1 : Nat) : Int) q .nils (bkB 86 [6, m, 60] ((m + 1 : Nat) : Int).toNat) ++ [(21, .int .i64 ((m + 1 : Nat) : Int))], bkH 86 [6, m, 60] (List.replicate ((m + 1 : Nat) : Int).toNat [.cpx 0 0, .v (.bool false)]), 3⟩) :=
  loop0 (b1A (XL xs) ((m + 1 : Nat) : Int) q) (m + 1) rfl hL (fun i hi => b1_round_l (by omega) hi) (@bl1_1 (L+1) n ((m + 1 : Nat) : Int) q ((m + 1 : Nat) : Int) (xs.map celI) (m + 1) [60] [6, m, 60] (m + 1) (List.replicate (m + 1) [.cpx 0 0, .v (.bool false)]) dNlt) (by simp)

theorem b1_round_x {j : Nat} (hl : l ≤ 100) (hj : j < l) :
    rnd 0 [4, 5, 14, 19, 20, 21] (bodyOf ⟨fnOf, specS, L⟩ (runF ⟨fnOf, specS, L⟩ n) 0 m8b1 (j :: [60]) (b1A .nils (l : Nat) q j)) = some (.nrm, b1A .nils (l : Nat) q (j + 1)) := by
  have hw := wrapUp hj (by omega)
  cases j with
  | zero =>
    have := @bl0x_0 L n (l : Nat) q ((0 : Nat) : Int) [] 0 [60] (dLt hj)
    rw [hw] at this
    exact this
  | succ j =>
    have := @bl1x_0 L n (l : Nat) q ((j + 1 : Nat) : Int) [] (j + 1) [60] [6, j, 60] (j + 1) (List.replicate (j + 1) [.cpx 0 0, .v (.bool false)]) (dLt hj) ⟨by rw [List.length_replicate], by simp only [roomOk, most]; omega⟩
    rw [hw] at this
    rw [show b1A .nils (l : Nat) q (j + 1 + 1) = ⟨bkE .nils (l : Nat) q .nils (bkB 86 [6, j + 1, 60] (j + 1 + 1)) ++ [(21, .int .i64 ((j + 1 + 1 : Nat) : Int))], bkH 86 [6, j + 1, 60] (List.replicate (j + 1 + 1) [.cpx 0 0, .v (.bool false)]), 0⟩ from rfl, rep_up (j + 1)]
    exact this
theorem b1_loop0_x : Con.holds ⟨fnOf, specS, L+1⟩ (runF ⟨fnOf, specS, L+1⟩ n) (.loop 0 [4, 5, 14, 19, 20, 21] m8b1 [60] (b1A .nils ((0 : Nat) : Int) q 0) (.exit 0)
    ⟨[(80, .v (.bool false)), (79, .int .i64 ((0 : Nat) : Int)), (78, .int .i64 ((0 : Nat) : Int))] ++ bkE .nils ((0 : Nat) : Int) q .nils .nils ++ [(21, .int .i64 ((0 : Nat) : Int))], [], 3⟩) :=
  loop0 (b1A .nils ((0 : Nat) : Int) q) 0 rfl (Nat.zero_le _) (fun i hi => absurd hi (by omega)) (@bl0x_1 (L+1) n ((0 : Nat) : Int) q ((0 : Nat) : Int) [] 0 [60] dNlt) (by simp)
theorem b1_loop1_x {m : Nat} (hl : m < 100) (hL : m + 1 ≤ L) : Con.holds ⟨fnOf, specS, L+1⟩ (runF ⟨fnOf, specS, L+1⟩ n) (.loop 0 [4, 5, 14, 19, 20, 21] m8b1 [60] (b1A .nils ((m + 1 : Nat) : Int) q 0) (.exit 0)
    ⟨[(80, .v (.bool false)), (79, .int .i64 ((m + 1 : Nat) : Int)), (78, .int .i64 ((m + 1 : Nat) : Int))] ++ bkE .nils ((m + 1 : Nat) : Int) q .nils (bkB 86 [6, m, 60] ((m + 1 : Nat) : Int).toNat) ++ [(21, .int .i64 ((m + 1 : Nat) : Int))], bkH 86 [6, m, 60] (List.replicate ((m + 1 : Nat) : Int).toNat [.cpx 0 0, .v (.bool false)]), 3⟩) :=
  loop0 (b1A .nils ((m + 1 : Nat) : Int) q) (m + 1) rfl hL (fun i hi => b1_round_x (by omega) hi) (@bl1x_1 (L+1) n ((m + 1 : Nat) : Int) q ((m + 1 : Nat) : Int) [] (m + 1) [60] [6, m, 60] (m + 1) (List.replicate (m + 1) [.cpx 0 0, .v (.bool false)]) dNlt) (by simp)

def b0A0 (xs : List Int) (la : Int) (q : Nat) : Nat → St
  | 0 => ⟨bkE (XL xs) la q .nils .nils ++ [(22, .int .i64 0)], [], 0⟩
  | j + 1 => ⟨bkE (XL xs) la q (bkA [31, j, 62] (j + 1)) (bkB 126 [39, j, 62] (j + 1)) ++ [(22, .int .i64 ((2 * (j + 1) : Nat) : Int))], bkH 119 [31, j, 62] (((prz xs).take (j + 1)).map celS) ++ bkH 126 [39, j, 62] ((((prz xs).take (j + 1)).map (trz q)).map celS), 0⟩
theorem b0A0_succ {j : Nat} : b0A0 xs la q (j + 1) = ⟨bkE (XL xs) la q (bkA [31, j, 62] (j + 1)) (bkB 126 [39, j, 62] (j + 1)) ++ [(22, .int .i64 ((2 * (j + 1) : Nat) : Int))], bkH 119 [31, j, 62] (((prz xs).take (j + 1)).map celS) ++ bkH 126 [39, j, 62] ((((prz xs).take (j + 1)).map (trz q)).map celS), 0⟩ := rfl
theorem b0_round0 {j : Nat} (hm : xs.length ≤ 17592186044000) (hq : q < 4) (hj : j < (prz xs).length) (h5 : j < 500) :
    rnd 0 [4, 5, 14, 19, 20, 22] (bodyOf ⟨fnOf, specS, L+5⟩ (runF ⟨fnOf, specS, L+5⟩ (n+1)) 0 m8b0 (j :: [62]) (b0A0 xs la q j)) = some (.nrm, b0A0 xs la q (j + 1)) := by
  have hj' := hj
  rw [prz_len] at hj'
  have hw1 : IntKind.wrap .i64 (((2 * j : Nat) : Int) + 1) = ((2 * j + 1 : Nat) : Int) := by rw [wrap_id (by omega)]; omega
  have hw2 : IntKind.wrap .i64 (((2 * j : Nat) : Int) + 2) = ((2 * (j + 1) : Nat) : Int) := by rw [wrap_id (by omega)]; omega
  have hc : decide (IntKind.wrap .i64 (((2 * j : Nat) : Int) + 1) < ((xs.map celI).length : Int)) = true := dT (by rw [hw1, List.length_map]; omega)
  have e1 := el_at (P := ⟨fnOf, specS, L+5⟩) (C := runF ⟨fnOf, specS, L+5⟩ (n+1)) (getD_at (xs := xs) (i := 2 * j) (by omega))
  have e2 := el_at (P := ⟨fnOf, specS, L+5⟩) (C := runF ⟨fnOf, specS, L+5⟩ (n+1)) (getD_at (xs := xs) (i := 2 * j + 1) (by omega))
  rw [← hw1] at e2
  have h30 := @tr_den L n q (pz (xs.getD (2 * j) 0), pz (xs.getD (2 * j + 1) 0), false) hq
  have hz : ∀ s : Smp, (trz q s) = ((trn q s).1, (trn q s).2.1, false) := fun _ => rfl
  have hrt : ((prz xs).take (j + 1)).map (trz q) = ((prz xs).take j).map (trz q) ++ [trz q (pz (xs.getD (2 * j) 0), pz (xs.getD (2 * j + 1) 0), false)] := by
    rw [takeUp hj, List.map_append, prz_at hj]; rfl
  cases j with
  | zero =>
    have := @br1_0 (L+5) (n+1) la q ((2 * 0 : Nat) : Int) (xs.map celI) 0 [62] [] [] 0 0 [] [] _ _ _ _ hc e1 e2 (call_den h30)
    rw [hw2] at this
    rw [b0A0_succ, hrt, mapTake_up hj, prz_at hj]
    exact this
  | succ j =>
    have := @br3_0 (L+5) (n+1) la q ((2 * (j + 1) : Nat) : Int) (xs.map celI) (j + 1) [62] [31, j, 62] [39, j, 62] (j + 1) (j + 1) (((prz xs).take (j + 1)).map celS) ((((prz xs).take (j + 1)).map (trz q)).map celS) _ _ _ _ hc (dT (by omega)) e1 e2
      ⟨by rw [mapTake_len (by omega)], by simp only [roomOk, most]; omega⟩ (call_den h30) ⟨by rw [List.length_map, List.length_map, List.length_take]; omega, by simp only [roomOk, most]; omega⟩
    rw [hw2] at this
    rw [b0A0_succ, b0A0_succ, hrt, mapTake_up (i := j + 1) hj, prz_at hj, List.map_append]
    exact this
theorem b0_loop0 {m : Nat} (hm : xs.length ≤ 17592186044000) (hq : q < 4) (hx : m + 1 = min (xs.length / 2) 500) (hL : 500 ≤ L) : ∃ w96 w95 w94 w93 w92 w91 w90 w89 w88 w87,
    Con.holds ⟨fnOf, specS, L+6⟩ (runF ⟨fnOf, specS, L+6⟩ (n+1)) (.loop 0 [4, 5, 14, 19, 20, 22] m8b0 [62] (b0A0 xs la q 0) (.exit 2) ⟨[(96, w96), (95, w95), (94, w94), (93, w93), (92, w92), (91, w91), (90, w90), (89, w89), (88, w88), (87, w87)] ++ bkE (XL xs) la q (bkA [31, m, 62] (m + 1)) (bkB 126 [39, m, 62] (m + 1)) ++ [(22, .int .i64 ((2 * (m + 1) : Nat) : Int))], bkH 119 [31, m, 62] (((prz xs).take (m + 1)).map celS) ++ bkH 126 [39, m, 62] ((((prz xs).take (m + 1)).map (trz q)).map celS), 10⟩) := by
  have hpl := prz_len (xs := xs)
  have hw1 : IntKind.wrap .i64 (((2 * (m + 1) : Nat) : Int) + 1) = ((2 * (m + 1) + 1 : Nat) : Int) := by rw [wrap_id (by omega)]; omega
  by_cases hc : 2 * (m + 1) + 1 < xs.length
  · exact (by
    obtain ⟨a, b, c, e, f, g, h, i', j, k, h2⟩ : ∃ a b c e f g h i' j k, rnd 0 [4, 5, 14, 19, 20, 22] (bodyOf ⟨fnOf, specS, L+6⟩ (runF ⟨fnOf, specS, L+6⟩ (n+1)) 0 m8b0 ((m+1) :: [62]) (b0A0 xs la q (m + 1))) = some (.exit 2, ⟨[(96, a), (95, b), (94, c), (93, e), (92, f), (91, g), (90, h), (89, i'), (88, j), (87, k)] ++ bkE (XL xs) la q (bkA [31, m, 62] (m + 1)) (bkB 126 [39, m, 62] (m + 1)) ++ [(22, .int .i64 ((2 * (m + 1) : Nat) : Int))], bkH 119 [31, m, 62] (((prz xs).take (m + 1)).map celS) ++ bkH 126 [39, m, 62] ((((prz xs).take (m + 1)).map (trz q)).map celS), 10⟩) := by
      have h1 := (@br3_1 (L+6) (n+1) la q ((2 * (m + 1) : Nat) : Int) (xs.map celI) (m + 1) [62] [31, m, 62] [39, m, 62] (m + 1) (m + 1) (((prz xs).take (m + 1)).map celS) ((((prz xs).take (m + 1)).map (trz q)).map celS) 0 0 0 0 (dT (by rw [hw1, List.length_map]; omega)) (dF (by omega)))
      rw [b0A0_succ]
      exact ⟨_, _, _, _, _, _, _, _, _, _, h1⟩
    have h3 : ∀ i, i < m + 1 → rnd 0 [4, 5, 14, 19, 20, 22] (bodyOf ⟨fnOf, specS, L+6⟩ (runF ⟨fnOf, specS, L+6⟩ (n+1)) 0 m8b0 (i :: [62]) (b0A0 xs la q i)) = some (.nrm, b0A0 xs la q (i + 1)) := fun i hi => b0_round0 (L := L+1) hm hq (by omega) (by omega)
    exact ⟨a, b, c, e, f, g, h, i', j, k, loop0 (b0A0 xs la q ) (m + 1) rfl (by omega) h3 h2 (by simp)⟩)
  · exact (by
    obtain ⟨a, b, c, e, f, g, h, i', j, k, h2⟩ : ∃ a b c e f g h i' j k, rnd 0 [4, 5, 14, 19, 20, 22] (bodyOf ⟨fnOf, specS, L+6⟩ (runF ⟨fnOf, specS, L+6⟩ (n+1)) 0 m8b0 ((m+1) :: [62]) (b0A0 xs la q (m + 1))) = some (.exit 2, ⟨[(96, a), (95, b), (94, c), (93, e), (92, f), (91, g), (90, h), (89, i'), (88, j), (87, k)] ++ bkE (XL xs) la q (bkA [31, m, 62] (m + 1)) (bkB 126 [39, m, 62] (m + 1)) ++ [(22, .int .i64 ((2 * (m + 1) : Nat) : Int))], bkH 119 [31, m, 62] (((prz xs).take (m + 1)).map celS) ++ bkH 126 [39, m, 62] ((((prz xs).take (m + 1)).map (trz q)).map celS), 10⟩) := by
      have h1 := (@br3_2 (L+6) (n+1) la q ((2 * (m + 1) : Nat) : Int) (xs.map celI) (m + 1) [62] [31, m, 62] [39, m, 62] (m + 1) (m + 1) (((prz xs).take (m + 1)).map celS) ((((prz xs).take (m + 1)).map (trz q)).map celS) 0 0 0 0 (dF (by rw [hw1, List.length_map]; omega)))
      rw [b0A0_succ]
      exact ⟨_, _, _, _, _, _, _, _, _, _, h1⟩
    have h3 : ∀ i, i < m + 1 → rnd 0 [4, 5, 14, 19, 20, 22] (bodyOf ⟨fnOf, specS, L+6⟩ (runF ⟨fnOf, specS, L+6⟩ (n+1)) 0 m8b0 (i :: [62]) (b0A0 xs la q i)) = some (.nrm, b0A0 xs la q (i + 1)) := fun i hi => b0_round0 (L := L+1) hm hq (by omega) (by omega)
    exact ⟨a, b, c, e, f, g, h, i', j, k, loop0 (b0A0 xs la q ) (m + 1) rfl (by omega) h3 h2 (by simp)⟩)
theorem b0_none0 (hm : xs.length ≤ 1) : ∃ w96 w95 w94 w93 w92 w91 w90 w89 w88 w87,
    Con.holds ⟨fnOf, specS, L+6⟩ (runF ⟨fnOf, specS, L+6⟩ (n+1)) (.loop 0 [4, 5, 14, 19, 20, 22] m8b0 [62] (b0A0 xs la q 0) (.exit 2) ⟨[(96, w96), (95, w95), (94, w94), (93, w93), (92, w92), (91, w91), (90, w90), (89, w89), (88, w88), (87, w87)] ++ bkE (XL xs) la q .nils .nils ++ [(22, .int .i64 0)], [], 10⟩) :=
  ⟨_, _, _, _, _, _, _, _, _, _, loop0 (b0A0 xs la q ) 0 rfl (Nat.zero_le _) (fun i hi => absurd hi (by omega)) (@br1_1 (L+6) (n+1) la q 0 (xs.map celI) 0 [62] [] [] 0 0 [] [] 0 0 0 0 (dF (by rw [wrap_id (by omega), List.length_map]; omega))) (by simp)⟩

def b0A1 (xs : List Int) (la : Int) (q : Nat) (l0 : Nat) : Nat → St
  | 0 => ⟨bkE (XL xs) la q .nils (bkB 86 [6, l0, 60] (l0 + 1)) ++ [(22, .int .i64 0)], bkH 86 [6, l0, 60] (List.replicate (l0 + 1) [.cpx 0 0, .v (.bool false)]), 0⟩
  | j + 1 => ⟨bkE (XL xs) la q (bkA [31, j, 62] (j + 1)) (bkB 86 [39, j, 62] (l0 + 1 + (j + 1))) ++ [(22, .int .i64 ((2 * (j + 1) : Nat) : Int))], bkH 86 [39, j, 62] (List.replicate (l0 + 1) [.cpx 0 0, .v (.bool false)] ++ (((prz xs).take (j + 1)).map (trz q)).map celS) ++ bkH 119 [31, j, 62] (((prz xs).take (j + 1)).map celS), 0⟩
theorem b0A1_succ {l0 : Nat} {j : Nat} : b0A1 xs la q l0 (j + 1) = ⟨bkE (XL xs) la q (bkA [31, j, 62] (j + 1)) (bkB 86 [39, j, 62] (l0 + 1 + (j + 1))) ++ [(22, .int .i64 ((2 * (j + 1) : Nat) : Int))], bkH 86 [39, j, 62] (List.replicate (l0 + 1) [.cpx 0 0, .v (.bool false)] ++ (((prz xs).take (j + 1)).map (trz q)).map celS) ++ bkH 119 [31, j, 62] (((prz xs).take (j + 1)).map celS), 0⟩ := rfl
theorem b0_round1 {l0 : Nat} {j : Nat} (hm : xs.length ≤ 17592186044000) (hl0 : l0 ≤ 100) (hq : q < 4) (hj : j < (prz xs).length) (h5 : j < 500) :
    rnd 0 [4, 5, 14, 19, 20, 22] (bodyOf ⟨fnOf, specS, L+5⟩ (runF ⟨fnOf, specS, L+5⟩ (n+1)) 0 m8b0 (j :: [62]) (b0A1 xs la q l0 j)) = some (.nrm, b0A1 xs la q l0 (j + 1)) := by
  have hj' := hj
  rw [prz_len] at hj'
  have hw1 : IntKind.wrap .i64 (((2 * j : Nat) : Int) + 1) = ((2 * j + 1 : Nat) : Int) := by rw [wrap_id (by omega)]; omega
  have hw2 : IntKind.wrap .i64 (((2 * j : Nat) : Int) + 2) = ((2 * (j + 1) : Nat) : Int) := by rw [wrap_id (by omega)]; omega
  have hc : decide (IntKind.wrap .i64 (((2 * j : Nat) : Int) + 1) < ((xs.map celI).length : Int)) = true := dT (by rw [hw1, List.length_map]; omega)
  have e1 := el_at (P := ⟨fnOf, specS, L+5⟩) (C := runF ⟨fnOf, specS, L+5⟩ (n+1)) (getD_at (xs := xs) (i := 2 * j) (by omega))
  have e2 := el_at (P := ⟨fnOf, specS, L+5⟩) (C := runF ⟨fnOf, specS, L+5⟩ (n+1)) (getD_at (xs := xs) (i := 2 * j + 1) (by omega))
  rw [← hw1] at e2
  have h30 := @tr_den L n q (pz (xs.getD (2 * j) 0), pz (xs.getD (2 * j + 1) 0), false) hq
  have hz : ∀ s : Smp, (trz q s) = ((trn q s).1, (trn q s).2.1, false) := fun _ => rfl
  have hrt : ((prz xs).take (j + 1)).map (trz q) = ((prz xs).take j).map (trz q) ++ [trz q (pz (xs.getD (2 * j) 0), pz (xs.getD (2 * j + 1) 0), false)] := by
    rw [takeUp hj, List.map_append, prz_at hj]; rfl
  cases j with
  | zero =>
    have := @br2_0 (L+5) (n+1) la q ((2 * 0 : Nat) : Int) (xs.map celI) 0 [62] [] [6, l0, 60] 0 (l0 + 1) [] (List.replicate (l0 + 1) [.cpx 0 0, .v (.bool false)]) _ _ _ _ hc e1 e2 (call_den h30) ⟨by rw [List.length_replicate], by simp only [roomOk, most]; omega⟩
    rw [hw2] at this
    rw [b0A1_succ, hrt, mapTake_up hj, prz_at hj]
    exact this
  | succ j =>
    have := @br4_0 (L+5) (n+1) la q ((2 * (j + 1) : Nat) : Int) (xs.map celI) (j + 1) [62] [31, j, 62] [39, j, 62] (j + 1) (l0 + 1 + (j + 1)) (((prz xs).take (j + 1)).map celS) (List.replicate (l0 + 1) [.cpx 0 0, .v (.bool false)] ++ (((prz xs).take (j + 1)).map (trz q)).map celS) _ _ _ _ hc (dT (by omega)) e1 e2
      ⟨by rw [mapTake_len (by omega)], by simp only [roomOk, most]; omega⟩ (call_den h30) ⟨by rw [List.length_append, List.length_replicate, List.length_map, List.length_map, List.length_take]; omega, by simp only [roomOk, most]; omega⟩
    rw [hw2] at this
    rw [b0A1_succ, b0A1_succ, hrt, mapTake_up (i := j + 1) hj, prz_at hj, List.map_append, ← List.append_assoc]
    exact this
theorem b0_loop1 {l0 : Nat} {m : Nat} (hm : xs.length ≤ 17592186044000) (hl0 : l0 ≤ 100) (hq : q < 4) (hx : m + 1 = min (xs.length / 2) 500) (hL : 500 ≤ L) : ∃ w96 w95 w94 w93 w92 w91 w90 w89 w88 w87,
    Con.holds ⟨fnOf, specS, L+6⟩ (runF ⟨fnOf, specS, L+6⟩ (n+1)) (.loop 0 [4, 5, 14, 19, 20, 22] m8b0 [62] (b0A1 xs la q l0 0) (.exit 2) ⟨[(96, w96), (95, w95), (94, w94), (93, w93), (92, w92), (91, w91), (90, w90), (89, w89), (88, w88), (87, w87)] ++ bkE (XL xs) la q (bkA [31, m, 62] (m + 1)) (bkB 86 [39, m, 62] (l0 + 1 + (m + 1))) ++ [(22, .int .i64 ((2 * (m + 1) : Nat) : Int))], bkH 86 [39, m, 62] (List.replicate (l0 + 1) [.cpx 0 0, .v (.bool false)] ++ (((prz xs).take (m + 1)).map (trz q)).map celS) ++ bkH 119 [31, m, 62] (((prz xs).take (m + 1)).map celS), 10⟩) := by
  have hpl := prz_len (xs := xs)
  have hw1 : IntKind.wrap .i64 (((2 * (m + 1) : Nat) : Int) + 1) = ((2 * (m + 1) + 1 : Nat) : Int) := by rw [wrap_id (by omega)]; omega
  by_cases hc : 2 * (m + 1) + 1 < xs.length
  · exact (by
    obtain ⟨a, b, c, e, f, g, h, i', j, k, h2⟩ : ∃ a b c e f g h i' j k, rnd 0 [4, 5, 14, 19, 20, 22] (bodyOf ⟨fnOf, specS, L+6⟩ (runF ⟨fnOf, specS, L+6⟩ (n+1)) 0 m8b0 ((m+1) :: [62]) (b0A1 xs la q l0 (m + 1))) = some (.exit 2, ⟨[(96, a), (95, b), (94, c), (93, e), (92, f), (91, g), (90, h), (89, i'), (88, j), (87, k)] ++ bkE (XL xs) la q (bkA [31, m, 62] (m + 1)) (bkB 86 [39, m, 62] (l0 + 1 + (m + 1))) ++ [(22, .int .i64 ((2 * (m + 1) : Nat) : Int))], bkH 86 [39, m, 62] (List.replicate (l0 + 1) [.cpx 0 0, .v (.bool false)] ++ (((prz xs).take (m + 1)).map (trz q)).map celS) ++ bkH 119 [31, m, 62] (((prz xs).take (m + 1)).map celS), 10⟩) := by
      have h1 := (@br4_1 (L+6) (n+1) la q ((2 * (m + 1) : Nat) : Int) (xs.map celI) (m + 1) [62] [31, m, 62] [39, m, 62] (m + 1) (l0 + 1 + (m + 1)) (((prz xs).take (m + 1)).map celS) (List.replicate (l0 + 1) [.cpx 0 0, .v (.bool false)] ++ (((prz xs).take (m + 1)).map (trz q)).map celS) 0 0 0 0 (dT (by rw [hw1, List.length_map]; omega)) (dF (by omega)))
      rw [b0A1_succ]
      exact ⟨_, _, _, _, _, _, _, _, _, _, h1⟩
    have h3 : ∀ i, i < m + 1 → rnd 0 [4, 5, 14, 19, 20, 22] (bodyOf ⟨fnOf, specS, L+6⟩ (runF ⟨fnOf, specS, L+6⟩ (n+1)) 0 m8b0 (i :: [62]) (b0A1 xs la q l0 i)) = some (.nrm, b0A1 xs la q l0 (i + 1)) := fun i hi => b0_round1 (L := L+1) hm hl0 hq (by omega) (by omega)
    exact ⟨a, b, c, e, f, g, h, i', j, k, loop0 (b0A1 xs la q l0 ) (m + 1) rfl (by omega) h3 h2 (by simp)⟩)
  · exact (by
    obtain ⟨a, b, c, e, f, g, h, i', j, k, h2⟩ : ∃ a b c e f g h i' j k, rnd 0 [4, 5, 14, 19, 20, 22] (bodyOf ⟨fnOf, specS, L+6⟩ (runF ⟨fnOf, specS, L+6⟩ (n+1)) 0 m8b0 ((m+1) :: [62]) (b0A1 xs la q l0 (m + 1))) = some (.exit 2, ⟨[(96, a), (95, b), (94, c), (93, e), (92, f), (91, g), (90, h), (89, i'), (88, j), (87, k)] ++ bkE (XL xs) la q (bkA [31, m, 62] (m + 1)) (bkB 86 [39, m, 62] (l0 + 1 + (m + 1))) ++ [(22, .int .i64 ((2 * (m + 1) : Nat) : Int))], bkH 86 [39, m, 62] (List.replicate (l0 + 1) [.cpx 0 0, .v (.bool false)] ++ (((prz xs).take (m + 1)).map (trz q)).map celS) ++ bkH 119 [31, m, 62] (((prz xs).take (m + 1)).map celS), 10⟩) := by
      have h1 := (@br4_2 (L+6) (n+1) la q ((2 * (m + 1) : Nat) : Int) (xs.map celI) (m + 1) [62] [31, m, 62] [39, m, 62] (m + 1) (l0 + 1 + (m + 1)) (((prz xs).take (m + 1)).map celS) (List.replicate (l0 + 1) [.cpx 0 0, .v (.bool false)] ++ (((prz xs).take (m + 1)).map (trz q)).map celS) 0 0 0 0 (dF (by rw [hw1, List.length_map]; omega)))
      rw [b0A1_succ]
      exact ⟨_, _, _, _, _, _, _, _, _, _, h1⟩
    have h3 : ∀ i, i < m + 1 → rnd 0 [4, 5, 14, 19, 20, 22] (bodyOf ⟨fnOf, specS, L+6⟩ (runF ⟨fnOf, specS, L+6⟩ (n+1)) 0 m8b0 (i :: [62]) (b0A1 xs la q l0 i)) = some (.nrm, b0A1 xs la q l0 (i + 1)) := fun i hi => b0_round1 (L := L+1) hm hl0 hq (by omega) (by omega)
    exact ⟨a, b, c, e, f, g, h, i', j, k, loop0 (b0A1 xs la q l0 ) (m + 1) rfl (by omega) h3 h2 (by simp)⟩)
theorem b0_none1 {l0 : Nat} (hm : xs.length ≤ 1) : ∃ w96 w95 w94 w93 w92 w91 w90 w89 w88 w87,
    Con.holds ⟨fnOf, specS, L+6⟩ (runF ⟨fnOf, specS, L+6⟩ (n+1)) (.loop 0 [4, 5, 14, 19, 20, 22] m8b0 [62] (b0A1 xs la q l0 0) (.exit 2) ⟨[(96, w96), (95, w95), (94, w94), (93, w93), (92, w92), (91, w91), (90, w90), (89, w89), (88, w88), (87, w87)] ++ bkE (XL xs) la q .nils (bkB 86 [6, l0, 60] (l0 + 1)) ++ [(22, .int .i64 0)], bkH 86 [6, l0, 60] (List.replicate (l0 + 1) [.cpx 0 0, .v (.bool false)]), 10⟩) :=
  ⟨_, _, _, _, _, _, _, _, _, _, loop0 (b0A1 xs la q l0 ) 0 rfl (Nat.zero_le _) (fun i hi => absurd hi (by omega)) (@br2_1 (L+6) (n+1) la q 0 (xs.map celI) 0 [62] [] [6, l0, 60] 0 (l0 + 1) [] (List.replicate (l0 + 1) [.cpx 0 0, .v (.bool false)]) 0 0 0 0 (dF (by rw [wrap_id (by omega), List.length_map]; omega))) (by simp)⟩
end
end Go.Proofs.Ytnccnmeecngopaa.Fw
