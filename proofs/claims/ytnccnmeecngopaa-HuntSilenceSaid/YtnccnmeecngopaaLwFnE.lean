/- HuntFinds: what samples are, and that both Finds answer the same for any row. -/
import Derived.Test.YtnccnmeecngopaaLwFnD
import Derived.Test.YtnccnmeecngopaaFwLi
set_option maxRecDepth 100000
set_option maxHeartbeats 4000000
set_option linter.unusedSimpArgs false
set_option linter.unusedVariables false
namespace Go.Proofs.Ytnccnmeecngopaa.Fw
open Go Go.RowKit
abbrev Smp := Nat × Nat × Bool
def celS (s : Smp) : List AV := [.cpx s.1 s.2.1, .v (.bool s.2.2)]
abbrev Cel := Int × Int × Bool × Nat × Int
def celC (c : Cel) : List AV := [.int .i64 c.1, .int .i64 c.2.1, .v (.bool c.2.2.1), .flt c.2.2.2.1, .int .u8 c.2.2.2.2]
def smpC (c : Cel) : Smp :=
  (bif c.2.2.2.2 == 1 || c.2.2.2.2 == 3 then c.2.2.2.1 else fdiv (fofInt c.1) 4661225614328463360,
   bif c.2.2.2.2 == 2 || c.2.2.2.2 == 3 then c.2.2.2.1 else fdiv (fofInt c.2.1) 4661225614328463360, c.2.2.1)
/-- the mark of the place that a round leaves -/
def smK (c : Cel) : Nat := bif c.2.2.2.2 == 3 then 71 else bif c.2.2.2.2 == 1 || c.2.2.2.2 == 2 then 65 else 59
section
variable {L n : Nat}
theorem sm0r_eq {c : Cel} {els : List (List AV)} {i : Nat} {π : List Nat} (hi : i < els.length) :
    sm0r L n c.1 c.2.1 c.2.2.2.2 c.2.2.1 c.2.2.2.1 els i π = (.nrm, ⟨[(0, .lst 5 els), (3, .slc ⟨0,76,0⟩ ([smK c, i] ++ π) 2 0 1 false), (4, .int .i64 (IntKind.wrap .i64 ((i : Int) + 1)))], [(⟨0,76,0⟩, ⟨[smK c, i] ++ π, [celS (smpC c)], 2, true⟩)], 0⟩) := by
  unfold sm0r
  rw [if_pos (dLt hi)]
  unfold celS smpC smK
  by_cases h1 : c.2.2.2.2 = 1
  · simp [h1]
  by_cases h2 : c.2.2.2.2 = 2
  · simp [h2]
  by_cases h3 : c.2.2.2.2 = 3
  · simp [h3]
  have e1 : (c.2.2.2.2 == 1) = false := by simpa using h1
  have e2 : (c.2.2.2.2 == 2) = false := by simpa using h2
  have e3 : (c.2.2.2.2 == 3) = false := by simpa using h3
  simp [e1, e2, e3, h1, h2, h3]
theorem sm1r_eq {c : Cel} {els out : List (List AV)} {i o : Nat} {st π : List Nat} (hi : i < els.length) :
    sm1r L n c.1 c.2.1 c.2.2.2.2 c.2.2.1 c.2.2.2.1 els i π st o out = (.nrm, ⟨[(0, .lst 5 els), (3, .slc ⟨0,76,0⟩ ([smK c, i] ++ π) 2 0 (o + 1) false), (4, .int .i64 (IntKind.wrap .i64 ((i : Int) + 1)))], [(⟨0,76,0⟩, ⟨[smK c, i] ++ π, out ++ [celS (smpC c)], 2, true⟩)], 0⟩) := by
  unfold sm1r
  rw [if_pos (dLt hi)]
  unfold celS smpC smK
  by_cases h1 : c.2.2.2.2 = 1
  · simp [h1]
  by_cases h2 : c.2.2.2.2 = 2
  · simp [h2]
  by_cases h3 : c.2.2.2.2 = 3
  · simp [h3]
  have e1 : (c.2.2.2.2 == 1) = false := by simpa using h1
  have e2 : (c.2.2.2.2 == 2) = false := by simpa using h2
  have e3 : (c.2.2.2.2 == 3) = false := by simpa using h3
  simp [e1, e2, e3, h1, h2, h3]
def smA (cs : List Cel) : Nat → St
  | 0 => smSt0 (cs.map celC) 0
  | i + 1 => smSt1 (cs.map celC) [((cs[i]?).map smK).getD 0, i, 3] (i + 1) (((cs.map smpC).take (i + 1)).map celS) (i + 1)
theorem smA_zero {cs : List Cel} : smA cs 0 = smSt0 (cs.map celC) 0 := rfl
theorem smA_succ {cs : List Cel} {i : Nat} : smA cs (i + 1) = smSt1 (cs.map celC) [((cs[i]?).map smK).getD 0, i, 3] (i + 1) (((cs.map smpC).take (i + 1)).map celS) (i + 1) := rfl
theorem sm_round {cs : List Cel} {i : Nat} (hm : cs.length ≤ 4000000000000) (hi : i < cs.length) :
    rnd 0 [0, 3, 4] (bodyOf ⟨fnOf, specS, L⟩ (runF ⟨fnOf, specS, L⟩ n) 0 m15b0 (i :: [3]) (smA cs i)) = some (.nrm, smA cs (i + 1)) := by
  have hw := wrapUp hi (by omega)
  have hi' : i < (cs.map celC).length := by rw [List.length_map]; exact hi
  have hs : i < (cs.map smpC).length := by rw [List.length_map]; exact hi
  have he := el_at (P := ⟨fnOf, specS, L⟩) (C := runF ⟨fnOf, specS, L⟩ n) (map_at (f := celC) hi)
  have hg : (cs.map smpC)[i] = smpC cs[i] := List.getElem_map ..
  have hk : ((cs[i]?).map smK).getD 0 = smK cs[i] := by rw [List.getElem?_eq_getElem hi]; rfl
  cases i with
  | zero =>
    have := @sm0r_ok L n cs[0].1 cs[0].2.1 cs[0].2.2.2.2 cs[0].2.2.1 cs[0].2.2.2.1 (cs.map celC) 0 [3] (fun _ => he)
    rw [sm0r_eq hi', hw] at this
    rw [smA_zero, smA_succ, mapTake_up hs, hg, hk]
    exact this
  | succ i =>
    have := @sm1r_ok L n cs[i+1].1 cs[i+1].2.1 cs[i+1].2.2.2.2 cs[i+1].2.2.1 cs[i+1].2.2.2.1 (cs.map celC) (i+1) [3] [((cs[i]?).map smK).getD 0, i, 3] (i + 1) (((cs.map smpC).take (i + 1)).map celS) (fun _ => he)
      (fun _ => ⟨by rw [mapTake_len (by omega)], by simp only [roomOk, most]; omega⟩)
    rw [sm1r_eq hi', hw] at this
    rw [smA_succ, smA_succ, mapTake_up (i := i + 1) hs, hg, hk]
    exact this
theorem sm15 {cs : List Cel} (hm : cs.length ≤ 4000000000000) (hL : cs.length ≤ L) (h0 : 0 < cs.length) : den ⟨fnOf, specS, L+1⟩ (n+1) 15 [.lst 5 (cs.map celC)] = some (.own 2 ((cs.map smpC).map celS) true) := by
  obtain ⟨m, hx⟩ : ∃ m, cs.length = m + 1 := ⟨cs.length - 1, by omega⟩
  have hl : ((cs.map smpC).map celS).length = m + 1 := by rw [List.length_map, List.length_map, hx]
  have hc : (cs.map celC).length = m + 1 := by rw [List.length_map, hx]
  have hfin : rnd 0 [0, 3, 4] (bodyOf ⟨fnOf, specS, L+1⟩ (runF ⟨fnOf, specS, L+1⟩ n) 0 m15b0 (cs.length :: [3]) (smA cs cs.length)) = some (.exit 0, smEx1 (cs.map celC) [((cs[m]?).map smK).getD 0, m, 3] ((cs.map smpC).map celS).length ((cs.map smpC).map celS)) := by
    have := @sm1r_9 (L+1) n 0 0 0 false 0 (cs.map celC) (m + 1) [3] [((cs[m]?).map smK).getD 0, m, 3] (m + 1) ((cs.map smpC).map celS) (by rw [hc]; exact dNlt)
    rw [hx, smA_succ, List.take_of_length_le (by rw [List.length_map, hx]; exact Nat.le_refl _), hl, this]
    unfold smEx1
    rw [hc]
    rfl
  have := @sm15n_0 (L+1) n (cs.map celC) ((cs.map smpC).map celS) [((cs[m]?).map smK).getD 0, m, 3] (loop0 (smA cs) cs.length rfl hL (fun i hi => sm_round hm hi) hfin (by simp)) leSelf
  rw [this, List.take_of_length_le (Nat.le_refl _)]
theorem sm15nil : den ⟨fnOf, specS, L+1⟩ (n+1) 15 [.lst 5 []] = some .nils :=
  @sm15e_0 (L+1) n [] (loop0 (smA []) 0 rfl (Nat.zero_le _) (fun i hi => absurd hi (by omega)) (@sm0r_9 (L+1) n 0 0 0 false 0 [] 0 [3] dNlt) (by simp))
end
end Go.Proofs.Ytnccnmeecngopaa.Fw
