/- PulseShapes: the points turned round by round; one round of the law; the law's run. -/
import Derived.Test.YtaklelfdcbgebaaLwSpK
set_option maxRecDepth 100000
set_option maxHeartbeats 4000000
set_option linter.unusedSimpArgs false
set_option linter.unusedVariables false
set_option exponentiation.threshold 4000
namespace Go.Proofs.Ytaklelfdcbgebaa.Fw
open Go Go.RowKit
/-- the nearest float is a number -/
theorem nearest_num (s : Bool) (m : Nat) (p : Int) : isNaN (Ieee.double.nearest s m p) = false := by
  have hi : Ieee.double.infRung = 2047 * 2 ^ 52 := by decide
  have hs : Ieee.double.signWeight = 2 ^ 63 := by decide
  have key : ∀ r : Nat, r ≤ 2047 * 2 ^ 52 → isNaN (Ieee.double.word s r) = false := by
    intro r hr
    have e : Ieee.double.word s r % 2 ^ 63 = r := by
      unfold Ieee.Format.word
      rw [hs]
      split <;> omega
    unfold isNaN Ieee.Format.read
    simp only [hs, hi]
    rw [e]
    split
    · rfl
    · split
      · rfl
      · split
        · rfl
        · omega
  unfold Ieee.Format.nearest
  split
  · exact key 0 (Nat.zero_le _)
  · simp only
    refine key _ ?_
    rw [hi]
    exact Nat.min_le_right _ _
theorem fofInt_num (n : Int) : isNaN (fofInt n) = false := by
  unfold fofInt
  rw [isNaN_canon]
  exact nearest_num _ _ _
theorem div64_num {a : Nat} (h : isNaN a = false) : isNaN (fdiv a 4634204016564240384) = false := by
  have hb : Ieee.double.read 4634204016564240384 = .number false (2 ^ 52) (-46) := by decide
  unfold fdiv Ieee.Format.div
  rw [hb]
  unfold isNaN at h
  cases hr : Ieee.double.read a with
  | nan s t => rw [hr] at h; cases h
  | infinity s =>
    simp only [Ieee.Datum.quotient, Option.map_some, cOpt]
    rw [isNaN_canon]
    cases s <;> decide
  | number s m i =>
    have hne : (2 ^ 52 : Nat) ≠ 0 := by decide
    simp only [Ieee.Datum.quotient, if_neg hne, Option.map_some, cOpt]
    rw [isNaN_canon]
    exact nearest_num _ _ _
theorem num_self {a : Nat} (h : isNaN a = false) : feq a a = true := by rw [feq_rk, h]; simp
/-- in mended from the front: what turns -/
def turnC (z : Nat × Nat) : Nat × Nat := (fneg z.2, z.1)
def trW (ws : List (Nat × Nat)) : Nat → List (Nat × Nat)
  | 0 => ws
  | i + 1 => (trW ws i).set i (turnC ((trW ws i).getD i (0, 0)))
def ovC (us : List (Nat × Nat)) : Nat → List (Nat × Nat)
  | 0 => us
  | i + 1 => (ovC us i).set i (4636666922610458624, 0)
theorem ovC_len {us : List (Nat × Nat)} : ∀ {i : Nat}, (ovC us i).length = us.length
  | 0 => rfl
  | i + 1 => by rw [ovC, List.length_set, ovC_len]
theorem trW_len {ws : List (Nat × Nat)} : ∀ {i : Nat}, (trW ws i).length = ws.length
  | 0 => rfl
  | i + 1 => by rw [trW, List.length_set, trW_len]
theorem getD_set {zs : List (Nat × Nat)} {i m : Nat} {z d : Nat × Nat} (h : i < zs.length) : (zs.set i z).getD m d = if i = m then z else zs.getD m d := by
  rw [List.getD_eq_getElem?_getD, List.getElem?_set]
  split
  · rename_i e; subst e; rfl
  · rw [← List.getD_eq_getElem?_getD]
theorem trW_at {ws : List (Nat × Nat)} {m : Nat} : ∀ {i : Nat}, i ≤ ws.length → (trW ws i).getD m (0, 0) = if m < i then turnC (ws.getD m (0, 0)) else ws.getD m (0, 0)
  | 0, _ => by rw [if_neg (Nat.not_lt_zero _)]; rfl
  | i + 1, h => by
    rw [trW, getD_set (by rw [trW_len]; omega), trW_at (m := i) (by omega), trW_at (m := m) (by omega), if_neg (Nat.lt_irrefl i)]
    by_cases e : i = m
    · subst e; rw [if_pos rfl, if_pos (by omega)]
    · rw [if_neg e]
      by_cases c : m < i
      · rw [if_pos c, if_pos (by omega)]
      · rw [if_neg c, if_neg (by omega)]
/-- the two numbers behind the points stand -/
def okW (ln : Nat) (ws : List (Nat × Nat)) : Prop := ws.length = ln + 2 ∧ ws.getD ln (0, 0) = (4635118810238550016, 0) ∧ ws.getD (ln + 1) (0, 0) = (0, 4635189178982727680)
def numW (ln : Nat) (ws : List (Nat × Nat)) : Prop := ∀ i, i < ln → isNaN (ws.getD i (0, 0)).1 = false ∧ isNaN (ws.getD i (0, 0)).2 = false
theorem okW_turn {ln : Nat} {ws : List (Nat × Nat)} (h : okW ln ws) : okW ln (trW ws ln) := by
  obtain ⟨h1, h2, h3⟩ := h
  refine ⟨by rw [trW_len, h1], ?_, ?_⟩
  · rw [trW_at (by omega), if_neg (Nat.lt_irrefl _), h2]
  · rw [trW_at (by omega), if_neg (by omega), h3]
theorem okW_set {ln i : Nat} {ws : List (Nat × Nat)} {z : Nat × Nat} (h : okW ln ws) (hi : i < ln) : okW ln (ws.set i z) := by
  obtain ⟨h1, h2, h3⟩ := h
  refine ⟨by rw [List.length_set, h1], ?_, ?_⟩
  · rw [getD_set (by omega), if_neg (by omega), h2]
  · rw [getD_set (by omega), if_neg (by omega), h3]
theorem numW_turn {ln : Nat} {ws : List (Nat × Nat)} (h : okW ln ws) (hn : numW ln ws) : numW ln (trW ws ln) := by
  intro i hi
  obtain ⟨h1, _, _⟩ := h
  rw [trW_at (by omega), if_pos hi]
  obtain ⟨a, b⟩ := hn i hi
  exact ⟨by show isNaN (fneg _) = false; rw [(fneg_rk _).1, b], a⟩
theorem cutT {zs : List (Nat × Nat)} {m : Nat} : cutX (zs.map celC) 0 m = (zs.take m).map celC := by
  show List.take _ _ = _
  rw [List.map_take]
theorem sl_slc0 {P : Prog} {C : Caller} {z b off len : Nat} {s : Site} {st : List Nat} {full : Bool} (h2 : b ≤ len) : Con.holds P C (.sl (some z) (.slc s st z off len full) none (some (.int .i64 b)) none (.slc s st z off b (full && decide (b = len)))) := by
  show sliceSem _ _ _ _ _ = _
  simp only [sliceSem, bnd]
  simp [h2]
section
variable {L n : Nat} {C : Caller} {rate fore att at1 r f : Int} {xs ps : List Int} {odd re im la ln j : Nat} {ms : List Nat} {zl ws : List (Nat × Nat)} {π : List Nat}
theorem spec_h1 (r f : Int) (ts : List Nat) (zs : List (Nat × Nat)) : Con.holds ⟨fnOf, specH, L⟩ C (.spec 18 (shpArg r f ts zs) (shpA (shpW r f ts zs).1 (shpW r f ts zs).2.2)) :=
  spec_is (P := ⟨fnOf, specH, L⟩) (C := C) (f := 18) (g := shpSem false) rfl (shpSem_at false r f ts zs)
theorem spec_h2 (r f : Int) (ts : List Nat) (zs : List (Nat × Nat)) : Con.holds ⟨fnOf, specH, L⟩ C (.spec 19 (shpArg r f ts zs) (shpA (shpW r f ts zs).2.1 (shpW r f ts zs).2.2)) :=
  spec_is (P := ⟨fnOf, specH, L⟩) (C := C) (f := 19) (g := shpSem true) rfl (shpSem_at true r f ts zs)
/-- the answer is overwritten -/
theorem over_loop {ns us vs cs : List (Nat × Nat)} {nn nv nc : Nat} (hu : us.length ≤ 65536) (hL : 65536 ≤ L) :
    Con.holds ⟨fnOf, specH, L+1⟩ (runF ⟨fnOf, specH, L+1⟩ n) (.loop 0 [2, 3, 4, 11, 12, 13, 14, 15, 16, 17, 19, 21, 23] m4b1 ([57, j] ++ π) (plA re im at1 r f ms zl ws la ln j ns us vs cs nn us.length nv nc π 0) (.exit 2) (plA re im at1 r f ms zl ws la ln j ns (ovC us us.length) vs cs nn us.length nv nc π us.length)) := by
  refine loop0 (fun i => plA re im at1 r f ms zl ws la ln j ns (ovC us i) vs cs nn us.length nv nc π i) us.length rfl (by omega) (fun i hi => ?_) ?_ (by simp)
  · have hw := wrapUp hi (by omega)
    have ha : Con.holds ⟨fnOf, specH, L+1⟩ (runF ⟨fnOf, specH, L+1⟩ n) (.at ((ovC us i).map celC) (0 + i) [.cpx ((ovC us i).getD i (0, 0)).1 ((ovC us i).getD i (0, 0)).2]) := by
      rw [Nat.zero_add]; exact atD_map (f := celC) (by rw [ovC_len]; exact hi)
    have := @ka_0 (L+1) n 0 0 0 at1 [] [] 0 re im r f ms zl ws la ln j ns (ovC us i) vs cs [] nn us.length nv nc i 0 π ([57, j] ++ π) i ((ovC us i).getD i (0, 0)) (dLt hi) (ix_at hi) ha
    rw [hw, Nat.zero_add] at this
    rw [this]
    unfold plA
    rw [ovC, List.map_set]
    rfl
  · exact @ka_1 (L+1) n 0 0 0 at1 [] [] 0 re im r f ms zl ws la ln j ns (ovC us us.length) vs cs [] nn us.length nv nc us.length 0 π ([57, j] ++ π) dNlt
/-- the points are turned -/
theorem turn_loop {τ : List Nat} (hw : ln ≤ ws.length) (hm : ln ≤ 140737488355328) (hL : ln ≤ L) :
    Con.holds ⟨fnOf, specH, L+1⟩ (runF ⟨fnOf, specH, L+1⟩ n) (.loop 0 [2, 3, 4, 11, 12, 13, 14, 15, 24] m4b0 τ (plB re im at1 r f ms zl ws la ln j 0) (.exit 4) (plB re im at1 r f ms zl (trW ws ln) la ln j ln)) := by
  refine loop0 (fun i => plB re im at1 r f ms zl (trW ws i) la ln j i) ln rfl (by omega) (fun i hi => ?_) ?_ (by simp)
  · have hw1 := wrapUp hi (by omega)
    have ha : Con.holds ⟨fnOf, specH, L+1⟩ (runF ⟨fnOf, specH, L+1⟩ n) (.at ((trW ws i).map celC) (0 + i) [.cpx ((trW ws i).getD i (0, 0)).1 ((trW ws i).getD i (0, 0)).2]) := by
      rw [Nat.zero_add]; exact atD_map (f := celC) (by rw [trW_len]; omega)
    have := @kb_0 (L+1) n 0 0 0 at1 [] [] 0 re im r f ms zl (trW ws i) la ln j [] [] [] [] [] 0 0 0 0 i 0 [] τ i ((trW ws i).getD i (0, 0)) i ((trW ws i).getD i (0, 0)) i ((trW ws i).getD i (0, 0)) (dLt hi) (ix_at hi) ha (ix_at hi) ha (ix_at hi) ha
    rw [hw1, Nat.zero_add] at this
    rw [this]
    unfold plB
    rw [trW, List.map_set]
    rfl
  · exact @kb_1 (L+1) n 0 0 0 at1 [] [] 0 re im r f ms zl (trW ws ln) la ln j [] [] [] [] [] 0 0 0 0 ln 0 [] τ dNlt
/-- one round -/
theorem one_round (hj : j < 3) (hk : okW ln ws) (hn : j < 2 → numW ln ws) (hz : zl.length = ln) (hla : la = ln + 2) (hm : ln ≤ 8796093022207) (hL : ln + 65536 ≤ L) :
    ∃ wz, rnd 0 [2, 3, 4, 11, 12, 13, 14, 15] (bodyOf ⟨fnOf, specH, L+1⟩ (runF ⟨fnOf, specH, L+1⟩ (n+1)) 0 m4b2 (j :: π) (plR re im at1 r f ms zl ws la ln j)) = some (.nrm, plR re im at1 r f ms zl wz la ln (j + 1)) ∧ okW ln wz ∧ (j + 1 < 2 → numW ln wz) := by
  obtain ⟨k1, k2, k3⟩ := hk
  have htl : (ws.take ln).length = ln := by rw [List.length_take, k1]; omega
  have hg : ∀ i, i < ln → (ws.take ln).getD i (0, 0) = ws.getD i (0, 0) := fun i hi => by
    rw [List.getD_eq_getElem?_getD, List.getElem?_take_of_lt hi, ← List.getD_eq_getElem?_getD]
  obtain ⟨_, _, hs, hb⟩ := shpW_is r f ms (ws.take ln)
  have p1 := @spec_h1 (L+1) (runF ⟨fnOf, specH, L+1⟩ (n+1)) r f ms (ws.take ln)
  have p2 := @spec_h2 (L+1) (runF ⟨fnOf, specH, L+1⟩ (n+1)) r f ms (ws.take ln)
  generalize (shpW r f ms (ws.take ln)).1 = us at *
  generalize (shpW r f ms (ws.take ln)).2.1 = cs at *
  generalize (shpW r f ms (ws.take ln)).2.2 = e at *
  have cN : cutX ((ws.take ln).map celC) 0 (List.length ((ws.take ln).map celC)) = (ws.take ln).map celC := cutAll
  have cU : cutX (us.map celC) 0 (List.length (us.map celC)) = us.map celC := cutAll
  have cC : cutX (cs.map celC) 0 (List.length (cs.map celC)) = cs.map celC := cutAll
  have cM : cutX (ms.map celF) 0 (List.length (ms.map celF)) = ms.map celF := cutAll
  have cW : cutX (ws.map celC) 0 ln = (ws.take ln).map celC := cutT
  have hcat : Con.holds ⟨fnOf, specH, L+1⟩ (runF ⟨fnOf, specH, L+1⟩ (n+1)) (.cat 1 16 true ((ws.take ln).map celC)) := catC_ok (by rw [htl]; simp only [most]; omega)
  have q1 := call_den (@points_same specH L n us cs hs.1 (by omega) (by omega) hs.2)
  have h77 : Con.holds ⟨fnOf, specH, L+1⟩ (runF ⟨fnOf, specH, L+1⟩ (n+1)) (.at (ws.map celC) (0 + ln) [.cpx 4635118810238550016 0]) := by
    have := atD_map (P := ⟨fnOf, specH, L+1⟩) (C := runF ⟨fnOf, specH, L+1⟩ (n+1)) (f := celC) (d := (0, 0)) (xs := ws) (i := ln) (by omega)
    rw [k2] at this
    rw [Nat.zero_add]; exact this
  have h78 : Con.holds ⟨fnOf, specH, L+1⟩ (runF ⟨fnOf, specH, L+1⟩ (n+1)) (.at (ws.map celC) (0 + (ln + 1)) [.cpx 0 4635189178982727680]) := by
    have := atD_map (P := ⟨fnOf, specH, L+1⟩) (C := runF ⟨fnOf, specH, L+1⟩ (n+1)) (f := celC) (d := (0, 0)) (xs := ws) (i := ln + 1) (by omega)
    rw [k3] at this
    rw [Nat.zero_add]; exact this
  have hzl : (zl.map celC).length = ln := by rw [map_len, hz]
  have ix1 : Con.holds ⟨fnOf, specH, L+1⟩ (runF ⟨fnOf, specH, L+1⟩ (n+1)) (.ix (.int .i64 (((zl.map celC).length : Nat) : Int)) la ln) := by rw [hzl]; exact ix_at (by omega)
  have ix2 : Con.holds ⟨fnOf, specH, L+1⟩ (runF ⟨fnOf, specH, L+1⟩ (n+1)) (.ix (.int .i64 (IntKind.wrap .i64 ((((zl.map celC).length : Nat) : Int) + 1))) la (ln + 1)) := by
    rw [hzl, wrap_id (by omega)]; exact ix_at (i := ln + 1) (by omega)
  have o1 := @over_loop L (n+1) at1 r f re im la ln j ms zl ws π (ws.take ln) us us cs ((ws.take ln).map celC).length (List.length (us.map celC)) (List.length (cs.map celC)) hb (by omega)
  have hul : (us.map celC).length = us.length := map_len
  have t1 := @turn_loop L (n+1) at1 r f re im la ln j ms zl ws ([73, j] ++ π) (by omega) (by omega) (by omega)
  have no0 : (!true) = false := rfl
  have hlw : Con.holds ⟨fnOf, specH, L+1⟩ (runF ⟨fnOf, specH, L+1⟩ (n+1)) (.le (0 + ln) (List.length (ws.map celC))) := by show _ ≤ _; rw [map_len]; omega
  have hj3 : decide ((j : Int) < 3) = true := dT (by omega)
  have hwj : IntKind.wrap .i64 ((j : Int) + 1) = ((j + 1 : Nat) : Int) := wrapUp hj (by omega)
  have okT := okW_turn ⟨k1, k2, k3⟩
  by_cases c2 : j < 2
  · have hn := hn c2
    have q2 := call_den (@points_same specH L n (ws.take ln) (ws.take ln) rfl (by omega) (by omega) fun i hi => by
      rw [htl] at hi
      rw [hg i hi]
      exact ⟨num_self (hn i hi).1, num_self (hn i hi).2⟩)
    have numT := numW_turn ⟨k1, k2, k3⟩ hn
    by_cases c1 : j = 1
    · by_cases ca : at1 ≥ 0
      · by_cases cb : at1 < (ln : Int)
        · obtain ⟨i, rfl⟩ : ∃ i : Nat, at1 = (i : Int) := ⟨at1.toNat, by omega⟩
          have hi : i < ln := by omega
          have ha : Con.holds ⟨fnOf, specH, L+1⟩ (runF ⟨fnOf, specH, L+1⟩ (n+1)) (.at ((trW ws ln).map celC) (0 + i) [.cpx ((trW ws ln).getD i (0, 0)).1 ((trW ws ln).getD i (0, 0)).2]) := by
            rw [Nat.zero_add]; exact atD_map (f := celC) (by rw [trW_len]; omega)
          have := @kr_6 (L+1) (n+1) 0 0 0 (i : Int) [] [] 0 re im r f ms zl ws la ln j (ws.take ln) (ovC us us.length) us cs (trW ws ln) ((ws.take ln).map celC).length us.length (List.length (us.map celC)) (List.length (cs.map celC)) us.length ln π [] us e us e cs e true ln (4635118810238550016, 0) (ln + 1) (0, 4635189178982727680) true true i ((trW ws ln).getD i (0, 0))
            hj3 (by rw [cW]; exact hcat) hlw (by rw [cW, cM]; exact p1) leOut (by rw [cW, cM]; exact p1) (by rw [cW, cN, cM]; exact p2) leOut (by rw [cU, cC]; exact q1) leOut leOut no0 bneSame ix1 h77 rfl ix2 h78 rfl (by rw [cW, hul]; rw [hul] at o1; exact o1) (by rw [cU, cC]; exact q1) leOut leOut no0 (dT (by omega)) (by rw [cW, cN]; exact q2) leOut no0 t1 (by rw [c1]; rfl) (dT (by omega)) (dT (by omega)) (ix_at hi) ha
          rw [hwj, Nat.zero_add] at this
          refine ⟨(trW ws ln).set i (re, im), ?_, okW_set okT hi, fun h => by omega⟩
          rw [seeZ_go this]
          unfold plR
          rw [List.map_set]
          rfl
        · have := @kr_7 (L+1) (n+1) 0 0 0 at1 [] [] 0 re im r f ms zl ws la ln j (ws.take ln) (ovC us us.length) us cs (trW ws ln) ((ws.take ln).map celC).length us.length (List.length (us.map celC)) (List.length (cs.map celC)) us.length ln π [] us e us e cs e true ln (4635118810238550016, 0) (ln + 1) (0, 4635189178982727680) true true
            hj3 (by rw [cW]; exact hcat) hlw (by rw [cW, cM]; exact p1) leOut (by rw [cW, cM]; exact p1) (by rw [cW, cN, cM]; exact p2) leOut (by rw [cU, cC]; exact q1) leOut leOut no0 bneSame ix1 h77 rfl ix2 h78 rfl (by rw [cW, hul]; rw [hul] at o1; exact o1) (by rw [cU, cC]; exact q1) leOut leOut no0 (dT (by omega)) (by rw [cW, cN]; exact q2) leOut no0 t1 (by rw [c1]; rfl) (dT (by omega)) (dF cb)
          rw [hwj] at this
          exact ⟨_, seeZ_go this, okT, fun h => numT⟩
      · have := @kr_8 (L+1) (n+1) 0 0 0 at1 [] [] 0 re im r f ms zl ws la ln j (ws.take ln) (ovC us us.length) us cs (trW ws ln) ((ws.take ln).map celC).length us.length (List.length (us.map celC)) (List.length (cs.map celC)) us.length ln π [] us e us e cs e true ln (4635118810238550016, 0) (ln + 1) (0, 4635189178982727680) true true
          hj3 (by rw [cW]; exact hcat) hlw (by rw [cW, cM]; exact p1) leOut (by rw [cW, cM]; exact p1) (by rw [cW, cN, cM]; exact p2) leOut (by rw [cU, cC]; exact q1) leOut leOut no0 bneSame ix1 h77 rfl ix2 h78 rfl (by rw [cW, hul]; rw [hul] at o1; exact o1) (by rw [cU, cC]; exact q1) leOut leOut no0 (dT (by omega)) (by rw [cW, cN]; exact q2) leOut no0 t1 (by rw [c1]; rfl) (dF ca)
        rw [hwj] at this
        exact ⟨_, seeZ_go this, okT, fun h => numT⟩
    · have := @kr_9 (L+1) (n+1) 0 0 0 at1 [] [] 0 re im r f ms zl ws la ln j (ws.take ln) (ovC us us.length) us cs (trW ws ln) ((ws.take ln).map celC).length us.length (List.length (us.map celC)) (List.length (cs.map celC)) us.length ln π [] us e us e cs e true ln (4635118810238550016, 0) (ln + 1) (0, 4635189178982727680) true true
        hj3 (by rw [cW]; exact hcat) hlw (by rw [cW, cM]; exact p1) leOut (by rw [cW, cM]; exact p1) (by rw [cW, cN, cM]; exact p2) leOut (by rw [cU, cC]; exact q1) leOut leOut no0 bneSame ix1 h77 rfl ix2 h78 rfl (by rw [cW, hul]; rw [hul] at o1; exact o1) (by rw [cU, cC]; exact q1) leOut leOut no0 (dT (by omega)) (by rw [cW, cN]; exact q2) leOut no0 t1 (by simp; omega)
      rw [hwj] at this
      exact ⟨_, seeZ_go this, okT, fun h => numT⟩
  · have := @kr_13 (L+1) (n+1) 0 0 0 at1 [] [] 0 re im r f ms zl ws la ln j (ws.take ln) (ovC us us.length) us cs (trW ws ln) ((ws.take ln).map celC).length us.length (List.length (us.map celC)) (List.length (cs.map celC)) us.length ln π [] us e us e cs e true ln (4635118810238550016, 0) (ln + 1) (0, 4635189178982727680) true
      hj3 (by rw [cW]; exact hcat) hlw (by rw [cW, cM]; exact p1) leOut (by rw [cW, cM]; exact p1) (by rw [cW, cN, cM]; exact p2) leOut (by rw [cU, cC]; exact q1) leOut leOut no0 bneSame ix1 h77 rfl ix2 h78 rfl (by rw [cW, hul]; rw [hul] at o1; exact o1) (by rw [cU, cC]; exact q1) leOut leOut no0 (dF (by omega)) t1 (by simp; omega)
    rw [hwj] at this
    exact ⟨_, seeZ_go this, okT, fun h => by omega⟩
end
end Go.Proofs.Ytaklelfdcbgebaa.Fw
