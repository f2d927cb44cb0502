/- train: Pair of any order, Step, Auto and the document's: what they answer; spoken for. signs. -/
import Derived.Test.YthcgeajojgecnaaLwTpA
set_option maxRecDepth 100000
set_option maxHeartbeats 4000000
set_option exponentiation.threshold 4000
set_option linter.unusedSimpArgs false
set_option linter.unusedVariables false
namespace Go.Proofs.Ythcgeajojgecnaa.Fw
open Go Go.RowKit
theorem tab_set {α : Type} {f : Nat → α} {n s : Nat} {v : α} : (tab f n).set s v = tab (fun t => if t = s then v else f t) n := by
  apply List.ext_getElem?
  intro i
  unfold tab
  rw [List.getElem?_set, List.getElem?_map, List.getElem?_map, List.length_map, List.length_range]
  by_cases h : i < n
  · rw [List.getElem?_range h]
    by_cases e : s = i
    · subst e; rw [if_pos rfl, if_pos h]; simp
    · rw [if_neg e]; simp [Ne.symm e]
  · rw [List.getElem?_eq_none (by simpa using h)]
    split
    · rename_i e; subst e; rw [if_neg h]; rfl
    · rfl
theorem tab_eq {α : Type} {f g : Nat → α} {n : Nat} (h : ∀ i, i < n → f i = g i) : tab f n = tab g n := by
  unfold tab
  exact List.map_congr_left fun i hi => h i (List.mem_range.1 hi)
theorem tab_rep {α : Type} {n : Nat} {v : α} : tab (fun _ => v) n = List.replicate n v := by
  unfold tab; rw [List.map_const', List.length_range]
/-- a row against itself, moved: the sum so far -/
def sumW (xs : List Int) (s : Nat) : Nat → Int
  | 0 => 0
  | i + 1 => IntKind.wrap .i64 (sumW xs s i + IntKind.wrap .i64 (IntKind.wrap .i64 (xs.getD i 0) * IntKind.wrap .i64 (xs.getD (i + s) 0)))
def autoF (xs : List Int) (s : Nat) : Int := sumW xs s (xs.length - s)
def autoR (xs : List Int) : List Int := if 4096 < xs.length then [] else tab (autoF xs) xs.length
def autoE (xs : List Int) : Int := if 4096 < xs.length then 1 else 0
def autoA (xs : List Int) : AV := .tup [.own 1 ((autoR xs).map celI) true, .int .i64 (autoE xs)]
/-- what stands when the first places are done -/
def autS (xs : List Int) (s : Nat) : List Int := tab (fun t => if t < s then autoF xs t else 0) xs.length
section
variable {L n : Nat}
theorem auto_inner {xs : List Int} {s : Nat} {π : List Nat} (hs : s < xs.length) (hm : xs.length ≤ 4096) (hL : 4096 ≤ L) :
    Con.holds ⟨fnOf, specAbs, L+1⟩ (runF ⟨fnOf, specAbs, L+1⟩ n) (.loop 0 [0, 4, 5, 15, 16, 21, 22, 23] m17b0 π (taqSt xs (xs.drop s) (autS xs s) xs.length s 0) (.exit 2) (taqSt xs (xs.drop s) (autS xs (s + 1)) xs.length s (xs.length - s))) := by
  have hd : ((xs.drop s).map celJ).length = xs.length - s := by rw [map_len, List.length_drop]
  have e0 : (autS xs s).set s (sumW xs s 0) = autS xs s := by
    unfold autS
    rw [tab_set]
    exact tab_eq fun i hi => by
      by_cases h : i = s
      · subst h; rw [if_pos rfl, if_neg (Nat.lt_irrefl _)]; rfl
      · rw [if_neg h]
  have e1 : (autS xs s).set s (sumW xs s (xs.length - s)) = autS xs (s + 1) := by
    unfold autS
    rw [tab_set]
    exact tab_eq fun i hi => by
      by_cases h : i = s
      · subst h; rw [if_pos rfl, if_pos (by omega)]; rfl
      · rw [if_neg h]
        by_cases h2 : i < s
        · rw [if_pos h2, if_pos (by omega)]
        · rw [if_neg h2, if_neg (by omega)]
  have ol : (autS xs s).length = xs.length := tab_len
  rw [← e1]
  have hst : taqSt xs (xs.drop s) (autS xs s) xs.length s 0 = taqSt xs (xs.drop s) ((autS xs s).set s (sumW xs s 0)) xs.length s 0 := by rw [e0]
  rw [hst]
  refine loop0 (fun i => taqSt xs (xs.drop s) ((autS xs s).set s (sumW xs s i)) xs.length s i) (xs.length - s) rfl (by omega) (fun i hi => ?_) ?_ (by simp)
  · have a1 : Con.holds ⟨fnOf, specAbs, L+1⟩ (runF ⟨fnOf, specAbs, L+1⟩ n) (.at (((autS xs s).set s (sumW xs s i)).map celI) (0 + s) [.int .i64 (sumW xs s i)]) := by
      rw [Nat.zero_add]
      have := atD_map (P := ⟨fnOf, specAbs, L+1⟩) (C := runF ⟨fnOf, specAbs, L+1⟩ n) (f := celI) (d := (0 : Int)) (xs := (autS xs s).set s (sumW xs s i)) (i := s) (by rw [List.length_set, ol]; exact hs)
      rw [getD_sets (by rw [ol]; exact hs), if_pos rfl] at this
      exact this
    have d1 : Con.holds ⟨fnOf, specAbs, L+1⟩ (runF ⟨fnOf, specAbs, L+1⟩ n) (.el ((xs.drop s).map celJ) (.int .i64 i) [.int .i8 (xs.getD (i + s) 0)]) := by
      have := elD_map (P := ⟨fnOf, specAbs, L+1⟩) (C := runF ⟨fnOf, specAbs, L+1⟩ n) (f := celJ) (d := (0 : Int)) (xs := xs.drop s) (i := i) (by rw [List.length_drop]; exact hi)
      rw [List.getD_eq_getElem?_getD, List.getElem?_drop, ← List.getD_eq_getElem?_getD, Nat.add_comm s i] at this
      exact this
    have d2 : Con.holds ⟨fnOf, specAbs, L+1⟩ (runF ⟨fnOf, specAbs, L+1⟩ n) (.el (xs.map celJ) (.int .i64 i) [.int .i8 (xs.getD i 0)]) := elD_map (f := celJ) (by omega)
    have := @taq_0 (L+1) n xs (xs.drop s) ((autS xs s).set s (sumW xs s i)) [] s i xs.length 0 0 [] π (xs.getD (i + s) 0) s (sumW xs s i) (xs.getD i 0) s (sumW xs s i) (by rw [hd]; exact dLt hi) d1 (ix_at hs) a1 d2 (ix_at hs) a1
    rw [wrapUp hi (by omega), Nat.zero_add] at this
    rw [this]
    have e : sumW xs s (i + 1) = IntKind.wrap .i64 (sumW xs s i + IntKind.wrap .i64 (IntKind.wrap .i64 (xs.getD (i + s) 0) * IntKind.wrap .i64 (xs.getD i 0))) := by rw [sumW, Int.mul_comm (IntKind.wrap .i64 (xs.getD i 0))]
    unfold taqSt
    rw [e, List.map_set, List.map_set, List.set_set]
    rfl
  · exact @taq_1 (L+1) n xs (xs.drop s) ((autS xs s).set s (sumW xs s (xs.length - s))) [] s (xs.length - s) xs.length 0 0 [] π (by rw [hd]; exact dNlt)
theorem sl_from {P : Prog} {C : Caller} {z a : Nat} {els : List (List AV)} (h1 : a ≤ els.length) : Con.holds P C (.sl (some z) (.lst z els) (some (.int .i64 a)) none none (.lst z (els.drop a))) := by
  show sliceSem _ _ _ _ _ = _
  simp only [sliceSem, bnd]
  simp [h1]
theorem auto_den (xs : List Int) (hL : 4096 ≤ L) : ∃ a, den ⟨fnOf, specAbs, L+1⟩ (n+1) 17 [.lst 1 (xs.map celJ)] = some a ∧ WkT a (autoA xs) := by
  have hl : (xs.map celJ).length = xs.length := map_len
  by_cases hb : 4096 < xs.length
  · have e : autoA xs = .tup [.own 1 (([] : List Int).map celI) true, .int .i64 1] := by unfold autoA autoR autoE; rw [if_pos hb, if_pos hb]
    rw [e]
    exact ⟨_, tau_0 (ys := []) (out := []) (oz := []) (s := 0) (i := 0) (m := 0) (o := 0) (acc := 0) (st := []) (π := []) (by rw [hl]; exact dT (by omega)), .inl ⟨_, _, rfl, rfl, .inr (.inr ⟨rfl, 1, true, rfl⟩), .inr (.inl rfl), trivial⟩⟩
  · have e : autoA xs = .tup [.own 1 ((tab (autoF xs) xs.length).map celI) true, .int .i64 0] := by unfold autoA autoR autoE; rw [if_neg hb, if_neg hb]
    rw [e]
    have eo : autS xs xs.length = tab (autoF xs) xs.length := tab_eq fun i hi => by rw [if_pos hi]
    have e0 : autS xs 0 = List.replicate xs.length 0 := by
      rw [← tab_rep]; exact tab_eq fun i hi => by rw [if_neg (Nat.not_lt_zero _)]
    have l1 : Con.holds ⟨fnOf, specAbs, L+1⟩ (runF ⟨fnOf, specAbs, L+1⟩ n) (.loop 0 [0, 4, 15, 16] m17b1 [12] (tapSt xs (autS xs 0) xs.length 0) (.exit 0) (tapSt xs (autS xs xs.length) xs.length xs.length)) := by
      refine loop0 (fun s => tapSt xs (autS xs s) xs.length s) xs.length rfl (by omega) (fun s hs => ?_) ?_ (by simp)
      · have hsl : Con.holds ⟨fnOf, specAbs, L+1⟩ (runF ⟨fnOf, specAbs, L+1⟩ n) (.sl (some 1) (.lst 1 (xs.map celJ)) (some (.int .i64 s)) none none (.lst 1 ((xs.drop s).map celJ))) := by
          rw [List.map_drop]; exact sl_from (by rw [hl]; omega)
        have := @tar_0 (L+1) n xs (xs.drop s) (autS xs s) (autS xs (s + 1)) s (xs.length - s) xs.length 0 0 [] [12] (dLt hs) hsl (auto_inner hs (by omega) hL)
        rw [wrapUp hs (by omega)] at this
        exact this
      · exact @tar_1 (L+1) n xs [] (autS xs xs.length) [] xs.length 0 xs.length 0 0 [] [12] dNlt
    rw [e0, eo] at l1
    have hmk : Con.holds ⟨fnOf, specAbs, L+1⟩ (runF ⟨fnOf, specAbs, L+1⟩ n) (.mk xs.length xs.length true ((List.replicate xs.length (Int.ofNat 0)).map celI) (((xs.map celJ).length : Nat) : Int) (((xs.map celJ).length : Nat) : Int) 8 [.int .i64 0]) := mk_ok (f := celI) (a := (0 : Int)) (by rw [hl]) (by simp only [most]; omega) (by simp only [most]; omega)
    have := @tau_1 (L+1) n xs [] (tab (autoF xs) xs.length) [] xs.length 0 xs.length 0 0 [] [] xs.length (by rw [hl]; exact dF (by omega)) hmk l1 (by show _ ≤ _; rw [show List.length _ = _ from map_len, tab_len]; exact Nat.le_refl _)
    rw [tkMap tab_len.symm] at this
    exact ⟨_, this, WkT.refl _⟩
theorem autoD_den (xs : List Int) (hL : 4096 ≤ L) : ∃ a, den ⟨fnOf, specAbs, L+1⟩ (n+1) 25 [.lst 1 (xs.map celJ)] = some a ∧ WkT a (autoA xs) := by
  have hl : (xs.map celJ).length = xs.length := map_len
  by_cases hb : 4096 < xs.length
  · have e : autoA xs = .tup [.own 1 (([] : List Int).map celI) true, .int .i64 1] := by unfold autoA autoR autoE; rw [if_pos hb, if_pos hb]
    rw [e]
    exact ⟨_, tad_0 (ys := []) (out := []) (oz := []) (s := 0) (i := 0) (m := 0) (o := 0) (acc := 0) (st := []) (π := []) (by rw [hl]; exact dT (by omega)), .inl ⟨_, _, rfl, rfl, .inr (.inr ⟨rfl, 1, true, rfl⟩), .inr (.inl rfl), trivial⟩⟩
  · have e : autoA xs = .tup [.own 1 ((tab (autoF xs) xs.length).map celI) true, .int .i64 0] := by unfold autoA autoR autoE; rw [if_neg hb, if_neg hb]
    rw [e]
    obtain ⟨s', l1, st, rfl⟩ := loopJ (P := ⟨fnOf, specAbs, L+1⟩) (C := runF ⟨fnOf, specAbs, L+1⟩ n) (L := L) (d := 0) (live := [0, 4, 5]) (π := [7]) (m := m25b1) (A := tadSt xs [] [7] 0 0)
      (fun s t => ∃ st, t = tadSt xs (tab (autoF xs) s) st s s) (fun t => ∃ st, t = tadSt xs (tab (autoF xs) xs.length) st xs.length xs.length) xs.length (x := .exit 0) (by simp) rfl (by omega) ⟨[7], rfl⟩
      (fun s t hs ht => by
        obtain ⟨st, rfl⟩ := ht
        have li : Con.holds ⟨fnOf, specAbs, L+1⟩ (runF ⟨fnOf, specAbs, L+1⟩ n) (.loop 0 [0, 4, 5, 6, 7] m25b0 ([6, s] ++ [7]) (taeSt xs (tab (autoF xs) s) st s s 0 0) (.exit 2) (taeSt xs (tab (autoF xs) s) st s s (autoF xs s) (xs.length - s))) := by
          refine loop0 (fun i => taeSt xs (tab (autoF xs) s) st s s (sumW xs s i) i) (xs.length - s) rfl (by omega) (fun i hi => ?_) ?_ (by simp)
          · have hw : IntKind.wrap .i64 ((i : Int) + (s : Int)) = ((i + s : Nat) : Int) := by rw [wrap_id (by omega), Int.natCast_add]
            have d1 : Con.holds ⟨fnOf, specAbs, L+1⟩ (runF ⟨fnOf, specAbs, L+1⟩ n) (.el (xs.map celJ) (.int .i64 i) [.int .i8 (xs.getD i 0)]) := elD_map (f := celJ) (by omega)
            have d2 : Con.holds ⟨fnOf, specAbs, L+1⟩ (runF ⟨fnOf, specAbs, L+1⟩ n) (.el (xs.map celJ) (.int .i64 (IntKind.wrap .i64 ((i : Int) + (s : Int)))) [.int .i8 (xs.getD (i + s) 0)]) := by rw [hw]; exact elD_map (f := celJ) (by omega)
            have := @tae_0 (L+1) n xs [] (tab (autoF xs) s) [] s i 0 s (sumW xs s i) st ([6, s] ++ [7]) (xs.getD i 0) (xs.getD (i + s) 0) (by rw [hw, hl]; exact dLt (by omega)) d1 d2
            rw [wrapUp hi (by omega)] at this
            exact this
          · exact @tae_1 (L+1) n xs [] (tab (autoF xs) s) [] s (xs.length - s) 0 s (autoF xs s) st ([6, s] ++ [7]) (by rw [hl, wrap_id (by omega)]; exact dF (by omega))
        have hp : Con.holds ⟨fnOf, specAbs, L+1⟩ (runF ⟨fnOf, specAbs, L+1⟩ n) (.push s 1 8 ((tab (autoF xs) s).map celI)) := push_ok (by rw [map_len, tab_len]) (by simp only [most]; omega)
        have := @taf_0 (L+1) n xs [] (tab (autoF xs) s) [] s (xs.length - s) 0 s (autoF xs s) st [7] (by rw [hl]; exact dLt hs) li hp
        rw [wrapUp hs (by omega)] at this
        refine ⟨_, this, [10, s, 7], ?_⟩
        unfold tadSt
        rw [tab_up, List.map_append]
        rfl)
      (fun t ht => by
        obtain ⟨st, rfl⟩ := ht
        exact ⟨_, @taf_1 (L+1) n xs [] (tab (autoF xs) xs.length) [] xs.length 0 0 xs.length 0 st [7] (by rw [hl]; exact dNlt), st, rfl⟩)
    have := @tad_1 (L+1) n xs [] (tab (autoF xs) xs.length) [] xs.length 0 0 xs.length 0 st [] (by rw [hl]; exact dF (by omega)) l1 (by show _ ≤ _; rw [show List.length _ = _ from map_len, tab_len]; exact Nat.le_refl _)
    rw [tkMap tab_len.symm] at this
    exact ⟨_, this, WkT.refl _⟩
end
end Go.Proofs.Ythcgeajojgecnaa.Fw
