/- PulseNamed: the law's own run, name by name, rate by rate. -/
import Derived.Test.YtaklelfdcbgebaaLwNdB
import Derived.Test.YtaklelfdcbgebaaLwNdC
set_option maxRecDepth 100000
set_option maxHeartbeats 4000000
set_option linter.unusedSimpArgs false
set_option linter.unusedVariables false
namespace Go.Proofs.Ytaklelfdcbgebaa.Fw
open Go Go.RowKit
theorem bl_loop (bs : ByteArray) : ∀ (k i : Nat) (r : List UInt8), bs.size - i = k → ByteArray.toList.loop bs i r = r.reverse ++ bs.data.toList.drop i := by
  intro k
  induction k with
  | zero =>
    intro i r h
    have hs : bs.size = bs.data.toList.length := (Array.length_toList (xs := bs.data)).symm
    rw [ByteArray.toList.loop, if_neg (by omega), List.drop_eq_nil_of_le (by omega), List.append_nil]
  | succ k ih =>
    intro i r h
    have hs : bs.size = bs.data.toList.length := (Array.length_toList (xs := bs.data)).symm
    rw [ByteArray.toList.loop, if_pos (by omega), ih _ _ (by omega)]
    have hi : i < bs.data.toList.length := by omega
    rw [List.drop_eq_getElem_cons hi]
    have hg : bs.get! i = bs.data.toList[i] := by
      have h2 : i < bs.data.size := by simpa using hi
      simp [ByteArray.get!]
      exact getElem!_pos bs.data i h2
    rw [hg]
    simp
theorem bl_eq (bs : ByteArray) : bs.toList = bs.data.toList := by
  unfold ByteArray.toList
  rw [bl_loop bs _ 0 [] rfl]
  rfl
theorem bs_ne {s t : ByteArray} (h : s ≠ t) : (!(s.toList == t.toList)) = true := by
  rw [bl_eq, bl_eq]
  cases hb : (s.data.toList == t.data.toList) with
  | false => rfl
  | true => exact absurd (ByteArray.ext (Array.toList_inj.1 (eq_of_beq hb))) h
theorem bs_nb {s t : ByteArray} (h : s ≠ t) : (s == t) = false := by
  cases hb : (s == t) with
  | false => rfl
  | true =>
    have hb : (s.data == t.data) = true := hb
    exact absurd (ByteArray.ext (eq_of_beq hb)) h
noncomputable abbrev PD : Prog := ⟨fnOf, specD, 300⟩
abbrev LWN : FuncId := 5
theorem nm_is {s : ByteArray} {r : Int} {x : AV} (h : namedSem [.v (.string s), .int .i64 r] = some x) : Con.holds PD (runF PD 20) (.spec 21 [.v (.string s), .int .i64 r] x) := spec_is rfl h
theorem call_is {P : Prog} {n : Nat} {f : FuncId} {a : List AV} {r : AV} (h : den P n f a = some r) : Con.holds P (runF P n) (.call f a r) := h
theorem smn_0 : Con.holds PD (runF PD 20) (.call 23 [(.agg [(.v (.int .i64 0)), (.v (.int .i64 0)), .nils]), (.agg [(.v (.int .i64 0)), (.v (.int .i64 0)), .nils])] (.v (.bool true))) := by
  have h : den PD 20 23 [(.agg [(.v (.int .i64 0)), (.v (.int .i64 0)), .nils]), (.agg [(.v (.int .i64 0)), (.v (.int .i64 0)), .nils])] = some (.v (.bool true)) := by kernel_rfl
  exact call_is h
theorem smn_1 : Con.holds PD (runF PD 20) (.call 23 [(.agg [(.v (.int .i64 0)), (.v (.int .i64 0)), (.lst 1 [])]), (.agg [(.v (.int .i64 0)), (.v (.int .i64 0)), (.lst 1 [])])] (.v (.bool true))) := by
  have h : den PD 20 23 [(.agg [(.v (.int .i64 0)), (.v (.int .i64 0)), (.lst 1 [])]), (.agg [(.v (.int .i64 0)), (.v (.int .i64 0)), (.lst 1 [])])] = some (.v (.bool true)) := by kernel_rfl
  exact call_is h
theorem smn_2 : Con.holds PD (runF PD 20) (.call 23 [(.agg [(.v (.int .i64 0)), (.v (.int .i64 0)), .nils]), (.agg [(.v (.int .i64 0)), (.v (.int .i64 0)), (.lst 1 [])])] (.v (.bool true))) := by
  have h : den PD 20 23 [(.agg [(.v (.int .i64 0)), (.v (.int .i64 0)), .nils]), (.agg [(.v (.int .i64 0)), (.v (.int .i64 0)), (.lst 1 [])])] = some (.v (.bool true)) := by kernel_rfl
  exact call_is h
theorem law_none {s : ByteArray} (r : Int) (a1 : s ≠ nSpike) (a2 : s ≠ nBox) (a3 : s ≠ nTent) (a4 : s ≠ nSoft) : den PD 21 LWN [.v (.string s), .int .i64 r] = some (.v (.bool true)) := by
  have h1 := nm_is (named_none r (bs_nb a1) (bs_nb a2) (bs_nb a3) (bs_nb a4))
  have h2 : den PD 20 22 [.v (.string s), .int .i64 r] = _ := @rNm_0 300 19 s r (bs_ne a1) (bs_ne a2) (bs_ne a3) (bs_ne a4)
  exact @lNm6_0 20 s r h1 h2 smn_0 smn_1 smn_2
theorem eqs (s : ByteArray) : (!(s.toList == s.toList)) = false := by rw [beq_self_eq_true]; rfl
theorem ref_far {s : ByteArray} {r : Int} (hs : s = nSpike ∨ s = nBox ∨ s = nTent ∨ s = nSoft) (h : r < 1 ∨ 8 < r) : den PD 20 22 [.v (.string s), .int .i64 r] = some (.tup [(.agg [(.v (.int .i64 0)), (.v (.int .i64 0)), .nils]), (.v (.int .i64 1))]) := by
  have n1 : ∀ {x y : ByteArray}, (x.data == y.data) = false → x ≠ y := fun {x y} h e => by rw [e, beq_self_eq_true] at h; cases h
  have b1 : (!(nBox.toList == nSpike.toList)) = true := bs_ne (n1 (by decide))
  have b2 : (!(nTent.toList == nSpike.toList)) = true := bs_ne (n1 (by decide))
  have b3 : (!(nTent.toList == nBox.toList)) = true := bs_ne (n1 (by decide))
  have b4 : (!(nSoft.toList == nSpike.toList)) = true := bs_ne (n1 (by decide))
  have b5 : (!(nSoft.toList == nBox.toList)) = true := bs_ne (n1 (by decide))
  have b6 : (!(nSoft.toList == nTent.toList)) = true := bs_ne (n1 (by decide))
  by_cases hl : r < 1
  · have d1 := decide_eq_true hl
    rcases hs with rfl | rfl | rfl | rfl
    · exact @rNm_136 300 19 _ r (eqs _) d1
    · exact @rNm_91 300 19 _ r b1 (eqs _) d1
    · exact @rNm_46 300 19 _ r b2 b3 (eqs _) d1
    · exact @rNm_1 300 19 _ r b4 b5 b6 (eqs _) d1
  · have d1 := decide_eq_false hl
    have d2 : decide (r > 8) = true := decide_eq_true (by omega)
    rcases hs with rfl | rfl | rfl | rfl
    · exact @rNm_137 300 19 _ r (eqs _) d1 d2
    · exact @rNm_92 300 19 _ r b1 (eqs _) d1 d2
    · exact @rNm_47 300 19 _ r b2 b3 (eqs _) d1 d2
    · exact @rNm_2 300 19 _ r b4 b5 b6 (eqs _) d1 d2
theorem law_far {s : ByteArray} {r : Int} (hs : s = nSpike ∨ s = nBox ∨ s = nTent ∨ s = nSoft) (h : r < 1 ∨ 8 < r) : den PD 21 LWN [.v (.string s), .int .i64 r] = some (.v (.bool true)) :=
  @lNm1_0 20 s r (nm_is (named_far hs h)) (ref_far hs h) smn_0 smn_1 smn_2
theorem law_Spike1 : den PD 21 LWN [.v (.string nSpike), .int .i64 1] = some (.v (.bool true)) := by kernel_rfl
theorem law_Spike2 : den PD 21 LWN [.v (.string nSpike), .int .i64 2] = some (.v (.bool true)) := by kernel_rfl
theorem law_Spike3 : den PD 21 LWN [.v (.string nSpike), .int .i64 3] = some (.v (.bool true)) := by kernel_rfl
theorem law_Spike4 : den PD 21 LWN [.v (.string nSpike), .int .i64 4] = some (.v (.bool true)) := by kernel_rfl
theorem law_Spike5 : den PD 21 LWN [.v (.string nSpike), .int .i64 5] = some (.v (.bool true)) := by kernel_rfl
theorem law_Spike6 : den PD 21 LWN [.v (.string nSpike), .int .i64 6] = some (.v (.bool true)) := by kernel_rfl
theorem law_Spike7 : den PD 21 LWN [.v (.string nSpike), .int .i64 7] = some (.v (.bool true)) := by kernel_rfl
theorem law_Spike8 : den PD 21 LWN [.v (.string nSpike), .int .i64 8] = some (.v (.bool true)) := by kernel_rfl
theorem law_Box1 : den PD 21 LWN [.v (.string nBox), .int .i64 1] = some (.v (.bool true)) := by kernel_rfl
theorem law_Box2 : den PD 21 LWN [.v (.string nBox), .int .i64 2] = some (.v (.bool true)) := by kernel_rfl
theorem law_Box3 : den PD 21 LWN [.v (.string nBox), .int .i64 3] = some (.v (.bool true)) := by kernel_rfl
theorem law_Box4 : den PD 21 LWN [.v (.string nBox), .int .i64 4] = some (.v (.bool true)) := by kernel_rfl
theorem law_Box5 : den PD 21 LWN [.v (.string nBox), .int .i64 5] = some (.v (.bool true)) := by kernel_rfl
theorem law_Box6 : den PD 21 LWN [.v (.string nBox), .int .i64 6] = some (.v (.bool true)) := by kernel_rfl
theorem law_Box7 : den PD 21 LWN [.v (.string nBox), .int .i64 7] = some (.v (.bool true)) := by kernel_rfl
theorem law_Box8 : den PD 21 LWN [.v (.string nBox), .int .i64 8] = some (.v (.bool true)) := by kernel_rfl
theorem law_Tent1 : den PD 21 LWN [.v (.string nTent), .int .i64 1] = some (.v (.bool true)) := by kernel_rfl
theorem law_Tent2 : den PD 21 LWN [.v (.string nTent), .int .i64 2] = some (.v (.bool true)) := by kernel_rfl
theorem law_Tent3 : den PD 21 LWN [.v (.string nTent), .int .i64 3] = some (.v (.bool true)) := by kernel_rfl
theorem law_Tent4 : den PD 21 LWN [.v (.string nTent), .int .i64 4] = some (.v (.bool true)) := by kernel_rfl
theorem law_Tent5 : den PD 21 LWN [.v (.string nTent), .int .i64 5] = some (.v (.bool true)) := by kernel_rfl
theorem law_Tent6 : den PD 21 LWN [.v (.string nTent), .int .i64 6] = some (.v (.bool true)) := by kernel_rfl
theorem law_Tent7 : den PD 21 LWN [.v (.string nTent), .int .i64 7] = some (.v (.bool true)) := by kernel_rfl
theorem law_Tent8 : den PD 21 LWN [.v (.string nTent), .int .i64 8] = some (.v (.bool true)) := by kernel_rfl
theorem law_Soft1 : den PD 21 LWN [.v (.string nSoft), .int .i64 1] = some (.v (.bool true)) := by kernel_rfl
theorem law_Soft2 : den PD 21 LWN [.v (.string nSoft), .int .i64 2] = some (.v (.bool true)) := by kernel_rfl
theorem law_Soft3 : den PD 21 LWN [.v (.string nSoft), .int .i64 3] = some (.v (.bool true)) := by kernel_rfl
theorem law_Soft4 : den PD 21 LWN [.v (.string nSoft), .int .i64 4] = some (.v (.bool true)) := by kernel_rfl
theorem law_Soft5 : den PD 21 LWN [.v (.string nSoft), .int .i64 5] = some (.v (.bool true)) := by kernel_rfl
theorem law_Soft6 : den PD 21 LWN [.v (.string nSoft), .int .i64 6] = some (.v (.bool true)) := by kernel_rfl
theorem law_Soft7 : den PD 21 LWN [.v (.string nSoft), .int .i64 7] = some (.v (.bool true)) := by kernel_rfl
theorem law_Soft8 : den PD 21 LWN [.v (.string nSoft), .int .i64 8] = some (.v (.bool true)) := by kernel_rfl
theorem law_named (s : ByteArray) (r : Int) : den PD 21 LWN [.v (.string s), .int .i64 r] = some (.v (.bool true)) := by
  by_cases hs : s = nSpike ∨ s = nBox ∨ s = nTent ∨ s = nSoft
  · by_cases h : r < 1 ∨ 8 < r
    · exact law_far hs h
    · have hr : r = 1 ∨ r = 2 ∨ r = 3 ∨ r = 4 ∨ r = 5 ∨ r = 6 ∨ r = 7 ∨ r = 8 := by omega
      rcases hs with rfl | rfl | rfl | rfl
      · rcases hr with rfl | rfl | rfl | rfl | rfl | rfl | rfl | rfl
        · exact law_Spike1
        · exact law_Spike2
        · exact law_Spike3
        · exact law_Spike4
        · exact law_Spike5
        · exact law_Spike6
        · exact law_Spike7
        · exact law_Spike8
      · rcases hr with rfl | rfl | rfl | rfl | rfl | rfl | rfl | rfl
        · exact law_Box1
        · exact law_Box2
        · exact law_Box3
        · exact law_Box4
        · exact law_Box5
        · exact law_Box6
        · exact law_Box7
        · exact law_Box8
      · rcases hr with rfl | rfl | rfl | rfl | rfl | rfl | rfl | rfl
        · exact law_Tent1
        · exact law_Tent2
        · exact law_Tent3
        · exact law_Tent4
        · exact law_Tent5
        · exact law_Tent6
        · exact law_Tent7
        · exact law_Tent8
      · rcases hr with rfl | rfl | rfl | rfl | rfl | rfl | rfl | rfl
        · exact law_Soft1
        · exact law_Soft2
        · exact law_Soft3
        · exact law_Soft4
        · exact law_Soft5
        · exact law_Soft6
        · exact law_Soft7
        · exact law_Soft8
  · exact law_none r (fun e => hs (.inl e)) (fun e => hs (.inr (.inl e))) (fun e => hs (.inr (.inr (.inl e)))) (fun e => hs (.inr (.inr (.inr e))))
end Go.Proofs.Ytaklelfdcbgebaa.Fw
