/- PulseNames: both answers of Shape, and the law. -/
import Derived.Test.YtaklelfdcbgebaaLwPNmB
set_option maxRecDepth 100000
set_option maxHeartbeats 4000000
set_option linter.unusedSimpArgs false
set_option linter.unusedVariables false
namespace Go.Proofs.Ytaklelfdcbgebaa.Fw
open Go Go.RowKit
theorem six_one' : six 64 4607182418800017408 := by
  refine ⟨⟨false, 2 ^ 52, -52, by kernel_rfl, by omega⟩, by kernel_rfl⟩
def fullQ (i : Nat) : Int := if i = 0 then 64 else 0
theorem fullT_six (i : Nat) (h : i < fullT.length) : six (fullQ i) (fullT.getD i 0) := by
  cases i with
  | zero => exact six_one'
  | succ k =>
    have e : fullT.getD (k + 1) 0 = 0 := by
      show (List.replicate 63 0).getD k 0 = 0
      rw [List.getD_eq_getElem?_getD, List.getElem?_replicate]; split <;> rfl
    rw [e]; exact six_zero
theorem rep_getD (m k : Nat) : (List.replicate m ((0, 0) : Nat × Nat)).getD k (0, 0) = (0, 0) := by
  rw [List.getD_eq_getElem?_getD, List.getElem?_replicate]; split <;> rfl
theorem lenF_full {m : Nat} (h : m = 8185) : lenF ((8 : Nat) : Int) 0 fullT ((List.replicate m ((0, 0) : Nat × Nat)).length : Int) = (((65536 : Nat) : Int), 0) := by
  rw [List.length_replicate, h]; kernel_rfl
theorem lenF_over {m : Nat} (h : m = 8186) : (lenF 8 0 fullT ((List.replicate m ((0, 0) : Nat × Nat)).length : Int)).2 = 1 := by
  rw [List.length_replicate, h]; kernel_rfl
theorem shape_full {m : Nat} (h : m = 8185) : ∃ out : List (Nat × Nat), den ⟨fnOf, specL, 65537⟩ 1 18 [.agg [.int .i64 8, .int .i64 0, .lst 1 (fullT.map celF)], .lst 1 ((List.replicate m (0, 0)).map celC)] = some (.tup [.own 1 (out.map celC) true, .int .i64 0]) ∧ out.length = 65536 := by
  obtain ⟨out, h1, h2⟩ := @shape_den 65536 0 8 65536 0 fullT (List.replicate m (0, 0)) (fun _ => 0) (fun _ => 0) fullQ (fun _ => by decide) (fun _ => by decide) (fun i => by unfold fullQ; split <;> decide) (Nat.le_refl _) (lenF_full h)
    (fun k _ => by rw [rep_getD]; exact ⟨by kernel_rfl, by kernel_rfl⟩) (fun k _ => by rw [rep_getD]; exact ⟨six_zero, six_zero⟩) fullT_six
  exact ⟨out, h1, h2.1⟩
theorem shape_over {m : Nat} (h : m = 8186) : den ⟨fnOf, specL, 65537⟩ 1 18 [.agg [.int .i64 8, .int .i64 0, .lst 1 (fullT.map celF)], .lst 1 ((List.replicate m (0, 0)).map celC)] = some (.tup [.nils, .int .i64 1]) := by
  have hc := spec_is (P := ⟨fnOf, specL, 65537⟩) (C := runF ⟨fnOf, specL, 65537⟩ 0) (f := 13) rfl (lenSem_at (8 : Int) 0 fullT ((List.replicate m ((0, 0) : Nat × Nat)).length : Int))
  rw [lenF_over h] at hc
  have hkz : ((List.replicate m ((0, 0) : Nat × Nat)).map celC).length = (List.replicate m ((0, 0) : Nat × Nat)).length := map_len
  exact @psh_0 65537 0 8 0 0 fullT [] [] (List.replicate m (0, 0)) [] [] 0 0 0 0 0 0 0 _ 1 (by rw [hkz]; exact hc) rfl
theorem mk_rep {P : Prog} {C : Caller} {us : List (Nat × Nat)} {m : Nat} (h : us = List.replicate m (0, 0)) (h1 : m ≤ 10000) : Con.holds P C (.mk us.length us.length true (us.map celC) (m : Int) (m : Int) 16 [.cpx 0 0]) := by
  subst h
  rw [List.length_replicate]
  exact mk_ok (f := celC) rfl (by simp only [most]; omega) (by simp only [most]; omega)
theorem pn_cons {zs us vs : List (Nat × Nat)} {a b : Nat} (ha : a = 8185) (hb : b = 8186) (hu : us = List.replicate a (0, 0)) (hv : vs = List.replicate b (0, 0)) (hz : zs.length = 65536)
    (h1 : den ⟨fnOf, specL, 65537⟩ 1 18 [.agg [.int .i64 8, .int .i64 0, .lst 1 (fullT.map celF)], .lst 1 (us.map celC)] = some (.tup [.own 1 (zs.map celC) true, .int .i64 0]))
    (h2 : den ⟨fnOf, specL, 65537⟩ 1 18 [.agg [.int .i64 8, .int .i64 0, .lst 1 (fullT.map celF)], .lst 1 (vs.map celC)] = some (.tup [.nils, .int .i64 1])) :
    Holds ⟨fnOf, specD, 300⟩ (runF ⟨fnOf, specD, 300⟩ 20) (pnC zs us vs) := by
  have hm1 : Con.holds ⟨fnOf, specD, 300⟩ (runF ⟨fnOf, specD, 300⟩ 20) (.mk us.length us.length true (us.map celC) 8185 8185 16 [.cpx 0 0]) := by
    have := mk_rep (P := ⟨fnOf, specD, 300⟩) (C := runF ⟨fnOf, specD, 300⟩ 20) hu (by omega)
    rw [ha] at this; exact this
  have hm2 : Con.holds ⟨fnOf, specD, 300⟩ (runF ⟨fnOf, specD, 300⟩ 20) (.mk vs.length vs.length true (vs.map celC) 8186 8186 16 [.cpx 0 0]) := by
    have := mk_rep (P := ⟨fnOf, specD, 300⟩) (C := runF ⟨fnOf, specD, 300⟩ 20) hv (by omega)
    rw [hb] at this; exact this
  have hs1 : Con.holds ⟨fnOf, specD, 300⟩ (runF ⟨fnOf, specD, 300⟩ 20) (.spec 18 [.agg [.int .i64 8, .int .i64 0, .lst 1 (fullT.map celF)], .lst 1 (cutX (us.map celC) 0 us.length)] (.tup [.own 1 (zs.map celC) true, .int .i64 0])) := by
    rw [cutM, List.take_length]
    exact ⟨_, rfl, h1⟩
  have hs2 : Con.holds ⟨fnOf, specD, 300⟩ (runF ⟨fnOf, specD, 300⟩ 20) (.spec 18 [.agg [.int .i64 8, .int .i64 0, .lst 1 (fullT.map celF)], .lst 1 (cutX (vs.map celC) 0 vs.length)] (.tup [.nils, .int .i64 1])) := by
    rw [cutM, List.take_length]
    exact ⟨_, rfl, h2⟩
  have hl : (((zs.map celC).length : Int) == 65536) = true := by rw [show (zs.map celC).length = zs.length from map_len, hz]; rfl
  have hl1 : 0 + us.length ≤ (us.map celC).length := by rw [show (us.map celC).length = us.length from map_len]; omega
  have hl2 : 0 + vs.length ≤ (vs.map celC).length := by rw [show (vs.map celC).length = vs.length from map_len]; omega
  unfold pnC
  simp only [Holds]
  repeat' first | exact trivial | exact hm1 | exact hm2 | exact hs1 | exact hs2 | exact hl | exact hl1 | exact hl2 | exact st_same | exact Nat.le_refl 64 | refine And.intro ?_ ?_
theorem law_names : den ⟨fnOf, specD, 300⟩ 21 7 [] = some (.v (.bool true)) := by
  obtain ⟨zs, h1, hz⟩ := shape_full (m := 8185) rfl
  have h2 := shape_over (m := 8186) rfl
  exact denD_sound (pn_d zs (List.replicate 8185 (0, 0)) (List.replicate 8186 (0, 0))) (pn_cons rfl rfl rfl rfl hz h1 h2)
end Go.Proofs.Ytaklelfdcbgebaa.Fw
