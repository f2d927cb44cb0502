/- TrainLays: the law's run. -/
import Derived.Test.YtldkgfbgndkbdaaLwTlE
set_option maxRecDepth 100000
set_option maxHeartbeats 4000000
set_option linter.unusedSimpArgs false
set_option linter.unusedVariables false
namespace Go.Proofs.Ytldkgfbgndkbdaa.Fw
open Go Go.RowKit
theorem getD_memZ {zs : List (Nat × Nat)} {i : Nat} (h : i < zs.length) : zs.getD i (0, 0) ∈ zs := by
  rw [List.getD_eq_getElem?_getD, List.getElem?_eq_getElem h]; exact List.getElem_mem h
section
variable {σ : FuncId → Option (List AV → Option AV)} {L n : Nat}
theorem same14_den {us vs : List (Nat × Nat)} (hl : us.length = vs.length) (hL : us.length ≤ L) (hm : us.length ≤ 17592186044415)
    (h : ∀ i, i < us.length → feq (us.getD i (0, 0)).1 (vs.getD i (0, 0)).1 = true ∧ feq (us.getD i (0, 0)).2 (vs.getD i (0, 0)).2 = true) :
    den ⟨fnOf, σ, L+1⟩ (n+1) 18 [.lst 1 (us.map celC), .lst 1 (vs.map celC)] = some (.v (.bool true)) := by
  have hu : (us.map celC).length = us.length := map_len
  have hv : (vs.map celC).length = vs.length := map_len
  refine @tsa_1 σ (L+1) n us.length us vs (by rw [hu, hv, hl]; simp) ?_
  refine loopX (res := m18.res) (fun i => tsaSt us vs i) us.length rfl hL (fun i hi => ?_) ?_ (by simp)
  · have := @tsb_1 σ (L+1) n i us vs [7] (us.getD i (0, 0)) (vs.getD i (0, 0)) (by rw [hu]; exact dLt hi) (elD_map (f := celC) hi) (elD_map (f := celC) (by omega)) (by rw [(h i hi).1, (h i hi).2]; rfl)
    rw [wrap_id (n := (i : Int) + 1) (by omega)] at this
    exact this
  · exact @tsb_2 σ (L+1) n us.length us vs [7] (by rw [hu]; exact dNlt)
end
def ov7 (bs : List (Nat × Nat)) : Nat → List (Nat × Nat)
  | 0 => bs
  | i + 1 => (ov7 bs i).set i (4619567317775286272, 0)
theorem ov7_len {bs : List (Nat × Nat)} : ∀ {i : Nat}, (ov7 bs i).length = bs.length
  | 0 => rfl
  | i + 1 => by rw [ov7, List.length_set, ov7_len]
theorem law_lays {L n : Nat} {o r g : Int} (hL : 12300 ≤ L) : den ⟨fnOf, specY, L+1⟩ (n+2) 4 [.agg [.int .i64 o, .int .i64 r, .int .i64 g]] = some (.v (.bool true)) := by
  have hs := layD_self o r g
  have hlen := layD_len o r g
  have q := @same14_den specY L n (layD o r g) (layD o r g) rfl (by omega) (by omega) fun i hi => hs _ (getD_memZ hi)
  have key := fun (bs cs : List (Nat × Nat)) (nb nc i j : Nat) (st π : List Nat) => @tyl_5 (L+1) (n+1) o r g (layD o r g) bs cs nb nc i j st π true true true
  generalize layD o r g = zs at *
  have hz : (zs.map celC).length = zs.length := map_len
  have cz : cutX (zs.map celC) 0 (List.length (zs.map celC)) = zs.map celC := cutAll
  have k1 := call_den q
  have l1 : Con.holds ⟨fnOf, specY, L+1⟩ (runF ⟨fnOf, specY, L+1⟩ (n+1)) (.loop 0 [8, 10, 12, 14] m4b1 [72] (tySt zs zs [1, 33] zs.length 14 0) (.exit 0) (tySt zs (ov7 zs zs.length) [1, 33] zs.length 14 zs.length)) := by
    refine loop0 (fun i => tySt zs (ov7 zs i) [1, 33] zs.length 14 i) zs.length rfl (by omega) (fun i hi => ?_) ?_ (by simp)
    · have ha : Con.holds ⟨fnOf, specY, L+1⟩ (runF ⟨fnOf, specY, L+1⟩ (n+1)) (.at ((ov7 zs i).map celC) (0 + i) [.cpx ((ov7 zs i).getD i (0, 0)).1 ((ov7 zs i).getD i (0, 0)).2]) := by
        rw [Nat.zero_add]; exact atD_map (f := celC) (by rw [ov7_len]; exact hi)
      have := @tyb_0 (L+1) (n+1) o r g zs (ov7 zs i) [] zs.length 0 i 0 [1, 33] [72] i ((ov7 zs i).getD i (0, 0)) (dLt hi) (ix_at hi) ha
      rw [wrapUp hi (by omega), Nat.zero_add] at this
      rw [this]
      unfold tySt
      rw [ov7, List.map_set]
      rfl
    · exact @tyb_1 (L+1) (n+1) o r g zs (ov7 zs zs.length) [] zs.length 0 zs.length 0 [1, 33] [72] dNlt
  have hov : (ov7 zs zs.length).length = zs.length := ov7_len
  generalize ov7 zs zs.length = bs at l1 hov
  obtain ⟨s', l2, cs, st, rfl⟩ := loopJ (P := ⟨fnOf, specY, L+1⟩) (C := runF ⟨fnOf, specY, L+1⟩ (n+1)) (L := L) (d := 0) (live := [8, 10, 12, 15]) (π := [74]) (m := m4b0) (A := tySt zs bs [1, 33] zs.length 15 0)
    (fun j s => ∃ cs st, s = tySt zs cs st (zs.length + j) 15 j ∧ cs.length = zs.length + j) (fun s => ∃ cs st, s = tySt zs cs st (zs.length + 20) 15 20) 20 (x := .exit 2) (by simp) rfl (by omega) ⟨bs, [1, 33], rfl, hov⟩
    (fun j s hj hs => by
      obtain ⟨cs, st, rfl, hc⟩ := hs
      have hp : Con.holds ⟨fnOf, specY, L+1⟩ (runF ⟨fnOf, specY, L+1⟩ (n+1)) (.push (zs.length + j) 1 16 (cs.map celC)) := push_ok (by rw [map_len, hc]) (by simp only [most]; omega)
      have := @tyc_0 (L+1) (n+1) o r g zs cs [] (zs.length + j) 0 j 0 st [74] (dT (by omega)) hp
      rw [wrapUp hj (by omega)] at this
      refine ⟨_, this, cs ++ [(4620693217682128896, 0)], [4, j, 74], ?_, by rw [List.length_append, hc]; rfl⟩
      unfold tySt
      rw [List.map_append]
      rfl)
    (fun s hs => by
      obtain ⟨cs, st, rfl, hc⟩ := hs
      exact ⟨_, @tyc_1 (L+1) (n+1) o r g zs cs [] (zs.length + 20) 0 20 0 st [74] (by rfl), cs, st, rfl⟩)
  have no0 : (!true) = false := rfl
  have := key bs cs zs.length (zs.length + 20) zs.length 20 st [] bneSame bneSame (by rw [cz]; exact k1) leOut no0 (by rw [cz]; exact k1) no0 (by rw [hz]; unfold tySt at l1; rw [hz] at l1; exact l1) (by rw [hz]; unfold tySt at l2; rw [hz] at l2; exact l2) (by rw [cz]; exact k1) rfl
  rw [this, hz, wrap_id (by omega)]
  have e : ((((zs.length + 20 : Nat) : Int)) == (zs.length : Int) + 20) = true := by simp
  rw [e]
end Go.Proofs.Ytldkgfbgndkbdaa.Fw
