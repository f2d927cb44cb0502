/- train: the document's Raw, where the plan, the row and the number may be. -/
import Derived.Test.YthcgeajojgecnaaLwRwF
set_option maxRecDepth 100000
set_option maxHeartbeats 4000000
set_option exponentiation.threshold 4000
set_option linter.unusedSimpArgs false
set_option linter.unusedVariables false
namespace Go.Proofs.Ythcgeajojgecnaa.Fw
open Go Go.RowKit
section
variable {L n : Nat} {ss : List ((Nat × Nat) × Bool)} {k R G a M : Nat}
theorem rawD_run (hm : ∀ i, i < ss.length → mayF (ss.getD i ((0, 0), false)) = true) (hl : ss.length ≤ 65536) (hk1 : 1 ≤ k) (hk : k ≤ 8) (hR : 1 ≤ R) (hR8 : R ≤ 8) (hG : G ≤ 4096) (hM1 : 1 ≤ M) (hM : M ≤ 64) (hc : (chkW ss).2 = 0) (hL : 4096 ≤ L) :
    ((∀ j, j < M → okT ss k R G (min a 65536) j = true) → ∃ out, den ⟨fnOf, specZ, L+1⟩ (n+2) 35 [.agg [.int .i64 k, .int .i64 R, .int .i64 G], .lst 2 (ss.map celS), .int .i64 a, .int .i64 M] = some (.tup [.own 1 (out.map celC) true, .int .i64 0]) ∧ out.length = M ∧ rawL (totR ss k R G (min a 65536)) (totI ss k R G (min a 65536)) k out) ∧
    (∀ b, b < M → (∀ j, j < b → okT ss k R G (min a 65536) j = true) → okT ss k R G (min a 65536) b = false → den ⟨fnOf, specZ, L+1⟩ (n+2) 35 [.agg [.int .i64 k, .int .i64 R, .int .i64 G], .lst 2 (ss.map celS), .int .i64 a, .int .i64 M] = some (.tup [.nils, .int .i64 9])) := by
  have sl : (ss.map celS).length = ss.length := map_len
  obtain ⟨l1, l2⟩ := prs_len k
  obtain ⟨s1, s2⟩ := sgn_one k
  have hp2 : 2 ^ k ≤ 256 := Nat.le_trans (Nat.pow_le_pow_right (by decide) hk) (by decide)
  have hmay : (!mayB (k : Int) (R : Int) (G : Int)) = false := by rw [may_nat hk1 hk hR hR8 hG]; rfl
  have hchk := spec_is (P := ⟨fnOf, specZ, L+1⟩) (C := runF ⟨fnOf, specZ, L+1⟩ n) (f := 100) rfl (chkSemS_at ss)
  unfold chkA at hchk
  have hgrid := call_den (@tgr_0 (L+1) n 0 0 0 ss 0 0 0 [] [] [] 0 0 0 0 [] [] (chkW ss).1 (chkW ss).2 hchk)
  rw [hc] at hgrid
  have hrow := call_den (@trw_2 (L+1) n 0 0 0 ss (a : Int) 0 0 [] [] [] 0 0 0 0 [] [] (by rw [sl]; exact dF (by omega)) (dF (by omega)))
  have hpair := spec_is (P := ⟨fnOf, specZ, L+1⟩) (C := runF ⟨fnOf, specZ, L+1⟩ (n+1)) (f := 24) rfl (PairSem_at hk)
  have hhalf := spec_is (P := ⟨fnOf, specZ, L+1⟩) (C := runF ⟨fnOf, specZ, L+1⟩ (n+1)) (f := 69) rfl (halfSem_at (may_nat hk1 hk hR hR8 hG))
  rw [Int.toNat_natCast] at hhalf
  have hat : (if (65536 : Int) < (a : Int) then (65536 : Int) else (a : Int)) = ((min a 65536 : Nat) : Int) := by split <;> omega
  have hA : min a 65536 ≤ 65536 := by omega
  generalize hAA : min a 65536 = A at *
  have hby : IntKind.wrap .i64 (IntKind.wrap .i64 (2 * (((prs k).1.map celJ).length : Int)) * 128) = 2 * ((2 ^ k : Nat) : Int) * 128 := by
    rw [map_len, l1]
    generalize 2 ^ k = w at *
    rw [wrap_id (n := 2 * ((w : Nat) : Int)) (by omega), wrap_id (by omega)]
  have cu : cutX ((prs k).1.map celJ) 0 (List.length ((prs k).1.map celJ)) = (prs k).1.map celJ := cutAll
  have cv : cutX ((prs k).2.map celJ) 0 (List.length ((prs k).2.map celJ)) = (prs k).2.map celJ := cutAll
  have bR : ∀ i, i < ss.length → (ptR (ss.getD i ((0, 0), false))).natAbs ≤ 2 ^ 22 := fun i hi => (may_grid (hm i hi)).1.2.2
  have bI : ∀ i, i < ss.length → (ptI (ss.getD i ((0, 0), false))).natAbs ≤ 2 ^ 22 := fun i hi => (may_grid (hm i hi)).2.2.2
  have sums : ∀ j, j < 64 → Con.holds ⟨fnOf, specZ, L+1⟩ (runF ⟨fnOf, specZ, L+1⟩ (n+1)) (.call 77 [.lst 2 (ss.map celS), .int .i64 ((A + j * R : Nat) : Int), .int .i64 R, .lst 1 ((prs k).1.map celJ)] (.tup [.int .i64 (sumS ptR ss (prs k).1 (A + j * R) R (2 ^ k)), .int .i64 (sumS ptI ss (prs k).1 (A + j * R) R (2 ^ k)), .v (.bool (okS ss (A + j * R) R (2 ^ k)))])) ∧
      Con.holds ⟨fnOf, specZ, L+1⟩ (runF ⟨fnOf, specZ, L+1⟩ (n+1)) (.call 77 [.lst 2 (ss.map celS), .int .i64 ((A + (R * 2 ^ k + G) + j * R : Nat) : Int), .int .i64 R, .lst 1 ((prs k).2.map celJ)] (.tup [.int .i64 (sumS ptR ss (prs k).2 (A + (R * 2 ^ k + G) + j * R) R (2 ^ k)), .int .i64 (sumS ptI ss (prs k).2 (A + (R * 2 ^ k + G) + j * R) R (2 ^ k)), .v (.bool (okS ss (A + (R * 2 ^ k + G) + j * R) R (2 ^ k)))])) := by
    intro j hj
    obtain ⟨a1, a2⟩ := in_small hk hR8 hG hA hj
    have d1 := @against_doc specZ L n ss (prs k).1 (A + j * R) R hm s1 hl (by omega) hR8 a1 hL
    have d2 := @against_doc specZ L n ss (prs k).2 (A + (R * 2 ^ k + G) + j * R) R hm s2 hl (by omega) hR8 a2 hL
    rw [l1] at d1
    rw [l2] at d2
    exact ⟨call_den d1, call_den d2⟩
  have go : ∀ b, b ≤ M → (∀ j, j < b → okT ss k R G A j = true) → ∀ {x : Ex} (hx : x ≠ .nrm) (Q : St → Prop),
      (∀ out st, out.length = b → rawL (totR ss k R G A) (totI ss k R G A) k out → ∃ s', rnd 0 [1, 2, 3, 4, 10, 11, 13, 14, 15] (bodyOf ⟨fnOf, specZ, L+1⟩ (runF ⟨fnOf, specZ, L+1⟩ (n+1)) 0 m35b0 (b :: [45]) (trdSt ss A k R G M (prs k).1 (prs k).2 (fmul (fofInt (2 * ((2 ^ k : Nat) : Int) * 128)) 4661225614328463360) out st b b)) = some (x, s') ∧ Q s') →
      ∃ s', Con.holds ⟨fnOf, specZ, L+1⟩ (runF ⟨fnOf, specZ, L+1⟩ (n+1)) (.loop 0 [1, 2, 3, 4, 10, 11, 13, 14, 15] m35b0 [45] (trdSt ss A k R G M (prs k).1 (prs k).2 (fmul (fofInt (2 * ((2 ^ k : Nat) : Int) * 128)) 4661225614328463360) [] [45] 0 0) x s') ∧ Q s' := by
    intro b hb hok x hx Q he
    refine loopJ (P := ⟨fnOf, specZ, L+1⟩) (C := runF ⟨fnOf, specZ, L+1⟩ (n+1)) (L := L) (d := 0) (live := [1, 2, 3, 4, 10, 11, 13, 14, 15]) (π := [45]) (m := m35b0) (A := trdSt ss A k R G M (prs k).1 (prs k).2 (fmul (fofInt (2 * ((2 ^ k : Nat) : Int) * 128)) 4661225614328463360) [] [45] 0 0)
      (fun j s => ∃ out st, s = trdSt ss A k R G M (prs k).1 (prs k).2 (fmul (fofInt (2 * ((2 ^ k : Nat) : Int) * 128)) 4661225614328463360) out st j j ∧ out.length = j ∧ rawL (totR ss k R G A) (totI ss k R G A) k out) Q b hx rfl (by omega) ⟨[], [45], rfl, rfl, fun j hj => absurd hj (Nat.not_lt_zero _)⟩ (fun j s hj hst => ?_) (fun s hst => ?_)
    · obtain ⟨out, st, rfl, ho, hr⟩ := hst
      obtain ⟨d1, d2⟩ := sums j (by omega)
      obtain ⟨w1, w2⟩ := round_calls (G := G) (L := L) hm hl hk1 hk hR hR8 hG hA hL (j := j) (by omega)
      have hokj := hok j hj
      unfold okT okJ at hokj
      rw [Bool.and_eq_true] at hokj
      rw [hokj.1] at d1
      rw [hokj.2] at d2
      have hpu : Con.holds ⟨fnOf, specZ, L+1⟩ (runF ⟨fnOf, specZ, L+1⟩ (n+1)) (.push j 1 16 (out.map celC)) := push_ok (by rw [map_len, ho]) (by simp only [most]; omega)
      have t1 := tot_bound (A := A) (R := R) bR hk (R * 2 ^ k + G) j
      have t2 := tot_bound (A := A) (R := R) bI hk (R * 2 ^ k + G) j
      have v1 : IntKind.wrap .i64 (sumS ptR ss (prs k).1 (A + j * R) R (2 ^ k) + sumS ptR ss (prs k).2 (A + (R * 2 ^ k + G) + j * R) R (2 ^ k)) = totR ss k R G A j := by unfold totS at t1; unfold totR totS; exact wrap_id (by omega)
      have v2 : IntKind.wrap .i64 (sumS ptI ss (prs k).1 (A + j * R) R (2 ^ k) + sumS ptI ss (prs k).2 (A + (R * 2 ^ k + G) + j * R) R (2 ^ k)) = totI ss k R G A j := by unfold totS at t2; unfold totI totS; exact wrap_id (by omega)
      have := @tre_2 (L+1) (n+1) k R G ss A 0 M (prs k).1 (prs k).2 out (fmul (fofInt (2 * ((2 ^ k : Nat) : Int) * 128)) 4661225614328463360) 0 j j st [45] _ _ true ((R : Int) * 2 ^ k + (G : Int)) _ _ true
        (dT (by omega)) (by rw [w1, cu]; exact d1) leOut hhalf (by rw [w2, cv]; exact d2) leOut rfl rfl hpu
      rw [wrapUp hj (by omega), v1, v2] at this
      refine ⟨_, seeZ_go this, out ++ [(fdiv (fofInt (totR ss k R G A j)) (fmul (fofInt (2 * ((2 ^ k : Nat) : Int) * 128)) 4661225614328463360), fdiv (fofInt (totI ss k R G A j)) (fmul (fofInt (2 * ((2 ^ k : Nat) : Int) * 128)) 4661225614328463360))], [63, j, 45], ?_, by rw [List.length_append, ho]; rfl, rawL_up hr ?_ ?_⟩
      · unfold trdSt
        rw [List.map_append]
        rfl
      · rw [ho]; exact raw_doc hk1 hk (Nat.lt_of_le_of_lt t1 (by decide))
      · rw [ho]; exact raw_doc hk1 hk (Nat.lt_of_le_of_lt t2 (by decide))
    · obtain ⟨out, st, rfl, ho, hr⟩ := hst
      exact he out st ho hr
  refine ⟨fun hall => ?_, fun b hb hp hbad => ?_⟩
  · obtain ⟨s', q1, out, st, rfl, ho, hr⟩ := go M (Nat.le_refl _) hall (x := .exit 0) (by simp) (fun s => ∃ out st, s = trdSt ss A k R G M (prs k).1 (prs k).2 (fmul (fofInt (2 * ((2 ^ k : Nat) : Int) * 128)) 4661225614328463360) out st M M ∧ out.length = M ∧ rawL (totR ss k R G A) (totI ss k R G A) k out) (fun out st ho hr =>
      ⟨_, seeZ_go (@tre_3 (L+1) (n+1) k R G ss A 0 M (prs k).1 (prs k).2 out (fmul (fofInt (2 * ((2 ^ k : Nat) : Int) * 128)) 4661225614328463360) 0 M M st [45] dNlt), out, st, rfl, ho, hr⟩)
    have := @trd_5 (L+1) (n+1) k R G ss a A M (prs k).1 (prs k).2 out (fmul (fofInt (2 * ((2 ^ k : Nat) : Int) * 128)) 4661225614328463360) 0 M M st [] 0 true (prs k).1 (prs k).2 0
      hmay hrow rfl (dF (by omega)) (dF (by omega)) hgrid rfl hpair (by rw [hat, hby]; exact q1) (by show _ ≤ _; rw [show List.length _ = _ from map_len, ho]; exact Nat.le_refl _)
    rw [tkMap ho.symm] at this
    exact ⟨out, this, ho, hr⟩
  · obtain ⟨d1, d2⟩ := sums b (by omega)
    obtain ⟨w1, w2⟩ := round_calls (G := G) (L := L) hm hl hk1 hk hR hR8 hG hA hL (j := b) (by omega)
    obtain ⟨s', q1, q2⟩ := go b (by omega) hp (x := .ret) (by simp) (fun s => outS s m35.res = some (.tup [.nils, .int .i64 9])) (fun out st ho hr => by
      unfold okT okJ at hbad
      cases e1 : okS ss (A + b * R) R (2 ^ k) with
      | false =>
        rw [e1] at d1
        exact seeZ_out (@tre_0 (L+1) (n+1) k R G ss A 0 M (prs k).1 (prs k).2 out (fmul (fofInt (2 * ((2 ^ k : Nat) : Int) * 128)) 4661225614328463360) 0 b b st [45] _ _ false ((R : Int) * 2 ^ k + (G : Int)) _ _ _
          (dT (by omega)) (by rw [w1, cu]; exact d1) leOut hhalf (by rw [w2, cv]; exact d2) leOut rfl)
      | true =>
        rw [e1, Bool.true_and] at hbad
        rw [e1] at d1
        rw [hbad] at d2
        exact seeZ_out (@tre_1 (L+1) (n+1) k R G ss A 0 M (prs k).1 (prs k).2 out (fmul (fofInt (2 * ((2 ^ k : Nat) : Int) * 128)) 4661225614328463360) 0 b b st [45] _ _ true ((R : Int) * 2 ^ k + (G : Int)) _ _ false
          (dT (by omega)) (by rw [w1, cu]; exact d1) leOut hhalf (by rw [w2, cv]; exact d2) leOut rfl rfl))
    exact @tru_5 (L+1) (n+1) k R G ss a A M (prs k).1 (prs k).2 [] (fmul (fofInt (2 * ((2 ^ k : Nat) : Int) * 128)) 4661225614328463360) 0 0 0 [] [] s' _ 0 true (prs k).1 (prs k).2 0
      hmay hrow rfl (dF (by omega)) (dF (by omega)) hgrid rfl hpair (by rw [hat, hby]; exact q1) q2
end
end Go.Proofs.Ythcgeajojgecnaa.Fw
