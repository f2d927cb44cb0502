/- train: Raw, the program's and the document's, where the plan, the row and the number may be. -/
import Derived.Test.YthcgeajojgecnaaLwRwE
set_option maxRecDepth 100000
set_option maxHeartbeats 4000000
set_option exponentiation.threshold 4000
set_option linter.unusedSimpArgs false
set_option linter.unusedVariables false
namespace Go.Proofs.Ythcgeajojgecnaa.Fw
open Go Go.RowKit
def totR (ss : List ((Nat × Nat) × Bool)) (k R G A : Nat) (j : Nat) : Int := totS ss (prs k).1 (prs k).2 R (R * 2 ^ k + G) (2 ^ k) ptR A j
def totI (ss : List ((Nat × Nat) × Bool)) (k R G A : Nat) (j : Nat) : Int := totS ss (prs k).1 (prs k).2 R (R * 2 ^ k + G) (2 ^ k) ptI A j
def okT (ss : List ((Nat × Nat) × Bool)) (k R G A : Nat) (j : Nat) : Bool := okJ ss R (R * 2 ^ k + G) (2 ^ k) A j
section
variable {L n : Nat} {ss : List ((Nat × Nat) × Bool)} {k R G a M : Nat}
theorem in_small (hk : k ≤ 8) (hR8 : R ≤ 8) (hG : G ≤ 4096) {A j : Nat} (hA : A ≤ 65536) (hj : j < 64) : A + j * R ≤ 1000000 ∧ A + (R * 2 ^ k + G) + j * R ≤ 1000000 := by
  have hp : 2 ^ k ≤ 256 := Nat.le_trans (Nat.pow_le_pow_right (by decide) hk) (by decide)
  have hmax : R * 2 ^ k ≤ 8 * 256 := Nat.mul_le_mul hR8 hp
  have hj8 : j * R ≤ 64 * 8 := Nat.mul_le_mul (by omega) hR8
  omega
theorem rawP_run (hm : ∀ i, i < ss.length → mayF (ss.getD i ((0, 0), false)) = true) (hl : ss.length ≤ 65536) (hk1 : 1 ≤ k) (hk : k ≤ 8) (hR : 1 ≤ R) (hR8 : R ≤ 8) (hG : G ≤ 4096) (hM1 : 1 ≤ M) (hM : M ≤ 64) (hc : (chkW ss).2 = 0) (hL : 4096 ≤ L) :
    ((∀ j, j < M → okT ss k R G (min a ss.length) j = true) → ∃ out, den ⟨fnOf, specZ, L+1⟩ (n+2) 31 [.agg [.int .i64 k, .int .i64 R, .int .i64 G], .lst 2 (ss.map celS), .int .i64 a, .int .i64 M] = some (.tup [.own 1 (out.map celC) true, .int .i64 0]) ∧ out.length = M ∧ rawL (totR ss k R G (min a ss.length)) (totI ss k R G (min a ss.length)) k out) ∧
    (∀ b, b < M → (∀ j, j < b → okT ss k R G (min a ss.length) j = true) → okT ss k R G (min a ss.length) b = false → den ⟨fnOf, specZ, L+1⟩ (n+2) 31 [.agg [.int .i64 k, .int .i64 R, .int .i64 G], .lst 2 (ss.map celS), .int .i64 a, .int .i64 M] = some (.tup [.nils, .int .i64 9])) := by
  have sl : (ss.map celS).length = ss.length := map_len
  obtain ⟨l1, l2⟩ := prs_len k
  obtain ⟨s1, s2⟩ := sgn_one k
  have hp2 : 2 ^ k ≤ 256 := Nat.le_trans (Nat.pow_le_pow_right (by decide) hk) (by decide)
  have hmay : (!mayB (k : Int) (R : Int) (G : Int)) = false := by rw [may_nat hk1 hk hR hR8 hG]; rfl
  have hchk := spec_is (P := ⟨fnOf, specZ, L+1⟩) (C := runF ⟨fnOf, specZ, L+1⟩ (n+1)) (f := 73) rfl (chkSemS_at ss)
  unfold chkA at hchk
  have hpair := spec_is (P := ⟨fnOf, specZ, L+1⟩) (C := runF ⟨fnOf, specZ, L+1⟩ (n+1)) (f := 68) rfl (pairSem_at hk)
  have hhalf := spec_is (P := ⟨fnOf, specZ, L+1⟩) (C := runF ⟨fnOf, specZ, L+1⟩ (n+1)) (f := 71) rfl (halfSem_at (may_nat hk1 hk hR hR8 hG))
  rw [Int.toNat_natCast] at hhalf
  have c0 : ((chkW ss).2 != 0) = false := by rw [hc]; rfl
  have hat : (if (ss.length : Int) < (a : Int) then (ss.length : Int) else (a : Int)) = ((min a ss.length : Nat) : Int) := by split <;> omega
  have hA : min a ss.length ≤ 65536 := by omega
  generalize hAA : min a ss.length = A at *
  have hby : IntKind.wrap .i64 (IntKind.wrap .i64 (2 * (((prs k).1.map celJ).length : Int)) * 128) = 2 * ((2 ^ k : Nat) : Int) * 128 := by
    rw [map_len, l1]
    generalize 2 ^ k = w at *
    rw [wrap_id (n := 2 * ((w : Nat) : Int)) (by omega), wrap_id (by omega)]
  have hmk : Con.holds ⟨fnOf, specZ, L+1⟩ (runF ⟨fnOf, specZ, L+1⟩ (n+1)) (.mk 0 M false [] 0 (M : Int) 16 [.cpx 0 0]) := mk0_ok rfl (by simp only [most]; omega) (by simp only [most]; omega) (by omega)
  have cu : cutX ((prs k).1.map celJ) 0 (List.length ((prs k).1.map celJ)) = (prs k).1.map celJ := cutAll
  have cv : cutX ((prs k).2.map celJ) 0 (List.length ((prs k).2.map celJ)) = (prs k).2.map celJ := cutAll
  have bR : ∀ i, i < ss.length → (ptR (ss.getD i ((0, 0), false))).natAbs ≤ 2 ^ 22 := fun i hi => (may_grid (hm i hi)).1.2.2
  have bI : ∀ i, i < ss.length → (ptI (ss.getD i ((0, 0), false))).natAbs ≤ 2 ^ 22 := fun i hi => (may_grid (hm i hi)).2.2.2
  -- a round's two sums
  have sums : ∀ j, j < 64 → ∃ r1 i1 r2 i2, Con.holds ⟨fnOf, specZ, L+1⟩ (runF ⟨fnOf, specZ, L+1⟩ (n+1)) (.call 74 [.lst 2 (ss.map celS), .int .i64 ((A + j * R : Nat) : Int), .int .i64 R, .lst 1 ((prs k).1.map celJ)] (.tup [.cpx r1 i1, .v (.bool (okS ss (A + j * R) R (2 ^ k)))])) ∧
      Con.holds ⟨fnOf, specZ, L+1⟩ (runF ⟨fnOf, specZ, L+1⟩ (n+1)) (.call 74 [.lst 2 (ss.map celS), .int .i64 ((A + (R * 2 ^ k + G) + j * R : Nat) : Int), .int .i64 R, .lst 1 ((prs k).2.map celJ)] (.tup [.cpx r2 i2, .v (.bool (okS ss (A + (R * 2 ^ k + G) + j * R) R (2 ^ k)))])) ∧
      (okT ss k R G A j = true → grid (totR ss k R G A j) (fadd r1 r2) ∧ grid (totI ss k R G A j) (fadd i1 i2)) := by
    intro j hj
    obtain ⟨a1, a2⟩ := in_small hk hR8 hG hA hj
    obtain ⟨r1, i1, d1, g1⟩ := @against_prog specZ L n ss (prs k).1 (A + j * R) R hm s1 hl (by omega) hR8 a1 hL
    obtain ⟨r2, i2, d2, g2⟩ := @against_prog specZ L n ss (prs k).2 (A + (R * 2 ^ k + G) + j * R) R hm s2 hl (by omega) hR8 a2 hL
    rw [l1] at d1 g1
    rw [l2] at d2 g2
    refine ⟨r1, i1, r2, i2, call_den d1, call_den d2, fun hok => ?_⟩
    unfold okT okJ at hok
    rw [Bool.and_eq_true] at hok
    obtain ⟨x1, y1⟩ := g1 hok.1
    obtain ⟨x2, y2⟩ := g2 hok.2
    have t1 := tot_bound (A := A) (R := R) bR hk (R * 2 ^ k + G) j
    have t2 := tot_bound (A := A) (R := R) bI hk (R * 2 ^ k + G) j
    unfold totS at t1 t2
    exact ⟨grid_add x1 x2 (by omega), grid_add y1 y2 (by omega)⟩
  have go : ∀ b, b ≤ M → (∀ j, j < b → okT ss k R G A j = true) → ∀ {x : Ex} (hx : x ≠ .nrm) (Q : St → Prop),
      (∀ out st, out.length = b → rawL (totR ss k R G A) (totI ss k R G A) k out → ∃ s', rnd 0 [1, 2, 4, 12, 13, 14, 15, 66, 67] (bodyOf ⟨fnOf, specZ, L+1⟩ (runF ⟨fnOf, specZ, L+1⟩ (n+1)) 0 m31b0 (b :: [56]) (trpSt ss A k R G M (prs k).1 (prs k).2 (fofInt (2 * ((2 ^ k : Nat) : Int) * 128)) out st b b)) = some (x, s') ∧ Q s') →
      ∃ s', Con.holds ⟨fnOf, specZ, L+1⟩ (runF ⟨fnOf, specZ, L+1⟩ (n+1)) (.loop 0 [1, 2, 4, 12, 13, 14, 15, 66, 67] m31b0 [56] (trpSt ss A k R G M (prs k).1 (prs k).2 (fofInt (2 * ((2 ^ k : Nat) : Int) * 128)) [] [52] 0 0) x s') ∧ Q s' := by
    intro b hb hok x hx Q he
    refine loopJ (P := ⟨fnOf, specZ, L+1⟩) (C := runF ⟨fnOf, specZ, L+1⟩ (n+1)) (L := L) (d := 0) (live := [1, 2, 4, 12, 13, 14, 15, 66, 67]) (π := [56]) (m := m31b0) (A := trpSt ss A k R G M (prs k).1 (prs k).2 (fofInt (2 * ((2 ^ k : Nat) : Int) * 128)) [] [52] 0 0)
      (fun j s => ∃ out st, s = trpSt ss A k R G M (prs k).1 (prs k).2 (fofInt (2 * ((2 ^ k : Nat) : Int) * 128)) out st j j ∧ out.length = j ∧ rawL (totR ss k R G A) (totI ss k R G A) k out) Q b hx rfl (by omega) ⟨[], [52], rfl, rfl, fun j hj => absurd hj (Nat.not_lt_zero _)⟩ (fun j s hj hst => ?_) (fun s hst => ?_)
    · obtain ⟨out, st, rfl, ho, hr⟩ := hst
      obtain ⟨r1, i1, r2, i2, d1, d2, g⟩ := sums j (by omega)
      obtain ⟨w1, w2⟩ := round_calls (G := G) (L := L) hm hl hk1 hk hR hR8 hG hA hL (j := j) (by omega)
      obtain ⟨ga, gb⟩ := g (hok j hj)
      have hokj := hok j hj
      unfold okT okJ at hokj
      rw [Bool.and_eq_true] at hokj
      rw [hokj.1] at d1
      rw [hokj.2] at d2
      have hpu : Con.holds ⟨fnOf, specZ, L+1⟩ (runF ⟨fnOf, specZ, L+1⟩ (n+1)) (.push j 1 16 (out.map celC)) := push_ok (by rw [map_len, ho]) (by simp only [most]; omega)
      have := @trq_2 (L+1) (n+1) k R G ss A 0 M (prs k).1 (prs k).2 out (fofInt (2 * ((2 ^ k : Nat) : Int) * 128)) 0 j j st [56] r1 i1 true ((R : Int) * 2 ^ k + (G : Int)) r2 i2 true
        (dT (by omega)) (by rw [w1, cu]; exact d1) leOut hhalf (by rw [w2, cv]; exact d2) leOut rfl rfl hpu
      rw [wrapUp hj (by omega)] at this
      have t1 := tot_bound (A := A) (R := R) bR hk (R * 2 ^ k + G) j
      have t2 := tot_bound (A := A) (R := R) bI hk (R * 2 ^ k + G) j
      refine ⟨_, seeZ_go this, out ++ [(fdiv (fadd r1 r2) (fofInt (2 * ((2 ^ k : Nat) : Int) * 128)), fdiv (fadd i1 i2) (fofInt (2 * ((2 ^ k : Nat) : Int) * 128)))], [61, j, 56], ?_, by rw [List.length_append, ho]; rfl, rawL_up hr ?_ ?_⟩
      · unfold trpSt
        rw [List.map_append]
        rfl
      · rw [ho]; exact raw_prog hk1 hk ga (Nat.lt_of_le_of_lt t1 (by decide))
      · rw [ho]; exact raw_prog hk1 hk gb (Nat.lt_of_le_of_lt t2 (by decide))
    · obtain ⟨out, st, rfl, ho, hr⟩ := hst
      exact he out st ho hr
  refine ⟨fun hall => ?_, fun b hb hp hbad => ?_⟩
  · obtain ⟨s', q1, out, st, rfl, ho, hr⟩ := go M (Nat.le_refl _) hall (x := .exit 0) (by simp) (fun s => ∃ out st, s = trpSt ss A k R G M (prs k).1 (prs k).2 (fofInt (2 * ((2 ^ k : Nat) : Int) * 128)) out st M M ∧ out.length = M ∧ rawL (totR ss k R G A) (totI ss k R G A) k out) (fun out st ho hr =>
      ⟨_, seeZ_go (@trq_3 (L+1) (n+1) k R G ss A 0 M (prs k).1 (prs k).2 out (fofInt (2 * ((2 ^ k : Nat) : Int) * 128)) 0 M M st [56] dNlt), out, st, rfl, ho, hr⟩)
    have := @trp_6 (L+1) (n+1) k R G ss a A M (prs k).1 (prs k).2 out (fofInt (2 * ((2 ^ k : Nat) : Int) * 128)) M M M st [] (chkW ss).1 (chkW ss).2 (prs k).1 (prs k).2
      hmay (by rw [sl]; exact dF (by omega)) (dF (by omega)) (dF (by omega)) (dF (by omega)) hchk c0 hpair hmk (by rw [sl, hat, hby]; exact q1) (by show _ ≤ _; rw [show List.length _ = _ from map_len, ho]; exact Nat.le_refl _)
    rw [tkMap ho.symm] at this
    exact ⟨out, this, ho, hr⟩
  · obtain ⟨r1, i1, r2, i2, d1, d2, _⟩ := sums b (by omega)
    obtain ⟨w1, w2⟩ := round_calls (G := G) (L := L) hm hl hk1 hk hR hR8 hG hA hL (j := b) (by omega)
    obtain ⟨s', q1, q2⟩ := go b (by omega) hp (x := .ret) (by simp) (fun s => outS s m31.res = some (.tup [.nils, .int .i64 9])) (fun out st ho hr => by
      unfold okT okJ at hbad
      cases e1 : okS ss (A + b * R) R (2 ^ k) with
      | false =>
        rw [e1] at d1
        exact seeZ_out (@trq_0 (L+1) (n+1) k R G ss A 0 M (prs k).1 (prs k).2 out (fofInt (2 * ((2 ^ k : Nat) : Int) * 128)) 0 b b st [56] r1 i1 false ((R : Int) * 2 ^ k + (G : Int)) r2 i2 _
          (dT (by omega)) (by rw [w1, cu]; exact d1) leOut hhalf (by rw [w2, cv]; exact d2) leOut rfl)
      | true =>
        rw [e1, Bool.true_and] at hbad
        rw [e1] at d1
        rw [hbad] at d2
        exact seeZ_out (@trq_1 (L+1) (n+1) k R G ss A 0 M (prs k).1 (prs k).2 out (fofInt (2 * ((2 ^ k : Nat) : Int) * 128)) 0 b b st [56] r1 i1 true ((R : Int) * 2 ^ k + (G : Int)) r2 i2 false
          (dT (by omega)) (by rw [w1, cu]; exact d1) leOut hhalf (by rw [w2, cv]; exact d2) leOut rfl rfl))
    exact @trt_6 (L+1) (n+1) k R G ss a A M (prs k).1 (prs k).2 [] 0 M 0 0 [] [] s' _ (chkW ss).1 (chkW ss).2 (prs k).1 (prs k).2
      hmay (by rw [sl]; exact dF (by omega)) (dF (by omega)) (dF (by omega)) (dF (by omega)) hchk c0 hpair hmk (by rw [sl, hat, hby]; exact q1) q2
end
end Go.Proofs.Ythcgeajojgecnaa.Fw
