/- First: the program's and the document's answer. -/
import Derived.Test.YtnphdnokedhhkaaLwFrA
import Derived.Test.YtnphdnokedhhkaaLwJnB
set_option maxRecDepth 100000
set_option maxHeartbeats 4000000
set_option linter.unusedSimpArgs false
set_option linter.unusedVariables false
namespace Go.Proofs.Ytnphdnokedhhkaa.Fw
open Go Go.RowKit
theorem feq_neg {x y : Nat} (hx : fin x) (hy : fin y) : feq (fneg x) y = feq x (fneg y) := by
  obtain ⟨h1, h2⟩ := fneg_fin hx
  obtain ⟨h3, h4⟩ := fneg_fin hy
  rw [feq_fin h1 hy, feq_fin hx h3, h2, h4]
  exact decide_eq_decide.2 ⟨fun h => by omega, fun h => by omega⟩
theorem feq_neg2 {x y : Nat} (hx : fin x) (hy : fin y) : feq (fneg (fneg x)) y = feq x y := by
  obtain ⟨h1, h2⟩ := fneg_fin hx
  obtain ⟨h3, h4⟩ := fneg_fin h1
  rw [feq_fin h3 hy, feq_fin hx hy, h4, h2, Int.neg_neg]
theorem fin_x0 : fin 4607182418800017408 := ⟨false, 2 ^ 52, -52, by decide, by decide⟩
theorem neg_x0 : fneg 4607182418800017408 = 13830554455654793216 := by decide
theorem fin_x1 : fin 4602678819172646912 := ⟨false, 2 ^ 52, -53, by decide, by decide⟩
theorem neg_x1 : fneg 4602678819172646912 = 13826050856027422720 := by decide
theorem fin_x2 : fin 4598175219545276416 := ⟨false, 2 ^ 52, -54, by decide, by decide⟩
theorem neg_x2 : fneg 4598175219545276416 = 13821547256400052224 := by decide
theorem fin_z : fin 0 := ⟨false, 0, -1074, by decide, by decide⟩
theorem neg_z : fneg 0 = 9223372036854775808 := by decide
theorem fe_0 {z : Nat × Nat} (h1 : fin z.1) (h2 : fin z.2) : (feq z.1 4607182418800017408 && feq z.2 0) = (feq z.1 4607182418800017408 && feq z.2 0) := rfl
theorem fe_1 {z : Nat × Nat} (h1 : fin z.1) (h2 : fin z.2) : (feq z.1 4602678819172646912 && feq z.2 0) = (feq z.1 4602678819172646912 && feq z.2 0) := rfl
theorem fe_2 {z : Nat × Nat} (h1 : fin z.1) (h2 : fin z.2) : (feq z.1 4598175219545276416 && feq z.2 0) = (feq z.1 4598175219545276416 && feq z.2 0) := rfl
theorem fe_3 {z : Nat × Nat} (h1 : fin z.1) (h2 : fin z.2) : (feq (fneg (fneg z.2)) 4607182418800017408 && feq (fneg z.1) 0) = (feq z.1 9223372036854775808 && feq z.2 4607182418800017408) := by rw [feq_neg2 h2 fin_x0, feq_neg h1 fin_z, neg_z, Bool.and_comm]
theorem fe_4 {z : Nat × Nat} (h1 : fin z.1) (h2 : fin z.2) : (feq (fneg (fneg z.2)) 4602678819172646912 && feq (fneg z.1) 0) = (feq z.1 9223372036854775808 && feq z.2 4602678819172646912) := by rw [feq_neg2 h2 fin_x1, feq_neg h1 fin_z, neg_z, Bool.and_comm]
theorem fe_5 {z : Nat × Nat} (h1 : fin z.1) (h2 : fin z.2) : (feq (fneg (fneg z.2)) 4598175219545276416 && feq (fneg z.1) 0) = (feq z.1 9223372036854775808 && feq z.2 4598175219545276416) := by rw [feq_neg2 h2 fin_x2, feq_neg h1 fin_z, neg_z, Bool.and_comm]
theorem fe_6 {z : Nat × Nat} (h1 : fin z.1) (h2 : fin z.2) : (feq (fneg z.1) 4607182418800017408 && feq (fneg z.2) 0) = (feq z.1 13830554455654793216 && feq z.2 9223372036854775808) := by rw [feq_neg h1 fin_x0, feq_neg h2 fin_z, neg_z, neg_x0]
theorem fe_7 {z : Nat × Nat} (h1 : fin z.1) (h2 : fin z.2) : (feq (fneg z.1) 4602678819172646912 && feq (fneg z.2) 0) = (feq z.1 13826050856027422720 && feq z.2 9223372036854775808) := by rw [feq_neg h1 fin_x1, feq_neg h2 fin_z, neg_z, neg_x1]
theorem fe_8 {z : Nat × Nat} (h1 : fin z.1) (h2 : fin z.2) : (feq (fneg z.1) 4598175219545276416 && feq (fneg z.2) 0) = (feq z.1 13821547256400052224 && feq z.2 9223372036854775808) := by rw [feq_neg h1 fin_x2, feq_neg h2 fin_z, neg_z, neg_x2]
theorem fe_9 {z : Nat × Nat} (h1 : fin z.1) (h2 : fin z.2) : (feq (fneg z.2) 4607182418800017408 && feq z.1 0) = (feq z.1 0 && feq z.2 13830554455654793216) := by rw [feq_neg h2 fin_x0, neg_x0, Bool.and_comm]
theorem fe_10 {z : Nat × Nat} (h1 : fin z.1) (h2 : fin z.2) : (feq (fneg z.2) 4602678819172646912 && feq z.1 0) = (feq z.1 0 && feq z.2 13826050856027422720) := by rw [feq_neg h2 fin_x1, neg_x1, Bool.and_comm]
theorem fe_11 {z : Nat × Nat} (h1 : fin z.1) (h2 : fin z.2) : (feq (fneg z.2) 4598175219545276416 && feq z.1 0) = (feq z.1 0 && feq z.2 13821547256400052224) := by rw [feq_neg h2 fin_x2, neg_x2, Bool.and_comm]
theorem first_both {L n : Nat} {rate delay : Int} {ts es : List (Nat × Nat)} (m1 : shortL ts) (m2 : shortL es) : ∃ (u w : Nat) (q e : Int),
    den ⟨fnOf, specR, L+9⟩ (n+1) 24 [.agg [.int .i64 rate, .int .i64 delay, .lst 1 (ts.map celC), .lst 1 (es.map celC)]] = some (.tup [.flt u, .int .i64 q, .int .i64 e]) ∧
    den ⟨fnOf, specR, L+9⟩ (n+1) 25 [.agg [.int .i64 rate, .int .i64 delay, .lst 1 (ts.map celC), .lst 1 (es.map celC)]] = some (.tup [.flt w, .int .i64 q, .int .i64 e]) ∧ feq u w = true := by
  have p1 := spec_is (P := ⟨fnOf, specR, L+9⟩) (C := runF ⟨fnOf, specR, L+9⟩ n) (f := 22) rfl (chkSem_at (rate := rate) (delay := delay) m1 m2)
  have d1 := spec_is (P := ⟨fnOf, specR, L+9⟩) (C := runF ⟨fnOf, specR, L+9⟩ n) (f := 23) rfl (chkSem_at (rate := rate) (delay := delay) m1 m2)
  by_cases a1 : chkT rate delay ts es = 0
  case neg =>
    have b1 : (chkT rate delay ts es != 0) = true := by simpa using a1
    exact ⟨0, 0, 0, _, @fp_0 L n rate delay 0 ts es 0 0 _ p1 b1, @fd_0 L n rate delay 0 ts es 0 0 _ d1 b1, by decide⟩
  have n1 : (chkT rate delay ts es != 0) = false := by rw [a1]; rfl
  obtain ⟨_, _, _, _, t1, _⟩ := chkT_ok a1
  obtain ⟨u1, _, u3, _⟩ := tapsF_is.1 t1
  have hz := u3 0 u1
  have he := elD_map (P := ⟨fnOf, specR, L+9⟩) (C := runF ⟨fnOf, specR, L+9⟩ n) (f := celC) (d := (0, 0)) u1
  generalize ts.getD 0 (0, 0) = z at *
  unfold okTap at hz
  simp only [Bool.and_eq_true] at hz
  obtain ⟨_, y1, _⟩ := plain_six hz.1
  obtain ⟨_, y2, _⟩ := plain_six hz.2
  have f1 := y1.1
  have f2 := y2.1
  cases c0 : (feq z.1 4607182418800017408 && feq z.2 0) with
  | true =>
    have c := (fe_0 f1 f2).trans c0
    rw [Bool.and_eq_true] at c
    exact ⟨_, 4607182418800017408, 0, 0, @fp_1 L n rate delay 0 ts es 0 0 _ z p1 n1 he (by rw [fe_0 f1 f2]; exact c0), @fd_1 L n rate delay 0 ts es 0 0 _ z d1 n1 he c0, c.1⟩
  | false =>
    cases c1 : (feq z.1 4602678819172646912 && feq z.2 0) with
    | true =>
      have c := (fe_1 f1 f2).trans c1
      rw [Bool.and_eq_true] at c
      exact ⟨_, 4602678819172646912, 0, 0, @fp_2 L n rate delay 0 ts es 0 0 _ z p1 n1 he (by rw [fe_0 f1 f2]; exact c0) (by rw [fe_1 f1 f2]; exact c1), @fd_2 L n rate delay 0 ts es 0 0 _ z z d1 n1 he c0 he c1, c.1⟩
    | false =>
      cases c2 : (feq z.1 4598175219545276416 && feq z.2 0) with
      | true =>
        have c := (fe_2 f1 f2).trans c2
        rw [Bool.and_eq_true] at c
        exact ⟨_, 4598175219545276416, 0, 0, @fp_3 L n rate delay 0 ts es 0 0 _ z p1 n1 he (by rw [fe_0 f1 f2]; exact c0) (by rw [fe_1 f1 f2]; exact c1) (by rw [fe_2 f1 f2]; exact c2), @fd_3 L n rate delay 0 ts es 0 0 _ z z z d1 n1 he c0 he c1 he c2, c.1⟩
      | false =>
        cases c3 : (feq z.1 9223372036854775808 && feq z.2 4607182418800017408) with
        | true =>
          have c := (fe_3 f1 f2).trans c3
          rw [Bool.and_eq_true] at c
          exact ⟨_, 4607182418800017408, 1, 0, @fp_4 L n rate delay 0 ts es 0 0 _ z z p1 n1 he (by rw [fe_0 f1 f2]; exact c0) (by rw [fe_1 f1 f2]; exact c1) (by rw [fe_2 f1 f2]; exact c2) he (by rw [fe_3 f1 f2]; exact c3), @fd_4 L n rate delay 0 ts es 0 0 _ z z z z d1 n1 he c0 he c1 he c2 he c3, c.1⟩
        | false =>
          cases c4 : (feq z.1 9223372036854775808 && feq z.2 4602678819172646912) with
          | true =>
            have c := (fe_4 f1 f2).trans c4
            rw [Bool.and_eq_true] at c
            exact ⟨_, 4602678819172646912, 1, 0, @fp_5 L n rate delay 0 ts es 0 0 _ z z p1 n1 he (by rw [fe_0 f1 f2]; exact c0) (by rw [fe_1 f1 f2]; exact c1) (by rw [fe_2 f1 f2]; exact c2) he (by rw [fe_3 f1 f2]; exact c3) (by rw [fe_4 f1 f2]; exact c4), @fd_5 L n rate delay 0 ts es 0 0 _ z z z z z d1 n1 he c0 he c1 he c2 he c3 he c4, c.1⟩
          | false =>
            cases c5 : (feq z.1 9223372036854775808 && feq z.2 4598175219545276416) with
            | true =>
              have c := (fe_5 f1 f2).trans c5
              rw [Bool.and_eq_true] at c
              exact ⟨_, 4598175219545276416, 1, 0, @fp_6 L n rate delay 0 ts es 0 0 _ z z p1 n1 he (by rw [fe_0 f1 f2]; exact c0) (by rw [fe_1 f1 f2]; exact c1) (by rw [fe_2 f1 f2]; exact c2) he (by rw [fe_3 f1 f2]; exact c3) (by rw [fe_4 f1 f2]; exact c4) (by rw [fe_5 f1 f2]; exact c5), @fd_6 L n rate delay 0 ts es 0 0 _ z z z z z z d1 n1 he c0 he c1 he c2 he c3 he c4 he c5, c.1⟩
            | false =>
              cases c6 : (feq z.1 13830554455654793216 && feq z.2 9223372036854775808) with
              | true =>
                have c := (fe_6 f1 f2).trans c6
                rw [Bool.and_eq_true] at c
                exact ⟨_, 4607182418800017408, 2, 0, @fp_7 L n rate delay 0 ts es 0 0 _ z z z p1 n1 he (by rw [fe_0 f1 f2]; exact c0) (by rw [fe_1 f1 f2]; exact c1) (by rw [fe_2 f1 f2]; exact c2) he (by rw [fe_3 f1 f2]; exact c3) (by rw [fe_4 f1 f2]; exact c4) (by rw [fe_5 f1 f2]; exact c5) he (by rw [fe_6 f1 f2]; exact c6), @fd_7 L n rate delay 0 ts es 0 0 _ z z z z z z z d1 n1 he c0 he c1 he c2 he c3 he c4 he c5 he c6, c.1⟩
              | false =>
                cases c7 : (feq z.1 13826050856027422720 && feq z.2 9223372036854775808) with
                | true =>
                  have c := (fe_7 f1 f2).trans c7
                  rw [Bool.and_eq_true] at c
                  exact ⟨_, 4602678819172646912, 2, 0, @fp_8 L n rate delay 0 ts es 0 0 _ z z z p1 n1 he (by rw [fe_0 f1 f2]; exact c0) (by rw [fe_1 f1 f2]; exact c1) (by rw [fe_2 f1 f2]; exact c2) he (by rw [fe_3 f1 f2]; exact c3) (by rw [fe_4 f1 f2]; exact c4) (by rw [fe_5 f1 f2]; exact c5) he (by rw [fe_6 f1 f2]; exact c6) (by rw [fe_7 f1 f2]; exact c7), @fd_8 L n rate delay 0 ts es 0 0 _ z z z z z z z z d1 n1 he c0 he c1 he c2 he c3 he c4 he c5 he c6 he c7, c.1⟩
                | false =>
                  cases c8 : (feq z.1 13821547256400052224 && feq z.2 9223372036854775808) with
                  | true =>
                    have c := (fe_8 f1 f2).trans c8
                    rw [Bool.and_eq_true] at c
                    exact ⟨_, 4598175219545276416, 2, 0, @fp_9 L n rate delay 0 ts es 0 0 _ z z z p1 n1 he (by rw [fe_0 f1 f2]; exact c0) (by rw [fe_1 f1 f2]; exact c1) (by rw [fe_2 f1 f2]; exact c2) he (by rw [fe_3 f1 f2]; exact c3) (by rw [fe_4 f1 f2]; exact c4) (by rw [fe_5 f1 f2]; exact c5) he (by rw [fe_6 f1 f2]; exact c6) (by rw [fe_7 f1 f2]; exact c7) (by rw [fe_8 f1 f2]; exact c8), @fd_9 L n rate delay 0 ts es 0 0 _ z z z z z z z z z d1 n1 he c0 he c1 he c2 he c3 he c4 he c5 he c6 he c7 he c8, c.1⟩
                  | false =>
                    cases c9 : (feq z.1 0 && feq z.2 13830554455654793216) with
                    | true =>
                      have c := (fe_9 f1 f2).trans c9
                      rw [Bool.and_eq_true] at c
                      exact ⟨_, 4607182418800017408, 3, 0, @fp_10 L n rate delay 0 ts es 0 0 _ z z z z p1 n1 he (by rw [fe_0 f1 f2]; exact c0) (by rw [fe_1 f1 f2]; exact c1) (by rw [fe_2 f1 f2]; exact c2) he (by rw [fe_3 f1 f2]; exact c3) (by rw [fe_4 f1 f2]; exact c4) (by rw [fe_5 f1 f2]; exact c5) he (by rw [fe_6 f1 f2]; exact c6) (by rw [fe_7 f1 f2]; exact c7) (by rw [fe_8 f1 f2]; exact c8) he (by rw [fe_9 f1 f2]; exact c9), @fd_10 L n rate delay 0 ts es 0 0 _ z z z z z z z z z z d1 n1 he c0 he c1 he c2 he c3 he c4 he c5 he c6 he c7 he c8 he c9, c.1⟩
                    | false =>
                      cases c10 : (feq z.1 0 && feq z.2 13826050856027422720) with
                      | true =>
                        have c := (fe_10 f1 f2).trans c10
                        rw [Bool.and_eq_true] at c
                        exact ⟨_, 4602678819172646912, 3, 0, @fp_11 L n rate delay 0 ts es 0 0 _ z z z z p1 n1 he (by rw [fe_0 f1 f2]; exact c0) (by rw [fe_1 f1 f2]; exact c1) (by rw [fe_2 f1 f2]; exact c2) he (by rw [fe_3 f1 f2]; exact c3) (by rw [fe_4 f1 f2]; exact c4) (by rw [fe_5 f1 f2]; exact c5) he (by rw [fe_6 f1 f2]; exact c6) (by rw [fe_7 f1 f2]; exact c7) (by rw [fe_8 f1 f2]; exact c8) he (by rw [fe_9 f1 f2]; exact c9) (by rw [fe_10 f1 f2]; exact c10), @fd_11 L n rate delay 0 ts es 0 0 _ z z z z z z z z z z z d1 n1 he c0 he c1 he c2 he c3 he c4 he c5 he c6 he c7 he c8 he c9 he c10, c.1⟩
                      | false =>
                        cases c11 : (feq z.1 0 && feq z.2 13821547256400052224) with
                        | true =>
                          have c := (fe_11 f1 f2).trans c11
                          rw [Bool.and_eq_true] at c
                          exact ⟨_, 4598175219545276416, 3, 0, @fp_12 L n rate delay 0 ts es 0 0 _ z z z z p1 n1 he (by rw [fe_0 f1 f2]; exact c0) (by rw [fe_1 f1 f2]; exact c1) (by rw [fe_2 f1 f2]; exact c2) he (by rw [fe_3 f1 f2]; exact c3) (by rw [fe_4 f1 f2]; exact c4) (by rw [fe_5 f1 f2]; exact c5) he (by rw [fe_6 f1 f2]; exact c6) (by rw [fe_7 f1 f2]; exact c7) (by rw [fe_8 f1 f2]; exact c8) he (by rw [fe_9 f1 f2]; exact c9) (by rw [fe_10 f1 f2]; exact c10) (by rw [fe_11 f1 f2]; exact c11), @fd_12 L n rate delay 0 ts es 0 0 _ z z z z z z z z z z z z d1 n1 he c0 he c1 he c2 he c3 he c4 he c5 he c6 he c7 he c8 he c9 he c10 he c11, c.1⟩
                        | false =>
                          exact ⟨0, 0, 0, 6, @fp_13 L n rate delay 0 ts es 0 0 _ z z z z p1 n1 he (by rw [fe_0 f1 f2]; exact c0) (by rw [fe_1 f1 f2]; exact c1) (by rw [fe_2 f1 f2]; exact c2) he (by rw [fe_3 f1 f2]; exact c3) (by rw [fe_4 f1 f2]; exact c4) (by rw [fe_5 f1 f2]; exact c5) he (by rw [fe_6 f1 f2]; exact c6) (by rw [fe_7 f1 f2]; exact c7) (by rw [fe_8 f1 f2]; exact c8) he (by rw [fe_9 f1 f2]; exact c9) (by rw [fe_10 f1 f2]; exact c10) (by rw [fe_11 f1 f2]; exact c11), @fd_13 L n rate delay 0 ts es 0 0 _ z z z z z z z z z z z z d1 n1 he c0 he c1 he c2 he c3 he c4 he c5 he c6 he c7 he c8 he c9 he c10 he c11, by decide⟩
end Go.Proofs.Ytnphdnokedhhkaa.Fw
