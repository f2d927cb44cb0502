/- math.Ldexp: paths, printed by a program of ours. | math.Ldexp: the bits, and what comes of them. | To the nearest whole number: by the machine's way, and by floor and the rest. Plain law of floats. | The nearest step of a grid: the machine's rounding, and floor with the rest. On the grid, or not. | The nearest step of 2^-12 of a number within the edge: both ways the same; on the grid. | math.Ldexp: six or twelve places more, exactly, of every number that is not too great; strait.of. | the document's Plain, size, Times: paths, printed by a program of ours. | Several functions spoken for at one level; loops by an invariant; lists. | strait.of is the document's Plain; both and size spoken for. | taps (the program's and the document's), numbers, samePoints: paths, printed by a program of ours. | taps: the program's and the document's answer are the same; spoken for. | taps spoken for, the program's and the document's. | strait.Check and the document's Check: paths, printed by a program of ours. | Check spoken for, the program's and the document's; Times and alike, too. | lay (called by Join and by Pass), through, numbers, samePoints: paths, printed by a program of ours. | lay and through add the same products in the same order; numbers; samePoints. | what comes of a filter: sums on the grid of 2^-12, exact; no program in sight. | the closure of plain, Rows: paths, printed by a program of ours. | the closure of plain, spoken for. | plain (ContainsFunc, IndexFunc): paths, printed by a program of ours. | plain and Rows: both say whether all points are plain; spoken for. | lay (called by Pass), through, with plain and Rows spoken for: paths, printed by a program of ours. | lay and through once more, with plain and Rows spoken for. -/
import Derived.Test.YtnphdnokedhhkaaFwY
import Derived.Test.YtnphdnokedhhkaaFwAbs
import Derived.Test.YtnphdnokedhhkaaFwW
import Derived.Test.YtnphdnokedhhkaaFwGr
import Derived.KernelRfl
set_option maxRecDepth 100000
set_option maxHeartbeats 4000000
set_option linter.unusedSimpArgs false
set_option linter.unusedVariables false
set_option exponentiation.threshold 4000
namespace Go.Proofs.Ytnphdnokedhhkaa.Fw
open Go Go.RowKit
abbrev HLwLdAspecAbs (L n : Nat) : Con → Prop := Con.holds ⟨fnOf, specAbs, L⟩ (runF ⟨fnOf, specAbs, L⟩ n)
theorem hnLwLdA {P : Prog} {C : Caller} : Holds P C [] := trivial
theorem hcLwLdA {P : Prog} {C : Caller} {c : Con} {cs : List Con} (h : c.holds P C) (t : Holds P C cs) : Holds P C (c :: cs) := ⟨h, t⟩
theorem hbLwLdA {P : Prog} {C : Caller} {x y : Bool} {cs : List Con} (h : x = y) (t : Holds P C cs) : Holds P C (.b x y :: cs) := ⟨h, t⟩

theorem lxd_0 {L n : Nat} {x : Nat} {k : Int} {e : Int} {b w : Nat} {y10 : Nat} (h0 : HLwLdAspecAbs L n (.call 75 [(.flt (x)), (.v (.int .i64 (k)))] (.flt (y10)))) : den ⟨fnOf, specAbs, L⟩ (n+1) 64 [.flt x, .int .i64 k] = some (.flt (y10)) :=
  denD_sound (q := [((some 10), (Dec.call (.flt (y10))))]) (by kernel_rfl) (hcLwLdA h0 hnLwLdA)
theorem lnm_0 {L n : Nat} {x : Nat} {k : Int} {e : Int} {b w : Nat} (h0 : (flt (absF x) 4503599627370496) = true) : den ⟨fnOf, specAbs, L⟩ (n+1) 81 [.flt x] = some (.tup [(.flt (fmul x 4841369599423283200)), (.v (.int .i64 (-52)))]) :=
  denD_sound (q := [((some 6), (Dec.b true))]) (by kernel_rfl) (hbLwLdA h0 hnLwLdA)
theorem lnm_1 {L n : Nat} {x : Nat} {k : Int} {e : Int} {b w : Nat} (h0 : (flt (absF x) 4503599627370496) = false) : den ⟨fnOf, specAbs, L⟩ (n+1) 81 [.flt x] = some (.tup [(.flt (x)), (.v (.int .i64 0))]) :=
  denD_sound (q := [((some 6), (Dec.b false))]) (by kernel_rfl) (hbLwLdA h0 hnLwLdA)
theorem lna_0 {L n : Nat} {x : Nat} {k : Int} {e : Int} {b w : Nat}  : den ⟨fnOf, specAbs, L⟩ (n+1) 78 [.flt x] = some (.v (.bool (!feq x x))) :=
  denD_sound (q := []) (by kernel_rfl) hnLwLdA
theorem lin_0 {L n : Nat} {x : Nat} {k : Int} {e : Int} {b w : Nat}  : den ⟨fnOf, specAbs, L⟩ (n+1) 79 [.flt x, .int .i64 0] = some (.v (.bool (fgt (absF x) 9218868437227405311))) :=
  denD_sound (q := []) (by kernel_rfl) hnLwLdA
theorem lx_0 {L n : Nat} {x : Nat} {k : Int} {e : Int} {b w : Nat} (h0 : (feq x 0) = true) : den ⟨fnOf, specAbs, L⟩ (n+1) 75 [.flt x, .int .i64 k] = some (.flt (x)) :=
  denD_sound (q := [((some 8), (Dec.b true))]) (by kernel_rfl) (hbLwLdA h0 hnLwLdA)
theorem lx_1 {L n : Nat} {x : Nat} {k : Int} {e : Int} {b w : Nat} {c14 : Bool} (h0 : (feq x 0) = false) (h1 : HLwLdAspecAbs L n (.call 79 [(.flt (x)), (.v (.int .i64 0))] (.v (.bool (c14))))) (h2 : (c14) = true) : den ⟨fnOf, specAbs, L⟩ (n+1) 75 [.flt x, .int .i64 k] = some (.flt (x)) :=
  denD_sound (q := [((some 8), (Dec.b false)), ((some 14), (Dec.call (.v (.bool (c14))))), ((some 15), (Dec.b true))]) (by kernel_rfl) (hbLwLdA h0 (hcLwLdA h1 (hbLwLdA h2 hnLwLdA)))
theorem lx_2 {L n : Nat} {x : Nat} {k : Int} {e : Int} {b w : Nat} {c14 : Bool} {c17 : Bool} (h0 : (feq x 0) = false) (h1 : HLwLdAspecAbs L n (.call 79 [(.flt (x)), (.v (.int .i64 0))] (.v (.bool (c14))))) (h2 : (c14) = false) (h3 : HLwLdAspecAbs L n (.call 78 [(.flt (x))] (.v (.bool (c17))))) (h4 : (c17) = true) : den ⟨fnOf, specAbs, L⟩ (n+1) 75 [.flt x, .int .i64 k] = some (.flt (x)) :=
  denD_sound (q := [((some 8), (Dec.b false)), ((some 14), (Dec.call (.v (.bool (c14))))), ((some 15), (Dec.b false)), ((some 17), (Dec.call (.v (.bool (c17))))), ((some 12), (Dec.b true))]) (by kernel_rfl) (hbLwLdA h0 (hcLwLdA h1 (hbLwLdA h2 (hcLwLdA h3 (hbLwLdA h4 hnLwLdA)))))
theorem lx_4 {L n : Nat} {x : Nat} {k : Int} {e : Int} {b w : Nat} {c14 : Bool} {c17 : Bool} {y22 : Nat} {e22 : Int} {y45 : Nat} (h0 : (feq x 0) = false) (h1 : HLwLdAspecAbs L n (.call 79 [(.flt (x)), (.v (.int .i64 0))] (.v (.bool (c14))))) (h2 : (c14) = false) (h3 : HLwLdAspecAbs L n (.call 78 [(.flt (x))] (.v (.bool (c17))))) (h4 : (c17) = false) (h5 : HLwLdAspecAbs L n (.call 81 [(.flt (x))] (.tup [(.flt (y22)), (.v (.int .i64 (e22)))]))) (h6 : HLwLdAspecAbs L n (.any 0 [23] (MO.mk (some 29) (MOp.extern ExtK.bits [(Opd.t 28)]) none []) [(28, (.flt (y22)))] [] (.v (.int .u64 ((↑b : Int)))) [])) (h7 : (decide (IntKind.wrap .i64 (IntKind.wrap .i64 (k + e22) + IntKind.wrap .i64 (IntKind.wrap .i64 (↑(BitVec.ofInt 64 (IntKind.wrap .i64 ((↑b : Int).fdiv (2 ^ 52))) &&& BitVec.ofInt 64 (2047)).toNat : Int) - 1023)) < -1075)) = false) (h8 : (decide (IntKind.wrap .i64 (IntKind.wrap .i64 (k + e22) + IntKind.wrap .i64 (IntKind.wrap .i64 (↑(BitVec.ofInt 64 (IntKind.wrap .i64 ((↑b : Int).fdiv (2 ^ 52))) &&& BitVec.ofInt 64 (2047)).toNat : Int) - 1023)) > 1023)) = true) (h9 : (flt y22 0) = true) (h10 : HLwLdAspecAbs L n (.call 83 [(.v (.int .i64 (-1)))] (.flt (y45)))) : den ⟨fnOf, specAbs, L⟩ (n+1) 75 [.flt x, .int .i64 k] = some (.flt (y45)) :=
  denD_sound (q := [((some 8), (Dec.b false)), ((some 14), (Dec.call (.v (.bool (c14))))), ((some 15), (Dec.b false)), ((some 17), (Dec.call (.v (.bool (c17))))), ((some 12), (Dec.b false)), ((some 22), (Dec.call (.tup [(.flt (y22)), (.v (.int .i64 (e22)))]))), ((some 29), (Dec.any (.v (.int .u64 ((↑b : Int)))) [])), ((some 38), (Dec.b false)), ((some 42), (Dec.b true)), ((some 44), (Dec.b true)), ((some 45), (Dec.call (.flt (y45))))]) (by kernel_rfl) (hbLwLdA h0 (hcLwLdA h1 (hbLwLdA h2 (hcLwLdA h3 (hbLwLdA h4 (hcLwLdA h5 (hcLwLdA h6 (hbLwLdA h7 (hbLwLdA h8 (hbLwLdA h9 (hcLwLdA h10 hnLwLdA)))))))))))
theorem lx_5 {L n : Nat} {x : Nat} {k : Int} {e : Int} {b w : Nat} {c14 : Bool} {c17 : Bool} {y22 : Nat} {e22 : Int} {y46 : Nat} (h0 : (feq x 0) = false) (h1 : HLwLdAspecAbs L n (.call 79 [(.flt (x)), (.v (.int .i64 0))] (.v (.bool (c14))))) (h2 : (c14) = false) (h3 : HLwLdAspecAbs L n (.call 78 [(.flt (x))] (.v (.bool (c17))))) (h4 : (c17) = false) (h5 : HLwLdAspecAbs L n (.call 81 [(.flt (x))] (.tup [(.flt (y22)), (.v (.int .i64 (e22)))]))) (h6 : HLwLdAspecAbs L n (.any 0 [23] (MO.mk (some 29) (MOp.extern ExtK.bits [(Opd.t 28)]) none []) [(28, (.flt (y22)))] [] (.v (.int .u64 ((↑b : Int)))) [])) (h7 : (decide (IntKind.wrap .i64 (IntKind.wrap .i64 (k + e22) + IntKind.wrap .i64 (IntKind.wrap .i64 (↑(BitVec.ofInt 64 (IntKind.wrap .i64 ((↑b : Int).fdiv (2 ^ 52))) &&& BitVec.ofInt 64 (2047)).toNat : Int) - 1023)) < -1075)) = false) (h8 : (decide (IntKind.wrap .i64 (IntKind.wrap .i64 (k + e22) + IntKind.wrap .i64 (IntKind.wrap .i64 (↑(BitVec.ofInt 64 (IntKind.wrap .i64 ((↑b : Int).fdiv (2 ^ 52))) &&& BitVec.ofInt 64 (2047)).toNat : Int) - 1023)) > 1023)) = true) (h9 : (flt y22 0) = false) (h10 : HLwLdAspecAbs L n (.call 83 [(.v (.int .i64 1))] (.flt (y46)))) : den ⟨fnOf, specAbs, L⟩ (n+1) 75 [.flt x, .int .i64 k] = some (.flt (y46)) :=
  denD_sound (q := [((some 8), (Dec.b false)), ((some 14), (Dec.call (.v (.bool (c14))))), ((some 15), (Dec.b false)), ((some 17), (Dec.call (.v (.bool (c17))))), ((some 12), (Dec.b false)), ((some 22), (Dec.call (.tup [(.flt (y22)), (.v (.int .i64 (e22)))]))), ((some 29), (Dec.any (.v (.int .u64 ((↑b : Int)))) [])), ((some 38), (Dec.b false)), ((some 42), (Dec.b true)), ((some 44), (Dec.b false)), ((some 46), (Dec.call (.flt (y46))))]) (by kernel_rfl) (hbLwLdA h0 (hcLwLdA h1 (hbLwLdA h2 (hcLwLdA h3 (hbLwLdA h4 (hcLwLdA h5 (hcLwLdA h6 (hbLwLdA h7 (hbLwLdA h8 (hbLwLdA h9 (hcLwLdA h10 hnLwLdA)))))))))))
theorem lx_6 {L n : Nat} {x : Nat} {k : Int} {e : Int} {b w : Nat} {c14 : Bool} {c17 : Bool} {y22 : Nat} {e22 : Int} (h0 : (feq x 0) = false) (h1 : HLwLdAspecAbs L n (.call 79 [(.flt (x)), (.v (.int .i64 0))] (.v (.bool (c14))))) (h2 : (c14) = false) (h3 : HLwLdAspecAbs L n (.call 78 [(.flt (x))] (.v (.bool (c17))))) (h4 : (c17) = false) (h5 : HLwLdAspecAbs L n (.call 81 [(.flt (x))] (.tup [(.flt (y22)), (.v (.int .i64 (e22)))]))) (h6 : HLwLdAspecAbs L n (.any 0 [23] (MO.mk (some 29) (MOp.extern ExtK.bits [(Opd.t 28)]) none []) [(28, (.flt (y22)))] [] (.v (.int .u64 ((↑b : Int)))) [])) (h7 : (decide (IntKind.wrap .i64 (IntKind.wrap .i64 (k + e22) + IntKind.wrap .i64 (IntKind.wrap .i64 (↑(BitVec.ofInt 64 (IntKind.wrap .i64 ((↑b : Int).fdiv (2 ^ 52))) &&& BitVec.ofInt 64 (2047)).toNat : Int) - 1023)) < -1075)) = false) (h8 : (decide (IntKind.wrap .i64 (IntKind.wrap .i64 (k + e22) + IntKind.wrap .i64 (IntKind.wrap .i64 (↑(BitVec.ofInt 64 (IntKind.wrap .i64 ((↑b : Int).fdiv (2 ^ 52))) &&& BitVec.ofInt 64 (2047)).toNat : Int) - 1023)) > 1023)) = false) (h9 : (decide (IntKind.wrap .i64 (IntKind.wrap .i64 (k + e22) + IntKind.wrap .i64 (IntKind.wrap .i64 (↑(BitVec.ofInt 64 (IntKind.wrap .i64 ((↑b : Int).fdiv (2 ^ 52))) &&& BitVec.ofInt 64 (2047)).toNat : Int) - 1023)) < -1022)) = true) : den ⟨fnOf, specAbs, L⟩ (n+1) 75 [.flt x, .int .i64 k] = some (.flt (fmul 4368491638549381120 (canon (IntKind.wrap .u64 (↑(BitVec.ofInt 64 (IntKind.wrap .u64 (↑(BitVec.ofInt 64 (↑b : Int) &&& ~~~BitVec.ofInt 64 (9218868437227405312)).toNat : Int)) ||| BitVec.ofInt 64 (IntKind.wrap .u64 (IntKind.wrap .u64 (IntKind.wrap .i64 (IntKind.wrap .i64 (IntKind.wrap .i64 (IntKind.wrap .i64 (k + e22) + IntKind.wrap .i64 (IntKind.wrap .i64 (↑(BitVec.ofInt 64 (IntKind.wrap .i64 ((↑b : Int).fdiv (2 ^ 52))) &&& BitVec.ofInt 64 (2047)).toNat : Int) - 1023)) + 53) + 1023)) * 2 ^ 52))).toNat : Int)).toNat))) :=
  denD_sound (q := [((some 8), (Dec.b false)), ((some 14), (Dec.call (.v (.bool (c14))))), ((some 15), (Dec.b false)), ((some 17), (Dec.call (.v (.bool (c17))))), ((some 12), (Dec.b false)), ((some 22), (Dec.call (.tup [(.flt (y22)), (.v (.int .i64 (e22)))]))), ((some 29), (Dec.any (.v (.int .u64 ((↑b : Int)))) [])), ((some 38), (Dec.b false)), ((some 42), (Dec.b false)), ((some 48), (Dec.b true))]) (by kernel_rfl) (hbLwLdA h0 (hcLwLdA h1 (hbLwLdA h2 (hcLwLdA h3 (hbLwLdA h4 (hcLwLdA h5 (hcLwLdA h6 (hbLwLdA h7 (hbLwLdA h8 (hbLwLdA h9 hnLwLdA))))))))))
theorem lx_7 {L n : Nat} {x : Nat} {k : Int} {e : Int} {b w : Nat} {c14 : Bool} {c17 : Bool} {y22 : Nat} {e22 : Int} (h0 : (feq x 0) = false) (h1 : HLwLdAspecAbs L n (.call 79 [(.flt (x)), (.v (.int .i64 0))] (.v (.bool (c14))))) (h2 : (c14) = false) (h3 : HLwLdAspecAbs L n (.call 78 [(.flt (x))] (.v (.bool (c17))))) (h4 : (c17) = false) (h5 : HLwLdAspecAbs L n (.call 81 [(.flt (x))] (.tup [(.flt (y22)), (.v (.int .i64 (e22)))]))) (h6 : HLwLdAspecAbs L n (.any 0 [23] (MO.mk (some 29) (MOp.extern ExtK.bits [(Opd.t 28)]) none []) [(28, (.flt (y22)))] [] (.v (.int .u64 ((↑b : Int)))) [])) (h7 : (decide (IntKind.wrap .i64 (IntKind.wrap .i64 (k + e22) + IntKind.wrap .i64 (IntKind.wrap .i64 (↑(BitVec.ofInt 64 (IntKind.wrap .i64 ((↑b : Int).fdiv (2 ^ 52))) &&& BitVec.ofInt 64 (2047)).toNat : Int) - 1023)) < -1075)) = false) (h8 : (decide (IntKind.wrap .i64 (IntKind.wrap .i64 (k + e22) + IntKind.wrap .i64 (IntKind.wrap .i64 (↑(BitVec.ofInt 64 (IntKind.wrap .i64 ((↑b : Int).fdiv (2 ^ 52))) &&& BitVec.ofInt 64 (2047)).toNat : Int) - 1023)) > 1023)) = false) (h9 : (decide (IntKind.wrap .i64 (IntKind.wrap .i64 (k + e22) + IntKind.wrap .i64 (IntKind.wrap .i64 (↑(BitVec.ofInt 64 (IntKind.wrap .i64 ((↑b : Int).fdiv (2 ^ 52))) &&& BitVec.ofInt 64 (2047)).toNat : Int) - 1023)) < -1022)) = false) : den ⟨fnOf, specAbs, L⟩ (n+1) 75 [.flt x, .int .i64 k] = some (.flt (fmul 4607182418800017408 (canon (IntKind.wrap .u64 (↑(BitVec.ofInt 64 (IntKind.wrap .u64 (↑(BitVec.ofInt 64 (↑b : Int) &&& ~~~BitVec.ofInt 64 (9218868437227405312)).toNat : Int)) ||| BitVec.ofInt 64 (IntKind.wrap .u64 (IntKind.wrap .u64 (IntKind.wrap .i64 (IntKind.wrap .i64 (IntKind.wrap .i64 (k + e22) + IntKind.wrap .i64 (IntKind.wrap .i64 (↑(BitVec.ofInt 64 (IntKind.wrap .i64 ((↑b : Int).fdiv (2 ^ 52))) &&& BitVec.ofInt 64 (2047)).toNat : Int) - 1023)) + 1023)) * 2 ^ 52))).toNat : Int)).toNat))) :=
  denD_sound (q := [((some 8), (Dec.b false)), ((some 14), (Dec.call (.v (.bool (c14))))), ((some 15), (Dec.b false)), ((some 17), (Dec.call (.v (.bool (c17))))), ((some 12), (Dec.b false)), ((some 22), (Dec.call (.tup [(.flt (y22)), (.v (.int .i64 (e22)))]))), ((some 29), (Dec.any (.v (.int .u64 ((↑b : Int)))) [])), ((some 38), (Dec.b false)), ((some 42), (Dec.b false)), ((some 48), (Dec.b false))]) (by kernel_rfl) (hbLwLdA h0 (hcLwLdA h1 (hbLwLdA h2 (hcLwLdA h3 (hbLwLdA h4 (hcLwLdA h5 (hcLwLdA h6 (hbLwLdA h7 (hbLwLdA h8 (hbLwLdA h9 hnLwLdA))))))))))
theorem linf_0 {L n : Nat}  : den ⟨fnOf, specAbs, L⟩ (n+1) 83 [.int .i64 1] = some (.flt 9218868437227405312) :=
  denD_sound (q := []) (by kernel_rfl) hnLwLdA
theorem lninf_0 {L n : Nat}  : den ⟨fnOf, specAbs, L⟩ (n+1) 83 [.int .i64 (-1)] = some (.flt 18442240474082181120) :=
  denD_sound (q := []) (by kernel_rfl) hnLwLdA
theorem pof_0 {L n x y m : Nat} {k : Int} {y10 : Nat} {y17 : Nat} (h0 : HLwLdAspecAbs L n (.call 64 [(.flt (x)), (.v (.int .i64 (k)))] (.flt (y10)))) (h1 : (fle (absF x) m) = true) (h2 : HLwLdAspecAbs L n (.call 65 [(.flt (y10))] (.flt (y17)))) : den ⟨fnOf, specAbs, L⟩ (n+1) 51 [.flt x, .int .i64 k, .flt m] = some (.v (.bool (feq y17 y10))) :=
  denD_sound (q := [((some 10), (Dec.call (.flt (y10)))), ((some 15), (Dec.b true)), ((some 17), (Dec.call (.flt (y17))))]) (by kernel_rfl) (hcLwLdA h0 (hbLwLdA h1 (hcLwLdA h2 hnLwLdA)))
theorem pof_1 {L n x y m : Nat} {k : Int} {y10 : Nat} (h0 : HLwLdAspecAbs L n (.call 64 [(.flt (x)), (.v (.int .i64 (k)))] (.flt (y10)))) (h1 : (fle (absF x) m) = false) : den ⟨fnOf, specAbs, L⟩ (n+1) 51 [.flt x, .int .i64 k, .flt m] = some (.v (.bool false)) :=
  denD_sound (q := [((some 10), (Dec.call (.flt (y10)))), ((some 15), (Dec.b false))]) (by kernel_rfl) (hcLwLdA h0 (hbLwLdA h1 hnLwLdA))
theorem ptr_0 {L n y : Nat}  : den ⟨fnOf, specAbs, L⟩ (n+1) 65 [.flt y] = some (.flt (fint Ieee.Toward.zero y)) :=
  denD_sound (q := []) (by kernel_rfl) hnLwLdA
end Go.Proofs.Ytnphdnokedhhkaa.Fw
namespace Go.Proofs.Ytnphdnokedhhkaa.Fw
open Go Go.RowKit
theorem wrapU {n : Int} (h0 : 0 ≤ n) (h1 : n < 18446744073709551616) : IntKind.wrap .u64 n = n := by
  simp [IntKind.wrap, IntKind.signed, IntKind.bits]; omega
theorem wrap_mod (z : Int) : IntKind.wrap .i64 z % 18446744073709551616 = z % 18446744073709551616 := by
  simp [IntKind.wrap, IntKind.signed, IntKind.bits]; split <;> omega
theorem fdiv52 (b : Nat) : (b : Int).fdiv (2 ^ 52) = ((b / 2 ^ 52 : Nat) : Int) := by
  rw [Int.fdiv_eq_ediv_of_nonneg _ (by decide)]; rfl
theorem exp_bits (b : Nat) : ((BitVec.ofInt 64 (IntKind.wrap .i64 ((b : Int).fdiv (2 ^ 52))) &&& BitVec.ofInt 64 (2047)).toNat : Int) = ((b / 2 ^ 52 % 2048 : Nat) : Int) := by
  have e2 : BitVec.ofInt 64 2047 = BitVec.ofNat 64 (2 ^ 11 - 1) := by decide
  rw [e2, BitVec.toNat_and, BitVec.toNat_ofNat, BitVec.toNat_ofInt, show (2 ^ 11 - 1) % 2 ^ 64 = 2 ^ 11 - 1 by decide, Nat.and_two_pow_sub_one_eq_mod, fdiv52]
  have h := wrap_mod ((b / 2 ^ 52 : Nat) : Int)
  have e : ((2 ^ 64 : Nat) : Int) = 18446744073709551616 := by decide
  rw [e, h]
  omega
theorem and_top (x : Nat) : x &&& 2 ^ 63 = 2 ^ 63 * (x / 2 ^ 63 % 2) := by
  have h1 : (x &&& 2 ^ 63) / 2 ^ 63 = x / 2 ^ 63 % 2 := by rw [Nat.and_div_two_pow, Nat.div_self (by decide), Nat.and_one_is_mod]
  have h2 : (x &&& 2 ^ 63) % 2 ^ 63 = 0 := by rw [Nat.and_mod_two_pow, Nat.mod_self, Nat.and_zero]
  have h3 := Nat.div_add_mod (x &&& 2 ^ 63) (2 ^ 63)
  rw [h1, h2, Nat.add_zero] at h3
  exact h3.symm
theorem and_bits (b : Nat) : ((BitVec.ofInt 64 (b : Int) &&& ~~~BitVec.ofInt 64 (9218868437227405312)).toNat : Int) = ((2 ^ 63 * (b / 2 ^ 63 % 2) + b % 2 ^ 52 : Nat) : Int) := by
  have e1 : BitVec.ofInt 64 (b : Int) = BitVec.ofNat 64 b := by simp
  have e2 : ~~~(BitVec.ofInt 64 9218868437227405312) = BitVec.ofNat 64 (2 ^ 63 + (2 ^ 52 - 1)) := by decide
  rw [e1, e2, BitVec.toNat_and, BitVec.toNat_ofNat, BitVec.toNat_ofNat, show (2 ^ 63 + (2 ^ 52 - 1)) % 2 ^ 64 = 2 ^ 63 ||| (2 ^ 52 - 1) by decide, Nat.and_or_distrib_left, Nat.and_two_pow_sub_one_eq_mod, and_top]
  have h1 : b % 2 ^ 64 % 2 ^ 52 = b % 2 ^ 52 := by omega
  have h2 : b % 2 ^ 64 / 2 ^ 63 % 2 = b / 2 ^ 63 % 2 := by omega
  rw [h1, h2, ← Nat.two_pow_add_eq_or_of_lt (by omega)]
theorem or_bits {s F E : Nat} (hs : s < 2) (hF : F < 2 ^ 52) (hE : E < 2048) : ((BitVec.ofInt 64 ((2 ^ 63 * s + F : Nat) : Int) ||| BitVec.ofInt 64 ((E * 2 ^ 52 : Nat) : Int)).toNat : Int) = ((2 ^ 63 * s + (2 ^ 52 * E + F) : Nat) : Int) := by
  have e1 : ∀ b : Nat, BitVec.ofInt 64 (b : Int) = BitVec.ofNat 64 b := fun b => by simp
  rw [e1, e1, BitVec.toNat_or, BitVec.toNat_ofNat, BitVec.toNat_ofNat, Nat.mod_eq_of_lt (by omega), Nat.mod_eq_of_lt (by omega), Nat.two_pow_add_eq_or_of_lt (by omega), Nat.or_assoc, Nat.or_comm F, Nat.mul_comm E, ← Nat.two_pow_add_eq_or_of_lt hF, ← Nat.two_pow_add_eq_or_of_lt (by omega)]
/-- a word's parts read back -/
theorem read_parts {s E F : Nat} (hs : s < 2) (hF : F < 2 ^ 52) (h1 : 1 ≤ E) (h2 : E ≤ 2046) : Ieee.double.read (2 ^ 63 * s + (2 ^ 52 * E + F)) = .number (s == 1) (2 ^ 52 + F) (-1075 + (E : Int)) := by
  have h := read_norm (s == 1) (q := E - 1) (k := 2 ^ 52 + F) (by omega) (by omega) (by omega)
  have e : Ieee.double.word (s == 1) ((E - 1) * 2 ^ 52 + (2 ^ 52 + F)) = 2 ^ 63 * s + (2 ^ 52 * E + F) := by
    have hw : Ieee.double.signWeight = 2 ^ 63 := by decide
    unfold Ieee.Format.word
    have : s = 0 ∨ s = 1 := by omega
    rcases this with rfl | rfl
    · simp; omega
    · simp [hw]; omega
  rw [e] at h
  rw [h]
  congr 1
  omega
theorem read_low64 (y : Nat) : Ieee.double.read y = Ieee.double.read (2 ^ 63 * (y / 2 ^ 63 % 2) + (2 ^ 52 * (y / 2 ^ 52 % 2048) + y % 2 ^ 52)) := by
  have hs : Ieee.double.signWeight = 2 ^ 63 := by decide
  have e1 : (2 ^ 63 * (y / 2 ^ 63 % 2) + (2 ^ 52 * (y / 2 ^ 52 % 2048) + y % 2 ^ 52)) / 2 ^ 63 % 2 = y / 2 ^ 63 % 2 := by omega
  have e2 : (2 ^ 63 * (y / 2 ^ 63 % 2) + (2 ^ 52 * (y / 2 ^ 52 % 2048) + y % 2 ^ 52)) % 2 ^ 63 = y % 2 ^ 63 := by omega
  unfold Ieee.Format.read
  simp only [hs, e1, e2]
/-- a number that is not among the least -/
theorem fin_parts {y : Nat} (hy : fin y) (hb : 2 ^ 52 ≤ (fv y).natAbs) : 1 ≤ y / 2 ^ 52 % 2048 ∧ y / 2 ^ 52 % 2048 ≤ 2046 ∧ fv y = Ieee.signed (y / 2 ^ 63 % 2 == 1) (2 ^ 52 + y % 2 ^ 52) (y / 2 ^ 52 % 2048 - 1) := by
  have hs : Ieee.double.signWeight = 2 ^ 63 := by decide
  have hbn : Ieee.double.binade = 2 ^ 52 := by decide
  have hl : Ieee.double.leastPlace = -1074 := by decide
  have hi : Ieee.double.infRung = 2047 * 2 ^ 52 := by decide
  have h2 : y / 2 ^ 52 % 2048 ≤ 2046 := by
    obtain ⟨s, n, i, hr, _⟩ := hy
    rcases Nat.lt_or_ge 2046 (y / 2 ^ 52 % 2048) with h | h
    · exfalso
      unfold Ieee.Format.read at hr
      simp only [hs, hbn, hi] at hr
      rw [if_neg (by omega), if_neg (by omega)] at hr
      split at hr <;> cases hr
    · exact h
  have h1 : 1 ≤ y / 2 ^ 52 % 2048 := by
    rcases Nat.eq_zero_or_pos (y / 2 ^ 52 % 2048) with h | h
    · exfalso
      have hr : Ieee.double.read y = .number (y / 2 ^ 63 % 2 == 1) (y % 2 ^ 52) (-1074) := by
        unfold Ieee.Format.read
        simp only [hs, hbn, hl]
        rw [if_pos (by omega)]
        congr 1
        · omega
      rw [fv_of hr, signed_abs, show ((-1074 : Int) + 1074).toNat = 0 by rfl] at hb
      have := Nat.mod_lt y (show 0 < 2 ^ 52 by decide)
      omega
    · exact h
  refine ⟨h1, h2, ?_⟩
  have hr := read_low64 y
  rw [read_parts (by omega) (by omega) h1 h2] at hr
  rw [fv_of hr]
  congr 1
  omega
/-- a power of two times a number, exact where it fits -/
theorem pow2_mul {a b : Nat} {s : Bool} {m M t : Nat} {i j : Int} (ha : Ieee.double.read a = .number false (2 ^ 52) (j - 52)) (hb : Ieee.double.read b = .number s m i) (hm : m = M * 2 ^ t)
    (hp : -1074 ≤ i + j + t) (hf : fits (M * 2 ^ (i + j + t + 1074).toNat)) : fin (fmul a b) ∧ fv (fmul a b) = Ieee.signed s M (i + j + t + 1074).toNat := by
  unfold fmul Ieee.Format.mul
  rw [ha, hb]
  simp only [Ieee.Datum.product, Option.map_some, cOpt, Ieee.Format.write]
  rw [Nat.mul_comm, nearest_shift, hm, nearest_shift, show j - 52 + i + ((52 : Nat) : Int) + (t : Int) = i + j + t by omega, Bool.false_xor]
  exact write_exact s hp hf
end Go.Proofs.Ytnphdnokedhhkaa.Fw
namespace Go.Proofs.Ytnphdnokedhhkaa.Fw
open Go Go.RowKit
theorem canon_fin {w : Nat} (h : fin w) : canon w = w := by unfold canon; rw [fin_num h]; rfl
theorem nearest_half {mag : Nat} {place : Int} (hp : -1074 ≤ place) (h1 : 2 ^ 1073 ≤ mag * 2 ^ (place + 1074).toNat) (h2 : mag * 2 ^ (place + 1074).toNat < 2 ^ 1074) :
    fin (canon (Ieee.double.nearest false mag place)) ∧ 2 ^ 1073 ≤ fv (canon (Ieee.double.nearest false mag place)) := by
  obtain ⟨p, rfl⟩ : ∃ p : Nat, place = (p : Int) - 1074 := ⟨(place + 1074).toNat, by omega⟩
  rw [show ((p : Int) - 1074 + 1074).toNat = p by omega] at h1 h2
  have hm : mag ≠ 0 := by
    rintro rfl
    rw [Nat.zero_mul] at h1
    have : 0 < 2 ^ 1073 := Nat.pow_pos (by decide)
    omega
  have hlo : 2 ^ mag.log2 ≤ mag := Nat.log2_self_le hm
  have hhi : mag < 2 ^ (mag.log2 + 1) := Nat.lt_log2_self
  have hfr : Ieee.double.fractionBits = 52 := rfl
  have hle : Ieee.double.leastPlace = -1074 := by decide
  have hbi : Ieee.double.binade = 2 ^ 52 := by decide
  have hin : Ieee.double.infRung = 2047 * 2 ^ 52 := by decide
  unfold Ieee.Format.nearest
  rw [if_neg hm]
  simp only [hfr, hle, hbi, hin]
  generalize mag.log2 = l at *
  have hlp : l + p = 1073 := by
    have a : 2 ^ (l + p) < 2 ^ 1074 := by
      rw [Nat.pow_add]; exact Nat.lt_of_le_of_lt (Nat.mul_le_mul_right _ hlo) h2
    have b : 2 ^ 1073 < 2 ^ (l + 1 + p) := by
      rw [Nat.pow_add 2 (l + 1)]; exact Nat.lt_of_le_of_lt h1 (Nat.mul_lt_mul_of_pos_right hhi (Nat.pow_pos (by decide)))
    have a' := (Nat.pow_lt_pow_iff_right (by decide : 1 < 2)).1 a
    have b' := (Nat.pow_lt_pow_iff_right (by decide : 1 < 2)).1 b
    omega
  have e1 : max ((p : Int) - 1074 + (l : Nat) - (52 : Nat)) (-1074) = -53 := by omega
  rw [e1, show (-53 - -1074 : Int).toNat = 1021 by decide, cut_eq]
  have kept : 2 ^ 52 ≤ mag <<< ((p : Int) - 1074 - -53).toNat / 2 ^ (-53 - ((p : Int) - 1074)).toNat ∧ mag <<< ((p : Int) - 1074 - -53).toNat / 2 ^ (-53 - ((p : Int) - 1074)).toNat < 2 ^ 53 := by
    rw [Nat.shiftLeft_eq]
    by_cases hq : 1021 ≤ p
    · rw [show (-53 - ((p : Int) - 1074)).toNat = 0 by omega, Nat.pow_zero, Nat.div_one, show ((p : Int) - 1074 - -53).toNat = p - 1021 by omega]
      constructor
      · calc 2 ^ 52 = 2 ^ l * 2 ^ (p - 1021) := by rw [← Nat.pow_add]; congr 1; omega
          _ ≤ _ := Nat.mul_le_mul_right _ hlo
      · calc mag * 2 ^ (p - 1021) < 2 ^ (l + 1) * 2 ^ (p - 1021) := Nat.mul_lt_mul_of_pos_right hhi (Nat.pow_pos (by decide))
          _ = 2 ^ 53 := by rw [← Nat.pow_add]; congr 1; omega
    · rw [show ((p : Int) - 1074 - -53).toNat = 0 by omega, Nat.pow_zero, Nat.mul_one, show (-53 - ((p : Int) - 1074)).toNat = 1021 - p by omega]
      constructor
      · rw [Nat.le_div_iff_mul_le (Nat.pow_pos (by decide)), ← Nat.pow_add, show 52 + (1021 - p) = l by omega]
        exact hlo
      · rw [Nat.div_lt_iff_lt_mul (Nat.pow_pos (by decide)), ← Nat.pow_add, show 53 + (1021 - p) = l + 1 by omega]
        exact hhi
  generalize mag <<< ((p : Int) - 1074 - -53).toNat / 2 ^ (-53 - ((p : Int) - 1074)).toNat = q at kept ⊢
  obtain ⟨c, hc, hc1⟩ : ∃ c : Nat, (oneMore .even false (mag <<< ((p : Int) - 1074 - -53).toNat) (2 ^ (-53 - ((p : Int) - 1074)).toNat)).toNat = c ∧ c ≤ 1 := ⟨_, rfl, by cases oneMore .even false (mag <<< ((p : Int) - 1074 - -53).toNat) (2 ^ (-53 - ((p : Int) - 1074)).toNat) <;> decide⟩
  rw [hc, Nat.min_eq_left (by omega)]
  have fin' : ∀ {w n : Nat} {i : Int}, Ieee.double.read w = .number false n i → -1074 ≤ i → 2 ^ 1073 ≤ n * 2 ^ (i + 1074).toNat → fin (canon w) ∧ 2 ^ 1073 ≤ fv (canon w) := by
    intro w n i hr hi hv
    have hf : fin w := ⟨_, _, _, hr, hi⟩
    rw [canon_fin hf]
    refine ⟨hf, ?_⟩
    rw [fv_of hr]
    unfold Ieee.signed
    rw [if_neg (by decide), Nat.shiftLeft_eq]
    have e : (2 : Int) ^ 1073 = ((2 ^ 1073 : Nat) : Int) := by rw [Int.natCast_pow]; rfl
    rw [e]
    exact Int.ofNat_le.2 hv
  have p1021 : (-1074 + ((1021 : Nat) : Int) + 1074).toNat = 1021 := by decide
  have p1022 : (-1074 + ((1022 : Nat) : Int) + 1074).toNat = 1022 := by decide
  by_cases hq : q + c < 2 ^ 53
  · refine fin' (read_norm false (q := 1021) (k := q + c) (by omega) hq (by decide)) (by decide) ?_
    rw [p1021, show 1073 = 52 + 1021 from rfl, Nat.pow_add]
    exact Nat.mul_le_mul_right _ (by omega)
  · have e2 : 1021 * 2 ^ 52 + (q + c) = 1022 * 2 ^ 52 + 2 ^ 52 := by omega
    rw [e2]
    refine fin' (read_norm false (q := 1022) (k := 2 ^ 52) (by decide) (by decide) (by decide)) (by decide) ?_
    rw [p1022, ← Nat.pow_add]
    exact Nat.pow_le_pow_right (by decide) (by decide)
/-- the rest below a whole number fits -/
theorem fits_mod {m k : Nat} (hm : m < 2 ^ 53) : fits (m * 2 ^ k % 2 ^ 1074) := by
  have hb : m * 2 ^ k % 2 ^ 1074 < 2 ^ 1074 := Nat.mod_lt _ (Nat.pow_pos (by decide))
  have hb2 : m * 2 ^ k % 2 ^ 1074 < 2 ^ 2098 := Nat.lt_trans hb (Nat.pow_lt_pow_right (by decide) (by decide))
  by_cases hk : 1074 ≤ k
  · have e : m * 2 ^ k % 2 ^ 1074 = 0 := by
      rw [show k = (k - 1074) + 1074 by omega, Nat.pow_add, ← Nat.mul_assoc]
      exact Nat.mul_mod_left _ _
    rw [e]; exact fits_zero
  · refine ⟨⟨m % 2 ^ (1074 - k), k, Nat.lt_of_le_of_lt (Nat.mod_le _ _) hm, ?_⟩, hb2⟩
    rw [show 2 ^ 1074 = 2 ^ (1074 - k) * 2 ^ k by rw [← Nat.pow_add]; congr 1; omega]
    exact Nat.mul_mod_mul_right _ _ _
theorem fits_rest {m k : Nat} (hm : m < 2 ^ 53) (hr : m * 2 ^ k % 2 ^ 1074 ≠ 0) (hbig : 2 ^ 1073 < m * 2 ^ k) : fits (2 ^ 1074 - m * 2 ^ k % 2 ^ 1074) := by
  have hb2 : 2 ^ 1074 - m * 2 ^ k % 2 ^ 1074 < 2 ^ 2098 := Nat.lt_of_le_of_lt (Nat.sub_le _ _) (Nat.pow_lt_pow_right (by decide) (by decide))
  have hk : k < 1074 := by
    rcases Nat.lt_or_ge k 1074 with h | h
    · exact h
    · exfalso; apply hr
      rw [show k = (k - 1074) + 1074 by omega, Nat.pow_add, ← Nat.mul_assoc]
      exact Nat.mul_mod_left _ _
  have hk2 : 1021 ≤ k := by
    rcases Nat.lt_or_ge k 1021 with h | h
    · exfalso
      have : m * 2 ^ k < 2 ^ 53 * 2 ^ 1020 := Nat.mul_lt_mul_of_lt_of_le hm (Nat.pow_le_pow_right (by decide) (by omega)) (Nat.pow_pos (by decide))
      rw [← Nat.pow_add] at this
      exact Nat.lt_asymm hbig this
    · exact h
  have e : 2 ^ 1074 = 2 ^ (1074 - k) * 2 ^ k := by rw [← Nat.pow_add]; congr 1; omega
  have e2 : m * 2 ^ k % 2 ^ 1074 = m % 2 ^ (1074 - k) * 2 ^ k := by rw [e]; exact Nat.mul_mod_mul_right _ _ _
  have hpos : 0 < m % 2 ^ (1074 - k) := by
    rcases Nat.eq_zero_or_pos (m % 2 ^ (1074 - k)) with h | h
    · rw [e2, h, Nat.zero_mul] at hr; exact absurd rfl hr
    · exact h
  refine ⟨⟨2 ^ (1074 - k) - m % 2 ^ (1074 - k), k, ?_, ?_⟩, hb2⟩
  · have : 2 ^ (1074 - k) ≤ 2 ^ 53 := Nat.pow_le_pow_right (by decide) (by omega)
    have : m % 2 ^ (1074 - k) ≤ 2 ^ (1074 - k) := Nat.le_of_lt (Nat.mod_lt _ (Nat.pow_pos (by decide)))
    omega
  · rw [e2, Nat.sub_mul, ← e]
/-- whole numbers about a number: truncated, below, the rest; round to even -/
theorem int_parts (N g : Nat) (hg : 0 < g) : ((N : Int) / (g : Int) = ((N / g : Nat) : Int) ∧ (N : Int) % (g : Int) = ((N % g : Nat) : Int) ∧ (N : Int).tdiv (g : Int) = ((N / g : Nat) : Int)) ∧
    ((-(N : Int)) / (g : Int) = (if N % g = 0 then -((N / g : Nat) : Int) else -((N / g : Nat) : Int) - 1) ∧ (-(N : Int)) % (g : Int) = (if N % g = 0 then 0 else (g : Int) - ((N % g : Nat) : Int)) ∧ (-(N : Int)).tdiv (g : Int) = -((N / g : Nat) : Int)) := by
  refine ⟨⟨rfl, rfl, rfl⟩, ?_⟩
  have hd := Nat.div_add_mod N g
  have hl := Nat.mod_lt N hg
  have key : (-(N : Int)) / (g : Int) = (if N % g = 0 then -((N / g : Nat) : Int) else -((N / g : Nat) : Int) - 1) ∧ (-(N : Int)) % (g : Int) = (if N % g = 0 then 0 else (g : Int) - ((N % g : Nat) : Int)) := by
    rw [Int.ediv_emod_unique (by omega)]
    have hc : (N : Int) = (g : Int) * ((N / g : Nat) : Int) + ((N % g : Nat) : Int) := by rw [← Int.natCast_mul]; omega
    split
    · rename_i h0
      rw [h0] at hc
      refine ⟨?_, by omega, by omega⟩
      rw [Int.mul_neg]; omega
    · refine ⟨?_, by omega, by omega⟩
      rw [Int.mul_sub, Int.mul_neg, Int.mul_one]; omega
  exact ⟨key.1, key.2, by rw [Int.neg_tdiv]; rfl⟩
def halfUp (V : Int) : Bool := decide ((2 : Int) ^ 1074 < 2 * (V % 2 ^ 1074)) || (decide ((2 : Int) ^ 1074 = 2 * (V % 2 ^ 1074)) && decide (V / 2 ^ 1074 % 2 ≠ 0))
/-- rounded to even: the whole number below, and one more? -/
theorem even_int (V : Int) {W : Int} (h1 : W.natAbs = rne V.natAbs (2 ^ 1074) * 2 ^ 1074) (h2 : 0 ≤ V → 0 ≤ W) (h3 : V ≤ 0 → W ≤ 0) : W = (V / 2 ^ 1074 + (halfUp V).toNat) * 2 ^ 1074 := by
  unfold halfUp
  unfold rne at h1
  have hG : (2 : Int) ^ 1074 = ((2 ^ 1074 : Nat) : Int) := by rw [Int.natCast_pow]; rfl
  rw [hG]
  have hg : 0 < 2 ^ 1074 := Nat.pow_pos (by decide)
  have hg2 : 2 ^ 1074 = 2 * 2 ^ 1073 := by rw [show 1074 = 1073 + 1 from rfl, Nat.pow_succ, Nat.mul_comm]
  generalize 2 ^ 1073 = hh at hg2
  generalize 2 ^ 1074 = g at *
  clear hG
  rcases Int.le_total 0 V with hv | hv
  · obtain ⟨N, rfl⟩ : ∃ N : Nat, V = (N : Int) := ⟨V.toNat, by omega⟩
    obtain ⟨⟨a, b, _⟩, _⟩ := int_parts N g hg
    rw [a, b]
    have hw := h2 hv
    rw [Int.natAbs_natCast] at h1
    have e : (decide (g < 2 * (N % g)) || (g == 2 * (N % g) && N / g % 2 == 1)) = (decide ((g : Int) < 2 * ((N % g : Nat) : Int)) || (decide ((g : Int) = 2 * ((N % g : Nat) : Int)) && decide (((N / g : Nat) : Int) % 2 ≠ 0))) := by
      rw [Bool.eq_iff_iff]
      simp only [Bool.or_eq_true, Bool.and_eq_true, decide_eq_true_eq, beq_iff_eq]
      omega
    rw [e] at h1
    generalize (decide ((g : Int) < 2 * ((N % g : Nat) : Int)) || (decide ((g : Int) = 2 * ((N % g : Nat) : Int)) && decide (((N / g : Nat) : Int) % 2 ≠ 0))).toNat = c at h1 ⊢
    rw [← Int.natCast_add, ← Int.natCast_mul, ← h1]
    omega
  · obtain ⟨N, rfl⟩ : ∃ N : Nat, V = -(N : Int) := ⟨V.natAbs, by omega⟩
    obtain ⟨_, a, b, _⟩ := int_parts N g hg
    rw [a, b]
    have hw := h3 hv
    rw [Int.natAbs_neg, Int.natAbs_natCast] at h1
    have hl := Nat.mod_lt N hg
    have e : (((if N % g = 0 then -((N / g : Nat) : Int) else -((N / g : Nat) : Int) - 1) + (((decide ((g : Int) < 2 * (if N % g = 0 then 0 else (g : Int) - ((N % g : Nat) : Int)))) || (decide ((g : Int) = 2 * (if N % g = 0 then 0 else (g : Int) - ((N % g : Nat) : Int))) && decide ((if N % g = 0 then -((N / g : Nat) : Int) else -((N / g : Nat) : Int) - 1) % 2 ≠ 0))).toNat : Int))) = -((N / g + (decide (g < 2 * (N % g)) || (g == 2 * (N % g) && N / g % 2 == 1)).toNat : Nat) : Int) := by
      generalize N % g = m at *
      generalize N / g = q at *
      by_cases hm : m = 0
      · subst hm
        simp only [if_true]
        have c1 : ¬ (g : Int) < 2 * 0 := by omega
        have c2 : ¬ (g : Int) = 2 * 0 := by omega
        have c3 : ¬ g < 2 * 0 := by omega
        have c4 : ¬ g = 2 * 0 := by omega
        simp only [c1, c2, c3, decide_false, Bool.false_or, Bool.false_and, Bool.toNat_false, beq_eq_false_iff_ne.2 c4]
        omega
      · simp only [if_neg hm]
        by_cases c1 : g < 2 * m
        · have d1 : ¬ (g : Int) < 2 * ((g : Int) - (m : Int)) := by omega
          have d2 : ¬ (g : Int) = 2 * ((g : Int) - (m : Int)) := by omega
          simp only [c1, d1, d2, decide_true, decide_false, Bool.true_or, Bool.false_or, Bool.false_and, Bool.toNat_true, Bool.toNat_false]
          omega
        · by_cases c2 : g = 2 * m
          · have d1 : ¬ (g : Int) < 2 * ((g : Int) - (m : Int)) := by omega
            have d2 : (g : Int) = 2 * ((g : Int) - (m : Int)) := by omega
            simp only [c1, d1, decide_false, Bool.false_or]
            rw [decide_eq_true d2, beq_iff_eq.2 c2, Bool.true_and, Bool.true_and]
            by_cases c3 : q % 2 = 1
            · have d3 : ¬ ((-(q : Int) - 1) % 2 ≠ 0) := by omega
              rw [decide_eq_false d3, beq_iff_eq.2 c3]
              simp only [Bool.toNat_true, Bool.toNat_false]
              omega
            · have d3 : (-(q : Int) - 1) % 2 ≠ 0 := by omega
              rw [decide_eq_true d3, beq_eq_false_iff_ne.2 c3]
              simp only [Bool.toNat_true, Bool.toNat_false]
              omega
          · have d1 : (g : Int) < 2 * ((g : Int) - (m : Int)) := by omega
            simp only [c1, d1, decide_true, decide_false, Bool.true_or, Bool.false_or, Bool.toNat_true, beq_eq_false_iff_ne.2 c2, Bool.false_and, Bool.toNat_false]
            omega
    rw [e, Int.neg_mul, ← Int.natCast_mul, ← h1]
    omega
end Go.Proofs.Ytnphdnokedhhkaa.Fw
namespace Go.Proofs.Ytnphdnokedhhkaa.Fw
open Go Go.RowKit
theorem fsub_half {a b : Nat} (ha : fin a) (hb : fin b) (h1 : 2 ^ 1073 ≤ fv a - fv b) (h2 : fv a - fv b < 2 ^ 1074) : fin (fsub a b) ∧ 2 ^ 1073 ≤ fv (fsub a b) := by
  obtain ⟨s, m, i, r1, hi⟩ := ha
  obtain ⟨t, n, j, r2, hj⟩ := hb
  have hop : Ieee.signed (!t) n (j + 1074).toNat = - Ieee.signed t n (j + 1074).toNat := by unfold Ieee.signed; cases t <;> simp
  rw [fv_of r1, fv_of r2, Int.sub_eq_add_neg, ← hop] at h1 h2
  have e1 : (i + 1074).toNat = (i - min i j).toNat + (min i j + 1074).toNat := by omega
  have e2 : (j + 1074).toNat = (j - min i j).toNat + (min i j + 1074).toNat := by omega
  rw [e1, e2, signed_add, signed_add, ← Int.add_mul] at h1 h2
  unfold fsub Ieee.Format.sub
  rw [r1, r2]
  simp only [Ieee.Datum.opposite, Ieee.Datum.sum, Option.map_some, cOpt]
  generalize Ieee.signed s m (i - min i j).toNat + Ieee.signed (!t) n (j - min i j).toNat = total at h1 h2 ⊢
  have hk : (0 : Int) < 2 ^ (min i j + 1074).toNat := Int.pow_pos (by decide)
  have hpos : 0 < total := by
    rcases Int.lt_or_le 0 total with h | h
    · exact h
    · exfalso
      have := Int.mul_le_mul_of_nonneg_right h (Int.le_of_lt hk)
      have h0 : (0 : Int) < 2 ^ 1073 := Int.pow_pos (by decide)
      omega
  rw [if_neg (by omega), decide_eq_false (by omega)]
  obtain ⟨T, rfl⟩ : ∃ T : Nat, total = (T : Int) := ⟨total.toNat, by omega⟩
  rw [Int.natAbs_natCast]
  have c1 : (2 : Int) ^ 1073 = ((2 ^ 1073 : Nat) : Int) := by rw [Int.natCast_pow]; rfl
  have c2 : (2 : Int) ^ 1074 = ((2 ^ 1074 : Nat) : Int) := by rw [Int.natCast_pow]; rfl
  have c3 : (2 : Int) ^ (min i j + 1074).toNat = ((2 ^ (min i j + 1074).toNat : Nat) : Int) := by rw [Int.natCast_pow]; rfl
  rw [c1, c3, ← Int.natCast_mul] at h1
  rw [c2, c3, ← Int.natCast_mul] at h2
  exact nearest_half (by omega) (Int.ofNat_le.1 h1) (Int.ofNat_lt.1 h2)
theorem trunc_is {y : Nat} (hy : fin y) (hb : (fv y).natAbs < 2 ^ 1104) : ((fv y).tdiv (2 ^ 1074)).natAbs < 2 ^ 30 ∧ ftoInt y .i64 = some ((fv y).tdiv (2 ^ 1074)) ∧ ftoInt y .i32 = some ((fv y).tdiv (2 ^ 1074)) := by
  have ht := toInt_fin hy
  have hn : ((fv y).tdiv (2 ^ 1074)).natAbs < 2 ^ 30 := by
    rw [Int.natAbs_tdiv, Int.natAbs_pow]
    exact Nat.div_lt_of_lt_mul (by rw [show (2 : Int).natAbs = 2 from rfl, ← Nat.pow_add]; exact hb)
  refine ⟨hn, ?_, ?_⟩
  · unfold ftoInt
    rw [ht]
    simp only
    generalize (fv y).tdiv (2 ^ 1074) = r at hn ⊢
    have e1 : IntKind.i64.min = -9223372036854775808 := rfl
    have e2 : IntKind.i64.max = 9223372036854775807 := rfl
    rw [if_pos (by omega)]
  · unfold ftoInt
    rw [ht]
    simp only
    generalize (fv y).tdiv (2 ^ 1074) = r at hn ⊢
    have e1 : IntKind.i32.min = -2147483648 := rfl
    have e2 : IntKind.i32.max = 2147483647 := rfl
    rw [if_pos (by omega)]
/-- the whole number below: truncated, and one less if that is above -/
theorem floor_is {y : Nat} (hy : fin y) (hb : (fv y).natAbs < 2 ^ 1104) : (if fgt (fofInt ((fv y).tdiv (2 ^ 1074))) y = true then (fv y).tdiv (2 ^ 1074) - 1 else (fv y).tdiv (2 ^ 1074)) = fv y / 2 ^ 1074 := by
  obtain ⟨hn, _⟩ := trunc_is hy hb
  obtain ⟨f1, f2⟩ := fofInt_exact (n := (fv y).tdiv (2 ^ 1074)) (Nat.lt_trans hn (by decide))
  rw [fgt_fin f1 hy, f2]
  clear hn f1 f2 hb
  generalize fv y = V
  have hG : (2 : Int) ^ 1074 = ((2 ^ 1074 : Nat) : Int) := by rw [Int.natCast_pow]; rfl
  rw [hG]
  have hg : 0 < 2 ^ 1074 := Nat.pow_pos (by decide)
  generalize 2 ^ 1074 = g at *
  clear hG
  rcases Int.le_total 0 V with hv | hv
  · obtain ⟨N, rfl⟩ : ∃ N : Nat, V = (N : Int) := ⟨V.toNat, by omega⟩
    obtain ⟨⟨a, _, b⟩, _⟩ := int_parts N g hg
    rw [a, b, ← Int.natCast_mul]
    have := Nat.div_mul_le_self N g
    rw [if_neg (by simp only [decide_eq_true_eq]; omega)]
  · obtain ⟨N, rfl⟩ : ∃ N : Nat, V = -(N : Int) := ⟨V.natAbs, by omega⟩
    obtain ⟨_, a, _, b⟩ := int_parts N g hg
    rw [a, b, Int.neg_mul, ← Int.natCast_mul]
    have hd := Nat.div_add_mod N g
    rw [Nat.mul_comm] at hd
    generalize N / g * g = P at *
    by_cases h : N % g = 0
    · rw [if_pos h, if_neg (by simp only [decide_eq_true_eq]; omega)]
    · rw [if_neg h, if_pos (by simp only [decide_eq_true_eq]; omega)]
theorem half_is : fin 4602678819172646912 ∧ fv 4602678819172646912 = 2 ^ 1073 := by
  have hr : Ieee.double.read 4602678819172646912 = .number false (2 ^ 52) (-53) := by decide
  refine ⟨⟨_, _, _, hr, by decide⟩, ?_⟩
  rw [fv_of hr]
  show (if false = true then _ else (((2 ^ 52) <<< 1021 : Nat) : Int)) = _
  rw [if_neg (by decide), Nat.shiftLeft_eq, ← Nat.pow_add, Int.natCast_pow]
  rfl
end Go.Proofs.Ytnphdnokedhhkaa.Fw
namespace Go.Proofs.Ytnphdnokedhhkaa.Fw
open Go Go.RowKit
/-- not lost -/
def wi (a : Nat) : Bool := fge a 13875590451928498176 && fle a 4652218415073722368
/-- so many steps, as a float -/
def up12 (a : Nat) : Nat := fmul a 4661225614328463360
def nearF (a : Nat) : Nat := fadd (fdiv (fint Ieee.Toward.even (up12 a)) 4661225614328463360) 0
/-- whole steps: the nearest -/
def nearK (a : Nat) : Int := fv (up12 a) / 2 ^ 1074 + (halfUp (fv (up12 a))).toNat
theorem steps_read : Ieee.double.read 4661225614328463360 = .number false (2 ^ 52) ((12 : Nat) - 52 : Int) := by decide
theorem fin_of_rk' {x : Nat} (h : isNaN x = false) (hb : (rk x).natAbs < 2 ^ 3000) : fin x := by
  unfold isNaN at h
  unfold rk at hb
  cases hr : Ieee.double.read x with
  | number s n i => exact ⟨s, n, i, hr, read_place hr⟩
  | nan s f => rw [hr] at h; cases h
  | infinity s =>
    rw [hr] at hb
    exfalso
    have e : (drk (.infinity s)).natAbs = 2 ^ 3000 := by
      show ((if s then -2 ^ 3000 else 2 ^ 3000 : Int)).natAbs = _
      cases s
      · rw [if_neg (by decide), Int.natAbs_pow]; rfl
      · rw [if_pos rfl, Int.natAbs_neg, Int.natAbs_pow]; rfl
    rw [e] at hb
    exact Nat.lt_irrefl _ hb
theorem edge_is : isNaN 13875590451928498176 = false ∧ rk 13875590451928498176 = - 2 ^ 1084 ∧ isNaN 4652218415073722368 = false ∧ rk 4652218415073722368 = 2 ^ 1084 :=
  ⟨by decide, of_decide_eq_true (by kernel_rfl), by decide, of_decide_eq_true (by kernel_rfl)⟩
theorem wi_fin {a : Nat} (h : wi a = true) : fin a ∧ (fv a).natAbs ≤ 2 ^ 1084 := by
  obtain ⟨e1, e2, e3, e4⟩ := edge_is
  unfold wi at h
  rw [Bool.and_eq_true, fge_rk, fle_rk, e1, e2, e3, e4] at h
  simp only [Bool.not_false, Bool.and_true, Bool.true_and, Bool.and_eq_true, Bool.not_eq_true', decide_eq_true_eq] at h
  obtain ⟨⟨h1, h2⟩, _, h3⟩ := h
  have hb : (rk a).natAbs ≤ 2 ^ 1084 := by
    have c : (2 : Int) ^ 1084 = ((2 ^ 1084 : Nat) : Int) := by rw [Int.natCast_pow]; rfl
    rw [c] at h2 h3
    generalize 2 ^ 1084 = B at *
    omega
  have hf : fin a := fin_of_rk' h1 (Nat.lt_of_le_of_lt hb (Nat.pow_lt_pow_right (by decide) (by decide)))
  exact ⟨hf, by rw [← rk_fin hf]; exact hb⟩
theorem up12_is {a : Nat} (h : wi a = true) : fin (up12 a) ∧ fv (up12 a) = fv a * 2 ^ 12 ∧ (fv (up12 a)).natAbs ≤ 2 ^ 1096 := by
  obtain ⟨h1, h2⟩ := wi_fin h
  have hle : (fv a).natAbs * 2 ^ 12 ≤ 2 ^ 1096 := by
    calc (fv a).natAbs * 2 ^ 12 ≤ 2 ^ 1084 * 2 ^ 12 := Nat.mul_le_mul_right _ h2
      _ = 2 ^ 1096 := by rw [← Nat.pow_add]
  obtain ⟨q1, q2⟩ := fmul_pow2 (k := 12) h1 steps_read (Nat.lt_of_le_of_lt hle (Nat.pow_lt_pow_right (by decide) (by decide)))
  refine ⟨q1, q2, ?_⟩
  show (fv (fmul a 4661225614328463360)).natAbs ≤ _
  rw [q2, Int.natAbs_mul, Int.natAbs_pow]
  exact hle
theorem up12_lt {a : Nat} (h : wi a = true) : (fv (up12 a)).natAbs < 2 ^ 1104 := Nat.lt_of_le_of_lt (up12_is h).2.2 (Nat.pow_lt_pow_right (by decide) (by decide))
theorem nearK_le {a : Nat} (h : wi a = true) : (nearK a).natAbs ≤ 2 ^ 22 := by
  obtain ⟨h1, _, h3⟩ := up12_is h
  obtain ⟨f1, f2, f3, f4⟩ := fint_even h1
  have e := even_int (fv (up12 a)) f2 f3 f4
  have hr : rne (fv (up12 a)).natAbs (2 ^ 1074) ≤ 2 ^ 22 := by
    unfold rne
    have hg : 0 < 2 ^ 1074 := Nat.pow_pos (by decide)
    have hm := Nat.div_add_mod (fv (up12 a)).natAbs (2 ^ 1074)
    have hl := Nat.mod_lt (fv (up12 a)).natAbs hg
    have hq : (fv (up12 a)).natAbs / 2 ^ 1074 ≤ 2 ^ 22 := by
      refine Nat.div_le_of_le_mul ?_
      rw [← Nat.pow_add]; exact h3
    rcases Nat.lt_or_eq_of_le hq with hlt | heq
    · generalize (decide (2 ^ 1074 < 2 * ((fv (up12 a)).natAbs % 2 ^ 1074)) || (2 ^ 1074 == 2 * ((fv (up12 a)).natAbs % 2 ^ 1074) && (fv (up12 a)).natAbs / 2 ^ 1074 % 2 == 1)) = b
      cases b
      · exact Nat.le_of_lt hlt
      · exact hlt
    · have h0 : (fv (up12 a)).natAbs % 2 ^ 1074 = 0 := by
        rw [heq, ← Nat.pow_add] at hm
        have : 2 ^ (1074 + 22) = 2 ^ 1096 := rfl
        generalize (fv (up12 a)).natAbs % 2 ^ 1074 = w at *
        generalize 2 ^ 1096 = z at *
        omega
      rw [h0, heq]
      have : ¬ 2 ^ 1074 = 2 * 0 := by
        rw [Nat.mul_zero]; exact Nat.ne_of_gt hg
      rw [decide_eq_false (by omega), beq_eq_false_iff_ne.2 this]
      exact Nat.le_refl _
  have hn : (nearK a).natAbs * 2 ^ 1074 = rne (fv (up12 a)).natAbs (2 ^ 1074) * 2 ^ 1074 := by
    rw [← f2, e, Int.natAbs_mul, Int.natAbs_pow]; rfl
  rw [Nat.eq_of_mul_eq_mul_right (Nat.pow_pos (by decide)) hn]
  exact hr
theorem whole_read {K : Int} (hK : K.natAbs < 2 ^ 53) {w : Nat} (hw : fin w) (hv : fv w = K * 2 ^ 1074) : grid K (fdiv w 4661225614328463360) := by
  have e : fv w = (K * 2 ^ 1062) * 2 ^ 12 := by rw [hv, Int.mul_assoc, ← Int.pow_add]
  have hst : stout w := by
    unfold stout
    by_cases h0 : K = 0
    · left; rw [hv, h0, Int.zero_mul]
    · right
      rw [hv, Int.natAbs_mul, Int.natAbs_pow]
      calc 2 ^ 600 ≤ 1 * 2 ^ 1074 := by rw [Nat.one_mul]; exact Nat.pow_le_pow_right (by decide) (by decide)
        _ ≤ K.natAbs * 2 ^ 1074 := Nat.mul_le_mul_right _ (by omega)
  exact fdiv_pow2 hw hst steps_read (by decide) e (fits_grid hK (by decide))
theorem grid_zero {K : Int} {x : Nat} (h : grid K x) (hK : K.natAbs < 2 ^ 53) : grid K (fadd x 0) := by
  have hz : grid 0 0 := by
    have hr : Ieee.double.read 0 = .number false 0 (-1074) := by decide
    exact ⟨⟨_, _, _, hr, by decide⟩, by rw [fv_of hr, signed_zero, Int.zero_mul]⟩
  have := grid_add h hz (by rw [Int.add_zero]; exact hK)
  rw [Int.add_zero] at this
  exact this
/-- what comes in: so many steps -/
theorem near_grid {a : Nat} (h : wi a = true) : grid (nearK a) (nearF a) := by
  have hK := nearK_le h
  obtain ⟨h1, _, h3⟩ := up12_is h
  obtain ⟨f1, f2, f3, f4⟩ := fint_even h1
  have e := even_int (fv (up12 a)) f2 f3 f4
  have hK53 : (nearK a).natAbs < 2 ^ 53 := Nat.lt_of_le_of_lt hK (by decide)
  exact grid_zero (whole_read hK53 f1 e) hK53
end Go.Proofs.Ytnphdnokedhhkaa.Fw
namespace Go.Proofs.Ytnphdnokedhhkaa.Fw
open Go Go.RowKit
section
variable {L n : Nat}
theorem one_read : Ieee.double.read 4607182418800017408 = .number false (2 ^ 52) (0 - 52) := by decide
theorem least_read : Ieee.double.read 4368491638549381120 = .number false (2 ^ 52) (-53 - 52) := by decide
theorem big52 : Ieee.double.read 4841369599423283200 = .number false (2 ^ 52) ((52 : Nat) - 52 : Int) := by decide
theorem least_norm : fin 4503599627370496 ∧ fv 4503599627370496 = 2 ^ 52 := ⟨⟨false, 2 ^ 52, -1074, by decide, by decide⟩, by kernel_rfl⟩
/-- a number made normal: its exponent's part told by D -/
theorem norm_den {x : Nat} (hx : fin x) (h0 : fv x ≠ 0) : ∃ y D : Nat, den ⟨fnOf, specAbs, L⟩ (n+1) 81 [.flt x] = some (.tup [.flt y, .int .i64 (-(D : Int))]) ∧ fin y ∧ fv y = fv x * 2 ^ D ∧ 2 ^ 52 ≤ (fv y).natAbs ∧ (D = 0 ∨ D = 52 ∧ (fv x).natAbs < 2 ^ 52) := by
  obtain ⟨l1, l2⟩ := least_norm
  have ha : fin (absF x) ∧ fv (absF x) = ((fv x).natAbs : Int) := by
    have hn := fin_num hx
    unfold absF
    rw [hn]
    simp only [Bool.false_eq_true, if_false]
    obtain ⟨s, m, i, hr, hi⟩ := hx
    have h2 := read_low x hr
    refine ⟨⟨_, _, _, h2, hi⟩, ?_⟩
    rw [fv_of h2, fv_of hr, signed_abs]
    unfold Ieee.signed
    simp [Nat.shiftLeft_eq]
  cases hb : flt (absF x) 4503599627370496 with
  | true =>
    have hlt : (fv x).natAbs < 2 ^ 52 := by
      rw [flt_fin ha.1 l1, ha.2, l2] at hb
      have := of_decide_eq_true hb
      omega
    obtain ⟨q1, q2⟩ := fmul_pow2 (k := 52) hx big52 (Nat.lt_trans (Nat.mul_lt_mul_of_pos_right hlt (by decide)) (by rw [← Nat.pow_add]; exact Nat.pow_lt_pow_right (by decide) (by decide)))
    refine ⟨_, 52, lnm_0 (k := 0) (e := 0) (b := 0) (w := 0) hb, q1, q2, ?_, .inr ⟨rfl, hlt⟩⟩
    rw [q2, Int.natAbs_mul, Int.natAbs_pow]
    exact Nat.le_mul_of_pos_left _ (Int.natAbs_pos.2 h0)
  | false =>
    have hle : 2 ^ 52 ≤ (fv x).natAbs := by
      rw [flt_fin ha.1 l1, ha.2, l2] at hb
      have := of_decide_eq_false hb
      omega
    exact ⟨x, 0, lnm_1 (k := 0) (e := 0) (b := 0) (w := 0) hb, hx, by simp, hle, .inl rfl⟩
theorem e_mess {b k D : Nat} (hk : k ≤ 12) (hD : D ≤ 52) : IntKind.wrap .i64 (IntKind.wrap .i64 ((k : Int) + -(D : Int)) + IntKind.wrap .i64 (IntKind.wrap .i64 ((BitVec.ofInt 64 (IntKind.wrap .i64 ((b : Int).fdiv (2 ^ 52))) &&& BitVec.ofInt 64 (2047)).toNat : Int) - 1023)) = (k : Int) - D + (b / 2 ^ 52 % 2048 : Nat) - 1023 := by
  rw [exp_bits]
  have : b / 2 ^ 52 % 2048 < 2048 := Nat.mod_lt _ (by decide)
  generalize b / 2 ^ 52 % 2048 = E at *
  rw [wrap_id (n := (E : Int)) (by omega), wrap_id (n := (E : Int) - 1023) (by omega), wrap_id (n := (k : Int) + -(D : Int)) (by omega), wrap_id (by omega)]
  omega
theorem w_mess {b E : Nat} {e : Int} (he : IntKind.wrap .i64 (e + 1023) = (E : Int)) (hE : E < 2048) : (IntKind.wrap .u64 ((BitVec.ofInt 64 (IntKind.wrap .u64 ((BitVec.ofInt 64 (b : Int) &&& ~~~BitVec.ofInt 64 (9218868437227405312)).toNat : Int)) ||| BitVec.ofInt 64 (IntKind.wrap .u64 (IntKind.wrap .u64 (IntKind.wrap .i64 (e + 1023)) * 2 ^ 52))).toNat : Int)).toNat = 2 ^ 63 * (b / 2 ^ 63 % 2) + (2 ^ 52 * E + b % 2 ^ 52) := by
  rw [and_bits, he, wrapU (n := (E : Int)) (by omega) (by omega)]
  have e1 : (E : Int) * 2 ^ 52 = ((E * 2 ^ 52 : Nat) : Int) := by rw [Int.natCast_mul]; rfl
  rw [e1, wrapU (n := ((E * 2 ^ 52 : Nat) : Int)) (by omega) (by omega), wrapU (n := ((2 ^ 63 * (b / 2 ^ 63 % 2) + b % 2 ^ 52 : Nat) : Int)) (by omega) (by omega), or_bits (by omega) (by omega) hE, wrapU (by omega) (by omega)]
  exact Int.toNat_natCast _
theorem bits_told {P : Prog} {C : Caller} {d : Nat} {π : List Nat} {y : Nat} (h : isNaN y = false) : Con.holds P C (.any d π (MO.mk (some 29) (MOp.extern ExtK.bits [(Opd.t 28)]) none []) [(28, (.flt y))] [] (.v (.int .u64 (y : Int))) []) := by
  show stepOp P C d π _ _ _ = _
  simp [stepOp, opSem, Opd.evs, Opd.ev, Env.get, extSem, h]
theorem max_is : isNaN 9218868437227405311 = false ∧ rk 9218868437227405311 = (2 ^ 53 - 1) * 2 ^ 2045 := ⟨by decide, by kernel_rfl⟩
theorem inf_case {x : Nat} (hx : isNaN x = false) : fgt (absF x) 9218868437227405311 = false → fin x := by
  intro h
  obtain ⟨m1, m2⟩ := max_is
  rw [fgt_rk, (absF_rk x).1, (absF_rk x).2, hx, m1, m2] at h
  simp only [Bool.not_false, Bool.true_and, decide_eq_false_iff_not, Int.not_lt] at h
  refine fin_of_rk' hx ?_
  have e : ((2 : Int) ^ 53 - 1) * 2 ^ 2045 = (((2 ^ 53 - 1) * 2 ^ 2045 : Nat) : Int) := by kernel_rfl
  rw [e] at h
  exact Nat.lt_of_le_of_lt (Int.ofNat_le.1 h) (of_decide_eq_true (by kernel_rfl))
theorem ldexp_den {x k : Nat} (hk : k ≤ 12) : ∃ y, den ⟨fnOf, specAbs, L⟩ (n+2) 75 [.flt x, .int .i64 (k : Int)] = some (.flt y) ∧ (fin x → (fv x).natAbs ≤ 2 ^ 1084 → fin y ∧ fv y = fv x * 2 ^ k) := by
  have z0 : fin 0 ∧ fv 0 = 0 := ⟨⟨false, 0, -1074, by decide, by decide⟩, by kernel_rfl⟩
  cases h0 : feq x 0 with
  | true =>
    refine ⟨x, lx_0 (e := 0) (b := 0) (w := 0) h0, fun hx _ => ⟨hx, ?_⟩⟩
    rw [feq_fin hx z0.1, z0.2] at h0
    rw [of_decide_eq_true h0]; simp
  | false =>
    have hin : Con.holds ⟨fnOf, specAbs, L⟩ (runF ⟨fnOf, specAbs, L⟩ (n+1)) (.call 79 [.flt x, .int .i64 0] (.v (.bool (fgt (absF x) 9218868437227405311)))) := call_den (lin_0 (k := 0) (e := 0) (b := 0) (w := 0))
    have hna : Con.holds ⟨fnOf, specAbs, L⟩ (runF ⟨fnOf, specAbs, L⟩ (n+1)) (.call 78 [.flt x] (.v (.bool (!feq x x)))) := call_den (lna_0 (k := 0) (e := 0) (b := 0) (w := 0))
    cases hi : fgt (absF x) 9218868437227405311 with
    | true =>
      refine ⟨x, lx_1 (e := 0) (b := 0) (w := 0) h0 hin hi, fun hx hb => ?_⟩
      exfalso
      obtain ⟨m1, m2⟩ := max_is
      rw [fgt_rk, (absF_rk x).2, rk_fin hx, m2] at hi
      simp only [Bool.and_eq_true, decide_eq_true_eq] at hi
      have e : ((2 : Int) ^ 53 - 1) * 2 ^ 2045 = (((2 ^ 53 - 1) * 2 ^ 2045 : Nat) : Int) := by kernel_rfl
      rw [e] at hi
      have h3 := Int.ofNat_lt.1 hi.2
      exact absurd (Nat.lt_of_lt_of_le h3 hb) (of_decide_eq_true (by kernel_rfl))
    | false =>
      cases hn : isNaN x with
      | true =>
        have h4 : (!feq x x) = true := by rw [feq_rk, hn]; rfl
        exact ⟨x, lx_2 (e := 0) (b := 0) (w := 0) h0 hin hi hna h4, fun hx _ => by rw [fin_num hx] at hn; cases hn⟩
      | false =>
        have hx : fin x := inf_case hn hi
        have h4 : (!feq x x) = false := by rw [feq_fin hx hx]; simp
        have hne : fv x ≠ 0 := by rw [feq_fin hx z0.1, z0.2] at h0; exact of_decide_eq_false h0
        obtain ⟨y, D, hd, hy, e1, e2, hD⟩ := @norm_den L n x hx hne
        have hD52 : D ≤ 52 := by omega
        obtain ⟨p1, p2, p3⟩ := fin_parts hy e2
        have hb := @bits_told ⟨fnOf, specAbs, L⟩ (runF ⟨fnOf, specAbs, L⟩ (n+1)) 0 [23] y (fin_num hy)
        have hem := @e_mess y k D hk hD52
        have hF : y % 2 ^ 52 < 2 ^ 52 := Nat.mod_lt _ (by decide)
        have hS : y / 2 ^ 63 % 2 < 2 := Nat.mod_lt _ (by decide)
        have c1 : decide (IntKind.wrap .i64 (IntKind.wrap .i64 ((k : Int) + -(D : Int)) + IntKind.wrap .i64 (IntKind.wrap .i64 ((BitVec.ofInt 64 (IntKind.wrap .i64 ((y : Int).fdiv (2 ^ 52))) &&& BitVec.ofInt 64 (2047)).toNat : Int) - 1023)) < -1075) = false := by rw [hem]; exact decide_eq_false (by omega)
        cases c2 : decide (IntKind.wrap .i64 (IntKind.wrap .i64 ((k : Int) + -(D : Int)) + IntKind.wrap .i64 (IntKind.wrap .i64 ((BitVec.ofInt 64 (IntKind.wrap .i64 ((y : Int).fdiv (2 ^ 52))) &&& BitVec.ofInt 64 (2047)).toNat : Int) - 1023)) > 1023) with
        | true =>
          have hbig : (fv x).natAbs ≤ 2 ^ 1084 → False := by
            intro hle
            rw [hem] at c2
            have c2 := of_decide_eq_true c2
            have h5 : 1034 ≤ y / 2 ^ 52 % 2048 - 1 := by omega
            have h6 : (fv y).natAbs ≤ 2 ^ 1084 := by
              rcases hD with rfl | ⟨rfl, hs⟩
              · rw [e1]; simpa using hle
              · rw [e1, Int.natAbs_mul, Int.natAbs_pow]
                refine Nat.le_trans (Nat.mul_le_mul_right _ (Nat.le_of_lt hs)) ?_
                rw [show (2 : Int).natAbs = 2 from rfl, ← Nat.pow_add]
                exact Nat.pow_le_pow_right (by decide) (by decide)
            rw [p3, signed_abs] at h6
            have h7 : 2 ^ 52 * 2 ^ 1034 ≤ (2 ^ 52 + y % 2 ^ 52) * 2 ^ (y / 2 ^ 52 % 2048 - 1) := Nat.mul_le_mul (by omega) (Nat.pow_le_pow_right (by decide) h5)
            rw [← Nat.pow_add] at h7
            exact absurd (Nat.le_trans h7 h6) (of_decide_eq_true (by kernel_rfl))
          cases c3 : flt y 0 with
          | true => exact ⟨_, lx_4 (e := 0) (b := y) (w := 0) h0 hin hi hna h4 (call_den hd) hb c1 c2 c3 (call_den lninf_0), fun _ hle => (hbig hle).elim⟩
          | false => exact ⟨_, lx_5 (e := 0) (b := y) (w := 0) h0 hin hi hna h4 (call_den hd) hb c1 c2 c3 (call_den linf_0), fun _ hle => (hbig hle).elim⟩
        | false =>
          have c2' := c2
          rw [hem] at c2'
          have c2' := of_decide_eq_false c2'
          cases c3 : decide (IntKind.wrap .i64 (IntKind.wrap .i64 ((k : Int) + -(D : Int)) + IntKind.wrap .i64 (IntKind.wrap .i64 ((BitVec.ofInt 64 (IntKind.wrap .i64 ((y : Int).fdiv (2 ^ 52))) &&& BitVec.ofInt 64 (2047)).toNat : Int) - 1023)) < -1022) with
          | false =>
            have c3' := c3
            rw [hem] at c3'
            have c3' := of_decide_eq_false c3'
            have hr := @lx_7 L (n+1) x k 0 y 0 _ _ y (-(D : Int)) h0 hin hi hna h4 (call_den hd) hb c1 c2 c3
            obtain ⟨E, hE⟩ : ∃ E : Nat, (k : Int) - D + (y / 2 ^ 52 % 2048 : Nat) = E := ⟨((k : Int) - D + (y / 2 ^ 52 % 2048 : Nat)).toNat, by omega⟩
            have hwe : IntKind.wrap .i64 ((k : Int) - D + (y / 2 ^ 52 % 2048 : Nat) - 1023 + 1023) = (E : Int) := by rw [wrap_id (by omega)]; omega
            rw [hem, w_mess hwe (by omega)] at hr
            have hrd := read_parts (s := y / 2 ^ 63 % 2) (E := E) hS hF (by omega) (by omega)
            rw [canon_fin ⟨_, _, _, hrd, by omega⟩] at hr
            refine ⟨_, hr, fun _ hle => ?_⟩
            have hfits : fits ((2 ^ 52 + y % 2 ^ 52) * 2 ^ (E - 1)) := by
              refine ⟨⟨_, _, by omega, rfl⟩, ?_⟩
              refine Nat.lt_of_lt_of_le (Nat.mul_lt_mul_of_pos_right (show 2 ^ 52 + y % 2 ^ 52 < 2 ^ 53 by omega) (Nat.pow_pos (by decide))) ?_
              rw [← Nat.pow_add]
              exact Nat.pow_le_pow_right (by decide) (by omega)
            have hpl : (-1075 + (E : Int) + 0 + (0 : Nat) + 1074).toNat = E - 1 := by omega
            obtain ⟨q1, q2⟩ := pow2_mul (M := 2 ^ 52 + y % 2 ^ 52) (t := 0) (j := 0) one_read hrd (by omega) (by omega) (by rw [hpl]; exact hfits)
            refine ⟨q1, ?_⟩
            rw [q2, hpl]
            have h8 : Ieee.signed (y / 2 ^ 63 % 2 == 1) (2 ^ 52 + y % 2 ^ 52) (E - 1) * 2 ^ D = fv x * 2 ^ k * 2 ^ D := by
              rw [← signed_add, show E - 1 + D = y / 2 ^ 52 % 2048 - 1 + k by omega, signed_add, ← p3, e1, Int.mul_assoc, Int.mul_assoc, Int.mul_comm (2 ^ D)]
            exact Int.eq_of_mul_eq_mul_right (Int.pow_ne_zero (by decide)) h8
          | true =>
            have c3' := c3
            rw [hem] at c3'
            have c3' := of_decide_eq_true c3'
            obtain rfl : D = 52 := by omega
            have hs : (fv x).natAbs < 2 ^ 52 := by omega
            have hr := @lx_6 L (n+1) x k 0 y 0 _ _ y (-((52 : Nat) : Int)) h0 hin hi hna h4 (call_den hd) hb c1 c2 c3
            have hwe : IntKind.wrap .i64 (IntKind.wrap .i64 ((k : Int) - (52 : Nat) + (y / 2 ^ 52 % 2048 : Nat) - 1023 + 53) + 1023) = ((k + y / 2 ^ 52 % 2048 + 1 : Nat) : Int) := by
              rw [wrap_id (n := (k : Int) - (52 : Nat) + (y / 2 ^ 52 % 2048 : Nat) - 1023 + 53) (by omega), wrap_id (by omega)]; omega
            rw [hem, w_mess hwe (by omega)] at hr
            have hrd := read_parts (s := y / 2 ^ 63 % 2) (E := k + y / 2 ^ 52 % 2048 + 1) hS hF (by omega) (by omega)
            rw [canon_fin ⟨_, _, _, hrd, by omega⟩] at hr
            refine ⟨_, hr, fun _ hle => ?_⟩
            clear hem c1 c2 c3 hb hd hr
            generalize y / 2 ^ 52 % 2048 = Y at *
            have hm : 2 ^ 52 + y % 2 ^ 52 = (fv x).natAbs * 2 ^ k * 2 ^ (53 - k - Y) := by
              have h9 : (2 ^ 52 + y % 2 ^ 52) * 2 ^ (Y - 1) = (fv x).natAbs * 2 ^ 52 := by
                rw [← signed_abs (y / 2 ^ 63 % 2 == 1), ← p3, e1, Int.natAbs_mul, Int.natAbs_pow]; rfl
              refine Nat.eq_of_mul_eq_mul_right (Nat.pow_pos (n := Y - 1) (show 0 < 2 by decide)) ?_
              rw [h9, Nat.mul_assoc, Nat.mul_assoc, ← Nat.pow_add, ← Nat.pow_add]
              congr 2
              omega
            have hpl : (-1075 + ((k + Y + 1 : Nat) : Int) + -53 + ((53 - k - Y : Nat) : Int) + 1074).toNat = 0 := by omega
            have hbound : (fv x).natAbs * 2 ^ k < 2 ^ 64 := by
              refine Nat.lt_of_lt_of_le (Nat.mul_lt_mul_of_pos_right hs (Nat.pow_pos (by decide))) ?_
              rw [← Nat.pow_add]; exact Nat.pow_le_pow_right (by decide) (by omega)
            obtain ⟨q1, q2⟩ := pow2_mul (M := (fv x).natAbs * 2 ^ k) (t := 53 - k - Y) (j := -53) least_read hrd hm (by omega) (by
              rw [hpl, Nat.pow_zero, Nat.mul_one]
              exact ⟨⟨_, k, Nat.lt_trans hs (by decide), rfl⟩, Nat.lt_trans hbound (Nat.pow_lt_pow_right (by decide) (by decide))⟩)
            refine ⟨q1, ?_⟩
            rw [q2, hpl]
            have hsg : (y / 2 ^ 63 % 2 == 1) = true ↔ fv x < 0 ∨ (fv x = 0 ∧ (y / 2 ^ 63 % 2 == 1) = true) := by
              have hpos : 0 < (2 ^ 52 + y % 2 ^ 52) * 2 ^ (Y - 1) := Nat.mul_pos (by omega) (Nat.pow_pos (by decide))
              have hsx : fv x * 2 ^ 52 = if (y / 2 ^ 63 % 2 == 1) then -(((2 ^ 52 + y % 2 ^ 52) * 2 ^ (Y - 1) : Nat) : Int) else (((2 ^ 52 + y % 2 ^ 52) * 2 ^ (Y - 1) : Nat) : Int) := by
                rw [← e1, p3]; unfold Ieee.signed; simp only [Nat.shiftLeft_eq]
              generalize (2 ^ 52 + y % 2 ^ 52) * 2 ^ (Y - 1) = N at *
              generalize (y / 2 ^ 63 % 2 == 1) = sg at *
              cases sg
              · rw [if_neg (by decide)] at hsx
                constructor
                · intro h; cases h
                · rintro (h | ⟨_, h⟩)
                  · omega
                  · cases h
              · rw [if_pos rfl] at hsx
                exact ⟨fun _ => .inl (by omega), fun _ => rfl⟩
            have h10 : (fv x * 2 ^ k).natAbs = (fv x).natAbs * 2 ^ k := by rw [Int.natAbs_mul, Int.natAbs_pow]; rfl
            have hsg2 : (y / 2 ^ 63 % 2 == 1) = true ↔ fv x * 2 ^ k < 0 ∨ (fv x * 2 ^ k = 0 ∧ (y / 2 ^ 63 % 2 == 1) = true) := by
              have hp : (0 : Int) < 2 ^ k := Int.pow_pos (by decide)
              rw [hsg]
              constructor
              · rintro (h | ⟨h, _⟩)
                · exact .inl (Int.mul_neg_of_neg_of_pos h hp)
                · exact absurd h hne
              · rintro (h | ⟨h, _⟩)
                · refine .inl ?_
                  rcases Int.lt_or_le (fv x) 0 with h2 | h2
                  · exact h2
                  · exact absurd (Int.mul_nonneg h2 (Int.le_of_lt hp)) (by omega)
                · rcases Int.mul_eq_zero.1 h with h2 | h2
                  · exact absurd h2 hne
                  · omega
            have := signed_natAbs hsg2 0
            rw [h10] at this
            rw [this]; simp
end
end Go.Proofs.Ytnphdnokedhhkaa.Fw
namespace Go.Proofs.Ytnphdnokedhhkaa.Fw
open Go Go.RowKit
theorem hnLwOfA {P : Prog} {C : Caller} : Holds P C [] := trivial
theorem hcLwOfA {P : Prog} {C : Caller} {c : Con} {cs : List Con} (h : c.holds P C) (t : Holds P C cs) : Holds P C (c :: cs) := ⟨h, t⟩
theorem hbLwOfA {P : Prog} {C : Caller} {x y : Bool} {cs : List Con} (h : x = y) (t : Holds P C cs) : Holds P C (.b x y :: cs) := ⟨h, t⟩

theorem qe_0 {L n x m : Nat} {k : Int} (h0 : (fge x (fneg m)) = true) (h1 : (!fle x m) = true) : den ⟨fnOf, specAbs, L⟩ (n+1) 59 [.flt x, .flt m] = some (.v (.bool false)) :=
  denD_sound (q := [((some 9), (Dec.b true)), ((some 14), (Dec.b true))]) (by kernel_rfl) (hbLwOfA h0 (hbLwOfA h1 hnLwOfA))
theorem qe_1 {L n x m : Nat} {k : Int} (h0 : (fge x (fneg m)) = true) (h1 : (!fle x m) = false) (h2 : Con.holds ⟨fnOf, specAbs, L⟩ (runF ⟨fnOf, specAbs, L⟩ n) (.any 0 [15] (MO.mk (some 19) (MOp.conv (ConvK.toInt .i64) (Opd.t 18)) none []) [(18, (.flt (fmul x 4634204016564240384)))] [] (.v (.int .i64 (k))) [])) : den ⟨fnOf, specAbs, L⟩ (n+1) 59 [.flt x, .flt m] = some (.v (.bool (feq (fmul x 4634204016564240384) (fofInt k)))) :=
  denD_sound (q := [((some 9), (Dec.b true)), ((some 14), (Dec.b false)), ((some 19), (Dec.any (.v (.int .i64 (k))) []))]) (by kernel_rfl) (hbLwOfA h0 (hbLwOfA h1 (hcLwOfA h2 hnLwOfA)))
theorem qe_2 {L n x m : Nat} {k : Int} (h0 : (fge x (fneg m)) = false) : den ⟨fnOf, specAbs, L⟩ (n+1) 59 [.flt x, .flt m] = some (.v (.bool false)) :=
  denD_sound (q := [((some 9), (Dec.b false))]) (by kernel_rfl) (hbLwOfA h0 hnLwOfA)
theorem qs_0 {L n x : Nat} (h0 : (flt x 0) = true) : den ⟨fnOf, specAbs, L⟩ (n+1) 60 [.flt x] = some (.flt (fneg x)) :=
  denD_sound (q := [((some 4), (Dec.b true))]) (by kernel_rfl) (hbLwOfA h0 hnLwOfA)
theorem qs_1 {L n x : Nat} (h0 : (flt x 0) = false) : den ⟨fnOf, specAbs, L⟩ (n+1) 60 [.flt x] = some (.flt (x)) :=
  denD_sound (q := [((some 4), (Dec.b false))]) (by kernel_rfl) (hbLwOfA h0 hnLwOfA)
end Go.Proofs.Ytnphdnokedhhkaa.Fw
namespace Go.Proofs.Ytnphdnokedhhkaa.Fw
open Go Go.RowKit
/-- a loop, by what holds at each round's head; what it leaves -/
theorem loopJ {P : Prog} {C : Caller} {L d : Nat} {live π : List Nat} {m : MC} {A : St} (R : Nat → St → Prop) (Q : St → Prop) (n : Nat) {x : Ex} (hx : x ≠ .nrm) (hL : P.L = L + 1) (hn : n ≤ L) (h0 : R 0 A)
    (h : ∀ i s, i < n → R i s → ∃ s', rnd d live (bodyOf P C d m (i :: π) s) = some (.nrm, s') ∧ R (i + 1) s')
    (he : ∀ s, R n s → ∃ s', rnd d live (bodyOf P C d m (n :: π) s) = some (x, s') ∧ Q s') : ∃ s', Con.holds P C (.loop d live m π A x s') ∧ Q s' := by
  obtain ⟨s0, h1, s', h2, h3⟩ := LP_inv (body := bodyOf P C d m) (d := d) (live := live) (π := π) R (fun s0 => ∃ s', outP d live x s0 = s' ∧ Q s') hx n hn h0
    (fun i s _ hi hR => by
      obtain ⟨s', h1, h2⟩ := h i s (by omega) hR
      exact ⟨s', rnd_nxt h1, h2⟩)
    (fun s hR => by
      rw [Nat.zero_add] at hR ⊢
      obtain ⟨s', h1, h2⟩ := he s hR
      obtain ⟨s0, h3, h4⟩ := rnd_out h1 hx
      exact ⟨s0, h3, s', h4, h2⟩)
  exact ⟨s', ⟨L, s0, hL, h1, by rw [h2], by rw [h2]⟩, h3⟩
theorem toldZ {P : Prog} {f : FuncId} {avs : List AV} {r r1 : AV} {L k : Nat} (h : den ⟨P.fn, P.spec, L⟩ k f avs = some r1) (hw : WkT r1 r) : ∃ avs1 L k r1, All2 WiA avs avs1 ∧ den ⟨P.fn, P.spec, L⟩ k f avs1 = some r1 ∧ WkT r1 r :=
  ⟨avs, L, k, r1, all2_refl WiA.refl _, h, hw⟩
theorem tkMap {α : Type} {f : α → List AV} {xs : List α} {m : Nat} (h : m = xs.length) : List.take m (xs.map f) = xs.map f := by
  rw [List.take_of_length_le]; rw [map_len, h]; exact Nat.le_refl _
theorem cutM {α : Type} {f : α → List AV} {zs : List α} {m : Nat} : cutX (zs.map f) 0 m = (zs.take m).map f := by
  show List.take _ _ = _
  rw [List.map_take]
theorem getD_sets {α : Type} {zs : List α} {i m : Nat} {z d : α} (h : i < zs.length) : (zs.set i z).getD m d = if i = m then z else zs.getD m d := by
  rw [List.getD_eq_getElem?_getD, List.getElem?_set]
  split
  · rename_i e; subst e; rfl
  · rw [← List.getD_eq_getElem?_getD]
theorem getD_apps {α : Type} {zs tl : List α} {i : Nat} {d : α} : (zs ++ tl).getD i d = if i < zs.length then zs.getD i d else tl.getD (i - zs.length) d := by
  simp only [List.getD_eq_getElem?_getD, List.getElem?_append]
  split <;> rfl
/-- a list by its places -/
def tab {α : Type} (f : Nat → α) (n : Nat) : List α := (List.range n).map f
theorem tab_up {α : Type} {f : Nat → α} {i : Nat} : tab f (i + 1) = tab f i ++ [f i] := by unfold tab; rw [List.range_succ, List.map_append]; rfl
theorem tab_len {α : Type} {f : Nat → α} {i : Nat} : (tab f i).length = i := by unfold tab; rw [List.length_map, List.length_range]
theorem tab_at {α : Type} {f : Nat → α} {n i : Nat} {d : α} (h : i < n) : (tab f n).getD i d = f i := by
  unfold tab
  rw [List.getD_eq_getElem?_getD, List.getElem?_map, List.getElem?_range h]; rfl
/-- a list of numbers, nil or not -/
theorem wi_of {α : Type} {f : α → List AV} {z : Nat} {a : AV} {B : Nat} (h : a = AV.nils ∨ ∃ els : List (List AV), a = AV.lst z els ∧ els.length * B ≤ reachBytes ∧ ∀ e ∈ els, ∃ x, e = f x) :
    ∃ xs : List α, Wi1 a (.lst z (xs.map f)) ∧ xs.length * B ≤ reachBytes := by
  rcases h with rfl | ⟨els, rfl, hl, he⟩
  · exact ⟨[], .inr ⟨rfl, z, rfl⟩, by rw [List.length_nil, Nat.zero_mul]; exact Nat.zero_le _⟩
  · obtain ⟨xs, rfl⟩ := all_map (f := f) he
    rw [map_len] at hl
    exact ⟨xs, .refl _, hl⟩
end Go.Proofs.Ytnphdnokedhhkaa.Fw
namespace Go.Proofs.Ytnphdnokedhhkaa.Fw
open Go Go.RowKit
theorem fint_zero {a : Nat} (ha : fin a) : fin (fint .zero a) ∧ fv (fint .zero a) = (fv a).tdiv (2 ^ 1074) * 2 ^ 1074 := by
  obtain ⟨s, m, i, h, hp⟩ := ha
  obtain ⟨q1, q2⟩ := fint_parts .zero h
  refine ⟨q1, ?_⟩
  obtain ⟨d1, _⟩ := parts_div (m := m) hp
  rw [q2, fv_of h, cut_eq]
  simp only [oneMore, Bool.toNat_false, Nat.add_zero]
  rw [← d1]
  unfold Ieee.signed
  simp only [Nat.shiftLeft_eq]
  generalize m * 2 ^ (i + 1074).toNat = N
  have hcast : (2 : Int) ^ 1074 = ((2 ^ 1074 : Nat) : Int) := by simp
  rw [hcast]
  generalize (2 : Nat) ^ 1074 = g
  cases s with
  | false => simp only [Bool.false_eq_true, if_false]; rfl
  | true => simp only [if_true]; rw [Int.neg_tdiv, Int.neg_mul]; rfl
theorem fin_of_rk {x : Nat} (h : isNaN x = false) (hb : (rk x).natAbs < 2 ^ 3000) : fin x := by
  unfold isNaN at h
  unfold rk at hb
  cases hr : Ieee.double.read x with
  | number s n i => exact ⟨s, n, i, hr, read_place hr⟩
  | nan s f => rw [hr] at h; cases h
  | infinity s =>
    rw [hr] at hb
    exfalso
    have e : (drk (.infinity s)).natAbs = 2 ^ 3000 := by
      show ((if s then -2 ^ 3000 else 2 ^ 3000 : Int)).natAbs = _
      cases s
      · rw [if_neg (by decide), Int.natAbs_pow]; rfl
      · rw [if_pos rfl, Int.natAbs_neg, Int.natAbs_pow]; rfl
    rw [e] at hb
    exact Nat.lt_irrefl _ hb
/-- a number made whole, and to an integer and back -/
theorem whole_same {y : Nat} (hy : fin y) (hb : (fv y).natAbs < 2 ^ 1100) : ∃ n : Int, ftoInt y .i64 = some n ∧ feq y (fofInt n) = feq (fint .zero y) y := by
  obtain ⟨z1, z2⟩ := fint_zero hy
  have ht := toInt_fin hy
  have hn : ((fv y).tdiv (2 ^ 1074)).natAbs < 2 ^ 26 := by
    rw [Int.natAbs_tdiv, Int.natAbs_pow]
    exact Nat.div_lt_of_lt_mul (by rw [show (2 : Int).natAbs = 2 from rfl, ← Nat.pow_add]; exact hb)
  refine ⟨(fv y).tdiv (2 ^ 1074), ?_, ?_⟩
  · unfold ftoInt
    rw [ht]
    simp only
    generalize (fv y).tdiv (2 ^ 1074) = r at hn ⊢
    have h1 : IntKind.i64.min ≤ r ∧ r ≤ IntKind.i64.max := by
      have e1 : IntKind.i64.min = -9223372036854775808 := rfl
      have e2 : IntKind.i64.max = 9223372036854775807 := rfl
      omega
    rw [if_pos h1]
  · obtain ⟨f1, f2⟩ := fofInt_exact (n := (fv y).tdiv (2 ^ 1074)) (Nat.lt_trans hn (by decide))
    rw [feq_fin hy f1, feq_fin z1 hy, f2, z2]
    exact decide_eq_decide.2 ⟨Eq.symm, Eq.symm⟩
def plainF (x m : Nat) : Bool := fle (absF x) m && feq (fint .zero (fmul x 4634204016564240384)) (fmul x 4634204016564240384)
theorem sixtyfour : Ieee.double.read 4634204016564240384 = .number false (2 ^ 52) ((6 : Nat) - 52 : Int) := by decide
def okM (m : Nat) : Prop := m = 4607182418800017408 ∨ m = 4638707616191610880
theorem okM_rk {m : Nat} (h : okM m) : isNaN m = false ∧ 0 ≤ rk m ∧ rk m ≤ 2 ^ 1081 := by
  rcases h with rfl | rfl
  · exact ⟨by decide, of_decide_eq_true (by kernel_rfl), of_decide_eq_true (by kernel_rfl)⟩
  · exact ⟨by decide, of_decide_eq_true (by kernel_rfl), of_decide_eq_true (by kernel_rfl)⟩
theorem within_same {x m : Nat} (h : okM m) : (fge x (fneg m) && fle x m) = fle (absF x) m := by
  obtain ⟨h1, h2, _⟩ := okM_rk h
  rw [fge_rk, fle_rk, fle_rk, (fneg_rk m).1, (fneg_rk m).2, (absF_rk x).1, (absF_rk x).2, h1]
  generalize rk m = M at *
  generalize rk x = X at *
  cases isNaN x with
  | true => rfl
  | false =>
    simp only [Bool.not_false, Bool.true_and]
    rw [← Bool.decide_and]
    exact decide_eq_decide.2 (by omega)
/-- a plain number is finite, and 64 times it is exact -/
theorem plain_fin {x m : Nat} (hm : okM m) (h : fle (absF x) m = true) : fin x ∧ (fv x).natAbs ≤ 2 ^ 1081 := by
  obtain ⟨h1, h2, h3⟩ := okM_rk hm
  rw [fle_rk, (absF_rk x).1, (absF_rk x).2, h1] at h
  simp only [Bool.and_eq_true, decide_eq_true_eq, Bool.not_eq_true'] at h
  obtain ⟨⟨hx, _⟩, hle⟩ := h
  have hb : ((rk x).natAbs : Int) ≤ 2 ^ 1081 := Int.le_trans hle h3
  have hb' : (rk x).natAbs ≤ 2 ^ 1081 := by
    have e : (2 : Int) ^ 1081 = ((2 ^ 1081 : Nat) : Int) := by rw [Int.natCast_pow]; rfl
    rw [e] at hb
    exact Int.ofNat_le.1 hb
  have hf : fin x := fin_of_rk hx (Nat.lt_of_le_of_lt hb' (Nat.pow_lt_pow_right (by decide) (by decide)))
  exact ⟨hf, by rw [← rk_fin hf]; exact hb'⟩
theorem mul64 {x m : Nat} (hm : okM m) (h : fle (absF x) m = true) : fin (fmul x 4634204016564240384) ∧ fv (fmul x 4634204016564240384) = fv x * 2 ^ 6 ∧ (fv (fmul x 4634204016564240384)).natAbs < 2 ^ 1100 := by
  obtain ⟨hf, hb⟩ := plain_fin hm h
  have hlt : (fv x).natAbs * 2 ^ 6 ≤ 2 ^ 1087 := by
    calc (fv x).natAbs * 2 ^ 6 ≤ 2 ^ 1081 * 2 ^ 6 := Nat.mul_le_mul_right _ hb
      _ = 2 ^ 1087 := by rw [← Nat.pow_add]
  obtain ⟨h1, h2⟩ := fmul_pow2 (k := 6) hf sixtyfour (Nat.lt_of_le_of_lt hlt (Nat.pow_lt_pow_right (by decide) (by decide)))
  refine ⟨h1, h2, ?_⟩
  rw [h2, Int.natAbs_mul, Int.natAbs_pow]
  exact Nat.lt_of_le_of_lt hlt (Nat.pow_lt_pow_right (by decide) (by decide))
def szF (a : Nat) : Nat := bif flt a 0 then fneg a else a
/-- a whole number, by the value alone -/
theorem whole_val {a b : Nat} (ha : fin a) (hb : fin b) (h : fv a = fv b) : feq (fint .zero a) a = feq (fint .zero b) b := by
  obtain ⟨z1, z2⟩ := fint_zero ha
  obtain ⟨z3, z4⟩ := fint_zero hb
  rw [feq_fin z1 ha, feq_fin z3 hb, z2, z4, h]
theorem of_six {L n x m : Nat} (hm : okM m) : den ⟨fnOf, specAbs, L⟩ (n+4) 51 [.flt x, .int .i64 6, .flt m] = some (.v (.bool (plainF x m))) := by
  obtain ⟨y, hd, hy⟩ := @ldexp_den L n x 6 (by decide)
  have h1 := call_den (lxd_0 (e := 0) (b := 0) (w := 0) (call_den hd))
  cases h : fle (absF x) m with
  | true =>
    obtain ⟨f1, f2⟩ := plain_fin hm h
    obtain ⟨g1, g2⟩ := hy f1 (Nat.le_trans f2 (Nat.pow_le_pow_right (by decide) (by decide)))
    obtain ⟨m1, m2, _⟩ := mul64 hm h
    have := @pof_0 L (n+3) x y m 6 y _ h1 h (call_den ptr_0)
    rw [this, whole_val g1 m1 (by rw [g2, m2])]
    unfold plainF; rw [h]; rfl
  | false =>
    have := @pof_1 L (n+3) x y m 6 y h1 h
    rw [this]; unfold plainF; rw [h]; rfl
/-- of a number: is it on the grid of 2^-12, and within the edge? -/
def onD (x : Nat) : Bool := fle (absF x) 4652218415073722368 && feq (fint .zero (fmul x 4661225614328463360)) (fmul x 4661225614328463360)
theorem twelve : Ieee.double.read 4661225614328463360 = .number false (2 ^ 52) ((12 : Nat) - 52 : Int) := by decide
theorem edge_fin {x : Nat} (h : fle (absF x) 4652218415073722368 = true) : fin x ∧ (fv x).natAbs ≤ 2 ^ 1084 := by
  obtain ⟨_, _, h1, h3⟩ := edge_is
  rw [fle_rk, (absF_rk x).1, (absF_rk x).2, h1, h3] at h
  simp only [Bool.and_eq_true, decide_eq_true_eq, Bool.not_eq_true'] at h
  obtain ⟨⟨hx, _⟩, hle⟩ := h
  have e : (2 : Int) ^ 1084 = ((2 ^ 1084 : Nat) : Int) := by rw [Int.natCast_pow]; rfl
  rw [e] at hle
  have hb := Int.ofNat_le.1 hle
  have hf : fin x := fin_of_rk hx (Nat.lt_of_le_of_lt hb (Nat.pow_lt_pow_right (by decide) (by decide)))
  exact ⟨hf, by rw [← rk_fin hf]; exact hb⟩
theorem of_twelve {L n x : Nat} : den ⟨fnOf, specAbs, L⟩ (n+4) 51 [.flt x, .int .i64 12, .flt 4652218415073722368] = some (.v (.bool (onD x))) := by
  obtain ⟨y, hd, hy⟩ := @ldexp_den L n x 12 (by decide)
  have h1 := call_den (lxd_0 (e := 0) (b := 0) (w := 0) (call_den hd))
  cases h : fle (absF x) 4652218415073722368 with
  | true =>
    obtain ⟨f1, f2⟩ := edge_fin h
    obtain ⟨g1, g2⟩ := hy f1 f2
    obtain ⟨m1, m2⟩ := fmul_pow2 (k := 12) f1 twelve (Nat.lt_of_le_of_lt (Nat.mul_le_mul_right _ f2) (by rw [← Nat.pow_add]; exact Nat.pow_lt_pow_right (by decide) (by decide)))
    have := @pof_0 L (n+3) x y 4652218415073722368 12 y _ h1 h (call_den ptr_0)
    rw [this, whole_val g1 m1 (by rw [g2, m2])]
    unfold onD; rw [h]; rfl
  | false =>
    have := @pof_1 L (n+3) x y 4652218415073722368 12 y h1 h
    rw [this]; unfold onD; rw [h]; rfl
theorem den_Plain1 {L n x m : Nat} (hm : okM m) : den ⟨fnOf, specAbs, L⟩ (n+1) 59 [.flt x, .flt m] = some (.v (.bool (plainF x m))) := by
  have hw := within_same (x := x) hm
  cases h : fle (absF x) m with
  | false =>
    rw [h] at hw
    have hp : plainF x m = false := by unfold plainF; rw [h]; rfl
    rw [hp]
    cases h1 : fge x (fneg m) with
    | false => exact qe_2 (k := 0) h1
    | true =>
      rw [h1] at hw
      have h2 : fle x m = false := by simpa using hw
      exact qe_0 (k := 0) h1 (by rw [h2]; rfl)
  | true =>
    rw [h] at hw
    simp only [Bool.and_eq_true] at hw
    obtain ⟨f1, f2, f3⟩ := mul64 hm h
    obtain ⟨k, hk, he⟩ := whole_same f1 f3
    have hp : plainF x m = feq (fmul x 4634204016564240384) (fofInt k) := by unfold plainF; rw [h, he]; rfl
    rw [hp]
    refine qe_1 hw.1 (by rw [hw.2]; rfl) ?_
    show (((ftoInt (fmul x 4634204016564240384) .i64).map (AV.int .i64)).map fun v => (v, ([] : Heap))) = _
    rw [hk]; rfl
theorem den_size2 {L n a : Nat} : den ⟨fnOf, specAbs, L⟩ (n+1) 60 [.flt a] = some (.flt (szF a)) := by
  unfold szF
  cases h : flt a 0 with
  | true => exact qs_0 h
  | false => exact qs_1 h
/-- several functions more are spoken for -/
theorem spec_adds {P : Program} {fn : FuncId → Option FnM} {spec : FuncId → Option (List AV → Option AV)} (hS : SpecOk P ⟨fn, spec, 0⟩) (hF : ∀ L, FnsOk P ⟨fn, spec, L⟩) (hm : P.follows .mixedOrders = true) (δ : FuncId → Option (List AV → Option AV))
    (hd : ∀ f g, δ f = some g → FnIs P f ∧ ∀ avs r, g avs = some r → ∃ avs1 L k r1, All2 WiA avs avs1 ∧ den ⟨fn, spec, L⟩ k f avs1 = some r1 ∧ WkT r1 r) : SpecOk P ⟨fn, fun f => match δ f with | some g => some g | none => spec f, 0⟩ := by
  intro f g h
  simp only at h
  cases hq : δ f with
  | none => rw [hq] at h; exact hS f g h
  | some g' =>
    rw [hq] at h
    cases h
    obtain ⟨h1, h2⟩ := hd f g hq
    exact spec_add hS hF hm f g h1 h2 f g (by simp)
theorem told {P : Prog} {f : FuncId} {avs : List AV} {r : AV} (h : ∃ L k, den ⟨P.fn, P.spec, L⟩ k f avs = some r) : ∃ avs1 L k r1, All2 WiA avs avs1 ∧ den ⟨P.fn, P.spec, L⟩ k f avs1 = some r1 ∧ WkT r1 r := by
  obtain ⟨L, k, h⟩ := h
  exact ⟨avs, L, k, r, all2_refl WiA.refl _, h, WkT.refl _⟩
def sizeSem : List AV → Option AV
  | [.flt a] => some (.flt (szF a))
  | _ => none
def plainSem : List AV → Option AV
  | [.flt x, .flt m] => if m = 4607182418800017408 ∨ m = 4638707616191610880 then some (.v (.bool (plainF x m))) else none
  | _ => none
def ofSem : List AV → Option AV
  | [.flt x, .v (.int .i64 k), .flt m] => if k = 6 ∧ (m = 4607182418800017408 ∨ m = 4638707616191610880) then some (.v (.bool (plainF x m))) else if k = 12 ∧ m = 4652218415073722368 then some (.v (.bool (onD x))) else none
  | _ => none
def newO : FuncId → Option (List AV → Option AV)
  | 51 => some ofSem
  | 59 => some plainSem
  | 60 => some sizeSem
  | _ => none
def specO : FuncId → Option (List AV → Option AV) := fun f => match newO f with | some g => some g | none => specAbs f
theorem spec_o : SpecOk Try.prog ⟨fnOf, specO, 0⟩ :=
  spec_adds (spec_abs 0 fnOf) (fun L => fnsOk _ _) follows newO fun f g h => by
    unfold newO at h
    split at h
    · cases h
      refine ⟨⟨_, Try.func51, ne_of_beq_false (by kernel_rfl), by kernel_rfl⟩, fun avs r h => ?_⟩
      unfold ofSem at h
      split at h
      · split at h
        · rename_i hm; cases h; obtain ⟨rfl, hm⟩ := hm; exact told (P := ⟨fnOf, specAbs, 0⟩) ⟨0, 4, of_six hm⟩
        · split at h
          · rename_i hm; cases h; obtain ⟨rfl, rfl⟩ := hm; exact told (P := ⟨fnOf, specAbs, 0⟩) ⟨0, 4, of_twelve⟩
          · cases h
      · cases h
    · cases h
      refine ⟨⟨_, Try.func59, ne_of_beq_false (by kernel_rfl), by kernel_rfl⟩, fun avs r h => ?_⟩
      unfold plainSem at h
      split at h
      · split at h
        · rename_i hm; cases h; exact told (P := ⟨fnOf, specAbs, 0⟩) ⟨0, 1, den_Plain1 hm⟩
        · cases h
      · cases h
    · cases h
      refine ⟨⟨_, Try.func60, ne_of_beq_false (by kernel_rfl), by kernel_rfl⟩, fun avs r h => ?_⟩
      unfold sizeSem at h
      split at h
      · cases h; exact told (P := ⟨fnOf, specAbs, 0⟩) ⟨0, 1, den_size2⟩
      · cases h
    · cases h
theorem szF_rk (a : Nat) : isNaN (szF a) = isNaN a ∧ rk (szF a) = ((rk a).natAbs : Int) := by
  have hz : rk 0 = 0 := by decide
  have hn : isNaN 0 = false := by decide
  have hs : szF a = bif (!isNaN a && !isNaN 0 && decide (rk a < rk 0)) then fneg a else a := by unfold szF; rw [flt_rk]
  rw [hn, hz] at hs
  cases h : isNaN a with
  | true =>
    rw [h] at hs
    have hs : szF a = a := hs
    rw [hs]
    exact ⟨h, by rw [rk_nan h]; rfl⟩
  | false =>
    rw [h] at hs
    by_cases h2 : rk a < 0
    · rw [decide_eq_true h2] at hs
      have hs : szF a = fneg a := hs
      obtain ⟨h3, h4⟩ := fneg_rk a
      rw [hs]
      exact ⟨by rw [h3, h], by rw [h4]; omega⟩
    · rw [decide_eq_false h2] at hs
      have hs : szF a = a := hs
      rw [hs]
      exact ⟨h, by omega⟩
def one : Nat := 4607182418800017408
/-- in parts of 2^-6 -/
def six (m : Int) (x : Nat) : Prop := fin x ∧ fv x = m * 2 ^ 1068
theorem okM_one : okM one := .inl rfl
theorem rk_one : rk one = 2 ^ 1074 := by kernel_rfl
theorem plain_six {x : Nat} (h : plainF x one = true) : ∃ m : Int, six m x ∧ m.natAbs ≤ 64 := by
  unfold plainF at h
  simp only [Bool.and_eq_true] at h
  obtain ⟨h1, h2⟩ := h
  obtain ⟨f1, f2, f3⟩ := mul64 okM_one h1
  obtain ⟨hf, _⟩ := plain_fin okM_one h1
  obtain ⟨z1, z2⟩ := fint_zero f1
  rw [feq_fin z1 f1, z2, f2] at h2
  simp only [decide_eq_true_eq] at h2
  refine ⟨(fv x * 2 ^ 6).tdiv (2 ^ 1074), ⟨hf, ?_⟩, ?_⟩
  · generalize (fv x * 2 ^ 6).tdiv (2 ^ 1074) = q at h2
    have e : q * 2 ^ 1074 = (q * 2 ^ 1068) * 2 ^ 6 := by rw [Int.mul_assoc, ← Int.pow_add]
    rw [e] at h2
    exact (Int.mul_eq_mul_right_iff (by decide)).1 h2.symm
  · rw [fle_rk, (absF_rk x).1, (absF_rk x).2, rk_one, rk_fin hf] at h1
    simp only [Bool.and_eq_true, decide_eq_true_eq] at h1
    have hb := h1.2
    generalize (fv x * 2 ^ 6).tdiv (2 ^ 1074) = q at h2
    have e : q * 2 ^ 1074 = (q * 2 ^ 1068) * 2 ^ 6 := by rw [Int.mul_assoc, ← Int.pow_add]
    rw [e] at h2
    have h3 : fv x = q * 2 ^ 1068 := (Int.mul_eq_mul_right_iff (by decide)).1 h2.symm
    rw [h3, Int.natAbs_mul, Int.natAbs_pow] at hb
    have hb' : q.natAbs * 2 ^ 1068 ≤ 64 * 2 ^ 1068 := by
      have e1 : (2 : Int) ^ 1074 = ((64 * 2 ^ 1068 : Nat) : Int) := by
        rw [Int.natCast_mul, Int.natCast_pow]
        have : (64 : Int) = 2 ^ 6 := by decide
        show (2 : Int) ^ 1074 = 64 * 2 ^ 1068
        rw [this, ← Int.pow_add]
      rw [e1] at hb
      exact Int.ofNat_le.1 hb
    exact Nat.le_of_mul_le_mul_right hb' (Nat.pow_pos (by decide))
theorem six_abs {m : Int} {x : Nat} (h : six m x) : six m.natAbs (absF x) ∧ six m.natAbs (szF x) := by
  have p : (0 : Int) < 2 ^ 1068 := Int.pow_pos (by decide)
  have hn : isNaN x = false := fin_num h.1
  have hr : rk x = m * 2 ^ 1068 := by rw [rk_fin h.1, h.2]
  have ha : ((m * 2 ^ 1068).natAbs : Int) = (m.natAbs : Int) * 2 ^ 1068 := by
    rw [Int.natAbs_mul, Int.natCast_mul]
    congr 1
  have key : ∀ y, isNaN y = false → rk y = ((rk x).natAbs : Int) → six m.natAbs y := fun y h1 h2 => by
    have hs := rk_small h.1
    have hf : fin y := fin_of_rk h1 (by rw [h2]; exact hs)
    exact ⟨hf, by rw [← rk_fin hf, h2, hr, ha]⟩
  exact ⟨key _ (by rw [(absF_rk x).1, hn]) (absF_rk x).2, key _ (by rw [(szF_rk x).1, hn]) (szF_rk x).2⟩
theorem six_add {m n : Int} {x y : Nat} (hx : six m x) (hy : six n y) (h : (m + n).natAbs < 2 ^ 53) : six (m + n) (fadd x y) := by
  have e : fv x + fv y = (m + n) * 2 ^ 1068 := by rw [hx.2, hy.2, Int.add_mul]
  obtain ⟨h1, h2⟩ := fadd_exact hx.1 hy.1 (by rw [e]; exact fits_grid h (by decide))
  exact ⟨h1, by rw [h2, e]⟩
theorem six_zero : six 0 0 := by
  have h := fofInt_exact (n := 0) (by decide)
  have e : fofInt 0 = 0 := by kernel_rfl
  rw [e] at h
  exact ⟨h.1, by rw [h.2]; simp⟩
end Go.Proofs.Ytnphdnokedhhkaa.Fw
namespace Go.Proofs.Ytnphdnokedhhkaa.Fw
open Go Go.RowKit
theorem hnLwTaA {P : Prog} {C : Caller} : Holds P C [] := trivial
theorem hcLwTaA {P : Prog} {C : Caller} {c : Con} {cs : List Con} (h : c.holds P C) (t : Holds P C cs) : Holds P C (c :: cs) := ⟨h, t⟩
theorem hbLwTaA {P : Prog} {C : Caller} {x y : Bool} {cs : List Con} (h : x = y) (t : Holds P C cs) : Holds P C (.b x y :: cs) := ⟨h, t⟩

def taSt (zs : List (Nat × Nat)) (s i : Nat) : St := ⟨[(0, .lst 1 (zs.map celC)), (3, .flt s), (6, .lst 1 (zs.map celC)), (7, .int .i64 (zs.map celC).length), (8, .int .i64 i)], [], 0⟩
def tdSt (zs : List (Nat × Nat)) (s i : Nat) : St := ⟨[(0, .lst 1 (zs.map celC)), (3, .flt s), (4, .int .i64 i)], [], 0⟩
theorem tar_0 {L n : Nat} {zs : List (Nat × Nat)} {s i : Nat} {π : List Nat} {x10 : Nat × Nat} (h0 : (decide ((↑i : Int) < (↑(List.map celC zs).length : Int))) = true) (h1 : Con.holds ⟨fnOf, specO, L⟩ (runF ⟨fnOf, specO, L⟩ n) (.el (List.map celC zs) (.v (.int .i64 ((↑i : Int)))) [(AV.cpx (x10.fst) (x10.snd))])) (h2 : (!plainF x10.fst 4607182418800017408) = true) : seeZ 0 [0, 3, 6, 7, 8] m41.res (bodyOf ⟨fnOf, specO, L⟩ (runF ⟨fnOf, specO, L⟩ n) 0 m41b0 (i :: π) (taSt zs s i : St)) = some (RO.out (.v (.bool false))) :=
  rndZ_sound (q := [((some 9), (Dec.b true)), ((some 10), (Dec.el [(AV.cpx (x10.fst) (x10.snd))])), ((some 16), (Dec.b true))]) (by kernel_rfl) (hbLwTaA h0 (hcLwTaA h1 (hbLwTaA h2 hnLwTaA)))
theorem tar_1 {L n : Nat} {zs : List (Nat × Nat)} {s i : Nat} {π : List Nat} {x10 : Nat × Nat} (h0 : (decide ((↑i : Int) < (↑(List.map celC zs).length : Int))) = true) (h1 : Con.holds ⟨fnOf, specO, L⟩ (runF ⟨fnOf, specO, L⟩ n) (.el (List.map celC zs) (.v (.int .i64 ((↑i : Int)))) [(AV.cpx (x10.fst) (x10.snd))])) (h2 : (!plainF x10.fst 4607182418800017408) = false) (h3 : (!plainF x10.snd 4607182418800017408) = true) : seeZ 0 [0, 3, 6, 7, 8] m41.res (bodyOf ⟨fnOf, specO, L⟩ (runF ⟨fnOf, specO, L⟩ n) 0 m41b0 (i :: π) (taSt zs s i : St)) = some (RO.out (.v (.bool false))) :=
  rndZ_sound (q := [((some 9), (Dec.b true)), ((some 10), (Dec.el [(AV.cpx (x10.fst) (x10.snd))])), ((some 16), (Dec.b false)), ((some 21), (Dec.b true))]) (by kernel_rfl) (hbLwTaA h0 (hcLwTaA h1 (hbLwTaA h2 (hbLwTaA h3 hnLwTaA))))
theorem tar_2 {L n : Nat} {zs : List (Nat × Nat)} {s i : Nat} {π : List Nat} {x10 : Nat × Nat} (h0 : (decide ((↑i : Int) < (↑(List.map celC zs).length : Int))) = true) (h1 : Con.holds ⟨fnOf, specO, L⟩ (runF ⟨fnOf, specO, L⟩ n) (.el (List.map celC zs) (.v (.int .i64 ((↑i : Int)))) [(AV.cpx (x10.fst) (x10.snd))])) (h2 : (!plainF x10.fst 4607182418800017408) = false) (h3 : (!plainF x10.snd 4607182418800017408) = false) : seeZ 0 [0, 3, 6, 7, 8] m41.res (bodyOf ⟨fnOf, specO, L⟩ (runF ⟨fnOf, specO, L⟩ n) 0 m41b0 (i :: π) (taSt zs s i : St)) = some (RO.go .nrm (.mk [(0, (.lst 1 (List.map celC zs))), (3, (.flt (fadd s (fadd (absF x10.fst) (absF x10.snd))))), (6, (.lst 1 (List.map celC zs))), (7, (.v (.int .i64 ((↑(List.map celC zs).length : Int))))), (8, (.v (.int .i64 (IntKind.wrap .i64 ((↑i : Int) + 1)))))] [] 0)) :=
  rndZ_sound (q := [((some 9), (Dec.b true)), ((some 10), (Dec.el [(AV.cpx (x10.fst) (x10.snd))])), ((some 16), (Dec.b false)), ((some 21), (Dec.b false))]) (by kernel_rfl) (hbLwTaA h0 (hcLwTaA h1 (hbLwTaA h2 (hbLwTaA h3 hnLwTaA))))
theorem tar_3 {L n : Nat} {zs : List (Nat × Nat)} {s i : Nat} {π : List Nat} (h0 : (decide ((↑i : Int) < (↑(List.map celC zs).length : Int))) = false) : seeZ 0 [0, 3, 6, 7, 8] m41.res (bodyOf ⟨fnOf, specO, L⟩ (runF ⟨fnOf, specO, L⟩ n) 0 m41b0 (i :: π) (taSt zs s i : St)) = some (RO.go (.exit 0) (.mk [(0, (.lst 1 (List.map celC zs))), (3, (.flt (s))), (6, (.lst 1 (List.map celC zs))), (7, (.v (.int .i64 ((↑(List.map celC zs).length : Int))))), (8, (.v (.int .i64 ((↑i : Int)))))] [] 0)) :=
  rndZ_sound (q := [((some 9), (Dec.b false))]) (by kernel_rfl) (hbLwTaA h0 hnLwTaA)
theorem tdr_0 {L n : Nat} {zs : List (Nat × Nat)} {s i : Nat} {π : List Nat} {x21 : Nat × Nat} (h0 : (decide ((↑i : Int) < (↑(List.map celC zs).length : Int))) = true) (h1 : Con.holds ⟨fnOf, specO, L⟩ (runF ⟨fnOf, specO, L⟩ n) (.el (List.map celC zs) (.v (.int .i64 ((↑i : Int)))) [(AV.cpx (x21.fst) (x21.snd))])) (h2 : (!plainF x21.fst 4607182418800017408) = true) : seeZ 0 [0, 3, 4] m43.res (bodyOf ⟨fnOf, specO, L⟩ (runF ⟨fnOf, specO, L⟩ n) 0 m43b0 (i :: π) (tdSt zs s i : St)) = some (RO.out (.v (.bool false))) :=
  rndZ_sound (q := [((some 16), (Dec.b true)), ((some 21), (Dec.el [(AV.cpx (x21.fst) (x21.snd))])), ((some 26), (Dec.b true))]) (by kernel_rfl) (hbLwTaA h0 (hcLwTaA h1 (hbLwTaA h2 hnLwTaA)))
theorem tdr_1 {L n : Nat} {zs : List (Nat × Nat)} {s i : Nat} {π : List Nat} {x21 : Nat × Nat} {x29 : Nat × Nat} (h0 : (decide ((↑i : Int) < (↑(List.map celC zs).length : Int))) = true) (h1 : Con.holds ⟨fnOf, specO, L⟩ (runF ⟨fnOf, specO, L⟩ n) (.el (List.map celC zs) (.v (.int .i64 ((↑i : Int)))) [(AV.cpx (x21.fst) (x21.snd))])) (h2 : (!plainF x21.fst 4607182418800017408) = false) (h3 : Con.holds ⟨fnOf, specO, L⟩ (runF ⟨fnOf, specO, L⟩ n) (.el (List.map celC zs) (.v (.int .i64 ((↑i : Int)))) [(AV.cpx (x29.fst) (x29.snd))])) (h4 : (!plainF x29.snd 4607182418800017408) = true) : seeZ 0 [0, 3, 4] m43.res (bodyOf ⟨fnOf, specO, L⟩ (runF ⟨fnOf, specO, L⟩ n) 0 m43b0 (i :: π) (tdSt zs s i : St)) = some (RO.out (.v (.bool false))) :=
  rndZ_sound (q := [((some 16), (Dec.b true)), ((some 21), (Dec.el [(AV.cpx (x21.fst) (x21.snd))])), ((some 26), (Dec.b false)), ((some 29), (Dec.el [(AV.cpx (x29.fst) (x29.snd))])), ((some 34), (Dec.b true))]) (by kernel_rfl) (hbLwTaA h0 (hcLwTaA h1 (hbLwTaA h2 (hcLwTaA h3 (hbLwTaA h4 hnLwTaA)))))
theorem tdr_2 {L n : Nat} {zs : List (Nat × Nat)} {s i : Nat} {π : List Nat} {x21 : Nat × Nat} {x29 : Nat × Nat} {x38 : Nat × Nat} {x45 : Nat × Nat} (h0 : (decide ((↑i : Int) < (↑(List.map celC zs).length : Int))) = true) (h1 : Con.holds ⟨fnOf, specO, L⟩ (runF ⟨fnOf, specO, L⟩ n) (.el (List.map celC zs) (.v (.int .i64 ((↑i : Int)))) [(AV.cpx (x21.fst) (x21.snd))])) (h2 : (!plainF x21.fst 4607182418800017408) = false) (h3 : Con.holds ⟨fnOf, specO, L⟩ (runF ⟨fnOf, specO, L⟩ n) (.el (List.map celC zs) (.v (.int .i64 ((↑i : Int)))) [(AV.cpx (x29.fst) (x29.snd))])) (h4 : (!plainF x29.snd 4607182418800017408) = false) (h5 : Con.holds ⟨fnOf, specO, L⟩ (runF ⟨fnOf, specO, L⟩ n) (.el (List.map celC zs) (.v (.int .i64 ((↑i : Int)))) [(AV.cpx (x38.fst) (x38.snd))])) (h6 : Con.holds ⟨fnOf, specO, L⟩ (runF ⟨fnOf, specO, L⟩ n) (.el (List.map celC zs) (.v (.int .i64 ((↑i : Int)))) [(AV.cpx (x45.fst) (x45.snd))])) : seeZ 0 [0, 3, 4] m43.res (bodyOf ⟨fnOf, specO, L⟩ (runF ⟨fnOf, specO, L⟩ n) 0 m43b0 (i :: π) (tdSt zs s i : St)) = some (RO.go .nrm (.mk [(0, (.lst 1 (List.map celC zs))), (3, (.flt (fadd (fadd s (szF x38.fst)) (szF x45.snd)))), (4, (.v (.int .i64 (IntKind.wrap .i64 ((↑i : Int) + 1)))))] [] 0)) :=
  rndZ_sound (q := [((some 16), (Dec.b true)), ((some 21), (Dec.el [(AV.cpx (x21.fst) (x21.snd))])), ((some 26), (Dec.b false)), ((some 29), (Dec.el [(AV.cpx (x29.fst) (x29.snd))])), ((some 34), (Dec.b false)), ((some 38), (Dec.el [(AV.cpx (x38.fst) (x38.snd))])), ((some 45), (Dec.el [(AV.cpx (x45.fst) (x45.snd))]))]) (by kernel_rfl) (hbLwTaA h0 (hcLwTaA h1 (hbLwTaA h2 (hcLwTaA h3 (hbLwTaA h4 (hcLwTaA h5 (hcLwTaA h6 hnLwTaA)))))))
theorem tdr_3 {L n : Nat} {zs : List (Nat × Nat)} {s i : Nat} {π : List Nat} (h0 : (decide ((↑i : Int) < (↑(List.map celC zs).length : Int))) = false) : seeZ 0 [0, 3, 4] m43.res (bodyOf ⟨fnOf, specO, L⟩ (runF ⟨fnOf, specO, L⟩ n) 0 m43b0 (i :: π) (tdSt zs s i : St)) = some (RO.go (.exit 0) (.mk [(0, (.lst 1 (List.map celC zs))), (3, (.flt (s))), (4, (.v (.int .i64 ((↑i : Int)))))] [] 0)) :=
  rndZ_sound (q := [((some 16), (Dec.b false))]) (by kernel_rfl) (hbLwTaA h0 hnLwTaA)
theorem tan_0 {L n : Nat} {zs : List (Nat × Nat)} {u : Nat} (h0 : Con.holds ⟨fnOf, specO, L⟩ (runF ⟨fnOf, specO, L⟩ n) (.loop 0 [0, 3, 6, 7, 8] m41b0 [5] (.mk [(0, (.lst 1 (List.map celC zs))), (3, (.flt 0)), (6, (.lst 1 (List.map celC zs))), (7, (.v (.int .i64 ((↑(List.map celC zs).length : Int))))), (8, (.v (.int .i64 0)))] [] 0) (.exit 0) (.mk [(0, (.lst 1 (List.map celC zs))), (3, (.flt (u))), (6, (.lst 1 (List.map celC zs))), (7, (.v (.int .i64 ((↑(List.map celC zs).length : Int))))), (8, (.v (.int .i64 ((↑zs.length : Int)))))] [] 0))) (h1 : (decide ((↑(List.map celC zs).length : Int) > 0)) = true) (h2 : (decide ((↑(List.map celC zs).length : Int) ≤ 64)) = true) : den ⟨fnOf, specO, L⟩ (n+1) 41 [.lst 1 (zs.map celC)] = some (.v (.bool (fle u 4616189618054758400))) :=
  denD_sound (q := [((some 200000), (Dec.loop (.exit 0) (.mk [(0, (.lst 1 (List.map celC zs))), (3, (.flt (u))), (6, (.lst 1 (List.map celC zs))), (7, (.v (.int .i64 ((↑(List.map celC zs).length : Int))))), (8, (.v (.int .i64 ((↑zs.length : Int)))))] [] 0))), ((some 35), (Dec.b true)), ((some 40), (Dec.b true))]) (by kernel_rfl) (hcLwTaA h0 (hbLwTaA h1 (hbLwTaA h2 hnLwTaA)))
theorem tan_1 {L n : Nat} {zs : List (Nat × Nat)} {u : Nat} (h0 : Con.holds ⟨fnOf, specO, L⟩ (runF ⟨fnOf, specO, L⟩ n) (.loop 0 [0, 3, 6, 7, 8] m41b0 [5] (.mk [(0, (.lst 1 (List.map celC zs))), (3, (.flt 0)), (6, (.lst 1 (List.map celC zs))), (7, (.v (.int .i64 ((↑(List.map celC zs).length : Int))))), (8, (.v (.int .i64 0)))] [] 0) (.exit 0) (.mk [(0, (.lst 1 (List.map celC zs))), (3, (.flt (u))), (6, (.lst 1 (List.map celC zs))), (7, (.v (.int .i64 ((↑(List.map celC zs).length : Int))))), (8, (.v (.int .i64 ((↑zs.length : Int)))))] [] 0))) (h1 : (decide ((↑(List.map celC zs).length : Int) > 0)) = true) (h2 : (decide ((↑(List.map celC zs).length : Int) ≤ 64)) = false) : den ⟨fnOf, specO, L⟩ (n+1) 41 [.lst 1 (zs.map celC)] = some (.v (.bool false)) :=
  denD_sound (q := [((some 200000), (Dec.loop (.exit 0) (.mk [(0, (.lst 1 (List.map celC zs))), (3, (.flt (u))), (6, (.lst 1 (List.map celC zs))), (7, (.v (.int .i64 ((↑(List.map celC zs).length : Int))))), (8, (.v (.int .i64 ((↑zs.length : Int)))))] [] 0))), ((some 35), (Dec.b true)), ((some 40), (Dec.b false))]) (by kernel_rfl) (hcLwTaA h0 (hbLwTaA h1 (hbLwTaA h2 hnLwTaA)))
theorem tan_2 {L n : Nat} {zs : List (Nat × Nat)} {u : Nat} (h0 : Con.holds ⟨fnOf, specO, L⟩ (runF ⟨fnOf, specO, L⟩ n) (.loop 0 [0, 3, 6, 7, 8] m41b0 [5] (.mk [(0, (.lst 1 (List.map celC zs))), (3, (.flt 0)), (6, (.lst 1 (List.map celC zs))), (7, (.v (.int .i64 ((↑(List.map celC zs).length : Int))))), (8, (.v (.int .i64 0)))] [] 0) (.exit 0) (.mk [(0, (.lst 1 (List.map celC zs))), (3, (.flt (u))), (6, (.lst 1 (List.map celC zs))), (7, (.v (.int .i64 ((↑(List.map celC zs).length : Int))))), (8, (.v (.int .i64 ((↑zs.length : Int)))))] [] 0))) (h1 : (decide ((↑(List.map celC zs).length : Int) > 0)) = false) : den ⟨fnOf, specO, L⟩ (n+1) 41 [.lst 1 (zs.map celC)] = some (.v (.bool false)) :=
  denD_sound (q := [((some 200000), (Dec.loop (.exit 0) (.mk [(0, (.lst 1 (List.map celC zs))), (3, (.flt (u))), (6, (.lst 1 (List.map celC zs))), (7, (.v (.int .i64 ((↑(List.map celC zs).length : Int))))), (8, (.v (.int .i64 ((↑zs.length : Int)))))] [] 0))), ((some 35), (Dec.b false))]) (by kernel_rfl) (hcLwTaA h0 (hbLwTaA h1 hnLwTaA))
theorem tat_0 {L n : Nat} {zs : List (Nat × Nat)} {s : St} {v : AV} (h0 : Con.holds ⟨fnOf, specO, L⟩ (runF ⟨fnOf, specO, L⟩ n) (.loop 0 [0, 3, 6, 7, 8] m41b0 [5] (.mk [(0, (.lst 1 (List.map celC zs))), (3, (.flt 0)), (6, (.lst 1 (List.map celC zs))), (7, (.v (.int .i64 ((↑(List.map celC zs).length : Int))))), (8, (.v (.int .i64 0)))] [] 0) .ret (s))) (hv : outS s m41.res = some v) : den ⟨fnOf, specO, L⟩ (n+1) 41 [.lst 1 (zs.map celC)] = some v :=
  tailD_sound (q := [((some 200000), (Dec.loop .ret (s)))]) (k := 6) (by kernel_rfl) rfl (hcLwTaA h0 hnLwTaA) hv
theorem tdn_0 {L n : Nat} {zs : List (Nat × Nat)} {u : Nat} (h0 : (decide ((↑(List.map celC zs).length : Int) < 1)) = true) : den ⟨fnOf, specO, L⟩ (n+1) 43 [.lst 1 (zs.map celC)] = some (.v (.bool false)) :=
  denD_sound (q := [((some 8), (Dec.b true))]) (by kernel_rfl) (hbLwTaA h0 hnLwTaA)
theorem tdn_1 {L n : Nat} {zs : List (Nat × Nat)} {u : Nat} (h0 : (decide ((↑(List.map celC zs).length : Int) < 1)) = false) (h1 : (decide ((↑(List.map celC zs).length : Int) > 64)) = true) : den ⟨fnOf, specO, L⟩ (n+1) 43 [.lst 1 (zs.map celC)] = some (.v (.bool false)) :=
  denD_sound (q := [((some 8), (Dec.b false)), ((some 12), (Dec.b true))]) (by kernel_rfl) (hbLwTaA h0 (hbLwTaA h1 hnLwTaA))
theorem tdn_2 {L n : Nat} {zs : List (Nat × Nat)} {u : Nat} (h0 : (decide ((↑(List.map celC zs).length : Int) < 1)) = false) (h1 : (decide ((↑(List.map celC zs).length : Int) > 64)) = false) (h2 : Con.holds ⟨fnOf, specO, L⟩ (runF ⟨fnOf, specO, L⟩ n) (.loop 0 [0, 3, 4] m43b0 [11] (.mk [(0, (.lst 1 (List.map celC zs))), (3, (.flt 0)), (4, (.v (.int .i64 0)))] [] 0) (.exit 0) (.mk [(0, (.lst 1 (List.map celC zs))), (3, (.flt (u))), (4, (.v (.int .i64 ((↑zs.length : Int)))))] [] 0))) : den ⟨fnOf, specO, L⟩ (n+1) 43 [.lst 1 (zs.map celC)] = some (.v (.bool (fle u 4616189618054758400))) :=
  denD_sound (q := [((some 8), (Dec.b false)), ((some 12), (Dec.b false)), ((some 200000), (Dec.loop (.exit 0) (.mk [(0, (.lst 1 (List.map celC zs))), (3, (.flt (u))), (4, (.v (.int .i64 ((↑zs.length : Int)))))] [] 0)))]) (by kernel_rfl) (hbLwTaA h0 (hbLwTaA h1 (hcLwTaA h2 hnLwTaA)))
theorem tdt_2 {L n : Nat} {zs : List (Nat × Nat)} {s : St} {v : AV} (h0 : (decide ((↑(List.map celC zs).length : Int) < 1)) = false) (h1 : (decide ((↑(List.map celC zs).length : Int) > 64)) = false) (h2 : Con.holds ⟨fnOf, specO, L⟩ (runF ⟨fnOf, specO, L⟩ n) (.loop 0 [0, 3, 4] m43b0 [11] (.mk [(0, (.lst 1 (List.map celC zs))), (3, (.flt 0)), (4, (.v (.int .i64 0)))] [] 0) .ret (s))) (hv : outS s m43.res = some v) : den ⟨fnOf, specO, L⟩ (n+1) 43 [.lst 1 (zs.map celC)] = some v :=
  tailD_sound (q := [((some 8), (Dec.b false)), ((some 12), (Dec.b false)), ((some 200000), (Dec.loop .ret (s)))]) (k := 12) (by kernel_rfl) rfl (hbLwTaA h0 (hbLwTaA h1 (hcLwTaA h2 hnLwTaA))) hv
theorem al_0 {σ : FuncId → Option (List AV → Option AV)} {L n a b : Nat} (h0 : (feq a b) = true) : den ⟨fnOf, σ, L⟩ (n+1) 34 [.flt a, .flt b] = some (.v (.bool true)) :=
  denD_sound (q := [((some 8), (Dec.b true))]) (by kernel_rfl) (hbLwTaA h0 hnLwTaA)
theorem al_1 {σ : FuncId → Option (List AV → Option AV)} {L n a b : Nat} (h0 : (feq a b) = false) (h1 : (!feq a a) = true) : den ⟨fnOf, σ, L⟩ (n+1) 34 [.flt a, .flt b] = some (.v (.bool (!feq b b))) :=
  denD_sound (q := [((some 8), (Dec.b false)), ((some 12), (Dec.b true))]) (by kernel_rfl) (hbLwTaA h0 (hbLwTaA h1 hnLwTaA))
theorem al_2 {σ : FuncId → Option (List AV → Option AV)} {L n a b : Nat} (h0 : (feq a b) = false) (h1 : (!feq a a) = false) : den ⟨fnOf, σ, L⟩ (n+1) 34 [.flt a, .flt b] = some (.v (.bool false)) :=
  denD_sound (q := [((some 8), (Dec.b false)), ((some 12), (Dec.b false))]) (by kernel_rfl) (hbLwTaA h0 (hbLwTaA h1 hnLwTaA))
end Go.Proofs.Ytnphdnokedhhkaa.Fw
namespace Go.Proofs.Ytnphdnokedhhkaa.Fw
open Go Go.RowKit
theorem firstI (p : Nat → Bool) (m : Nat) : (∀ i, i < m → p i = true) ∨ ∃ k, k < m ∧ (∀ i, i < k → p i = true) ∧ p k = false := by
  rcases firstBad p (List.range m) with h | ⟨k, hk, h1, h2⟩
  · exact .inl fun i hi => List.all_eq_true.1 h i (List.mem_range.2 hi)
  · refine .inr ⟨k, by simpa using hk, fun i hi => ?_, by simpa using h2⟩
    have := h1 i hi
    simpa using this
def okTap (z : Nat × Nat) : Bool := plainF z.1 one && plainF z.2 one
def sP (zs : List (Nat × Nat)) : Nat → Nat
  | 0 => 0
  | i + 1 => fadd (sP zs i) (fadd (absF (zs.getD i (0, 0)).1) (absF (zs.getD i (0, 0)).2))
def sD (zs : List (Nat × Nat)) : Nat → Nat
  | 0 => 0
  | i + 1 => fadd (fadd (sD zs i) (szF (zs.getD i (0, 0)).1)) (szF (zs.getD i (0, 0)).2)
theorem six_fle {m : Int} {x y c : Nat} (hx : six m x) (hy : six m y) (hc : fin c) : fle x c = fle y c := by
  rw [fle_fin hx.1 hc, fle_fin hy.1 hc, hx.2, hy.2]
theorem fin4 : fin 4616189618054758400 := by
  have h := fofInt_exact (n := 4) (by decide)
  have e : fofInt 4 = 4616189618054758400 := by kernel_rfl
  rw [e] at h; exact h.1
theorem sums {zs : List (Nat × Nat)} (hl : zs.length ≤ 64) : ∀ i, i ≤ zs.length → (∀ j, j < i → okTap (zs.getD j (0, 0)) = true) → ∃ S : Int, 0 ≤ S ∧ S ≤ 128 * i ∧ six S (sP zs i) ∧ six S (sD zs i)
  | 0, _, _ => ⟨0, by omega, by omega, six_zero, six_zero⟩
  | i + 1, hi, h => by
    obtain ⟨S, s1, s2, s3, s4⟩ := sums hl i (by omega) fun j hj => h j (by omega)
    have hk := h i (by omega)
    unfold okTap at hk
    simp only [Bool.and_eq_true] at hk
    obtain ⟨m, hm, hb⟩ := plain_six hk.1
    obtain ⟨k, hk, hc⟩ := plain_six hk.2
    obtain ⟨a1, a2⟩ := six_abs hm
    obtain ⟨b1, b2⟩ := six_abs hk
    refine ⟨S + (m.natAbs + k.natAbs), by omega, by omega, six_add s3 (six_add a1 b1 (by omega)) (by omega), ?_⟩
    have := six_add (six_add s4 a2 (by omega)) b2 (by omega)
    rwa [Int.add_assoc] at this
/-- are numbers taps? -/
def tapsF (zs : List (Nat × Nat)) : Bool := decide (0 < zs.length) && decide (zs.length ≤ 64) && (List.range zs.length).all (fun i => okTap (zs.getD i (0, 0))) && fle (sP zs zs.length) 4616189618054758400
section
variable {L n : Nat} {zs : List (Nat × Nat)}
theorem tapsF_is : tapsF zs = true ↔ 0 < zs.length ∧ zs.length ≤ 64 ∧ (∀ i, i < zs.length → okTap (zs.getD i (0, 0)) = true) ∧ fle (sP zs zs.length) 4616189618054758400 = true := by
  unfold tapsF
  simp only [Bool.and_eq_true, decide_eq_true_eq, List.all_eq_true, List.mem_range, and_assoc]
theorem tapsF_bad {k : Nat} (hk : k < zs.length) (h : okTap (zs.getD k (0, 0)) = false) : tapsF zs = false := by
  cases hq : tapsF zs with
  | false => rfl
  | true =>
    have := (tapsF_is.1 hq).2.2.1 k hk
    rw [h] at this; cases this
theorem tapsF_long (h : ¬ (0 < zs.length ∧ zs.length ≤ 64)) : tapsF zs = false := by
  cases hq : tapsF zs with
  | false => rfl
  | true =>
    obtain ⟨h1, h2, _⟩ := tapsF_is.1 hq
    exact absurd ⟨h1, h2⟩ h
theorem tap_prog (hL : zs.length ≤ L) (hm : zs.length ≤ 17592186044415) : den ⟨fnOf, specO, L+1⟩ (n+1) 41 [.lst 1 (zs.map celC)] = some (.v (.bool (tapsF zs))) := by
  have hl : (zs.map celC).length = zs.length := map_len
  have hstep : ∀ k, k ≤ zs.length → (∀ i, i < k → okTap (zs.getD i (0, 0)) = true) → ∀ i, i < k →
      seeZ 0 [0, 3, 6, 7, 8] m41.res (bodyOf ⟨fnOf, specO, L+1⟩ (runF ⟨fnOf, specO, L+1⟩ n) 0 m41b0 (i :: [5]) (taSt zs (sP zs i) i)) = some (.go .nrm (taSt zs (sP zs (i + 1)) (i + 1))) := fun k hk h i hi => by
    have h1 := h i hi
    unfold okTap one at h1
    simp only [Bool.and_eq_true] at h1
    have := @tar_2 (L+1) n zs (sP zs i) i [5] (zs.getD i (0, 0)) (by rw [hl]; exact dLt (by omega)) (elD_map (f := celC) (by omega)) (by rw [h1.1]; rfl) (by rw [h1.2]; rfl)
    rw [wrap_id (n := (i : Int) + 1) (by omega)] at this
    exact this
  rcases firstI (fun i => okTap (zs.getD i (0, 0))) zs.length with h | ⟨k, hk, h1, h2⟩
  · have hlp : Con.holds ⟨fnOf, specO, L+1⟩ (runF ⟨fnOf, specO, L+1⟩ n) (.loop 0 [0, 3, 6, 7, 8] m41b0 [5] (taSt zs 0 0) (.exit 0) (taSt zs (sP zs zs.length) zs.length)) := by
      refine loopX (res := m41.res) (fun i => taSt zs (sP zs i) i) zs.length rfl hL (hstep _ (Nat.le_refl _) h) ?_ (by simp)
      exact @tar_3 (L+1) n zs (sP zs zs.length) zs.length [5] (by rw [hl]; exact dNlt)
    by_cases c1 : 0 < zs.length
    · by_cases c2 : zs.length ≤ 64
      · have := @tan_0 (L+1) n zs (sP zs zs.length) hlp (by rw [hl]; exact dT (by omega)) (by rw [hl]; exact dT (by omega))
        rw [this]
        congr 3
        rw [Bool.eq_iff_iff, tapsF_is]
        exact ⟨fun h3 => ⟨c1, c2, h, h3⟩, fun h3 => h3.2.2.2⟩
      · rw [tapsF_long (fun h => c2 h.2)]
        exact @tan_1 (L+1) n zs (sP zs zs.length) hlp (by rw [hl]; exact dT (by omega)) (by rw [hl]; exact dF (by omega))
    · rw [tapsF_long (fun h => c1 h.1)]
      exact @tan_2 (L+1) n zs (sP zs zs.length) hlp (by rw [hl]; exact dF (by omega))
  · rw [tapsF_bad hk h2]
    have hbad : seeZ 0 [0, 3, 6, 7, 8] m41.res (bodyOf ⟨fnOf, specO, L+1⟩ (runF ⟨fnOf, specO, L+1⟩ n) 0 m41b0 (k :: [5]) (taSt zs (sP zs k) k)) = some (.out (.v (.bool false))) := by
      have ha : decide ((k : Int) < ((zs.map celC).length : Int)) = true := by rw [hl]; exact dLt hk
      have he := elD_map (P := ⟨fnOf, specO, L+1⟩) (C := runF ⟨fnOf, specO, L+1⟩ n) (f := celC) (d := (0, 0)) hk
      unfold okTap one at h2
      cases hq : plainF (zs.getD k (0, 0)).1 4607182418800017408 with
      | false => exact @tar_0 (L+1) n zs (sP zs k) k [5] (zs.getD k (0, 0)) ha he (by rw [hq]; rfl)
      | true =>
        rw [hq, Bool.true_and] at h2
        exact @tar_1 (L+1) n zs (sP zs k) k [5] (zs.getD k (0, 0)) ha he (by rw [hq]; rfl) (by rw [h2]; rfl)
    obtain ⟨s1, hd, ho⟩ := loopZ (P := ⟨fnOf, specO, L+1⟩) (C := runF ⟨fnOf, specO, L+1⟩ n) (π := [5]) (fun i => taSt zs (sP zs i) i) k rfl (by omega) (hstep k (by omega) h1) hbad
    exact tat_0 hd ho
theorem tap_doc (hL : 64 ≤ L) (hm : zs.length ≤ 17592186044415) : den ⟨fnOf, specO, L+1⟩ (n+1) 43 [.lst 1 (zs.map celC)] = some (.v (.bool (tapsF zs))) := by
  have hl : (zs.map celC).length = zs.length := map_len
  by_cases c1 : 0 < zs.length
  · by_cases c2 : zs.length ≤ 64
    · have b1 : decide (((zs.map celC).length : Int) < 1) = false := by rw [hl]; exact dF (by omega)
      have b2 : decide (((zs.map celC).length : Int) > 64) = false := by rw [hl]; exact dF (by omega)
      have hstep : ∀ k, k ≤ zs.length → (∀ i, i < k → okTap (zs.getD i (0, 0)) = true) → ∀ i, i < k →
          seeZ 0 [0, 3, 4] m43.res (bodyOf ⟨fnOf, specO, L+1⟩ (runF ⟨fnOf, specO, L+1⟩ n) 0 m43b0 (i :: [11]) (tdSt zs (sD zs i) i)) = some (.go .nrm (tdSt zs (sD zs (i + 1)) (i + 1))) := fun k hk h i hi => by
        have h1 := h i hi
        unfold okTap one at h1
        simp only [Bool.and_eq_true] at h1
        have he := elD_map (P := ⟨fnOf, specO, L+1⟩) (C := runF ⟨fnOf, specO, L+1⟩ n) (f := celC) (d := (0, 0)) (show i < zs.length by omega)
        have := @tdr_2 (L+1) n zs (sD zs i) i [11] (zs.getD i (0, 0)) (zs.getD i (0, 0)) (zs.getD i (0, 0)) (zs.getD i (0, 0)) (by rw [hl]; exact dLt (by omega)) he (by rw [h1.1]; rfl) he (by rw [h1.2]; rfl) he he
        rw [wrap_id (n := (i : Int) + 1) (by omega)] at this
        exact this
      rcases firstI (fun i => okTap (zs.getD i (0, 0))) zs.length with h | ⟨k, hk, h1, h2⟩
      · have hlp : Con.holds ⟨fnOf, specO, L+1⟩ (runF ⟨fnOf, specO, L+1⟩ n) (.loop 0 [0, 3, 4] m43b0 [11] (tdSt zs 0 0) (.exit 0) (tdSt zs (sD zs zs.length) zs.length)) := by
          refine loopX (res := m43.res) (fun i => tdSt zs (sD zs i) i) zs.length rfl (by omega) (hstep _ (Nat.le_refl _) h) ?_ (by simp)
          exact @tdr_3 (L+1) n zs (sD zs zs.length) zs.length [11] (by rw [hl]; exact dNlt)
        obtain ⟨S, _, _, g1, g2⟩ := sums c2 zs.length (Nat.le_refl _) h
        have := @tdn_2 (L+1) n zs (sD zs zs.length) b1 b2 hlp
        rw [this, six_fle g2 g1 fin4]
        congr 3
        rw [Bool.eq_iff_iff, tapsF_is]
        exact ⟨fun h3 => ⟨c1, c2, h, h3⟩, fun h3 => h3.2.2.2⟩
      · rw [tapsF_bad hk h2]
        have hbad : seeZ 0 [0, 3, 4] m43.res (bodyOf ⟨fnOf, specO, L+1⟩ (runF ⟨fnOf, specO, L+1⟩ n) 0 m43b0 (k :: [11]) (tdSt zs (sD zs k) k)) = some (.out (.v (.bool false))) := by
          have ha : decide ((k : Int) < ((zs.map celC).length : Int)) = true := by rw [hl]; exact dLt hk
          have he := elD_map (P := ⟨fnOf, specO, L+1⟩) (C := runF ⟨fnOf, specO, L+1⟩ n) (f := celC) (d := (0, 0)) hk
          unfold okTap one at h2
          cases hq : plainF (zs.getD k (0, 0)).1 4607182418800017408 with
          | false => exact @tdr_0 (L+1) n zs (sD zs k) k [11] (zs.getD k (0, 0)) ha he (by rw [hq]; rfl)
          | true =>
            rw [hq, Bool.true_and] at h2
            exact @tdr_1 (L+1) n zs (sD zs k) k [11] (zs.getD k (0, 0)) (zs.getD k (0, 0)) ha he (by rw [hq]; rfl) he (by rw [h2]; rfl)
        obtain ⟨s1, hd, ho⟩ := loopZ (P := ⟨fnOf, specO, L+1⟩) (C := runF ⟨fnOf, specO, L+1⟩ n) (π := [11]) (fun i => tdSt zs (sD zs i) i) k rfl (by omega) (hstep k (by omega) h1) hbad
        exact tdt_2 b1 b2 hd ho
    · rw [tapsF_long (fun h => c2 h.2)]
      exact @tdn_1 (L+1) n zs 0 (by rw [hl]; exact dF (by omega)) (by rw [hl]; exact dT (by omega))
  · rw [tapsF_long (fun h => c1 h.1)]
    exact @tdn_0 (L+1) n zs 0 (by rw [hl]; exact dT (by omega))
end
end Go.Proofs.Ytnphdnokedhhkaa.Fw
namespace Go.Proofs.Ytnphdnokedhhkaa.Fw
open Go Go.RowKit
def tapSem : List AV → Option AV
  | [.lst 1 els] => (unL unC els).bind fun zs => if zs.length ≤ 17592186044415 then some (.v (.bool (tapsF zs))) else none
  | _ => none
theorem tapSem_is {avs : List AV} {r : AV} (h : tapSem avs = some r) : ∃ zs, avs = [.lst 1 (zs.map celC)] ∧ zs.length ≤ 17592186044415 ∧ r = .v (.bool (tapsF zs)) := by
  unfold tapSem at h
  split at h
  · rename_i els
    rw [Option.bind_eq_some_iff] at h
    obtain ⟨zs, h1, h2⟩ := h
    split at h2
    · rename_i hm
      cases h2
      have := unL_inv (enc := celC) unC_is h1
      subst this
      exact ⟨zs, rfl, hm, rfl⟩
    · cases h2
  · cases h
theorem tapSem_at {zs : List (Nat × Nat)} (h : zs.length ≤ 17592186044415) : tapSem [.lst 1 (zs.map celC)] = some (.v (.bool (tapsF zs))) := by
  simp only [tapSem, unC_L, Option.bind_some, if_pos h]
def newT : FuncId → Option (List AV → Option AV)
  | 41 => some tapSem
  | 43 => some tapSem
  | _ => none
def specT : FuncId → Option (List AV → Option AV) := fun f => match newT f with | some g => some g | none => specO f
theorem spec_t : SpecOk Try.prog ⟨fnOf, specT, 0⟩ :=
  spec_adds spec_o (fun L => fnsOk _ _) follows newT fun f g h => by
    unfold newT at h
    split at h
    · cases h
      refine ⟨⟨_, Try.func41, ne_of_beq_false (by kernel_rfl), by kernel_rfl⟩, fun avs r h => ?_⟩
      obtain ⟨zs, rfl, hm, rfl⟩ := tapSem_is h
      exact told (P := ⟨fnOf, specO, 0⟩) ⟨zs.length + 1, 1, tap_prog (Nat.le_refl _) hm⟩
    · cases h
      refine ⟨⟨_, Try.func43, ne_of_beq_false (by kernel_rfl), by kernel_rfl⟩, fun avs r h => ?_⟩
      obtain ⟨zs, rfl, hm, rfl⟩ := tapSem_is h
      exact told (P := ⟨fnOf, specO, 0⟩) ⟨65, 1, tap_doc (Nat.le_refl _) hm⟩
    · cases h
end Go.Proofs.Ytnphdnokedhhkaa.Fw
namespace Go.Proofs.Ytnphdnokedhhkaa.Fw
open Go Go.RowKit
theorem hnLwTcK {P : Prog} {C : Caller} : Holds P C [] := trivial
theorem hcLwTcK {P : Prog} {C : Caller} {c : Con} {cs : List Con} (h : c.holds P C) (t : Holds P C cs) : Holds P C (c :: cs) := ⟨h, t⟩
theorem hbLwTcK {P : Prog} {C : Caller} {x y : Bool} {cs : List Con} (h : x = y) (t : Holds P C cs) : Holds P C (.b x y :: cs) := ⟨h, t⟩

theorem skp_0 {L n : Nat} {rate delay : Int} {ts es : List (Nat × Nat)} (h0 : (decide (rate < 1)) = true) : den ⟨fnOf, specT, L⟩ (n+1) 22 [.agg [.int .i64 rate, .int .i64 delay, .lst 1 (ts.map celC), .lst 1 (es.map celC)]] = some (.v (.int .i64 1)) :=
  denD_sound (q := [((some 7), (Dec.b true))]) (by kernel_rfl) (hcLwTcK (c := (.st [0] [0])) rfl (hbLwTcK h0 hnLwTcK))
theorem skp_1 {L n : Nat} {rate delay : Int} {ts es : List (Nat × Nat)} (h0 : (decide (rate < 1)) = false) (h1 : (decide (rate > 8)) = true) : den ⟨fnOf, specT, L⟩ (n+1) 22 [.agg [.int .i64 rate, .int .i64 delay, .lst 1 (ts.map celC), .lst 1 (es.map celC)]] = some (.v (.int .i64 1)) :=
  denD_sound (q := [((some 7), (Dec.b false)), ((some 12), (Dec.b true))]) (by kernel_rfl) (hcLwTcK (c := (.st [0] [0])) rfl (hbLwTcK h0 (hcLwTcK (c := (.st [0] [0])) rfl (hbLwTcK h1 hnLwTcK))))
theorem skp_2 {L n : Nat} {rate delay : Int} {ts es : List (Nat × Nat)} (h0 : (decide (rate < 1)) = false) (h1 : (decide (rate > 8)) = false) (h2 : (decide (delay < 0)) = true) : den ⟨fnOf, specT, L⟩ (n+1) 22 [.agg [.int .i64 rate, .int .i64 delay, .lst 1 (ts.map celC), .lst 1 (es.map celC)]] = some (.v (.int .i64 1)) :=
  denD_sound (q := [((some 7), (Dec.b false)), ((some 12), (Dec.b false)), ((some 17), (Dec.b true))]) (by kernel_rfl) (hcLwTcK (c := (.st [0] [0])) rfl (hbLwTcK h0 (hcLwTcK (c := (.st [0] [0])) rfl (hbLwTcK h1 (hcLwTcK (c := (.st [0] [0])) rfl (hbLwTcK h2 hnLwTcK))))))
theorem skp_3 {L n : Nat} {rate delay : Int} {ts es : List (Nat × Nat)} (h0 : (decide (rate < 1)) = false) (h1 : (decide (rate > 8)) = false) (h2 : (decide (delay < 0)) = false) (h3 : (decide (delay > 65536)) = true) : den ⟨fnOf, specT, L⟩ (n+1) 22 [.agg [.int .i64 rate, .int .i64 delay, .lst 1 (ts.map celC), .lst 1 (es.map celC)]] = some (.v (.int .i64 1)) :=
  denD_sound (q := [((some 7), (Dec.b false)), ((some 12), (Dec.b false)), ((some 17), (Dec.b false)), ((some 3), (Dec.b true))]) (by kernel_rfl) (hcLwTcK (c := (.st [0] [0])) rfl (hbLwTcK h0 (hcLwTcK (c := (.st [0] [0])) rfl (hbLwTcK h1 (hcLwTcK (c := (.st [0] [0])) rfl (hbLwTcK h2 (hcLwTcK (c := (.st [0] [0])) rfl (hbLwTcK h3 hnLwTcK))))))))
theorem skp_4 {L n : Nat} {rate delay : Int} {ts es : List (Nat × Nat)} {c25 : Bool} (h0 : (decide (rate < 1)) = false) (h1 : (decide (rate > 8)) = false) (h2 : (decide (delay < 0)) = false) (h3 : (decide (delay > 65536)) = false) (h4 : Con.holds ⟨fnOf, specT, L⟩ (runF ⟨fnOf, specT, L⟩ n) (.spec 41 [(.lst 1 (List.map celC ts))] (.v (.bool (c25))))) (h5 : (!c25) = true) : den ⟨fnOf, specT, L⟩ (n+1) 22 [.agg [.int .i64 rate, .int .i64 delay, .lst 1 (ts.map celC), .lst 1 (es.map celC)]] = some (.v (.int .i64 8)) :=
  denD_sound (q := [((some 7), (Dec.b false)), ((some 12), (Dec.b false)), ((some 17), (Dec.b false)), ((some 3), (Dec.b false)), ((some 25), (Dec.call (.v (.bool (c25))))), ((some 27), (Dec.b true))]) (by kernel_rfl) (hcLwTcK (c := (.st [0] [0])) rfl (hbLwTcK h0 (hcLwTcK (c := (.st [0] [0])) rfl (hbLwTcK h1 (hcLwTcK (c := (.st [0] [0])) rfl (hbLwTcK h2 (hcLwTcK (c := (.st [0] [0])) rfl (hbLwTcK h3 (hcLwTcK (c := (.st [0] [0])) rfl (hcLwTcK h4 (hbLwTcK h5 hnLwTcK)))))))))))
theorem skp_5 {L n : Nat} {rate delay : Int} {ts es : List (Nat × Nat)} {c25 : Bool} {c35 : Bool} (h0 : (decide (rate < 1)) = false) (h1 : (decide (rate > 8)) = false) (h2 : (decide (delay < 0)) = false) (h3 : (decide (delay > 65536)) = false) (h4 : Con.holds ⟨fnOf, specT, L⟩ (runF ⟨fnOf, specT, L⟩ n) (.spec 41 [(.lst 1 (List.map celC ts))] (.v (.bool (c25))))) (h5 : (!c25) = false) (h6 : (decide ((↑(List.map celC es).length : Int) > 0)) = true) (h7 : Con.holds ⟨fnOf, specT, L⟩ (runF ⟨fnOf, specT, L⟩ n) (.spec 41 [(.lst 1 (List.map celC es))] (.v (.bool (c35))))) (h8 : (!c35) = true) : den ⟨fnOf, specT, L⟩ (n+1) 22 [.agg [.int .i64 rate, .int .i64 delay, .lst 1 (ts.map celC), .lst 1 (es.map celC)]] = some (.v (.int .i64 8)) :=
  denD_sound (q := [((some 7), (Dec.b false)), ((some 12), (Dec.b false)), ((some 17), (Dec.b false)), ((some 3), (Dec.b false)), ((some 25), (Dec.call (.v (.bool (c25))))), ((some 27), (Dec.b false)), ((some 32), (Dec.b true)), ((some 35), (Dec.call (.v (.bool (c35))))), ((some 22), (Dec.b true))]) (by kernel_rfl) (hcLwTcK (c := (.st [0] [0])) rfl (hbLwTcK h0 (hcLwTcK (c := (.st [0] [0])) rfl (hbLwTcK h1 (hcLwTcK (c := (.st [0] [0])) rfl (hbLwTcK h2 (hcLwTcK (c := (.st [0] [0])) rfl (hbLwTcK h3 (hcLwTcK (c := (.st [0] [0])) rfl (hcLwTcK h4 (hbLwTcK h5 (hcLwTcK (c := (.st [0] [0])) rfl (hbLwTcK h6 (hcLwTcK (c := (.st [0] [0])) rfl (hcLwTcK h7 (hbLwTcK h8 hnLwTcK))))))))))))))))
theorem skp_6 {L n : Nat} {rate delay : Int} {ts es : List (Nat × Nat)} {c25 : Bool} {c35 : Bool} (h0 : (decide (rate < 1)) = false) (h1 : (decide (rate > 8)) = false) (h2 : (decide (delay < 0)) = false) (h3 : (decide (delay > 65536)) = false) (h4 : Con.holds ⟨fnOf, specT, L⟩ (runF ⟨fnOf, specT, L⟩ n) (.spec 41 [(.lst 1 (List.map celC ts))] (.v (.bool (c25))))) (h5 : (!c25) = false) (h6 : (decide ((↑(List.map celC es).length : Int) > 0)) = true) (h7 : Con.holds ⟨fnOf, specT, L⟩ (runF ⟨fnOf, specT, L⟩ n) (.spec 41 [(.lst 1 (List.map celC es))] (.v (.bool (c35))))) (h8 : (!c35) = false) : den ⟨fnOf, specT, L⟩ (n+1) 22 [.agg [.int .i64 rate, .int .i64 delay, .lst 1 (ts.map celC), .lst 1 (es.map celC)]] = some (.v (.int .i64 0)) :=
  denD_sound (q := [((some 7), (Dec.b false)), ((some 12), (Dec.b false)), ((some 17), (Dec.b false)), ((some 3), (Dec.b false)), ((some 25), (Dec.call (.v (.bool (c25))))), ((some 27), (Dec.b false)), ((some 32), (Dec.b true)), ((some 35), (Dec.call (.v (.bool (c35))))), ((some 22), (Dec.b false))]) (by kernel_rfl) (hcLwTcK (c := (.st [0] [0])) rfl (hbLwTcK h0 (hcLwTcK (c := (.st [0] [0])) rfl (hbLwTcK h1 (hcLwTcK (c := (.st [0] [0])) rfl (hbLwTcK h2 (hcLwTcK (c := (.st [0] [0])) rfl (hbLwTcK h3 (hcLwTcK (c := (.st [0] [0])) rfl (hcLwTcK h4 (hbLwTcK h5 (hcLwTcK (c := (.st [0] [0])) rfl (hbLwTcK h6 (hcLwTcK (c := (.st [0] [0])) rfl (hcLwTcK h7 (hbLwTcK h8 hnLwTcK))))))))))))))))
theorem skp_7 {L n : Nat} {rate delay : Int} {ts es : List (Nat × Nat)} {c25 : Bool} (h0 : (decide (rate < 1)) = false) (h1 : (decide (rate > 8)) = false) (h2 : (decide (delay < 0)) = false) (h3 : (decide (delay > 65536)) = false) (h4 : Con.holds ⟨fnOf, specT, L⟩ (runF ⟨fnOf, specT, L⟩ n) (.spec 41 [(.lst 1 (List.map celC ts))] (.v (.bool (c25))))) (h5 : (!c25) = false) (h6 : (decide ((↑(List.map celC es).length : Int) > 0)) = false) : den ⟨fnOf, specT, L⟩ (n+1) 22 [.agg [.int .i64 rate, .int .i64 delay, .lst 1 (ts.map celC), .lst 1 (es.map celC)]] = some (.v (.int .i64 0)) :=
  denD_sound (q := [((some 7), (Dec.b false)), ((some 12), (Dec.b false)), ((some 17), (Dec.b false)), ((some 3), (Dec.b false)), ((some 25), (Dec.call (.v (.bool (c25))))), ((some 27), (Dec.b false)), ((some 32), (Dec.b false))]) (by kernel_rfl) (hcLwTcK (c := (.st [0] [0])) rfl (hbLwTcK h0 (hcLwTcK (c := (.st [0] [0])) rfl (hbLwTcK h1 (hcLwTcK (c := (.st [0] [0])) rfl (hbLwTcK h2 (hcLwTcK (c := (.st [0] [0])) rfl (hbLwTcK h3 (hcLwTcK (c := (.st [0] [0])) rfl (hcLwTcK h4 (hbLwTcK h5 (hcLwTcK (c := (.st [0] [0])) rfl (hbLwTcK h6 hnLwTcK)))))))))))))
theorem skd_0 {L n : Nat} {rate delay : Int} {ts es : List (Nat × Nat)} (h0 : (decide (rate < 1)) = true) : den ⟨fnOf, specT, L⟩ (n+1) 23 [.agg [.int .i64 rate, .int .i64 delay, .lst 1 (ts.map celC), .lst 1 (es.map celC)]] = some (.v (.int .i64 1)) :=
  denD_sound (q := [((some 6), (Dec.b true))]) (by kernel_rfl) (hcLwTcK (c := (.st [0] [0])) rfl (hbLwTcK h0 hnLwTcK))
theorem skd_1 {L n : Nat} {rate delay : Int} {ts es : List (Nat × Nat)} (h0 : (decide (rate < 1)) = false) (h1 : (decide (rate > 8)) = true) : den ⟨fnOf, specT, L⟩ (n+1) 23 [.agg [.int .i64 rate, .int .i64 delay, .lst 1 (ts.map celC), .lst 1 (es.map celC)]] = some (.v (.int .i64 1)) :=
  denD_sound (q := [((some 6), (Dec.b false)), ((some 11), (Dec.b true))]) (by kernel_rfl) (hcLwTcK (c := (.st [0] [0])) rfl (hbLwTcK h0 (hcLwTcK (c := (.st [0] [0])) rfl (hbLwTcK h1 hnLwTcK))))
theorem skd_2 {L n : Nat} {rate delay : Int} {ts es : List (Nat × Nat)} (h0 : (decide (rate < 1)) = false) (h1 : (decide (rate > 8)) = false) (h2 : (decide (delay < 0)) = true) : den ⟨fnOf, specT, L⟩ (n+1) 23 [.agg [.int .i64 rate, .int .i64 delay, .lst 1 (ts.map celC), .lst 1 (es.map celC)]] = some (.v (.int .i64 1)) :=
  denD_sound (q := [((some 6), (Dec.b false)), ((some 11), (Dec.b false)), ((some 16), (Dec.b true))]) (by kernel_rfl) (hcLwTcK (c := (.st [0] [0])) rfl (hbLwTcK h0 (hcLwTcK (c := (.st [0] [0])) rfl (hbLwTcK h1 (hcLwTcK (c := (.st [0] [0])) rfl (hbLwTcK h2 hnLwTcK))))))
theorem skd_3 {L n : Nat} {rate delay : Int} {ts es : List (Nat × Nat)} (h0 : (decide (rate < 1)) = false) (h1 : (decide (rate > 8)) = false) (h2 : (decide (delay < 0)) = false) (h3 : (decide (delay > 65536)) = true) : den ⟨fnOf, specT, L⟩ (n+1) 23 [.agg [.int .i64 rate, .int .i64 delay, .lst 1 (ts.map celC), .lst 1 (es.map celC)]] = some (.v (.int .i64 1)) :=
  denD_sound (q := [((some 6), (Dec.b false)), ((some 11), (Dec.b false)), ((some 16), (Dec.b false)), ((some 20), (Dec.b true))]) (by kernel_rfl) (hcLwTcK (c := (.st [0] [0])) rfl (hbLwTcK h0 (hcLwTcK (c := (.st [0] [0])) rfl (hbLwTcK h1 (hcLwTcK (c := (.st [0] [0])) rfl (hbLwTcK h2 (hcLwTcK (c := (.st [0] [0])) rfl (hbLwTcK h3 hnLwTcK))))))))
theorem skd_4 {L n : Nat} {rate delay : Int} {ts es : List (Nat × Nat)} {c23 : Bool} (h0 : (decide (rate < 1)) = false) (h1 : (decide (rate > 8)) = false) (h2 : (decide (delay < 0)) = false) (h3 : (decide (delay > 65536)) = false) (h4 : Con.holds ⟨fnOf, specT, L⟩ (runF ⟨fnOf, specT, L⟩ n) (.spec 43 [(.lst 1 (List.map celC ts))] (.v (.bool (c23))))) (h5 : (!c23) = true) : den ⟨fnOf, specT, L⟩ (n+1) 23 [.agg [.int .i64 rate, .int .i64 delay, .lst 1 (ts.map celC), .lst 1 (es.map celC)]] = some (.v (.int .i64 8)) :=
  denD_sound (q := [((some 6), (Dec.b false)), ((some 11), (Dec.b false)), ((some 16), (Dec.b false)), ((some 20), (Dec.b false)), ((some 23), (Dec.call (.v (.bool (c23))))), ((some 25), (Dec.b true))]) (by kernel_rfl) (hcLwTcK (c := (.st [0] [0])) rfl (hbLwTcK h0 (hcLwTcK (c := (.st [0] [0])) rfl (hbLwTcK h1 (hcLwTcK (c := (.st [0] [0])) rfl (hbLwTcK h2 (hcLwTcK (c := (.st [0] [0])) rfl (hbLwTcK h3 (hcLwTcK (c := (.st [0] [0])) rfl (hcLwTcK h4 (hbLwTcK h5 hnLwTcK)))))))))))
theorem skd_5 {L n : Nat} {rate delay : Int} {ts es : List (Nat × Nat)} {c23 : Bool} {c33 : Bool} (h0 : (decide (rate < 1)) = false) (h1 : (decide (rate > 8)) = false) (h2 : (decide (delay < 0)) = false) (h3 : (decide (delay > 65536)) = false) (h4 : Con.holds ⟨fnOf, specT, L⟩ (runF ⟨fnOf, specT, L⟩ n) (.spec 43 [(.lst 1 (List.map celC ts))] (.v (.bool (c23))))) (h5 : (!c23) = false) (h6 : (decide ((↑(List.map celC es).length : Int) > 0)) = true) (h7 : Con.holds ⟨fnOf, specT, L⟩ (runF ⟨fnOf, specT, L⟩ n) (.spec 43 [(.lst 1 (List.map celC es))] (.v (.bool (c33))))) (h8 : (!c33) = true) : den ⟨fnOf, specT, L⟩ (n+1) 23 [.agg [.int .i64 rate, .int .i64 delay, .lst 1 (ts.map celC), .lst 1 (es.map celC)]] = some (.v (.int .i64 8)) :=
  denD_sound (q := [((some 6), (Dec.b false)), ((some 11), (Dec.b false)), ((some 16), (Dec.b false)), ((some 20), (Dec.b false)), ((some 23), (Dec.call (.v (.bool (c23))))), ((some 25), (Dec.b false)), ((some 30), (Dec.b true)), ((some 33), (Dec.call (.v (.bool (c33))))), ((some 36), (Dec.b true))]) (by kernel_rfl) (hcLwTcK (c := (.st [0] [0])) rfl (hbLwTcK h0 (hcLwTcK (c := (.st [0] [0])) rfl (hbLwTcK h1 (hcLwTcK (c := (.st [0] [0])) rfl (hbLwTcK h2 (hcLwTcK (c := (.st [0] [0])) rfl (hbLwTcK h3 (hcLwTcK (c := (.st [0] [0])) rfl (hcLwTcK h4 (hbLwTcK h5 (hcLwTcK (c := (.st [0] [0])) rfl (hbLwTcK h6 (hcLwTcK (c := (.st [0] [0])) rfl (hcLwTcK h7 (hbLwTcK h8 hnLwTcK))))))))))))))))
theorem skd_6 {L n : Nat} {rate delay : Int} {ts es : List (Nat × Nat)} {c23 : Bool} {c33 : Bool} (h0 : (decide (rate < 1)) = false) (h1 : (decide (rate > 8)) = false) (h2 : (decide (delay < 0)) = false) (h3 : (decide (delay > 65536)) = false) (h4 : Con.holds ⟨fnOf, specT, L⟩ (runF ⟨fnOf, specT, L⟩ n) (.spec 43 [(.lst 1 (List.map celC ts))] (.v (.bool (c23))))) (h5 : (!c23) = false) (h6 : (decide ((↑(List.map celC es).length : Int) > 0)) = true) (h7 : Con.holds ⟨fnOf, specT, L⟩ (runF ⟨fnOf, specT, L⟩ n) (.spec 43 [(.lst 1 (List.map celC es))] (.v (.bool (c33))))) (h8 : (!c33) = false) : den ⟨fnOf, specT, L⟩ (n+1) 23 [.agg [.int .i64 rate, .int .i64 delay, .lst 1 (ts.map celC), .lst 1 (es.map celC)]] = some (.v (.int .i64 0)) :=
  denD_sound (q := [((some 6), (Dec.b false)), ((some 11), (Dec.b false)), ((some 16), (Dec.b false)), ((some 20), (Dec.b false)), ((some 23), (Dec.call (.v (.bool (c23))))), ((some 25), (Dec.b false)), ((some 30), (Dec.b true)), ((some 33), (Dec.call (.v (.bool (c33))))), ((some 36), (Dec.b false))]) (by kernel_rfl) (hcLwTcK (c := (.st [0] [0])) rfl (hbLwTcK h0 (hcLwTcK (c := (.st [0] [0])) rfl (hbLwTcK h1 (hcLwTcK (c := (.st [0] [0])) rfl (hbLwTcK h2 (hcLwTcK (c := (.st [0] [0])) rfl (hbLwTcK h3 (hcLwTcK (c := (.st [0] [0])) rfl (hcLwTcK h4 (hbLwTcK h5 (hcLwTcK (c := (.st [0] [0])) rfl (hbLwTcK h6 (hcLwTcK (c := (.st [0] [0])) rfl (hcLwTcK h7 (hbLwTcK h8 hnLwTcK))))))))))))))))
theorem skd_7 {L n : Nat} {rate delay : Int} {ts es : List (Nat × Nat)} {c23 : Bool} (h0 : (decide (rate < 1)) = false) (h1 : (decide (rate > 8)) = false) (h2 : (decide (delay < 0)) = false) (h3 : (decide (delay > 65536)) = false) (h4 : Con.holds ⟨fnOf, specT, L⟩ (runF ⟨fnOf, specT, L⟩ n) (.spec 43 [(.lst 1 (List.map celC ts))] (.v (.bool (c23))))) (h5 : (!c23) = false) (h6 : (decide ((↑(List.map celC es).length : Int) > 0)) = false) : den ⟨fnOf, specT, L⟩ (n+1) 23 [.agg [.int .i64 rate, .int .i64 delay, .lst 1 (ts.map celC), .lst 1 (es.map celC)]] = some (.v (.int .i64 0)) :=
  denD_sound (q := [((some 6), (Dec.b false)), ((some 11), (Dec.b false)), ((some 16), (Dec.b false)), ((some 20), (Dec.b false)), ((some 23), (Dec.call (.v (.bool (c23))))), ((some 25), (Dec.b false)), ((some 30), (Dec.b false))]) (by kernel_rfl) (hcLwTcK (c := (.st [0] [0])) rfl (hbLwTcK h0 (hcLwTcK (c := (.st [0] [0])) rfl (hbLwTcK h1 (hcLwTcK (c := (.st [0] [0])) rfl (hbLwTcK h2 (hcLwTcK (c := (.st [0] [0])) rfl (hbLwTcK h3 (hcLwTcK (c := (.st [0] [0])) rfl (hcLwTcK h4 (hbLwTcK h5 (hcLwTcK (c := (.st [0] [0])) rfl (hbLwTcK h6 hnLwTcK)))))))))))))
end Go.Proofs.Ytnphdnokedhhkaa.Fw
namespace Go.Proofs.Ytnphdnokedhhkaa.Fw
open Go Go.RowKit
theorem hnLwTcL {P : Prog} {C : Caller} : Holds P C [] := trivial
theorem hcLwTcL {P : Prog} {C : Caller} {c : Con} {cs : List Con} (h : c.holds P C) (t : Holds P C cs) : Holds P C (c :: cs) := ⟨h, t⟩
theorem hbLwTcL {P : Prog} {C : Caller} {x y : Bool} {cs : List Con} (h : x = y) (t : Holds P C cs) : Holds P C (.b x y :: cs) := ⟨h, t⟩
def shortL (zs : List (Nat × Nat)) : Prop := zs.length ≤ 17592186044415
instance (zs : List (Nat × Nat)) : Decidable (shortL zs) := by unfold shortL; exact inferInstance
/-- what Check answers -/
def chkT (rate delay : Int) (ts es : List (Nat × Nat)) : Int :=
  if rate < 1 ∨ 8 < rate ∨ delay < 0 ∨ 65536 < delay then 1
  else if tapsF ts = true ∧ (es.length = 0 ∨ tapsF es = true) then 0 else 8
theorem check_both {L n : Nat} {rate delay : Int} {ts es : List (Nat × Nat)} (h1 : shortL ts) (h2 : shortL es) :
    den ⟨fnOf, specT, L⟩ (n+1) 22 [.agg [.int .i64 rate, .int .i64 delay, .lst 1 (ts.map celC), .lst 1 (es.map celC)]] = some (.int .i64 (chkT rate delay ts es)) ∧
    den ⟨fnOf, specT, L⟩ (n+1) 23 [.agg [.int .i64 rate, .int .i64 delay, .lst 1 (ts.map celC), .lst 1 (es.map celC)]] = some (.int .i64 (chkT rate delay ts es)) := by
  have hlen : (es.map celC).length = es.length := map_len
  by_cases c1 : rate < 1
  · rw [show chkT rate delay ts es = 1 from if_pos (.inl c1)]
    exact ⟨skp_0 (dT c1), skd_0 (dT c1)⟩
  by_cases c2 : rate > 8
  · rw [show chkT rate delay ts es = 1 from if_pos (.inr (.inl c2))]
    exact ⟨skp_1 (dF c1) (dT c2), skd_1 (dF c1) (dT c2)⟩
  by_cases c3 : delay < 0
  · rw [show chkT rate delay ts es = 1 from if_pos (.inr (.inr (.inl c3)))]
    exact ⟨skp_2 (dF c1) (dF c2) (dT c3), skd_2 (dF c1) (dF c2) (dT c3)⟩
  by_cases c4 : delay > 65536
  · rw [show chkT rate delay ts es = 1 from if_pos (.inr (.inr (.inr c4)))]
    exact ⟨skp_3 (dF c1) (dF c2) (dF c3) (dT c4), skd_3 (dF c1) (dF c2) (dF c3) (dT c4)⟩
  have hno : ¬ (rate < 1 ∨ 8 < rate ∨ delay < 0 ∨ 65536 < delay) := by omega
  have hch : chkT rate delay ts es = if tapsF ts = true ∧ (es.length = 0 ∨ tapsF es = true) then 0 else 8 := if_neg hno
  have p1 := spec_is (P := ⟨fnOf, specT, L⟩) (C := runF ⟨fnOf, specT, L⟩ n) (f := 41) rfl (tapSem_at h1)
  have p2 := spec_is (P := ⟨fnOf, specT, L⟩) (C := runF ⟨fnOf, specT, L⟩ n) (f := 41) rfl (tapSem_at h2)
  have d1 := spec_is (P := ⟨fnOf, specT, L⟩) (C := runF ⟨fnOf, specT, L⟩ n) (f := 43) rfl (tapSem_at h1)
  have d2 := spec_is (P := ⟨fnOf, specT, L⟩) (C := runF ⟨fnOf, specT, L⟩ n) (f := 43) rfl (tapSem_at h2)
  cases t1 : tapsF ts with
  | false =>
    rw [hch, if_neg (by rw [t1]; simp)]
    exact ⟨skp_4 (dF c1) (dF c2) (dF c3) (dF c4) p1 (by rw [t1]; rfl), skd_4 (dF c1) (dF c2) (dF c3) (dF c4) d1 (by rw [t1]; rfl)⟩
  | true =>
    by_cases c5 : es.length = 0
    · rw [hch, if_pos ⟨t1, .inl c5⟩]
      exact ⟨skp_7 (dF c1) (dF c2) (dF c3) (dF c4) p1 (by rw [t1]; rfl) (by rw [hlen]; exact dF (by omega)), skd_7 (dF c1) (dF c2) (dF c3) (dF c4) d1 (by rw [t1]; rfl) (by rw [hlen]; exact dF (by omega))⟩
    · have b5 : decide (((es.map celC).length : Int) > 0) = true := by rw [hlen]; exact dT (by omega)
      cases t2 : tapsF es with
      | false =>
        rw [hch, if_neg (by rw [t2]; simp [c5])]
        exact ⟨skp_5 (dF c1) (dF c2) (dF c3) (dF c4) p1 (by rw [t1]; rfl) b5 p2 (by rw [t2]; rfl), skd_5 (dF c1) (dF c2) (dF c3) (dF c4) d1 (by rw [t1]; rfl) b5 d2 (by rw [t2]; rfl)⟩
      | true =>
        rw [hch, if_pos ⟨t1, .inr t2⟩]
        exact ⟨skp_6 (dF c1) (dF c2) (dF c3) (dF c4) p1 (by rw [t1]; rfl) b5 p2 (by rw [t2]; rfl), skd_6 (dF c1) (dF c2) (dF c3) (dF c4) d1 (by rw [t1]; rfl) b5 d2 (by rw [t2]; rfl)⟩
def chkSem : List AV → Option AV
  | [.agg [.v (.int .i64 rate), .v (.int .i64 delay), .lst 1 e1, .lst 1 e2]] => (unL unC e1).bind fun ts => (unL unC e2).bind fun es => if shortL ts ∧ shortL es then some (.int .i64 (chkT rate delay ts es)) else none
  | _ => none
theorem chkSem_is {avs : List AV} {r : AV} (h : chkSem avs = some r) : ∃ rate delay ts es, avs = [.agg [.int .i64 rate, .int .i64 delay, .lst 1 (ts.map celC), .lst 1 (es.map celC)]] ∧ shortL ts ∧ shortL es ∧ r = .int .i64 (chkT rate delay ts es) := by
  unfold chkSem at h
  split at h
  · rename_i rate delay e1 e2
    rw [Option.bind_eq_some_iff] at h
    obtain ⟨ts, h1, h⟩ := h
    rw [Option.bind_eq_some_iff] at h
    obtain ⟨es, h2, h⟩ := h
    split at h
    · rename_i hm
      cases h
      have g1 := unL_inv (enc := celC) unC_is h1
      have g2 := unL_inv (enc := celC) unC_is h2
      subst g1; subst g2
      exact ⟨rate, delay, ts, es, rfl, hm.1, hm.2, rfl⟩
    · cases h
  · cases h
theorem chkSem_at {rate delay : Int} {ts es : List (Nat × Nat)} (h1 : shortL ts) (h2 : shortL es) : chkSem [.agg [.int .i64 rate, .int .i64 delay, .lst 1 (ts.map celC), .lst 1 (es.map celC)]] = some (.int .i64 (chkT rate delay ts es)) := by
  simp only [chkSem, unC_L, Option.bind_some, if_pos (And.intro h1 h2)]
/-- the product of two numbers, by parts -/
def timP (a b : Nat × Nat) : Nat × Nat := (fsub (fmul a.1 b.1) (fmul a.2 b.2), fadd (fmul a.1 b.2) (fmul a.2 b.1))
def timSem : List AV → Option AV
  | [.cpx a b, .cpx c d] => some (.cpx (fsub (fmul a c) (fmul b d)) (fadd (fmul a d) (fmul b c)))
  | _ => none
def alF (a b : Nat) : Bool := feq a b || (!feq a a && !feq b b)
def alSem : List AV → Option AV
  | [.flt a, .flt b] => some (.v (.bool (alF a b)))
  | _ => none
theorem den_times {L n a b c d : Nat} : den ⟨fnOf, specT, L⟩ (n+1) 58 [.cpx a b, .cpx c d] = some (.cpx (fsub (fmul a c) (fmul b d)) (fadd (fmul a d) (fmul b c))) :=
  denD_sound (q := []) (by kernel_rfl) hnLwTcL
theorem den_alike {L n a b : Nat} : den ⟨fnOf, specT, L⟩ (n+1) 34 [.flt a, .flt b] = some (.v (.bool (alF a b))) := by
  unfold alF
  cases h : feq a b with
  | true => exact @al_0 specT L n a b h
  | false =>
    cases h2 : feq a a with
    | true => exact @al_2 specT L n a b h (by rw [h2]; rfl)
    | false =>
      rw [@al_1 specT L n a b h (by rw [h2]; rfl)]
      rfl
def newK : FuncId → Option (List AV → Option AV)
  | 22 => some chkSem
  | 23 => some chkSem
  | 58 => some timSem
  | 34 => some alSem
  | _ => none
def specK : FuncId → Option (List AV → Option AV) := fun f => match newK f with | some g => some g | none => specT f
theorem spec_k : SpecOk Try.prog ⟨fnOf, specK, 0⟩ :=
  spec_adds spec_t (fun L => fnsOk _ _) follows newK fun f g h => by
    unfold newK at h
    split at h
    · cases h
      refine ⟨⟨_, Try.func22, ne_of_beq_false (by kernel_rfl), by kernel_rfl⟩, fun avs r h => ?_⟩
      obtain ⟨rate, delay, ts, es, rfl, m1, m2, rfl⟩ := chkSem_is h
      exact told (P := ⟨fnOf, specT, 0⟩) ⟨0, 1, (check_both m1 m2).1⟩
    · cases h
      refine ⟨⟨_, Try.func23, ne_of_beq_false (by kernel_rfl), by kernel_rfl⟩, fun avs r h => ?_⟩
      obtain ⟨rate, delay, ts, es, rfl, m1, m2, rfl⟩ := chkSem_is h
      exact told (P := ⟨fnOf, specT, 0⟩) ⟨0, 1, (check_both m1 m2).2⟩
    · cases h
      refine ⟨⟨_, Try.func58, ne_of_beq_false (by kernel_rfl), by kernel_rfl⟩, fun avs r h => ?_⟩
      unfold timSem at h
      split at h
      · cases h; exact told (P := ⟨fnOf, specT, 0⟩) ⟨0, 1, den_times⟩
      · cases h
    · cases h
      refine ⟨⟨_, Try.func34, ne_of_beq_false (by kernel_rfl), by kernel_rfl⟩, fun avs r h => ?_⟩
      unfold alSem at h
      split at h
      · cases h; exact told (P := ⟨fnOf, specT, 0⟩) ⟨0, 1, den_alike⟩
      · cases h
    · cases h
end Go.Proofs.Ytnphdnokedhhkaa.Fw
namespace Go.Proofs.Ytnphdnokedhhkaa.Fw
open Go Go.RowKit

def lo42St (m : Nat) (xs hs out : List (Nat × Nat)) (ap lt : Int) (st : List Nat) (k : Nat) : St := ⟨[(0, .slc ⟨0,42,0⟩ st 1 0 m true), (1, .lst 1 (xs.map celC)), (3, .int .i64 ap), (4, .int .i64 lt), (17, .lst 1 (hs.map celC)), (18, .int .i64 (hs.map celC).length), (19, .int .i64 k)], [(⟨0,42,0⟩, ⟨st, out.map celC, 1, true⟩)], 0⟩
def li42St (m : Nat) (xs hs out : List (Nat × Nat)) (ap lt : Int) (st : List Nat) (k a b : Nat) (fr : Int) (i : Nat) : St := ⟨[(0, .slc ⟨0,42,0⟩ st 1 0 m true), (1, .lst 1 (xs.map celC)), (3, .int .i64 ap), (4, .int .i64 lt), (11, .cpx a b), (12, .int .i64 fr), (17, .lst 1 (hs.map celC)), (18, .int .i64 (hs.map celC).length), (19, .int .i64 k), (29, .lst 1 (xs.map celC)), (30, .int .i64 (xs.map celC).length), (31, .int .i64 i)], [(⟨0,42,0⟩, ⟨st, out.map celC, 1, true⟩)], 0⟩
def thSt (hs xs : List (Nat × Nat)) (at' ap : Int) (re im k : Nat) : St := ⟨[(0, .lst 1 (hs.map celC)), (1, .lst 1 (xs.map celC)), (2, .int .i64 at'), (3, .int .i64 ap), (9, .flt re), (10, .flt im), (11, .int .i64 k)], [], 0⟩
end Go.Proofs.Ytnphdnokedhhkaa.Fw
namespace Go.Proofs.Ytnphdnokedhhkaa.Fw
open Go Go.RowKit
def addP (p t : Nat × Nat) : Nat × Nat := (fadd p.1 t.1, fadd p.2 t.2)
/-- what comes of a filter at one place, after so many taps -/
def accL (hs xs : List (Nat × Nat)) (ap : Nat) (at' : Int) (o : Nat × Nat) : Nat → Nat × Nat
  | 0 => o
  | k + 1 => if 0 ≤ at' - (k * ap : Nat) ∧ at' - (k * ap : Nat) < xs.length then addP (accL hs xs ap at' o k) (timP (hs.getD k (0, 0)) (xs.getD (at' - (k * ap : Nat)).toNat (0, 0))) else accL hs xs ap at' o k
section
variable {L n : Nat} {xs hs : List (Nat × Nat)}
end
end Go.Proofs.Ytnphdnokedhhkaa.Fw
namespace Go.Proofs.Ytnphdnokedhhkaa.Fw
open Go Go.RowKit
theorem six_stout {m : Int} {x : Nat} (h : six m x) : stout x := by
  unfold stout
  rw [h.2]
  by_cases hm : m = 0
  · left; simp [hm]
  · right
    rw [Int.natAbs_mul, Int.natAbs_pow]
    have h1 : 1 ≤ m.natAbs := by omega
    have h2 : (2 : Nat) ^ 600 ≤ 2 ^ 1068 := Nat.pow_le_pow_right (by decide) (by decide)
    calc (2 : Nat) ^ 600 ≤ 1 * 2 ^ 1068 := by rw [Nat.one_mul]; exact h2
      _ ≤ m.natAbs * 2 ^ 1068 := Nat.mul_le_mul_right _ h1
theorem six_mul {a b : Int} {x y : Nat} (hx : six a x) (hy : six b y) (h : (a * b).natAbs < 2 ^ 53) : grid (a * b) (fmul x y) := by
  have e : fv x * fv y = a * b * 2 ^ 1062 * 2 ^ 1074 := by
    rw [hx.2, hy.2]
    have p : (2 : Int) ^ 1068 * 2 ^ 1068 = 2 ^ 1062 * 2 ^ 1074 := by rw [← Int.pow_add, ← Int.pow_add]
    calc a * 2 ^ 1068 * (b * 2 ^ 1068) = a * b * (2 ^ 1068 * 2 ^ 1068) := by
          rw [Int.mul_assoc, Int.mul_assoc]; congr 1; rw [Int.mul_left_comm]
      _ = _ := by rw [p, Int.mul_assoc (a * b)]
  exact fmul_exact hx.1 hy.1 (six_stout hx) (six_stout hy) e (fits_grid h (by decide))
theorem plainF_six {x m : Nat} (hm : okM m) (h : plainF x m = true) : ∃ a : Int, a.natAbs ≤ 8192 ∧ six a x := by
  unfold plainF at h
  rw [Bool.and_eq_true] at h
  obtain ⟨h1, h2⟩ := h
  obtain ⟨f1, f2⟩ := plain_fin hm h1
  obtain ⟨g1, g2, g3⟩ := mul64 hm h1
  obtain ⟨k1, k2⟩ := fint_zero g1
  rw [feq_fin k1 g1, decide_eq_true_eq, k2, g2] at h2
  refine ⟨(fv x * 2 ^ 6).tdiv (2 ^ 1074), ?_, f1, ?_⟩
  · generalize (fv x * 2 ^ 6).tdiv (2 ^ 1074) = t at h2
    have e : t * 2 ^ 1068 = fv x := by
      have p : (2 : Int) ^ 1074 = 2 ^ 1068 * 2 ^ 6 := by rw [← Int.pow_add]
      rw [p, ← Int.mul_assoc] at h2
      exact Int.eq_of_mul_eq_mul_right (by decide) h2
    rw [← e, Int.natAbs_mul, Int.natAbs_pow] at f2
    have q : (2 : Nat) ^ 1081 = 8192 * 2 ^ 1068 := by rw [show (8192 : Nat) = 2 ^ 13 from rfl, ← Nat.pow_add]
    rw [q] at f2
    exact Nat.le_of_mul_le_mul_right f2 (Nat.pow_pos (by decide))
  · generalize (fv x * 2 ^ 6).tdiv (2 ^ 1074) = t at h2 ⊢
    have p : (2 : Int) ^ 1074 = 2 ^ 1068 * 2 ^ 6 := by rw [← Int.pow_add]
    rw [p, ← Int.mul_assoc] at h2
    exact (Int.eq_of_mul_eq_mul_right (by decide) h2).symm
theorem grid_zero0 : grid 0 0 := ⟨six_zero.1, by rw [six_zero.2, Int.zero_mul, Int.zero_mul]⟩
def ptOK (z : Nat × Nat) : Bool := plainF z.1 4638707616191610880 && plainF z.2 4638707616191610880
/-- the product of a tap and a point -/
theorem tim_grid {t z : Nat × Nat} (ht : okTap t = true) (hz : ptOK z = true) : ∃ a b : Int, a.natAbs ≤ 1048576 ∧ b.natAbs ≤ 1048576 ∧ grid a (timP t z).1 ∧ grid b (timP t z).2 := by
  unfold okTap at ht
  unfold ptOK at hz
  rw [Bool.and_eq_true] at ht hz
  obtain ⟨a, ha, a2⟩ := plain_six ht.1
  obtain ⟨b, hb, b2⟩ := plain_six ht.2
  obtain ⟨c, c2, hc⟩ := plainF_six (.inr rfl) hz.1
  obtain ⟨d, d2, hd⟩ := plainF_six (.inr rfl) hz.2
  have m : ∀ {x y : Int}, x.natAbs ≤ 64 → y.natAbs ≤ 8192 → (x * y).natAbs ≤ 524288 := fun {x y} h1 h2 => by rw [Int.natAbs_mul]; exact Nat.mul_le_mul h1 h2
  have p1 := m a2 c2
  have p2 := m b2 d2
  have p3 := m a2 d2
  have p4 := m b2 c2
  have g1 := six_mul ha hc (by omega)
  have g2 := six_mul hb hd (by omega)
  have g3 := six_mul ha hd (by omega)
  have g4 := six_mul hb hc (by omega)
  exact ⟨a * c - b * d, a * d + b * c, by omega, by omega, grid_sub g1 g2 (by omega), grid_add g3 g4 (by omega)⟩
/-- THE SUM OF A FILTER IS EXACT, whatever it is added to -/
theorem acc_grid {hs xs : List (Nat × Nat)} {ap : Nat} {at' : Int} (hh : hs.length ≤ 64) (h1 : ∀ i, i < hs.length → okTap (hs.getD i (0, 0)) = true) (h2 : ∀ i, i < xs.length → ptOK (xs.getD i (0, 0)) = true) :
    ∀ k, k ≤ hs.length → ∃ a b : Int, a.natAbs ≤ k * 1048576 ∧ b.natAbs ≤ k * 1048576 ∧ ∀ (o : Nat × Nat) (p q : Int), grid p o.1 → grid q o.2 → p.natAbs ≤ 1099511627776 → q.natAbs ≤ 1099511627776 → grid (p + a) (accL hs xs ap at' o k).1 ∧ grid (q + b) (accL hs xs ap at' o k).2
  | 0, _ => ⟨0, 0, by decide, by decide, fun o p q hp hq _ _ => ⟨by rw [Int.add_zero]; exact hp, by rw [Int.add_zero]; exact hq⟩⟩
  | k + 1, hk => by
    obtain ⟨a, b, a1, b1, h⟩ := acc_grid (ap := ap) (at' := at') hh h1 h2 k (by omega)
    by_cases c : 0 ≤ at' - (k * ap : Nat) ∧ at' - (k * ap : Nat) < xs.length
    · obtain ⟨u, v, u1, v1, g1, g2⟩ := tim_grid (h1 k (by omega)) (h2 (at' - (k * ap : Nat)).toNat (by omega))
      refine ⟨a + u, b + v, by omega, by omega, fun o p q hp hq p1 q1 => ?_⟩
      obtain ⟨e1, e2⟩ := h o p q hp hq p1 q1
      have e : accL hs xs ap at' o (k + 1) = addP (accL hs xs ap at' o k) (timP (hs.getD k (0, 0)) (xs.getD (at' - (k * ap : Nat)).toNat (0, 0))) := if_pos c
      rw [e, ← Int.add_assoc, ← Int.add_assoc]
      have n1 : (p + a + u).natAbs < 9007199254740992 := by omega
      have n2 : (q + b + v).natAbs < 9007199254740992 := by omega
      exact ⟨grid_add e1 g1 n1, grid_add e2 g2 n2⟩
    · refine ⟨a, b, Nat.le_trans a1 (Nat.mul_le_mul_right _ (Nat.le_succ k)), Nat.le_trans b1 (Nat.mul_le_mul_right _ (Nat.le_succ k)), fun o p q hp hq p1 q1 => ?_⟩
      have e : accL hs xs ap at' o (k + 1) = accL hs xs ap at' o k := if_neg c
      rw [e]
      exact h o p q hp hq p1 q1
/-- what comes through at one place: added one by one, and each filter's sum by itself -/
def outP' (ts xs es vs : List (Nat × Nat)) (rate : Nat) (m : Int) (delay : Nat) : Nat × Nat := accL es vs 1 m (accL ts xs rate (m - delay) (0, 0) ts.length) es.length
def outD' (ts xs es vs : List (Nat × Nat)) (rate : Nat) (m : Int) (delay : Nat) : Nat × Nat := addP (accL ts xs rate (m - delay) (0, 0) ts.length) (accL es vs 1 m (0, 0) es.length)
theorem out_same {ts xs es vs : List (Nat × Nat)} {rate delay : Nat} {m : Int} (t1 : ts.length ≤ 64) (e1 : es.length ≤ 64) (h1 : ∀ i, i < ts.length → okTap (ts.getD i (0, 0)) = true) (h2 : ∀ i, i < xs.length → ptOK (xs.getD i (0, 0)) = true)
    (h3 : ∀ i, i < es.length → okTap (es.getD i (0, 0)) = true) (h4 : ∀ i, i < vs.length → ptOK (vs.getD i (0, 0)) = true) :
    ∃ a b : Int, a.natAbs ≤ 134217728 ∧ b.natAbs ≤ 134217728 ∧ grid a (outP' ts xs es vs rate m delay).1 ∧ grid b (outP' ts xs es vs rate m delay).2 ∧ grid a (outD' ts xs es vs rate m delay).1 ∧ grid b (outD' ts xs es vs rate m delay).2 := by
  obtain ⟨a, b, a1, b1, f⟩ := acc_grid (ap := rate) (at' := m - delay) t1 h1 h2 ts.length (Nat.le_refl _)
  obtain ⟨c, d, c1, d1, g⟩ := acc_grid (ap := 1) (at' := m) e1 h3 h4 es.length (Nat.le_refl _)
  have b1' : ts.length * 1048576 ≤ 64 * 1048576 := Nat.mul_le_mul_right _ t1
  have b2' : es.length * 1048576 ≤ 64 * 1048576 := Nat.mul_le_mul_right _ e1
  obtain ⟨x1, x2⟩ := f (0, 0) 0 0 grid_zero0 grid_zero0 (by omega) (by omega)
  obtain ⟨y1, y2⟩ := g (0, 0) 0 0 grid_zero0 grid_zero0 (by omega) (by omega)
  rw [Int.zero_add] at x1 x2 y1 y2
  obtain ⟨z1, z2⟩ := g _ a b x1 x2 (by omega) (by omega)
  exact ⟨a + c, b + d, by omega, by omega, z1, z2, grid_add x1 y1 (by omega), grid_add x2 y2 (by omega)⟩
end Go.Proofs.Ytnphdnokedhhkaa.Fw
namespace Go.Proofs.Ytnphdnokedhhkaa.Fw
open Go Go.RowKit
theorem hnLwPaA {P : Prog} {C : Caller} : Holds P C [] := trivial
theorem hcLwPaA {P : Prog} {C : Caller} {c : Con} {cs : List Con} (h : c.holds P C) (t : Holds P C cs) : Holds P C (c :: cs) := ⟨h, t⟩
theorem hbLwPaA {P : Prog} {C : Caller} {x y : Bool} {cs : List Con} (h : x = y) (t : Holds P C cs) : Holds P C (.b x y :: cs) := ⟨h, t⟩

def roSt2 (xs : List (Nat × Nat)) (i : Nat) : St := ⟨[(0, .lst 1 (xs.map celC)), (3, .int .i64 i)], [], 0⟩
theorem pcl_0 {L n : Nat} {xs : List (Nat × Nat)} {a b i : Nat} {π : List Nat} (h0 : (!plainF a 4638707616191610880) = true) : den ⟨fnOf, specK, L⟩ (n+1) 62 [.cpx a b] = some (.v (.bool true)) :=
  denD_sound (q := [((some 7), (Dec.b true))]) (by kernel_rfl) (hbLwPaA h0 hnLwPaA)
theorem pcl_1 {L n : Nat} {xs : List (Nat × Nat)} {a b i : Nat} {π : List Nat} (h0 : (!plainF a 4638707616191610880) = false) : den ⟨fnOf, specK, L⟩ (n+1) 62 [.cpx a b] = some (.v (.bool (!plainF b 4638707616191610880))) :=
  denD_sound (q := [((some 7), (Dec.b false))]) (by kernel_rfl) (hbLwPaA h0 hnLwPaA)
theorem ror2_0 {L n : Nat} {xs : List (Nat × Nat)} {a b i : Nat} {π : List Nat} {x12 : Nat × Nat} (h0 : (decide ((↑i : Int) < (↑(List.map celC xs).length : Int))) = true) (h1 : Con.holds ⟨fnOf, specK, L⟩ (runF ⟨fnOf, specK, L⟩ n) (.el (List.map celC xs) (.v (.int .i64 ((↑i : Int)))) [(AV.cpx (x12.fst) (x12.snd))])) (h2 : (!plainF x12.fst 4638707616191610880) = true) : seeZ 0 [0, 3] m45.res (bodyOf ⟨fnOf, specK, L⟩ (runF ⟨fnOf, specK, L⟩ n) 0 m45b0 (i :: π) (roSt2 xs i : St)) = some (RO.out (.v (.bool false))) :=
  rndZ_sound (q := [((some 7), (Dec.b true)), ((some 12), (Dec.el [(AV.cpx (x12.fst) (x12.snd))])), ((some 17), (Dec.b true))]) (by kernel_rfl) (hbLwPaA h0 (hcLwPaA h1 (hbLwPaA h2 hnLwPaA)))
theorem ror2_1 {L n : Nat} {xs : List (Nat × Nat)} {a b i : Nat} {π : List Nat} {x12 : Nat × Nat} {x20 : Nat × Nat} (h0 : (decide ((↑i : Int) < (↑(List.map celC xs).length : Int))) = true) (h1 : Con.holds ⟨fnOf, specK, L⟩ (runF ⟨fnOf, specK, L⟩ n) (.el (List.map celC xs) (.v (.int .i64 ((↑i : Int)))) [(AV.cpx (x12.fst) (x12.snd))])) (h2 : (!plainF x12.fst 4638707616191610880) = false) (h3 : Con.holds ⟨fnOf, specK, L⟩ (runF ⟨fnOf, specK, L⟩ n) (.el (List.map celC xs) (.v (.int .i64 ((↑i : Int)))) [(AV.cpx (x20.fst) (x20.snd))])) (h4 : (!plainF x20.snd 4638707616191610880) = true) : seeZ 0 [0, 3] m45.res (bodyOf ⟨fnOf, specK, L⟩ (runF ⟨fnOf, specK, L⟩ n) 0 m45b0 (i :: π) (roSt2 xs i : St)) = some (RO.out (.v (.bool false))) :=
  rndZ_sound (q := [((some 7), (Dec.b true)), ((some 12), (Dec.el [(AV.cpx (x12.fst) (x12.snd))])), ((some 17), (Dec.b false)), ((some 20), (Dec.el [(AV.cpx (x20.fst) (x20.snd))])), ((some 25), (Dec.b true))]) (by kernel_rfl) (hbLwPaA h0 (hcLwPaA h1 (hbLwPaA h2 (hcLwPaA h3 (hbLwPaA h4 hnLwPaA)))))
theorem ror2_2 {L n : Nat} {xs : List (Nat × Nat)} {a b i : Nat} {π : List Nat} {x12 : Nat × Nat} {x20 : Nat × Nat} (h0 : (decide ((↑i : Int) < (↑(List.map celC xs).length : Int))) = true) (h1 : Con.holds ⟨fnOf, specK, L⟩ (runF ⟨fnOf, specK, L⟩ n) (.el (List.map celC xs) (.v (.int .i64 ((↑i : Int)))) [(AV.cpx (x12.fst) (x12.snd))])) (h2 : (!plainF x12.fst 4638707616191610880) = false) (h3 : Con.holds ⟨fnOf, specK, L⟩ (runF ⟨fnOf, specK, L⟩ n) (.el (List.map celC xs) (.v (.int .i64 ((↑i : Int)))) [(AV.cpx (x20.fst) (x20.snd))])) (h4 : (!plainF x20.snd 4638707616191610880) = false) : seeZ 0 [0, 3] m45.res (bodyOf ⟨fnOf, specK, L⟩ (runF ⟨fnOf, specK, L⟩ n) 0 m45b0 (i :: π) (roSt2 xs i : St)) = some (RO.go .nrm (.mk [(0, (.lst 1 (List.map celC xs))), (3, (.v (.int .i64 (IntKind.wrap .i64 ((↑i : Int) + 1)))))] [] 0)) :=
  rndZ_sound (q := [((some 7), (Dec.b true)), ((some 12), (Dec.el [(AV.cpx (x12.fst) (x12.snd))])), ((some 17), (Dec.b false)), ((some 20), (Dec.el [(AV.cpx (x20.fst) (x20.snd))])), ((some 25), (Dec.b false))]) (by kernel_rfl) (hbLwPaA h0 (hcLwPaA h1 (hbLwPaA h2 (hcLwPaA h3 (hbLwPaA h4 hnLwPaA)))))
theorem ror2_3 {L n : Nat} {xs : List (Nat × Nat)} {a b i : Nat} {π : List Nat} (h0 : (decide ((↑i : Int) < (↑(List.map celC xs).length : Int))) = false) : seeZ 0 [0, 3] m45.res (bodyOf ⟨fnOf, specK, L⟩ (runF ⟨fnOf, specK, L⟩ n) 0 m45b0 (i :: π) (roSt2 xs i : St)) = some (RO.go (.exit 0) (.mk [(0, (.lst 1 (List.map celC xs))), (3, (.v (.int .i64 ((↑i : Int)))))] [] 0)) :=
  rndZ_sound (q := [((some 7), (Dec.b false))]) (by kernel_rfl) (hbLwPaA h0 hnLwPaA)
theorem ron_0 {L n : Nat} {xs : List (Nat × Nat)} {a b i : Nat} {π : List Nat} (h0 : Con.holds ⟨fnOf, specK, L⟩ (runF ⟨fnOf, specK, L⟩ n) (.loop 0 [0, 3] m45b0 [2] (.mk [(0, (.lst 1 (List.map celC xs))), (3, (.v (.int .i64 0)))] [] 0) (.exit 0) (.mk [(0, (.lst 1 (List.map celC xs))), (3, (.v (.int .i64 ((↑i : Int)))))] [] 0))) : den ⟨fnOf, specK, L⟩ (n+1) 45 [.lst 1 (xs.map celC)] = some (.v (.bool true)) :=
  denD_sound (q := [((some 200000), (Dec.loop (.exit 0) (.mk [(0, (.lst 1 (List.map celC xs))), (3, (.v (.int .i64 ((↑i : Int)))))] [] 0)))]) (by kernel_rfl) (hcLwPaA h0 hnLwPaA)
theorem rot_0 {L n : Nat} {xs : List (Nat × Nat)} {s : St} {v : AV} (h0 : Con.holds ⟨fnOf, specK, L⟩ (runF ⟨fnOf, specK, L⟩ n) (.loop 0 [0, 3] m45b0 [2] (.mk [(0, (.lst 1 (List.map celC xs))), (3, (.v (.int .i64 0)))] [] 0) .ret (s))) (hv : outS s m45.res = some v) : den ⟨fnOf, specK, L⟩ (n+1) 45 [.lst 1 (xs.map celC)] = some v :=
  tailD_sound (q := [((some 200000), (Dec.loop .ret (s)))]) (k := 3) (by kernel_rfl) rfl (hcLwPaA h0 hnLwPaA) hv
end Go.Proofs.Ytnphdnokedhhkaa.Fw
namespace Go.Proofs.Ytnphdnokedhhkaa.Fw
open Go Go.RowKit
def ptSem : List AV → Option AV
  | [.cpx a b] => some (.v (.bool (!ptOK (a, b))))
  | _ => none
theorem den_pt {L n a b : Nat} : den ⟨fnOf, specK, L⟩ (n+1) 62 [.cpx a b] = some (.v (.bool (!ptOK (a, b)))) := by
  unfold ptOK
  cases h : plainF a 4638707616191610880 with
  | true =>
    rw [@pcl_1 L n [] a b 0 [] (by rw [h]; rfl)]
    simp only [h, Bool.true_and]
  | false =>
    rw [@pcl_0 L n [] a b 0 [] (by rw [h]; rfl)]
    simp only [h, Bool.false_and]; rfl
def newW : FuncId → Option (List AV → Option AV)
  | 62 => some ptSem
  | _ => none
def specW : FuncId → Option (List AV → Option AV) := fun f => match newW f with | some g => some g | none => specK f
theorem spec_w : SpecOk Try.prog ⟨fnOf, specW, 0⟩ :=
  spec_adds spec_k (fun L => fnsOk _ _) follows newW fun f g h => by
    unfold newW at h
    split at h
    · cases h
      refine ⟨⟨_, Try.func62, ne_of_beq_false (by kernel_rfl), by kernel_rfl⟩, fun avs r h => ?_⟩
      unfold ptSem at h
      split at h
      · cases h; exact told (P := ⟨fnOf, specK, 0⟩) ⟨0, 1, den_pt⟩
      · cases h
    · cases h
end Go.Proofs.Ytnphdnokedhhkaa.Fw
namespace Go.Proofs.Ytnphdnokedhhkaa.Fw
open Go Go.RowKit
theorem hnLwPaC {P : Prog} {C : Caller} : Holds P C [] := trivial
theorem hcLwPaC {P : Prog} {C : Caller} {c : Con} {cs : List Con} (h : c.holds P C) (t : Holds P C cs) : Holds P C (c :: cs) := ⟨h, t⟩
theorem hbLwPaC {P : Prog} {C : Caller} {x y : Bool} {cs : List Con} (h : x = y) (t : Holds P C cs) : Holds P C (.b x y :: cs) := ⟨h, t⟩

def ixSt (xs : List (Nat × Nat)) (i : Nat) : St := ⟨[(0, .lst 1 (xs.map celC)), (1, .fn (.func 62) [] []), (7, .int .i64 (xs.map celC).length), (8, .int .i64 i)], [], 0⟩
theorem ixr_0 {L n : Nat} {xs : List (Nat × Nat)} {a b i : Nat} {π : List Nat} {x14 : Nat × Nat} (h0 : (decide ((↑i : Int) < (↑(List.map celC xs).length : Int))) = true) (h1 : Con.holds ⟨fnOf, specW, L⟩ (runF ⟨fnOf, specW, L⟩ n) (.el (List.map celC xs) (.v (.int .i64 ((↑i : Int)))) [(AV.cpx (x14.fst) (x14.snd))])) (h2 : (!ptOK (x14.fst, x14.snd)) = true) : seeZ 0 [0, 1, 7, 8] m73.res (bodyOf ⟨fnOf, specW, L⟩ (runF ⟨fnOf, specW, L⟩ n) 0 m73b0 (i :: π) (ixSt xs i : St)) = some (RO.out (.v (.int .i64 ((↑i : Int))))) :=
  rndZ_sound (q := [((some 9), (Dec.b true)), ((some 14), (Dec.el [(AV.cpx (x14.fst) (x14.snd))])), ((some 16), (Dec.b true))]) (by kernel_rfl) (hbLwPaC h0 (hcLwPaC h1 (hbLwPaC h2 hnLwPaC)))
theorem ixr_1 {L n : Nat} {xs : List (Nat × Nat)} {a b i : Nat} {π : List Nat} {x14 : Nat × Nat} (h0 : (decide ((↑i : Int) < (↑(List.map celC xs).length : Int))) = true) (h1 : Con.holds ⟨fnOf, specW, L⟩ (runF ⟨fnOf, specW, L⟩ n) (.el (List.map celC xs) (.v (.int .i64 ((↑i : Int)))) [(AV.cpx (x14.fst) (x14.snd))])) (h2 : (!ptOK (x14.fst, x14.snd)) = false) : seeZ 0 [0, 1, 7, 8] m73.res (bodyOf ⟨fnOf, specW, L⟩ (runF ⟨fnOf, specW, L⟩ n) 0 m73b0 (i :: π) (ixSt xs i : St)) = some (RO.go .nrm (.mk [(0, (.lst 1 (List.map celC xs))), (1, (.fn (Fn.func 62) [] [])), (7, (.v (.int .i64 ((↑(List.map celC xs).length : Int))))), (8, (.v (.int .i64 (IntKind.wrap .i64 ((↑i : Int) + 1)))))] [] 0)) :=
  rndZ_sound (q := [((some 9), (Dec.b true)), ((some 14), (Dec.el [(AV.cpx (x14.fst) (x14.snd))])), ((some 16), (Dec.b false))]) (by kernel_rfl) (hbLwPaC h0 (hcLwPaC h1 (hbLwPaC h2 hnLwPaC)))
theorem ixr_2 {L n : Nat} {xs : List (Nat × Nat)} {a b i : Nat} {π : List Nat} (h0 : (decide ((↑i : Int) < (↑(List.map celC xs).length : Int))) = false) : seeZ 0 [0, 1, 7, 8] m73.res (bodyOf ⟨fnOf, specW, L⟩ (runF ⟨fnOf, specW, L⟩ n) 0 m73b0 (i :: π) (ixSt xs i : St)) = some (RO.go (.exit 0) (.mk [(0, (.lst 1 (List.map celC xs))), (1, (.fn (Fn.func 62) [] [])), (7, (.v (.int .i64 ((↑(List.map celC xs).length : Int))))), (8, (.v (.int .i64 ((↑i : Int)))))] [] 0)) :=
  rndZ_sound (q := [((some 9), (Dec.b false))]) (by kernel_rfl) (hbLwPaC h0 hnLwPaC)
theorem ixn_0 {L n : Nat} {xs : List (Nat × Nat)} {a b i : Nat} {π : List Nat} (h0 : Con.holds ⟨fnOf, specW, L⟩ (runF ⟨fnOf, specW, L⟩ n) (.loop 0 [0, 1, 7, 8] m73b0 [4] (.mk [(0, (.lst 1 (List.map celC xs))), (1, (.fn (Fn.func 62) [] [])), (7, (.v (.int .i64 ((↑(List.map celC xs).length : Int))))), (8, (.v (.int .i64 0)))] [] 0) (.exit 0) (.mk [(0, (.lst 1 (List.map celC xs))), (1, (.fn (Fn.func 62) [] [])), (7, (.v (.int .i64 ((↑(List.map celC xs).length : Int))))), (8, (.v (.int .i64 ((↑i : Int)))))] [] 0))) : den ⟨fnOf, specW, L⟩ (n+1) 73 [.lst 1 (xs.map celC), .fn (.func 62) [] []] = some (.v (.int .i64 (-1))) :=
  denD_sound (q := [((some 200000), (Dec.loop (.exit 0) (.mk [(0, (.lst 1 (List.map celC xs))), (1, (.fn (Fn.func 62) [] [])), (7, (.v (.int .i64 ((↑(List.map celC xs).length : Int))))), (8, (.v (.int .i64 ((↑i : Int)))))] [] 0)))]) (by kernel_rfl) (hcLwPaC h0 hnLwPaC)
theorem ixt_0 {L n : Nat} {xs : List (Nat × Nat)} {s : St} {v : AV} (h0 : Con.holds ⟨fnOf, specW, L⟩ (runF ⟨fnOf, specW, L⟩ n) (.loop 0 [0, 1, 7, 8] m73b0 [4] (.mk [(0, (.lst 1 (List.map celC xs))), (1, (.fn (Fn.func 62) [] [])), (7, (.v (.int .i64 ((↑(List.map celC xs).length : Int))))), (8, (.v (.int .i64 0)))] [] 0) .ret (s))) (hv : outS s m73.res = some v) : den ⟨fnOf, specW, L⟩ (n+1) 73 [.lst 1 (xs.map celC), .fn (.func 62) [] []] = some v :=
  tailD_sound (q := [((some 200000), (Dec.loop .ret (s)))]) (k := 5) (by kernel_rfl) rfl (hcLwPaC h0 hnLwPaC) hv
theorem con_0 {L n : Nat} {xs : List (Nat × Nat)} {a b i : Nat} {π : List Nat} {c7 : Int} (h0 : Con.holds ⟨fnOf, specW, L⟩ (runF ⟨fnOf, specW, L⟩ n) (.call 73 [(.lst 1 (List.map celC xs)), (.fn (Fn.func 62) [] [])] (.v (.int .i64 (c7))))) : den ⟨fnOf, specW, L⟩ (n+1) 61 [.lst 1 (xs.map celC), .fn (.func 62) [] []] = some (.v (.bool (decide (c7 ≥ 0)))) :=
  denD_sound (q := [((some 7), (Dec.call (.v (.int .i64 (c7)))))]) (by kernel_rfl) (hcLwPaC h0 hnLwPaC)
theorem pla_0 {L n : Nat} {xs : List (Nat × Nat)} {a b i : Nat} {π : List Nat} {c4 : Bool} (h0 : Con.holds ⟨fnOf, specW, L⟩ (runF ⟨fnOf, specW, L⟩ n) (.call 61 [(.lst 1 (List.map celC xs)), (.fn (Fn.func 62) [] [])] (.v (.bool (c4))))) : den ⟨fnOf, specW, L⟩ (n+1) 44 [.lst 1 (xs.map celC)] = some (.v (.bool (!c4))) :=
  denD_sound (q := [((some 4), (Dec.call (.v (.bool (c4)))))]) (by kernel_rfl) (hcLwPaC h0 hnLwPaC)
end Go.Proofs.Ytnphdnokedhhkaa.Fw
namespace Go.Proofs.Ytnphdnokedhhkaa.Fw
open Go Go.RowKit
def rowF (xs : List (Nat × Nat)) : Bool := (List.range xs.length).all fun i => ptOK (xs.getD i (0, 0))
section
variable {L n : Nat} {xs : List (Nat × Nat)}
theorem rowF_is : rowF xs = true ↔ ∀ i, i < xs.length → ptOK (xs.getD i (0, 0)) = true := by
  unfold rowF
  simp only [List.all_eq_true, List.mem_range]
theorem rowF_bad {k : Nat} (hk : k < xs.length) (h : ptOK (xs.getD k (0, 0)) = false) : rowF xs = false := by
  cases hq : rowF xs with
  | false => rfl
  | true =>
    have := rowF_is.1 hq k hk
    rw [h] at this; cases this
theorem plain_den (hL : xs.length ≤ L) (hm : shortL xs) : den ⟨fnOf, specW, L+1⟩ (n+3) 44 [.lst 1 (xs.map celC)] = some (.v (.bool (rowF xs))) := by
  have hl : (xs.map celC).length = xs.length := map_len
  unfold shortL at hm
  have hstep : ∀ k, k ≤ xs.length → (∀ i, i < k → ptOK (xs.getD i (0, 0)) = true) → ∀ i, i < k →
      seeZ 0 [0, 1, 7, 8] m73.res (bodyOf ⟨fnOf, specW, L+1⟩ (runF ⟨fnOf, specW, L+1⟩ n) 0 m73b0 (i :: [4]) (ixSt xs i)) = some (.go .nrm (ixSt xs (i + 1))) := fun k hk h i hi => by
    have := @ixr_1 (L+1) n xs 0 0 i [4] (xs.getD i (0, 0)) (by rw [hl]; exact dLt (by omega)) (elD_map (f := celC) (by omega)) (by show (!ptOK (xs.getD i (0, 0))) = false; rw [h i hi]; rfl)
    rw [wrap_id (n := (i : Int) + 1) (by omega)] at this
    exact this
  rcases firstI (fun i => ptOK (xs.getD i (0, 0))) xs.length with h | ⟨k, hk, h1, h2⟩
  · have hlp : Con.holds ⟨fnOf, specW, L+1⟩ (runF ⟨fnOf, specW, L+1⟩ n) (.loop 0 [0, 1, 7, 8] m73b0 [4] (ixSt xs 0) (.exit 0) (ixSt xs xs.length)) :=
      loopX (res := m73.res) (fun i => ixSt xs i) xs.length rfl hL (hstep _ (Nat.le_refl _) h) (@ixr_2 (L+1) n xs 0 0 xs.length [4] (by rw [hl]; exact dNlt)) (by simp)
    have h3 := @con_0 (L+1) (n+1) xs 0 0 0 [] (-1) (call_den (@ixn_0 (L+1) n xs 0 0 xs.length [] hlp))
    have h4 := @pla_0 (L+1) (n+2) xs 0 0 0 [] _ (call_den h3)
    rw [h4, rowF_is.2 h]
    rfl
  · have hbad : seeZ 0 [0, 1, 7, 8] m73.res (bodyOf ⟨fnOf, specW, L+1⟩ (runF ⟨fnOf, specW, L+1⟩ n) 0 m73b0 (k :: [4]) (ixSt xs k)) = some (.out (.v (.int .i64 (k : Int)))) :=
      @ixr_0 (L+1) n xs 0 0 k [4] (xs.getD k (0, 0)) (by rw [hl]; exact dLt hk) (elD_map (f := celC) hk) (by show (!ptOK (xs.getD k (0, 0))) = true; rw [h2]; rfl)
    obtain ⟨s1, hd, ho⟩ := loopZ (P := ⟨fnOf, specW, L+1⟩) (C := runF ⟨fnOf, specW, L+1⟩ n) (π := [4]) (fun i => ixSt xs i) k rfl (by omega) (hstep k (by omega) h1) hbad
    have h3 := @con_0 (L+1) (n+1) xs 0 0 0 [] _ (call_den (ixt_0 hd ho))
    have h4 := @pla_0 (L+1) (n+2) xs 0 0 0 [] _ (call_den h3)
    rw [h4, rowF_bad hk h2, decide_eq_true (show (k : Int) ≥ 0 by omega)]
    rfl
theorem rows_den (hL : xs.length ≤ L) (hm : shortL xs) : den ⟨fnOf, specK, L+1⟩ (n+1) 45 [.lst 1 (xs.map celC)] = some (.v (.bool (rowF xs))) := by
  have hl : (xs.map celC).length = xs.length := map_len
  unfold shortL at hm
  have hstep : ∀ k, k ≤ xs.length → (∀ i, i < k → ptOK (xs.getD i (0, 0)) = true) → ∀ i, i < k →
      seeZ 0 [0, 3] m45.res (bodyOf ⟨fnOf, specK, L+1⟩ (runF ⟨fnOf, specK, L+1⟩ n) 0 m45b0 (i :: [2]) (roSt2 xs i)) = some (.go .nrm (roSt2 xs (i + 1))) := fun k hk h i hi => by
    have hp := h i hi
    unfold ptOK at hp
    rw [Bool.and_eq_true] at hp
    have he := elD_map (P := ⟨fnOf, specK, L+1⟩) (C := runF ⟨fnOf, specK, L+1⟩ n) (f := celC) (d := (0, 0)) (show i < xs.length by omega)
    have := @ror2_2 (L+1) n xs 0 0 i [2] (xs.getD i (0, 0)) (xs.getD i (0, 0)) (by rw [hl]; exact dLt (by omega)) he (by rw [hp.1]; rfl) he (by rw [hp.2]; rfl)
    rw [wrap_id (n := (i : Int) + 1) (by omega)] at this
    exact this
  rcases firstI (fun i => ptOK (xs.getD i (0, 0))) xs.length with h | ⟨k, hk, h1, h2⟩
  · have hlp : Con.holds ⟨fnOf, specK, L+1⟩ (runF ⟨fnOf, specK, L+1⟩ n) (.loop 0 [0, 3] m45b0 [2] (roSt2 xs 0) (.exit 0) (roSt2 xs xs.length)) :=
      loopX (res := m45.res) (fun i => roSt2 xs i) xs.length rfl hL (hstep _ (Nat.le_refl _) h) (@ror2_3 (L+1) n xs 0 0 xs.length [2] (by rw [hl]; exact dNlt)) (by simp)
    rw [@ron_0 (L+1) n xs 0 0 xs.length [] hlp, rowF_is.2 h]
  · have hbad : seeZ 0 [0, 3] m45.res (bodyOf ⟨fnOf, specK, L+1⟩ (runF ⟨fnOf, specK, L+1⟩ n) 0 m45b0 (k :: [2]) (roSt2 xs k)) = some (.out (.v (.bool false))) := by
      have ha : decide ((k : Int) < ((xs.map celC).length : Int)) = true := by rw [hl]; exact dLt hk
      have he := elD_map (P := ⟨fnOf, specK, L+1⟩) (C := runF ⟨fnOf, specK, L+1⟩ n) (f := celC) (d := (0, 0)) hk
      unfold ptOK at h2
      cases hq : plainF (xs.getD k (0, 0)).1 4638707616191610880 with
      | false => exact @ror2_0 (L+1) n xs 0 0 k [2] (xs.getD k (0, 0)) ha he (by rw [hq]; rfl)
      | true =>
        rw [hq, Bool.true_and] at h2
        exact @ror2_1 (L+1) n xs 0 0 k [2] (xs.getD k (0, 0)) (xs.getD k (0, 0)) ha he (by rw [hq]; rfl) he (by rw [h2]; rfl)
    obtain ⟨s1, hd, ho⟩ := loopZ (P := ⟨fnOf, specK, L+1⟩) (C := runF ⟨fnOf, specK, L+1⟩ n) (π := [2]) (fun i => roSt2 xs i) k rfl (by omega) (hstep k (by omega) h1) hbad
    rw [rowF_bad hk h2]
    exact rot_0 hd ho
end
def rowSem : List AV → Option AV
  | [.lst 1 els] => (unL unC els).bind fun xs => if shortL xs then some (.v (.bool (rowF xs))) else none
  | _ => none
theorem rowSem_is {avs : List AV} {r : AV} (h : rowSem avs = some r) : ∃ xs, avs = [.lst 1 (xs.map celC)] ∧ shortL xs ∧ r = .v (.bool (rowF xs)) := by
  unfold rowSem at h
  split at h
  · rename_i els
    rw [Option.bind_eq_some_iff] at h
    obtain ⟨zs, h1, h2⟩ := h
    split at h2
    · rename_i hm
      cases h2
      have := unL_inv (enc := celC) unC_is h1
      subst this
      exact ⟨zs, rfl, hm, rfl⟩
    · cases h2
  · cases h
theorem rowSem_at {xs : List (Nat × Nat)} (h : shortL xs) : rowSem [.lst 1 (xs.map celC)] = some (.v (.bool (rowF xs))) := by
  simp only [rowSem, unC_L, Option.bind_some, if_pos h]
def newX1 : FuncId → Option (List AV → Option AV)
  | 44 => some rowSem
  | _ => none
def newX2 : FuncId → Option (List AV → Option AV)
  | 45 => some rowSem
  | _ => none
theorem spec_x1 : SpecOk Try.prog ⟨fnOf, fun f => match newX1 f with | some g => some g | none => specW f, 0⟩ :=
  spec_adds spec_w (fun L => fnsOk _ _) follows newX1 fun f g h => by
    unfold newX1 at h
    split at h
    · cases h
      refine ⟨⟨_, Try.func44, ne_of_beq_false (by kernel_rfl), by kernel_rfl⟩, fun avs r h => ?_⟩
      obtain ⟨xs, rfl, hm, rfl⟩ := rowSem_is h
      exact told (P := ⟨fnOf, specW, 0⟩) ⟨xs.length + 1, 3, plain_den (Nat.le_refl _) hm⟩
    · cases h
theorem spec_x2 : SpecOk Try.prog ⟨fnOf, fun f => match newX2 f with | some g => some g | none => specK f, 0⟩ :=
  spec_adds spec_k (fun L => fnsOk _ _) follows newX2 fun f g h => by
    unfold newX2 at h
    split at h
    · cases h
      refine ⟨⟨_, Try.func45, ne_of_beq_false (by kernel_rfl), by kernel_rfl⟩, fun avs r h => ?_⟩
      obtain ⟨xs, rfl, hm, rfl⟩ := rowSem_is h
      exact told (P := ⟨fnOf, specK, 0⟩) ⟨xs.length + 1, 1, rows_den (Nat.le_refl _) hm⟩
    · cases h
def newX : FuncId → Option (List AV → Option AV)
  | 44 => some rowSem
  | 45 => some rowSem
  | _ => none
/-- plain and Rows, too -/
def specX : FuncId → Option (List AV → Option AV) := fun f => match newX f with | some g => some g | none => specK f
theorem spec_x : SpecOk Try.prog ⟨fnOf, specX, 0⟩ := by
  intro f g h
  have h : (match newX f with | some g => some g | none => specK f) = some g := h
  unfold newX at h
  split at h
  · rename_i g' hq
    split at hq
    · cases hq; cases h; exact spec_x1 44 _ rfl
    · cases hq; cases h; exact spec_x2 45 _ rfl
    · cases hq
  · exact spec_k f g h
end Go.Proofs.Ytnphdnokedhhkaa.Fw
namespace Go.Proofs.Ytnphdnokedhhkaa.Fw
open Go Go.RowKit
theorem hnLwLyX {P : Prog} {C : Caller} : Holds P C [] := trivial
theorem hcLwLyX {P : Prog} {C : Caller} {c : Con} {cs : List Con} (h : c.holds P C) (t : Holds P C cs) : Holds P C (c :: cs) := ⟨h, t⟩
theorem hbLwLyX {P : Prog} {C : Caller} {x y : Bool} {cs : List Con} (h : x = y) (t : Holds P C cs) : Holds P C (.b x y :: cs) := ⟨h, t⟩

theorem xyi42_0 {L n : Nat} {xs hs out out2 : List (Nat × Nat)} {ap lt fr : Int} {st π τ : List Nat} {m k a b i : Nat} {x34 : Nat × Nat} (h0 : (decide ((↑i : Int) < (↑(List.map celC xs).length : Int))) = true) (h1 : Con.holds ⟨fnOf, specX, L⟩ (runF ⟨fnOf, specX, L⟩ n) (.el (List.map celC xs) (.v (.int .i64 ((↑i : Int)))) [(AV.cpx (x34.fst) (x34.snd))])) (h2 : (decide (IntKind.wrap .i64 (fr + (↑i : Int)) ≥ (↑m : Int))) = true) : rnd 1 [0, 1, 3, 4, 11, 12, 17, 18, 19, 29, 30, 31] (bodyOf ⟨fnOf, specX, L⟩ (runF ⟨fnOf, specX, L⟩ n) 1 m40b0 (π) (li42St m xs hs out ap lt st k a b fr i : St)) = some ((.exit 2), (.mk [(0, (.slc (.mk 0 42 0) (st) 1 0 (m) true)), (1, (.lst 1 (List.map celC xs))), (3, (.v (.int .i64 (ap)))), (4, (.v (.int .i64 (lt)))), (11, (.cpx (a) (b))), (12, (.v (.int .i64 (fr)))), (17, (.lst 1 (List.map celC hs))), (18, (.v (.int .i64 ((↑(List.map celC hs).length : Int))))), (19, (.v (.int .i64 ((↑k : Int))))), (29, (.lst 1 (List.map celC xs))), (30, (.v (.int .i64 ((↑(List.map celC xs).length : Int))))), (31, (.v (.int .i64 ((↑i : Int)))))] [((.mk 0 42 0), (.mk (st) (List.map celC out) 1 true))] 0)) :=
  rndD_sound (q := [((some 32), (Dec.b true)), ((some 34), (Dec.el [(AV.cpx (x34.fst) (x34.snd))])), ((some 41), (Dec.b true))]) (by kernel_rfl) (hbLwLyX h0 (hcLwLyX h1 (hbLwLyX h2 hnLwLyX)))
theorem xyi42_1 {L n : Nat} {xs hs out out2 : List (Nat × Nat)} {ap lt fr : Int} {st π τ : List Nat} {m k a b i : Nat} {x34 : Nat × Nat} {k68 : Nat} {x69 : Nat × Nat} {k74 : Nat} {x0 : Nat × Nat} (h0 : (decide ((↑i : Int) < (↑(List.map celC xs).length : Int))) = true) (h1 : Con.holds ⟨fnOf, specX, L⟩ (runF ⟨fnOf, specX, L⟩ n) (.el (List.map celC xs) (.v (.int .i64 ((↑i : Int)))) [(AV.cpx (x34.fst) (x34.snd))])) (h2 : (decide (IntKind.wrap .i64 (fr + (↑i : Int)) ≥ (↑m : Int))) = false) (h3 : Con.holds ⟨fnOf, specX, L⟩ (runF ⟨fnOf, specX, L⟩ n) (.ix (.v (.int .i64 (IntKind.wrap .i64 (fr + (↑i : Int))))) (m) (k68))) (h4 : Con.holds ⟨fnOf, specX, L⟩ (runF ⟨fnOf, specX, L⟩ n) (.at (List.map celC out) (0 + k68) [(AV.cpx (x69.fst) (x69.snd))])) (h5 : Con.holds ⟨fnOf, specX, L⟩ (runF ⟨fnOf, specX, L⟩ n) (.ix (.v (.int .i64 (IntKind.wrap .i64 (fr + (↑i : Int))))) (m) (k74))) (h6 : Con.holds ⟨fnOf, specX, L⟩ (runF ⟨fnOf, specX, L⟩ n) (.at (List.map celC out) (0 + k74) [(AV.cpx (x0.fst) (x0.snd))])) : rnd 1 [0, 1, 3, 4, 11, 12, 17, 18, 19, 29, 30, 31] (bodyOf ⟨fnOf, specX, L⟩ (runF ⟨fnOf, specX, L⟩ n) 1 m40b0 (π) (li42St m xs hs out ap lt st k a b fr i : St)) = some (.nrm, (.mk [(0, (.slc (.mk 0 42 0) (st) 1 0 (m) true)), (1, (.lst 1 (List.map celC xs))), (3, (.v (.int .i64 (ap)))), (4, (.v (.int .i64 (lt)))), (11, (.cpx (a) (b))), (12, (.v (.int .i64 (fr)))), (17, (.lst 1 (List.map celC hs))), (18, (.v (.int .i64 ((↑(List.map celC hs).length : Int))))), (19, (.v (.int .i64 ((↑k : Int))))), (29, (.lst 1 (List.map celC xs))), (30, (.v (.int .i64 ((↑(List.map celC xs).length : Int))))), (31, (.v (.int .i64 (IntKind.wrap .i64 ((↑i : Int) + 1)))))] [((.mk 0 42 0), (.mk (st) (List.set (List.map celC out) (0 + k74) [(AV.cpx (fadd x69.fst (fsub (fmul a x34.fst) (fmul b x34.snd))) (fadd x69.snd (fadd (fmul a x34.snd) (fmul b x34.fst))))]) 1 true))] 0)) :=
  rndD_sound (q := [((some 32), (Dec.b true)), ((some 34), (Dec.el [(AV.cpx (x34.fst) (x34.snd))])), ((some 41), (Dec.b false)), ((some 68), (Dec.ix (k68))), ((some 69), (Dec.el [(AV.cpx (x69.fst) (x69.snd))])), ((some 74), (Dec.ix (k74))), (none, (Dec.el [(AV.cpx (x0.fst) (x0.snd))]))]) (by kernel_rfl) (hbLwLyX h0 (hcLwLyX h1 (hbLwLyX h2 (hcLwLyX h3 (hcLwLyX (c := (.st (st) (st))) rfl (hcLwLyX h4 (hcLwLyX h5 (hcLwLyX (c := (.st (st) (st))) rfl (hcLwLyX h6 hnLwLyX)))))))))
theorem xyi42_2 {L n : Nat} {xs hs out out2 : List (Nat × Nat)} {ap lt fr : Int} {st π τ : List Nat} {m k a b i : Nat} (h0 : (decide ((↑i : Int) < (↑(List.map celC xs).length : Int))) = false) : rnd 1 [0, 1, 3, 4, 11, 12, 17, 18, 19, 29, 30, 31] (bodyOf ⟨fnOf, specX, L⟩ (runF ⟨fnOf, specX, L⟩ n) 1 m40b0 (π) (li42St m xs hs out ap lt st k a b fr i : St)) = some ((.exit 2), (.mk [(0, (.slc (.mk 0 42 0) (st) 1 0 (m) true)), (1, (.lst 1 (List.map celC xs))), (3, (.v (.int .i64 (ap)))), (4, (.v (.int .i64 (lt)))), (11, (.cpx (a) (b))), (12, (.v (.int .i64 (fr)))), (17, (.lst 1 (List.map celC hs))), (18, (.v (.int .i64 ((↑(List.map celC hs).length : Int))))), (19, (.v (.int .i64 ((↑k : Int))))), (29, (.lst 1 (List.map celC xs))), (30, (.v (.int .i64 ((↑(List.map celC xs).length : Int))))), (31, (.v (.int .i64 ((↑i : Int)))))] [((.mk 0 42 0), (.mk (st) (List.map celC out) 1 true))] 0)) :=
  rndD_sound (q := [((some 32), (Dec.b false))]) (by kernel_rfl) (hbLwLyX h0 hnLwLyX)
theorem xyo42_0 {L n : Nat} {xs hs out out2 : List (Nat × Nat)} {ap lt fr : Int} {st π τ : List Nat} {m k a b i : Nat} {x22 : Nat × Nat} (h0 : (decide ((↑k : Int) < (↑(List.map celC hs).length : Int))) = true) (h1 : Con.holds ⟨fnOf, specX, L⟩ (runF ⟨fnOf, specX, L⟩ n) (.el (List.map celC hs) (.v (.int .i64 ((↑k : Int)))) [(AV.cpx (x22.fst) (x22.snd))])) (h2 : Con.holds ⟨fnOf, specX, L⟩ (runF ⟨fnOf, specX, L⟩ n) (.loop 1 [0, 1, 3, 4, 11, 12, 17, 18, 19, 29, 30, 31] m40b0 ([15] ++ (π)) (.mk [(0, (.slc (.mk 0 42 0) (st) 1 0 (m) true)), (1, (.lst 1 (List.map celC xs))), (3, (.v (.int .i64 (ap)))), (4, (.v (.int .i64 (lt)))), (11, (.cpx (x22.fst) (x22.snd))), (12, (.v (.int .i64 (IntKind.wrap .i64 (lt + IntKind.wrap .i64 ((↑k : Int) * ap)))))), (17, (.lst 1 (List.map celC hs))), (18, (.v (.int .i64 ((↑(List.map celC hs).length : Int))))), (19, (.v (.int .i64 ((↑k : Int))))), (29, (.lst 1 (List.map celC xs))), (30, (.v (.int .i64 ((↑(List.map celC xs).length : Int))))), (31, (.v (.int .i64 0)))] [((.mk 0 42 0), (.mk (st) (List.map celC out) 1 true))] 0) (.exit 2) (.mk [(0, (.slc (.mk 0 42 0) (st) 1 0 (m) true)), (1, (.lst 1 (List.map celC xs))), (3, (.v (.int .i64 (ap)))), (4, (.v (.int .i64 (lt)))), (11, (.cpx (a) (b))), (12, (.v (.int .i64 (fr)))), (17, (.lst 1 (List.map celC hs))), (18, (.v (.int .i64 ((↑(List.map celC hs).length : Int))))), (19, (.v (.int .i64 ((↑k : Int))))), (29, (.lst 1 (List.map celC xs))), (30, (.v (.int .i64 ((↑(List.map celC xs).length : Int))))), (31, (.v (.int .i64 ((↑i : Int)))))] [((.mk 0 42 0), (.mk (st) (List.map celC out2) 1 true))] 0))) : rnd 1 [0, 1, 3, 4, 17, 18, 19] (bodyOf ⟨fnOf, specX, L⟩ (runF ⟨fnOf, specX, L⟩ n) 1 m40b1 (π) (lo42St m xs hs out ap lt st k : St)) = some (.nrm, (.mk [(0, (.slc (.mk 0 42 0) (st) 1 0 (m) true)), (1, (.lst 1 (List.map celC xs))), (3, (.v (.int .i64 (ap)))), (4, (.v (.int .i64 (lt)))), (17, (.lst 1 (List.map celC hs))), (18, (.v (.int .i64 ((↑(List.map celC hs).length : Int))))), (19, (.v (.int .i64 (IntKind.wrap .i64 ((↑k : Int) + 1)))))] [((.mk 0 42 0), (.mk (st) (List.map celC out2) 1 true))] 0)) :=
  rndD_sound (q := [((some 20), (Dec.b true)), ((some 22), (Dec.el [(AV.cpx (x22.fst) (x22.snd))])), ((some 200000), (Dec.loop (.exit 2) (.mk [(0, (.slc (.mk 0 42 0) (st) 1 0 (m) true)), (1, (.lst 1 (List.map celC xs))), (3, (.v (.int .i64 (ap)))), (4, (.v (.int .i64 (lt)))), (11, (.cpx (a) (b))), (12, (.v (.int .i64 (fr)))), (17, (.lst 1 (List.map celC hs))), (18, (.v (.int .i64 ((↑(List.map celC hs).length : Int))))), (19, (.v (.int .i64 ((↑k : Int))))), (29, (.lst 1 (List.map celC xs))), (30, (.v (.int .i64 ((↑(List.map celC xs).length : Int))))), (31, (.v (.int .i64 ((↑i : Int)))))] [((.mk 0 42 0), (.mk (st) (List.map celC out2) 1 true))] 0)))]) (by kernel_rfl) (hbLwLyX h0 (hcLwLyX h1 (hcLwLyX h2 hnLwLyX)))
theorem xyo42_1 {L n : Nat} {xs hs out out2 : List (Nat × Nat)} {ap lt fr : Int} {st π τ : List Nat} {m k a b i : Nat} (h0 : (decide ((↑k : Int) < (↑(List.map celC hs).length : Int))) = false) : rnd 1 [0, 1, 3, 4, 17, 18, 19] (bodyOf ⟨fnOf, specX, L⟩ (runF ⟨fnOf, specX, L⟩ n) 1 m40b1 (π) (lo42St m xs hs out ap lt st k : St)) = some ((.exit 0), (.mk [(0, (.slc (.mk 0 42 0) (st) 1 0 (m) true)), (1, (.lst 1 (List.map celC xs))), (3, (.v (.int .i64 (ap)))), (4, (.v (.int .i64 (lt)))), (17, (.lst 1 (List.map celC hs))), (18, (.v (.int .i64 ((↑(List.map celC hs).length : Int))))), (19, (.v (.int .i64 ((↑k : Int)))))] [((.mk 0 42 0), (.mk (st) (List.map celC out) 1 true))] 0)) :=
  rndD_sound (q := [((some 20), (Dec.b false))]) (by kernel_rfl) (hbLwLyX h0 hnLwLyX)
theorem xy42_0 {L n : Nat} {xs hs out out2 : List (Nat × Nat)} {ap lt fr : Int} {st π τ : List Nat} {m k a b i : Nat} (h0 : Con.holds ⟨fnOf, specX, L⟩ (runF ⟨fnOf, specX, L⟩ n) (.loop 1 [0, 1, 3, 4, 17, 18, 19] m40b1 ([3, 0] ++ (τ)) (.mk [(0, (.slc (.mk 0 42 0) (st) 1 0 (m) true)), (1, (.lst 1 (List.map celC xs))), (3, (.v (.int .i64 (ap)))), (4, (.v (.int .i64 (lt)))), (17, (.lst 1 (List.map celC hs))), (18, (.v (.int .i64 ((↑(List.map celC hs).length : Int))))), (19, (.v (.int .i64 0)))] [((.mk 0 42 0), (.mk (st) (List.map celC out) 1 true))] 0) (.exit 0) (.mk [(0, (.slc (.mk 0 42 0) (st) 1 0 (m) true)), (1, (.lst 1 (List.map celC xs))), (3, (.v (.int .i64 (ap)))), (4, (.v (.int .i64 (lt)))), (17, (.lst 1 (List.map celC hs))), (18, (.v (.int .i64 ((↑(List.map celC hs).length : Int))))), (19, (.v (.int .i64 ((↑k : Int)))))] [((.mk 0 42 0), (.mk (st) (List.map celC out2) 1 true))] 0))) : runF ⟨fnOf, specX, L⟩ (n+1) 1 (0 :: τ) 40 [.slc ⟨0,42,0⟩ st 1 0 m true, .lst 1 (xs.map celC), .lst 1 (hs.map celC), .int .i64 ap, .int .i64 lt] [(⟨0,42,0⟩, ⟨st, out.map celC, 1, true⟩)] = some ((.tup []), [((.mk 0 42 0), (.mk (st) (List.map celC out2) 1 true))]) :=
  runD_sound (q := [((some 200001), (Dec.loop (.exit 0) (.mk [(0, (.slc (.mk 0 42 0) (st) 1 0 (m) true)), (1, (.lst 1 (List.map celC xs))), (3, (.v (.int .i64 (ap)))), (4, (.v (.int .i64 (lt)))), (17, (.lst 1 (List.map celC hs))), (18, (.v (.int .i64 ((↑(List.map celC hs).length : Int))))), (19, (.v (.int .i64 ((↑k : Int)))))] [((.mk 0 42 0), (.mk (st) (List.map celC out2) 1 true))] 0)))]) (by kernel_rfl) (hcLwLyX h0 hnLwLyX)
theorem xthr_0 {L n : Nat} {hs xs : List (Nat × Nat)} {at' ap : Int} {re im k : Nat} {π : List Nat} {x35 : Nat × Nat} {x39 : Nat × Nat} (h0 : (decide ((↑k : Int) < (↑(List.map celC hs).length : Int))) = true) (h1 : (decide (IntKind.wrap .i64 (at' - IntKind.wrap .i64 ((↑k : Int) * ap)) ≥ 0)) = true) (h2 : (decide (IntKind.wrap .i64 (at' - IntKind.wrap .i64 ((↑k : Int) * ap)) < (↑(List.map celC xs).length : Int))) = true) (h3 : Con.holds ⟨fnOf, specX, L⟩ (runF ⟨fnOf, specX, L⟩ n) (.el (List.map celC hs) (.v (.int .i64 ((↑k : Int)))) [(AV.cpx (x35.fst) (x35.snd))])) (h4 : Con.holds ⟨fnOf, specX, L⟩ (runF ⟨fnOf, specX, L⟩ n) (.el (List.map celC xs) (.v (.int .i64 (IntKind.wrap .i64 (at' - IntKind.wrap .i64 ((↑k : Int) * ap))))) [(AV.cpx (x39.fst) (x39.snd))])) : seeZ 0 [0, 1, 2, 3, 9, 10, 11] m42.res (bodyOf ⟨fnOf, specX, L⟩ (runF ⟨fnOf, specX, L⟩ n) 0 m42b0 (k :: π) (thSt hs xs at' ap re im k : St)) = some (RO.go .nrm (.mk [(0, (.lst 1 (List.map celC hs))), (1, (.lst 1 (List.map celC xs))), (2, (.v (.int .i64 (at')))), (3, (.v (.int .i64 (ap)))), (9, (.flt (fadd re (fsub (fmul x35.fst x39.fst) (fmul x35.snd x39.snd))))), (10, (.flt (fadd im (fadd (fmul x35.fst x39.snd) (fmul x35.snd x39.fst))))), (11, (.v (.int .i64 (IntKind.wrap .i64 ((↑k : Int) + 1)))))] [] 0)) :=
  rndZ_sound (q := [((some 17), (Dec.b true)), ((some 27), (Dec.b true)), ((some 32), (Dec.b true)), ((some 35), (Dec.el [(AV.cpx (x35.fst) (x35.snd))])), ((some 39), (Dec.el [(AV.cpx (x39.fst) (x39.snd))]))]) (by kernel_rfl) (hbLwLyX h0 (hbLwLyX h1 (hbLwLyX h2 (hcLwLyX h3 (hcLwLyX h4 hnLwLyX)))))
theorem xthr_1 {L n : Nat} {hs xs : List (Nat × Nat)} {at' ap : Int} {re im k : Nat} {π : List Nat} (h0 : (decide ((↑k : Int) < (↑(List.map celC hs).length : Int))) = true) (h1 : (decide (IntKind.wrap .i64 (at' - IntKind.wrap .i64 ((↑k : Int) * ap)) ≥ 0)) = true) (h2 : (decide (IntKind.wrap .i64 (at' - IntKind.wrap .i64 ((↑k : Int) * ap)) < (↑(List.map celC xs).length : Int))) = false) : seeZ 0 [0, 1, 2, 3, 9, 10, 11] m42.res (bodyOf ⟨fnOf, specX, L⟩ (runF ⟨fnOf, specX, L⟩ n) 0 m42b0 (k :: π) (thSt hs xs at' ap re im k : St)) = some (RO.go .nrm (.mk [(0, (.lst 1 (List.map celC hs))), (1, (.lst 1 (List.map celC xs))), (2, (.v (.int .i64 (at')))), (3, (.v (.int .i64 (ap)))), (9, (.flt (re))), (10, (.flt (im))), (11, (.v (.int .i64 (IntKind.wrap .i64 ((↑k : Int) + 1)))))] [] 0)) :=
  rndZ_sound (q := [((some 17), (Dec.b true)), ((some 27), (Dec.b true)), ((some 32), (Dec.b false))]) (by kernel_rfl) (hbLwLyX h0 (hbLwLyX h1 (hbLwLyX h2 hnLwLyX)))
theorem xthr_2 {L n : Nat} {hs xs : List (Nat × Nat)} {at' ap : Int} {re im k : Nat} {π : List Nat} (h0 : (decide ((↑k : Int) < (↑(List.map celC hs).length : Int))) = true) (h1 : (decide (IntKind.wrap .i64 (at' - IntKind.wrap .i64 ((↑k : Int) * ap)) ≥ 0)) = false) : seeZ 0 [0, 1, 2, 3, 9, 10, 11] m42.res (bodyOf ⟨fnOf, specX, L⟩ (runF ⟨fnOf, specX, L⟩ n) 0 m42b0 (k :: π) (thSt hs xs at' ap re im k : St)) = some (RO.go .nrm (.mk [(0, (.lst 1 (List.map celC hs))), (1, (.lst 1 (List.map celC xs))), (2, (.v (.int .i64 (at')))), (3, (.v (.int .i64 (ap)))), (9, (.flt (re))), (10, (.flt (im))), (11, (.v (.int .i64 (IntKind.wrap .i64 ((↑k : Int) + 1)))))] [] 0)) :=
  rndZ_sound (q := [((some 17), (Dec.b true)), ((some 27), (Dec.b false))]) (by kernel_rfl) (hbLwLyX h0 (hbLwLyX h1 hnLwLyX))
theorem xthr_3 {L n : Nat} {hs xs : List (Nat × Nat)} {at' ap : Int} {re im k : Nat} {π : List Nat} (h0 : (decide ((↑k : Int) < (↑(List.map celC hs).length : Int))) = false) : seeZ 0 [0, 1, 2, 3, 9, 10, 11] m42.res (bodyOf ⟨fnOf, specX, L⟩ (runF ⟨fnOf, specX, L⟩ n) 0 m42b0 (k :: π) (thSt hs xs at' ap re im k : St)) = some (RO.go (.exit 0) (.mk [(0, (.lst 1 (List.map celC hs))), (1, (.lst 1 (List.map celC xs))), (2, (.v (.int .i64 (at')))), (3, (.v (.int .i64 (ap)))), (9, (.flt (re))), (10, (.flt (im))), (11, (.v (.int .i64 ((↑k : Int)))))] [] 0)) :=
  rndZ_sound (q := [((some 17), (Dec.b false))]) (by kernel_rfl) (hbLwLyX h0 hnLwLyX)
theorem xth_0 {L n : Nat} {hs xs : List (Nat × Nat)} {at' ap : Int} {re im k : Nat} (h0 : Con.holds ⟨fnOf, specX, L⟩ (runF ⟨fnOf, specX, L⟩ n) (.loop 0 [0, 1, 2, 3, 9, 10, 11] m42b0 [4] (.mk [(0, (.lst 1 (List.map celC hs))), (1, (.lst 1 (List.map celC xs))), (2, (.v (.int .i64 (at')))), (3, (.v (.int .i64 (ap)))), (9, (.flt 0)), (10, (.flt 0)), (11, (.v (.int .i64 0)))] [] 0) (.exit 0) (.mk [(0, (.lst 1 (List.map celC hs))), (1, (.lst 1 (List.map celC xs))), (2, (.v (.int .i64 (at')))), (3, (.v (.int .i64 (ap)))), (9, (.flt (re))), (10, (.flt (im))), (11, (.v (.int .i64 ((↑k : Int)))))] [] 0))) : den ⟨fnOf, specX, L⟩ (n+1) 42 [.lst 1 (hs.map celC), .lst 1 (xs.map celC), .int .i64 at', .int .i64 ap] = some (.cpx (re) (im)) :=
  denD_sound (q := [((some 200000), (Dec.loop (.exit 0) (.mk [(0, (.lst 1 (List.map celC hs))), (1, (.lst 1 (List.map celC xs))), (2, (.v (.int .i64 (at')))), (3, (.v (.int .i64 (ap)))), (9, (.flt (re))), (10, (.flt (im))), (11, (.v (.int .i64 ((↑k : Int)))))] [] 0)))]) (by kernel_rfl) (hcLwLyX h0 hnLwLyX)
end Go.Proofs.Ytnphdnokedhhkaa.Fw
namespace Go.Proofs.Ytnphdnokedhhkaa.Fw
open Go Go.RowKit
section
variable {L n : Nat} {xs hs : List (Nat × Nat)}
theorem layIX {st π : List Nat} {ap lt : Int} {o : List (Nat × Nat)} {m k fr : Nat} {t : Nat × Nat} (ho : o.length = m) (hm : m ≤ 100000) (hx : xs.length ≤ 100000) (hfr : fr ≤ 100000) (hL : xs.length ≤ L) :
    ∃ i o2, Con.holds ⟨fnOf, specX, L+1⟩ (runF ⟨fnOf, specX, L+1⟩ n) (.loop 1 [0, 1, 3, 4, 11, 12, 17, 18, 19, 29, 30, 31] m40b0 π (li42St m xs hs o ap lt st k t.1 t.2 (fr : Int) 0) (.exit 2) (li42St m xs hs o2 ap lt st k t.1 t.2 (fr : Int) i)) ∧
      o2.length = m ∧ ∀ j, j < m → o2.getD j (0, 0) = if fr ≤ j ∧ j < fr + xs.length then addP (o.getD j (0, 0)) (timP t (xs.getD (j - fr) (0, 0))) else o.getD j (0, 0) := by
  have hkx : (xs.map celC).length = xs.length := map_len
  obtain ⟨s', g1, o2, rfl, g2, g3⟩ := loopJ (P := ⟨fnOf, specX, L+1⟩) (C := runF ⟨fnOf, specX, L+1⟩ n) (L := L) (d := 1) (live := [0, 1, 3, 4, 11, 12, 17, 18, 19, 29, 30, 31]) (π := π) (m := m40b0) (A := li42St m xs hs o ap lt st k t.1 t.2 (fr : Int) 0)
    (fun i s => ∃ o2, s = li42St m xs hs o2 ap lt st k t.1 t.2 (fr : Int) i ∧ o2.length = m ∧ ∀ j, j < m → o2.getD j (0, 0) = if fr ≤ j ∧ j < fr + i then addP (o.getD j (0, 0)) (timP t (xs.getD (j - fr) (0, 0))) else o.getD j (0, 0))
    (fun s => ∃ o2, s = li42St m xs hs o2 ap lt st k t.1 t.2 (fr : Int) (min xs.length (m - fr)) ∧ o2.length = m ∧ ∀ j, j < m → o2.getD j (0, 0) = if fr ≤ j ∧ j < fr + xs.length then addP (o.getD j (0, 0)) (timP t (xs.getD (j - fr) (0, 0))) else o.getD j (0, 0))
    (min xs.length (m - fr)) (x := .exit 2) (by simp) rfl (by omega) ⟨o, rfl, ho, fun j hj => by rw [if_neg (by omega)]⟩
    (fun i s hi hs => by
      obtain ⟨o2, rfl, hg, hf⟩ := hs
      have hi1 : i < xs.length := by omega
      have hi2 : fr + i < m := by omega
      have e : IntKind.wrap .i64 ((fr : Int) + (i : Int)) = ((fr + i : Nat) : Int) := by rw [wrap_id (by omega)]; omega
      have c1 : decide (IntKind.wrap .i64 ((fr : Int) + (i : Int)) ≥ (m : Int)) = false := by rw [e]; exact dF (by omega)
      have i1 : Con.holds ⟨fnOf, specX, L+1⟩ (runF ⟨fnOf, specX, L+1⟩ n) (.ix (.int .i64 (IntKind.wrap .i64 ((fr : Int) + (i : Int)))) m (fr + i)) := by rw [e]; exact ix_at hi2
      have a1 : Con.holds ⟨fnOf, specX, L+1⟩ (runF ⟨fnOf, specX, L+1⟩ n) (.at (o2.map celC) (0 + (fr + i)) [.cpx (o2.getD (fr + i) (0, 0)).1 (o2.getD (fr + i) (0, 0)).2]) := by
        rw [Nat.zero_add]; exact atD_map (f := celC) (by omega)
      have := @xyi42_1 (L+1) n xs hs o2 [] ap lt (fr : Int) st (i :: π) [] m k t.1 t.2 i (xs.getD i (0, 0)) (fr + i) (o2.getD (fr + i) (0, 0)) (fr + i) (o2.getD (fr + i) (0, 0)) (by rw [hkx]; exact dLt hi1) (elD_map (f := celC) hi1) c1 i1 a1 i1 a1
      rw [wrap_id (n := (i : Int) + 1) (by omega)] at this
      refine ⟨_, this, o2.set (fr + i) (addP (o2.getD (fr + i) (0, 0)) (timP t (xs.getD i (0, 0)))), ?_, by rw [List.length_set, hg], fun j hj => ?_⟩
      · unfold li42St
        rw [List.map_set, Nat.zero_add]
        rfl
      · rw [getD_sets (by omega)]
        by_cases hj2 : fr + i = j
        · subst hj2
          rw [if_pos rfl, if_pos (by omega), hf _ hi2, if_neg (by omega), show fr + i - fr = i by omega]
        · rw [if_neg hj2, hf j hj]
          by_cases h3 : fr ≤ j ∧ j < fr + i
          · rw [if_pos h3, if_pos (by omega)]
          · rw [if_neg h3, if_neg (by omega)])
    (fun s hs => by
      obtain ⟨o2, rfl, hg, hf⟩ := hs
      have hend : ∀ j, j < m → o2.getD j (0, 0) = if fr ≤ j ∧ j < fr + xs.length then addP (o.getD j (0, 0)) (timP t (xs.getD (j - fr) (0, 0))) else o.getD j (0, 0) := fun j hj => by
        rw [hf j hj]
        by_cases h3 : fr ≤ j ∧ j < fr + xs.length
        · rw [if_pos h3, if_pos (by omega)]
        · rw [if_neg h3, if_neg (by omega)]
      by_cases hq : min xs.length (m - fr) < xs.length
      · have e : IntKind.wrap .i64 ((fr : Int) + ((min xs.length (m - fr) : Nat) : Int)) = ((fr + min xs.length (m - fr) : Nat) : Int) := by rw [wrap_id (by omega)]; omega
        refine ⟨_, @xyi42_0 (L+1) n xs hs o2 [] ap lt (fr : Int) st (min xs.length (m - fr) :: π) [] m k t.1 t.2 (min xs.length (m - fr)) (xs.getD (min xs.length (m - fr)) (0, 0)) (by rw [hkx]; exact dLt hq) (elD_map (f := celC) hq) (by rw [e]; exact dT (by omega)), o2, rfl, hg, hend⟩
      · exact ⟨_, @xyi42_2 (L+1) n xs hs o2 [] ap lt (fr : Int) st (min xs.length (m - fr) :: π) [] m k t.1 t.2 (min xs.length (m - fr)) (by rw [hkx]; exact dF (by omega)), o2, rfl, hg, hend⟩)
  exact ⟨_, o2, g1, g2, g3⟩
theorem layX {st τ : List Nat} {ap lt m : Nat} {o : List (Nat × Nat)} (ho : o.length = m) (hm : m ≤ 70000) (hx : xs.length ≤ 70000) (hh : hs.length ≤ 64) (hap : ap ≤ 8) (hlt : lt ≤ 70000) (hL : 70000 ≤ L) :
    ∃ o2, runF ⟨fnOf, specX, L+1⟩ (n+1) 1 (0 :: τ) 40 [.slc ⟨0,42,0⟩ st 1 0 m true, .lst 1 (xs.map celC), .lst 1 (hs.map celC), .int .i64 (ap : Int), .int .i64 (lt : Int)] [(⟨0,42,0⟩, ⟨st, o.map celC, 1, true⟩)] = some ((.tup []), [((.mk 0 42 0), (.mk st (List.map celC o2) 1 true))]) ∧
      o2.length = m ∧ ∀ j, j < m → o2.getD j (0, 0) = accL hs xs ap ((j : Int) - lt) (o.getD j (0, 0)) hs.length := by
  have hkh : (hs.map celC).length = hs.length := map_len
  obtain ⟨s', g1, o2, rfl, g2, g3⟩ := loopJ (P := ⟨fnOf, specX, L+1⟩) (C := runF ⟨fnOf, specX, L+1⟩ n) (L := L) (d := 1) (live := [0, 1, 3, 4, 17, 18, 19]) (π := [3, 0] ++ τ) (m := m40b1) (A := lo42St m xs hs o (ap : Int) (lt : Int) st 0)
    (fun k s => ∃ o2, s = lo42St m xs hs o2 (ap : Int) (lt : Int) st k ∧ o2.length = m ∧ ∀ j, j < m → o2.getD j (0, 0) = accL hs xs ap ((j : Int) - lt) (o.getD j (0, 0)) k)
    (fun s => ∃ o2, s = lo42St m xs hs o2 (ap : Int) (lt : Int) st hs.length ∧ o2.length = m ∧ ∀ j, j < m → o2.getD j (0, 0) = accL hs xs ap ((j : Int) - lt) (o.getD j (0, 0)) hs.length)
    hs.length (x := .exit 0) (by simp) rfl (by omega) ⟨o, rfl, ho, fun j hj => rfl⟩
    (fun k s hk hs' => by
      obtain ⟨o2, rfl, hg, hf⟩ := hs'
      have hkap : k * ap ≤ 64 * 8 := Nat.mul_le_mul (by omega) hap
      have e : IntKind.wrap .i64 ((lt : Int) + IntKind.wrap .i64 ((k : Int) * (ap : Int))) = ((lt + k * ap : Nat) : Int) := by
        have e0 : (k : Int) * (ap : Int) = ((k * ap : Nat) : Int) := by rw [Int.natCast_mul]
        rw [e0]
        generalize k * ap = q at hkap
        rw [wrap_id (n := ((q : Nat) : Int)) (by omega), wrap_id (by omega)]; omega
      obtain ⟨i, o3, l1, l2, l3⟩ := @layIX L n xs hs st ([15] ++ (k :: ([3, 0] ++ τ))) (ap : Int) (lt : Int) o2 m k (lt + k * ap) (hs.getD k (0, 0)) hg (by omega) (by omega) (by omega) (by omega)
      have l1' := l1
      unfold li42St at l1'
      rw [← e] at l1'
      have := @xyo42_0 (L+1) n xs hs o2 o3 (ap : Int) (lt : Int) _ st (k :: ([3, 0] ++ τ)) [] m k _ _ i (hs.getD k (0, 0)) (by rw [hkh]; exact dLt hk) (elD_map (f := celC) hk) l1'
      rw [wrap_id (n := (k : Int) + 1) (by omega)] at this
      refine ⟨_, this, o3, rfl, l2, fun j hj => ?_⟩
      rw [l3 j hj, hf j hj]
      show _ = if _ then _ else _
      generalize k * ap = q at *
      by_cases h3 : lt + q ≤ j ∧ j < lt + q + xs.length
      · rw [if_pos h3, if_pos (by omega), show ((j : Int) - lt - (q : Nat)).toNat = j - (lt + q) by omega]
      · rw [if_neg h3, if_neg (by omega)])
    (fun s hs' => by
      obtain ⟨o2, rfl, hg, hf⟩ := hs'
      exact ⟨_, @xyo42_1 (L+1) n xs hs o2 [] (ap : Int) (lt : Int) 0 st (hs.length :: ([3, 0] ++ τ)) [] m hs.length 0 0 0 (by rw [hkh]; exact dNlt), o2, rfl, hg, hf⟩)
  exact ⟨o2, @xy42_0 (L+1) n xs hs o o2 (ap : Int) (lt : Int) 0 st [] τ m hs.length 0 0 0 g1, g2, g3⟩
theorem throughX {at' : Int} {ap : Nat} (ha : at'.natAbs ≤ 200000) (hh : hs.length ≤ 64) (hx : xs.length ≤ 100000) (hap : ap ≤ 8) (hL : 64 ≤ L) :
    den ⟨fnOf, specX, L+1⟩ (n+1) 42 [.lst 1 (hs.map celC), .lst 1 (xs.map celC), .int .i64 at', .int .i64 (ap : Int)] = some (.cpx (accL hs xs ap at' (0, 0) hs.length).1 (accL hs xs ap at' (0, 0) hs.length).2) := by
  have hkh : (hs.map celC).length = hs.length := map_len
  have hkx : (xs.map celC).length = xs.length := map_len
  refine @xth_0 (L+1) n hs xs at' (ap : Int) _ _ hs.length ?_
  refine loopX (res := m42.res) (fun k => thSt hs xs at' (ap : Int) (accL hs xs ap at' (0, 0) k).1 (accL hs xs ap at' (0, 0) k).2 k) hs.length rfl (by omega) (fun k hk => ?_) ?_ (by simp)
  · have hkap : k * ap ≤ 64 * 8 := Nat.mul_le_mul (by omega) hap
    have e : IntKind.wrap .i64 (at' - IntKind.wrap .i64 ((k : Int) * (ap : Int))) = at' - (k * ap : Nat) := by
      have e0 : (k : Int) * (ap : Int) = ((k * ap : Nat) : Int) := by rw [Int.natCast_mul]
      rw [e0]
      generalize k * ap = q at hkap
      rw [wrap_id (n := ((q : Nat) : Int)) (by omega), wrap_id (by omega)]
    have h0 : decide ((k : Int) < ((hs.map celC).length : Int)) = true := by rw [hkh]; exact dLt hk
    have w : IntKind.wrap .i64 ((k : Int) + 1) = ((k + 1 : Nat) : Int) := by rw [wrap_id (by omega)]; omega
    by_cases c1 : 0 ≤ at' - (k * ap : Nat)
    · by_cases c2 : at' - (k * ap : Nat) < xs.length
      · have he : Con.holds ⟨fnOf, specX, L+1⟩ (runF ⟨fnOf, specX, L+1⟩ n) (.el (xs.map celC) (.int .i64 (IntKind.wrap .i64 (at' - IntKind.wrap .i64 ((k : Int) * (ap : Int))))) [.cpx (xs.getD (at' - (k * ap : Nat)).toNat (0, 0)).1 (xs.getD (at' - (k * ap : Nat)).toNat (0, 0)).2]) := by
          rw [e]
          have := elD_map (P := ⟨fnOf, specX, L+1⟩) (C := runF ⟨fnOf, specX, L+1⟩ n) (f := celC) (d := (0, 0)) (xs := xs) (i := (at' - (k * ap : Nat)).toNat) (by omega)
          rw [show (((at' - (k * ap : Nat)).toNat : Nat) : Int) = at' - (k * ap : Nat) by omega] at this
          exact this
        have := @xthr_0 (L+1) n hs xs at' (ap : Int) (accL hs xs ap at' (0, 0) k).1 (accL hs xs ap at' (0, 0) k).2 k [4] (hs.getD k (0, 0)) (xs.getD (at' - (k * ap : Nat)).toNat (0, 0)) h0 (by rw [e]; exact dT (by omega)) (by rw [e, hkx]; exact dT c2) (elD_map (f := celC) hk) he
        rw [w] at this
        have ea : accL hs xs ap at' (0, 0) (k + 1) = addP (accL hs xs ap at' (0, 0) k) (timP (hs.getD k (0, 0)) (xs.getD (at' - (k * ap : Nat)).toNat (0, 0))) := if_pos ⟨c1, c2⟩
        rw [ea]
        exact this
      · have := @xthr_1 (L+1) n hs xs at' (ap : Int) (accL hs xs ap at' (0, 0) k).1 (accL hs xs ap at' (0, 0) k).2 k [4] h0 (by rw [e]; exact dT (by omega)) (by rw [e, hkx]; exact dF c2)
        rw [w] at this
        have ea : accL hs xs ap at' (0, 0) (k + 1) = accL hs xs ap at' (0, 0) k := if_neg (fun h => c2 h.2)
        rw [ea]
        exact this
    · have := @xthr_2 (L+1) n hs xs at' (ap : Int) (accL hs xs ap at' (0, 0) k).1 (accL hs xs ap at' (0, 0) k).2 k [4] h0 (by rw [e]; exact dF (by omega))
      rw [w] at this
      have ea : accL hs xs ap at' (0, 0) (k + 1) = accL hs xs ap at' (0, 0) k := if_neg (fun h => c1 h.1)
      rw [ea]
      exact this
  · exact @xthr_3 (L+1) n hs xs at' (ap : Int) _ _ hs.length [4] (by rw [hkh]; exact dNlt)
end
end Go.Proofs.Ytnphdnokedhhkaa.Fw
