/- Pass (the program's and the document's): paths, printed by a program of ours. | Join, the document's Join, made, same: paths, printed by a program of ours. | numbers, made, samePoints, same; Join: the program's and the document's answer. | Pass: the program's and the document's answer; the same, number by number. | Pass spoken for (a failed one hands an empty row); made, same, samePoints by their own answers. | door, Door, near, Grid: paths, printed by a program of ours. | The nearest step of 2^-6 of a number up to 2^20: both ways the same. | The nearest step with a floor kept as a float; near, door$1 of chapter 10: what they answer. | door$1 and near spoken for. | door, Door, Grid with near spoken for: paths, printed by a program of ours. | door, Door, Grid: what they answer; spoken for. | Arrive (the program's and the document's): paths, printed by a program of ours. -/
import Derived.Test.YtnphdnokedhhkaaFwY
import Derived.Test.YtnphdnokedhhkaaFwAbs
import Derived.Test.YtnphdnokedhhkaaFwW
import Derived.KernelRfl
import Derived.Test.YtnphdnokedhhkaaLwM0
set_option maxRecDepth 100000
set_option maxHeartbeats 4000000
set_option linter.unusedSimpArgs false
set_option linter.unusedVariables false
set_option exponentiation.threshold 4000
namespace Go.Proofs.Ytnphdnokedhhkaa.Fw
open Go Go.RowKit
abbrev HLwPsXspecX (L n : Nat) : Con → Prop := Con.holds ⟨fnOf, specX, L⟩ (runF ⟨fnOf, specX, L⟩ n)
theorem hnLwPsX {P : Prog} {C : Caller} : Holds P C [] := trivial
theorem hcLwPsX {P : Prog} {C : Caller} {c : Con} {cs : List Con} (h : c.holds P C) (t : Holds P C cs) : Holds P C (c :: cs) := ⟨h, t⟩
theorem hbLwPsX {P : Prog} {C : Caller} {x y : Bool} {cs : List Con} (h : x = y) (t : Holds P C cs) : Holds P C (.b x y :: cs) := ⟨h, t⟩

def pdSt (rate delay nn : Int) (ts es xs vs out : List (Nat × Nat)) (st : List Nat) (o i : Nat) : St := ⟨[(1, .lst 1 (xs.map celC)), (2, .lst 1 (vs.map celC)), (3, .int .i64 nn), (4, .ptr ⟨0,4,0⟩ [0] 0 0), (11, .slc ⟨0,11,1000⟩ st 1 0 o false), (12, .int .i64 i)],
  [(⟨0,11,1000⟩, ⟨st, out.map celC, 1, true⟩), (⟨0,4,0⟩, ⟨[0], [[.int .i64 rate, .int .i64 delay, .lst 1 (ts.map celC), .lst 1 (es.map celC)]], 4, false⟩)], 0⟩
theorem pap_0 {L n : Nat} {rate delay nn : Int} {ts es xs vs o2 o3 : List (Nat × Nat)} {mm o i : Nat} {st π : List Nat} {c13 : Int} (h0 : HLwPsXspecX L n (.spec 22 [(.agg [(.v (.int .i64 (rate))), (.v (.int .i64 (delay))), (.lst 1 (List.map celC ts)), (.lst 1 (List.map celC es))])] (.v (.int .i64 (c13))))) (h1 : (c13 != 0) = true) : den ⟨fnOf, specX, L⟩ (n+1) 19 [.agg [.int .i64 rate, .int .i64 delay, .lst 1 (ts.map celC), .lst 1 (es.map celC)], .lst 1 (xs.map celC), .lst 1 (vs.map celC), .int .i64 nn] = some (.tup [.nils, (.v (.int .i64 (c13)))]) :=
  denD_sound (q := [((some 13), (Dec.call (.v (.int .i64 (c13))))), ((some 15), (Dec.b true))]) (by kernel_rfl) (hcLwPsX (c := (.st [0] [0])) rfl (hcLwPsX h0 (hbLwPsX h1 hnLwPsX)))
theorem pap_1 {L n : Nat} {rate delay nn : Int} {ts es xs vs o2 o3 : List (Nat × Nat)} {mm o i : Nat} {st π : List Nat} {c13 : Int} (h0 : HLwPsXspecX L n (.spec 22 [(.agg [(.v (.int .i64 (rate))), (.v (.int .i64 (delay))), (.lst 1 (List.map celC ts)), (.lst 1 (List.map celC es))])] (.v (.int .i64 (c13))))) (h1 : (c13 != 0) = false) (h2 : (decide (nn < 0)) = true) : den ⟨fnOf, specX, L⟩ (n+1) 19 [.agg [.int .i64 rate, .int .i64 delay, .lst 1 (ts.map celC), .lst 1 (es.map celC)], .lst 1 (xs.map celC), .lst 1 (vs.map celC), .int .i64 nn] = some (.tup [.nils, (.v (.int .i64 1))]) :=
  denD_sound (q := [((some 13), (Dec.call (.v (.int .i64 (c13))))), ((some 15), (Dec.b false)), ((some 19), (Dec.b true))]) (by kernel_rfl) (hcLwPsX (c := (.st [0] [0])) rfl (hcLwPsX h0 (hbLwPsX h1 (hbLwPsX h2 hnLwPsX))))
theorem pap_2 {L n : Nat} {rate delay nn : Int} {ts es xs vs o2 o3 : List (Nat × Nat)} {mm o i : Nat} {st π : List Nat} {c13 : Int} (h0 : HLwPsXspecX L n (.spec 22 [(.agg [(.v (.int .i64 (rate))), (.v (.int .i64 (delay))), (.lst 1 (List.map celC ts)), (.lst 1 (List.map celC es))])] (.v (.int .i64 (c13))))) (h1 : (c13 != 0) = false) (h2 : (decide (nn < 0)) = false) (h3 : (decide (nn > 65536)) = true) : den ⟨fnOf, specX, L⟩ (n+1) 19 [.agg [.int .i64 rate, .int .i64 delay, .lst 1 (ts.map celC), .lst 1 (es.map celC)], .lst 1 (xs.map celC), .lst 1 (vs.map celC), .int .i64 nn] = some (.tup [.nils, (.v (.int .i64 1))]) :=
  denD_sound (q := [((some 13), (Dec.call (.v (.int .i64 (c13))))), ((some 15), (Dec.b false)), ((some 19), (Dec.b false)), ((some 23), (Dec.b true))]) (by kernel_rfl) (hcLwPsX (c := (.st [0] [0])) rfl (hcLwPsX h0 (hbLwPsX h1 (hbLwPsX h2 (hbLwPsX h3 hnLwPsX)))))
theorem pap_3 {L n : Nat} {rate delay nn : Int} {ts es xs vs o2 o3 : List (Nat × Nat)} {mm o i : Nat} {st π : List Nat} {c13 : Int} (h0 : HLwPsXspecX L n (.spec 22 [(.agg [(.v (.int .i64 (rate))), (.v (.int .i64 (delay))), (.lst 1 (List.map celC ts)), (.lst 1 (List.map celC es))])] (.v (.int .i64 (c13))))) (h1 : (c13 != 0) = false) (h2 : (decide (nn < 0)) = false) (h3 : (decide (nn > 65536)) = false) (h4 : (decide ((↑(List.map celC xs).length : Int) > 65536)) = true) : den ⟨fnOf, specX, L⟩ (n+1) 19 [.agg [.int .i64 rate, .int .i64 delay, .lst 1 (ts.map celC), .lst 1 (es.map celC)], .lst 1 (xs.map celC), .lst 1 (vs.map celC), .int .i64 nn] = some (.tup [.nils, (.v (.int .i64 1))]) :=
  denD_sound (q := [((some 13), (Dec.call (.v (.int .i64 (c13))))), ((some 15), (Dec.b false)), ((some 19), (Dec.b false)), ((some 23), (Dec.b false)), ((some 28), (Dec.b true))]) (by kernel_rfl) (hcLwPsX (c := (.st [0] [0])) rfl (hcLwPsX h0 (hbLwPsX h1 (hbLwPsX h2 (hbLwPsX h3 (hbLwPsX h4 hnLwPsX))))))
theorem pap_4 {L n : Nat} {rate delay nn : Int} {ts es xs vs o2 o3 : List (Nat × Nat)} {mm o i : Nat} {st π : List Nat} {c13 : Int} (h0 : HLwPsXspecX L n (.spec 22 [(.agg [(.v (.int .i64 (rate))), (.v (.int .i64 (delay))), (.lst 1 (List.map celC ts)), (.lst 1 (List.map celC es))])] (.v (.int .i64 (c13))))) (h1 : (c13 != 0) = false) (h2 : (decide (nn < 0)) = false) (h3 : (decide (nn > 65536)) = false) (h4 : (decide ((↑(List.map celC xs).length : Int) > 65536)) = false) (h5 : (decide ((↑(List.map celC vs).length : Int) > 65536)) = true) : den ⟨fnOf, specX, L⟩ (n+1) 19 [.agg [.int .i64 rate, .int .i64 delay, .lst 1 (ts.map celC), .lst 1 (es.map celC)], .lst 1 (xs.map celC), .lst 1 (vs.map celC), .int .i64 nn] = some (.tup [.nils, (.v (.int .i64 1))]) :=
  denD_sound (q := [((some 13), (Dec.call (.v (.int .i64 (c13))))), ((some 15), (Dec.b false)), ((some 19), (Dec.b false)), ((some 23), (Dec.b false)), ((some 28), (Dec.b false)), ((some 32), (Dec.b true))]) (by kernel_rfl) (hcLwPsX (c := (.st [0] [0])) rfl (hcLwPsX h0 (hbLwPsX h1 (hbLwPsX h2 (hbLwPsX h3 (hbLwPsX h4 (hbLwPsX h5 hnLwPsX)))))))
theorem pap_5 {L n : Nat} {rate delay nn : Int} {ts es xs vs o2 o3 : List (Nat × Nat)} {mm o i : Nat} {st π : List Nat} {c13 : Int} {c34 : Bool} (h0 : HLwPsXspecX L n (.spec 22 [(.agg [(.v (.int .i64 (rate))), (.v (.int .i64 (delay))), (.lst 1 (List.map celC ts)), (.lst 1 (List.map celC es))])] (.v (.int .i64 (c13))))) (h1 : (c13 != 0) = false) (h2 : (decide (nn < 0)) = false) (h3 : (decide (nn > 65536)) = false) (h4 : (decide ((↑(List.map celC xs).length : Int) > 65536)) = false) (h5 : (decide ((↑(List.map celC vs).length : Int) > 65536)) = false) (h6 : HLwPsXspecX L n (.spec 44 [(.lst 1 (List.map celC xs))] (.v (.bool (c34))))) (h7 : (!c34) = true) : den ⟨fnOf, specX, L⟩ (n+1) 19 [.agg [.int .i64 rate, .int .i64 delay, .lst 1 (ts.map celC), .lst 1 (es.map celC)], .lst 1 (xs.map celC), .lst 1 (vs.map celC), .int .i64 nn] = some (.tup [.nils, (.v (.int .i64 7))]) :=
  denD_sound (q := [((some 13), (Dec.call (.v (.int .i64 (c13))))), ((some 15), (Dec.b false)), ((some 19), (Dec.b false)), ((some 23), (Dec.b false)), ((some 28), (Dec.b false)), ((some 32), (Dec.b false)), ((some 34), (Dec.call (.v (.bool (c34))))), ((some 36), (Dec.b true))]) (by kernel_rfl) (hcLwPsX (c := (.st [0] [0])) rfl (hcLwPsX h0 (hbLwPsX h1 (hbLwPsX h2 (hbLwPsX h3 (hbLwPsX h4 (hbLwPsX h5 (hcLwPsX h6 (hbLwPsX h7 hnLwPsX)))))))))
theorem pap_6 {L n : Nat} {rate delay nn : Int} {ts es xs vs o2 o3 : List (Nat × Nat)} {mm o i : Nat} {st π : List Nat} {c13 : Int} {c34 : Bool} {c38 : Bool} (h0 : HLwPsXspecX L n (.spec 22 [(.agg [(.v (.int .i64 (rate))), (.v (.int .i64 (delay))), (.lst 1 (List.map celC ts)), (.lst 1 (List.map celC es))])] (.v (.int .i64 (c13))))) (h1 : (c13 != 0) = false) (h2 : (decide (nn < 0)) = false) (h3 : (decide (nn > 65536)) = false) (h4 : (decide ((↑(List.map celC xs).length : Int) > 65536)) = false) (h5 : (decide ((↑(List.map celC vs).length : Int) > 65536)) = false) (h6 : HLwPsXspecX L n (.spec 44 [(.lst 1 (List.map celC xs))] (.v (.bool (c34))))) (h7 : (!c34) = false) (h8 : HLwPsXspecX L n (.spec 44 [(.lst 1 (List.map celC vs))] (.v (.bool (c38))))) (h9 : (!c38) = true) : den ⟨fnOf, specX, L⟩ (n+1) 19 [.agg [.int .i64 rate, .int .i64 delay, .lst 1 (ts.map celC), .lst 1 (es.map celC)], .lst 1 (xs.map celC), .lst 1 (vs.map celC), .int .i64 nn] = some (.tup [.nils, (.v (.int .i64 7))]) :=
  denD_sound (q := [((some 13), (Dec.call (.v (.int .i64 (c13))))), ((some 15), (Dec.b false)), ((some 19), (Dec.b false)), ((some 23), (Dec.b false)), ((some 28), (Dec.b false)), ((some 32), (Dec.b false)), ((some 34), (Dec.call (.v (.bool (c34))))), ((some 36), (Dec.b false)), ((some 38), (Dec.call (.v (.bool (c38))))), ((some 40), (Dec.b true))]) (by kernel_rfl) (hcLwPsX (c := (.st [0] [0])) rfl (hcLwPsX h0 (hbLwPsX h1 (hbLwPsX h2 (hbLwPsX h3 (hbLwPsX h4 (hbLwPsX h5 (hcLwPsX h6 (hbLwPsX h7 (hcLwPsX h8 (hbLwPsX h9 hnLwPsX)))))))))))
theorem pap_7 {L n : Nat} {rate delay nn : Int} {ts es xs vs o2 o3 : List (Nat × Nat)} {mm o i : Nat} {st π : List Nat} {c13 : Int} {c34 : Bool} {c38 : Bool} (h0 : HLwPsXspecX L n (.spec 22 [(.agg [(.v (.int .i64 (rate))), (.v (.int .i64 (delay))), (.lst 1 (List.map celC ts)), (.lst 1 (List.map celC es))])] (.v (.int .i64 (c13))))) (h1 : (c13 != 0) = false) (h2 : (decide (nn < 0)) = false) (h3 : (decide (nn > 65536)) = false) (h4 : (decide ((↑(List.map celC xs).length : Int) > 65536)) = false) (h5 : (decide ((↑(List.map celC vs).length : Int) > 65536)) = false) (h6 : HLwPsXspecX L n (.spec 44 [(.lst 1 (List.map celC xs))] (.v (.bool (c34))))) (h7 : (!c34) = false) (h8 : HLwPsXspecX L n (.spec 44 [(.lst 1 (List.map celC vs))] (.v (.bool (c38))))) (h9 : (!c38) = false) (h10 : HLwPsXspecX L n (.mk (mm) (mm) true (List.map celC (List.replicate mm (0, 0))) (nn) (nn) 16 [(AV.cpx 0 0)])) (h11 : HLwPsXspecX L n (.calli 0 [43] 40 [(.slc (.mk 0 42 0) [33] 1 0 (mm) true), (.lst 1 (List.map celC xs)), (.lst 1 (List.map celC ts)), (.v (.int .i64 (rate))), (.v (.int .i64 (delay)))] [((.mk 0 42 0), (.mk [33] (List.map celC (List.replicate mm (0, 0))) 1 true))] (.tup []) [((.mk 0 42 0), (.mk [33] (List.map celC o2) 1 true))])) (h12 : HLwPsXspecX L n (.calli 0 [48] 40 [(.slc (.mk 0 42 0) [33] 1 0 (mm) true), (.lst 1 (List.map celC vs)), (.lst 1 (List.map celC es)), (.v (.int .i64 1)), (.v (.int .i64 0))] [((.mk 0 42 0), (.mk [33] (List.map celC o2) 1 true))] (.tup []) [((.mk 0 42 0), (.mk [33] (List.map celC o3) 1 true))])) (h13 : HLwPsXspecX L n (.le (mm) (List.length (List.map celC o3)))) : den ⟨fnOf, specX, L⟩ (n+1) 19 [.agg [.int .i64 rate, .int .i64 delay, .lst 1 (ts.map celC), .lst 1 (es.map celC)], .lst 1 (xs.map celC), .lst 1 (vs.map celC), .int .i64 nn] = some (.tup [(.own 1 (List.take (mm) (List.map celC o3)) true), (.v (.int .i64 0))]) :=
  denD_sound (q := [((some 13), (Dec.call (.v (.int .i64 (c13))))), ((some 15), (Dec.b false)), ((some 19), (Dec.b false)), ((some 23), (Dec.b false)), ((some 28), (Dec.b false)), ((some 32), (Dec.b false)), ((some 34), (Dec.call (.v (.bool (c34))))), ((some 36), (Dec.b false)), ((some 38), (Dec.call (.v (.bool (c38))))), ((some 40), (Dec.b false)), ((some 42), (Dec.mk (mm) (mm) true (List.map celC (List.replicate mm (0, 0))))), ((some 51), (Dec.calli (.tup []) [((.mk 0 42 0), (.mk [33] (List.map celC o2) 1 true))])), ((some 56), (Dec.calli (.tup []) [((.mk 0 42 0), (.mk [33] (List.map celC o3) 1 true))]))]) (by kernel_rfl) (hcLwPsX (c := (.st [0] [0])) rfl (hcLwPsX h0 (hbLwPsX h1 (hbLwPsX h2 (hbLwPsX h3 (hbLwPsX h4 (hbLwPsX h5 (hcLwPsX h6 (hbLwPsX h7 (hcLwPsX h8 (hbLwPsX h9 (hcLwPsX h10 (hcLwPsX (c := (.st [0] [0])) rfl (hcLwPsX (c := (.st [0] [0])) rfl (hcLwPsX (c := (.st [0] [0])) rfl (hcLwPsX h11 (hcLwPsX (c := (.st [0] [0])) rfl (hcLwPsX h12 (hcLwPsX (c := (.st [33] [33])) rfl (hcLwPsX h13 hnLwPsX))))))))))))))))))))
theorem pad_0 {L n : Nat} {rate delay nn : Int} {ts es xs vs o2 o3 : List (Nat × Nat)} {mm o i : Nat} {st π : List Nat} {c16 : Int} (h0 : HLwPsXspecX L n (.spec 23 [(.agg [(.v (.int .i64 (rate))), (.v (.int .i64 (delay))), (.lst 1 (List.map celC ts)), (.lst 1 (List.map celC es))])] (.v (.int .i64 (c16))))) (h1 : (c16 != 0) = true) : den ⟨fnOf, specX, L⟩ (n+1) 20 [.agg [.int .i64 rate, .int .i64 delay, .lst 1 (ts.map celC), .lst 1 (es.map celC)], .lst 1 (xs.map celC), .lst 1 (vs.map celC), .int .i64 nn] = some (.tup [.nils, (.v (.int .i64 (c16)))]) :=
  denD_sound (q := [((some 16), (Dec.call (.v (.int .i64 (c16))))), ((some 18), (Dec.b true))]) (by kernel_rfl) (hcLwPsX (c := (.st [0] [0])) rfl (hcLwPsX h0 (hbLwPsX h1 hnLwPsX)))
theorem pad_1 {L n : Nat} {rate delay nn : Int} {ts es xs vs o2 o3 : List (Nat × Nat)} {mm o i : Nat} {st π : List Nat} {c16 : Int} (h0 : HLwPsXspecX L n (.spec 23 [(.agg [(.v (.int .i64 (rate))), (.v (.int .i64 (delay))), (.lst 1 (List.map celC ts)), (.lst 1 (List.map celC es))])] (.v (.int .i64 (c16))))) (h1 : (c16 != 0) = false) (h2 : (decide (nn < 0)) = true) : den ⟨fnOf, specX, L⟩ (n+1) 20 [.agg [.int .i64 rate, .int .i64 delay, .lst 1 (ts.map celC), .lst 1 (es.map celC)], .lst 1 (xs.map celC), .lst 1 (vs.map celC), .int .i64 nn] = some (.tup [.nils, (.v (.int .i64 1))]) :=
  denD_sound (q := [((some 16), (Dec.call (.v (.int .i64 (c16))))), ((some 18), (Dec.b false)), ((some 22), (Dec.b true))]) (by kernel_rfl) (hcLwPsX (c := (.st [0] [0])) rfl (hcLwPsX h0 (hbLwPsX h1 (hbLwPsX h2 hnLwPsX))))
theorem pad_2 {L n : Nat} {rate delay nn : Int} {ts es xs vs o2 o3 : List (Nat × Nat)} {mm o i : Nat} {st π : List Nat} {c16 : Int} (h0 : HLwPsXspecX L n (.spec 23 [(.agg [(.v (.int .i64 (rate))), (.v (.int .i64 (delay))), (.lst 1 (List.map celC ts)), (.lst 1 (List.map celC es))])] (.v (.int .i64 (c16))))) (h1 : (c16 != 0) = false) (h2 : (decide (nn < 0)) = false) (h3 : (decide (nn > 65536)) = true) : den ⟨fnOf, specX, L⟩ (n+1) 20 [.agg [.int .i64 rate, .int .i64 delay, .lst 1 (ts.map celC), .lst 1 (es.map celC)], .lst 1 (xs.map celC), .lst 1 (vs.map celC), .int .i64 nn] = some (.tup [.nils, (.v (.int .i64 1))]) :=
  denD_sound (q := [((some 16), (Dec.call (.v (.int .i64 (c16))))), ((some 18), (Dec.b false)), ((some 22), (Dec.b false)), ((some 26), (Dec.b true))]) (by kernel_rfl) (hcLwPsX (c := (.st [0] [0])) rfl (hcLwPsX h0 (hbLwPsX h1 (hbLwPsX h2 (hbLwPsX h3 hnLwPsX)))))
theorem pad_3 {L n : Nat} {rate delay nn : Int} {ts es xs vs o2 o3 : List (Nat × Nat)} {mm o i : Nat} {st π : List Nat} {c16 : Int} (h0 : HLwPsXspecX L n (.spec 23 [(.agg [(.v (.int .i64 (rate))), (.v (.int .i64 (delay))), (.lst 1 (List.map celC ts)), (.lst 1 (List.map celC es))])] (.v (.int .i64 (c16))))) (h1 : (c16 != 0) = false) (h2 : (decide (nn < 0)) = false) (h3 : (decide (nn > 65536)) = false) (h4 : (decide ((↑(List.map celC xs).length : Int) > 65536)) = true) : den ⟨fnOf, specX, L⟩ (n+1) 20 [.agg [.int .i64 rate, .int .i64 delay, .lst 1 (ts.map celC), .lst 1 (es.map celC)], .lst 1 (xs.map celC), .lst 1 (vs.map celC), .int .i64 nn] = some (.tup [.nils, (.v (.int .i64 1))]) :=
  denD_sound (q := [((some 16), (Dec.call (.v (.int .i64 (c16))))), ((some 18), (Dec.b false)), ((some 22), (Dec.b false)), ((some 26), (Dec.b false)), ((some 31), (Dec.b true))]) (by kernel_rfl) (hcLwPsX (c := (.st [0] [0])) rfl (hcLwPsX h0 (hbLwPsX h1 (hbLwPsX h2 (hbLwPsX h3 (hbLwPsX h4 hnLwPsX))))))
theorem pad_4 {L n : Nat} {rate delay nn : Int} {ts es xs vs o2 o3 : List (Nat × Nat)} {mm o i : Nat} {st π : List Nat} {c16 : Int} (h0 : HLwPsXspecX L n (.spec 23 [(.agg [(.v (.int .i64 (rate))), (.v (.int .i64 (delay))), (.lst 1 (List.map celC ts)), (.lst 1 (List.map celC es))])] (.v (.int .i64 (c16))))) (h1 : (c16 != 0) = false) (h2 : (decide (nn < 0)) = false) (h3 : (decide (nn > 65536)) = false) (h4 : (decide ((↑(List.map celC xs).length : Int) > 65536)) = false) (h5 : (decide ((↑(List.map celC vs).length : Int) > 65536)) = true) : den ⟨fnOf, specX, L⟩ (n+1) 20 [.agg [.int .i64 rate, .int .i64 delay, .lst 1 (ts.map celC), .lst 1 (es.map celC)], .lst 1 (xs.map celC), .lst 1 (vs.map celC), .int .i64 nn] = some (.tup [.nils, (.v (.int .i64 1))]) :=
  denD_sound (q := [((some 16), (Dec.call (.v (.int .i64 (c16))))), ((some 18), (Dec.b false)), ((some 22), (Dec.b false)), ((some 26), (Dec.b false)), ((some 31), (Dec.b false)), ((some 35), (Dec.b true))]) (by kernel_rfl) (hcLwPsX (c := (.st [0] [0])) rfl (hcLwPsX h0 (hbLwPsX h1 (hbLwPsX h2 (hbLwPsX h3 (hbLwPsX h4 (hbLwPsX h5 hnLwPsX)))))))
theorem pad_5 {L n : Nat} {rate delay nn : Int} {ts es xs vs o2 o3 : List (Nat × Nat)} {mm o i : Nat} {st π : List Nat} {c16 : Int} {c37 : Bool} (h0 : HLwPsXspecX L n (.spec 23 [(.agg [(.v (.int .i64 (rate))), (.v (.int .i64 (delay))), (.lst 1 (List.map celC ts)), (.lst 1 (List.map celC es))])] (.v (.int .i64 (c16))))) (h1 : (c16 != 0) = false) (h2 : (decide (nn < 0)) = false) (h3 : (decide (nn > 65536)) = false) (h4 : (decide ((↑(List.map celC xs).length : Int) > 65536)) = false) (h5 : (decide ((↑(List.map celC vs).length : Int) > 65536)) = false) (h6 : HLwPsXspecX L n (.spec 45 [(.lst 1 (List.map celC xs))] (.v (.bool (c37))))) (h7 : (!c37) = true) : den ⟨fnOf, specX, L⟩ (n+1) 20 [.agg [.int .i64 rate, .int .i64 delay, .lst 1 (ts.map celC), .lst 1 (es.map celC)], .lst 1 (xs.map celC), .lst 1 (vs.map celC), .int .i64 nn] = some (.tup [.nils, (.v (.int .i64 7))]) :=
  denD_sound (q := [((some 16), (Dec.call (.v (.int .i64 (c16))))), ((some 18), (Dec.b false)), ((some 22), (Dec.b false)), ((some 26), (Dec.b false)), ((some 31), (Dec.b false)), ((some 35), (Dec.b false)), ((some 37), (Dec.call (.v (.bool (c37))))), ((some 39), (Dec.b true))]) (by kernel_rfl) (hcLwPsX (c := (.st [0] [0])) rfl (hcLwPsX h0 (hbLwPsX h1 (hbLwPsX h2 (hbLwPsX h3 (hbLwPsX h4 (hbLwPsX h5 (hcLwPsX h6 (hbLwPsX h7 hnLwPsX)))))))))
theorem pad_6 {L n : Nat} {rate delay nn : Int} {ts es xs vs o2 o3 : List (Nat × Nat)} {mm o i : Nat} {st π : List Nat} {c16 : Int} {c37 : Bool} {c41 : Bool} (h0 : HLwPsXspecX L n (.spec 23 [(.agg [(.v (.int .i64 (rate))), (.v (.int .i64 (delay))), (.lst 1 (List.map celC ts)), (.lst 1 (List.map celC es))])] (.v (.int .i64 (c16))))) (h1 : (c16 != 0) = false) (h2 : (decide (nn < 0)) = false) (h3 : (decide (nn > 65536)) = false) (h4 : (decide ((↑(List.map celC xs).length : Int) > 65536)) = false) (h5 : (decide ((↑(List.map celC vs).length : Int) > 65536)) = false) (h6 : HLwPsXspecX L n (.spec 45 [(.lst 1 (List.map celC xs))] (.v (.bool (c37))))) (h7 : (!c37) = false) (h8 : HLwPsXspecX L n (.spec 45 [(.lst 1 (List.map celC vs))] (.v (.bool (c41))))) (h9 : (!c41) = true) : den ⟨fnOf, specX, L⟩ (n+1) 20 [.agg [.int .i64 rate, .int .i64 delay, .lst 1 (ts.map celC), .lst 1 (es.map celC)], .lst 1 (xs.map celC), .lst 1 (vs.map celC), .int .i64 nn] = some (.tup [.nils, (.v (.int .i64 7))]) :=
  denD_sound (q := [((some 16), (Dec.call (.v (.int .i64 (c16))))), ((some 18), (Dec.b false)), ((some 22), (Dec.b false)), ((some 26), (Dec.b false)), ((some 31), (Dec.b false)), ((some 35), (Dec.b false)), ((some 37), (Dec.call (.v (.bool (c37))))), ((some 39), (Dec.b false)), ((some 41), (Dec.call (.v (.bool (c41))))), ((some 43), (Dec.b true))]) (by kernel_rfl) (hcLwPsX (c := (.st [0] [0])) rfl (hcLwPsX h0 (hbLwPsX h1 (hbLwPsX h2 (hbLwPsX h3 (hbLwPsX h4 (hbLwPsX h5 (hcLwPsX h6 (hbLwPsX h7 (hcLwPsX h8 (hbLwPsX h9 hnLwPsX)))))))))))
theorem pad_7 {L n : Nat} {rate delay nn : Int} {ts es xs vs o2 o3 : List (Nat × Nat)} {mm o i : Nat} {st π : List Nat} {c16 : Int} {c37 : Bool} {c41 : Bool} (h0 : HLwPsXspecX L n (.spec 23 [(.agg [(.v (.int .i64 (rate))), (.v (.int .i64 (delay))), (.lst 1 (List.map celC ts)), (.lst 1 (List.map celC es))])] (.v (.int .i64 (c16))))) (h1 : (c16 != 0) = false) (h2 : (decide (nn < 0)) = false) (h3 : (decide (nn > 65536)) = false) (h4 : (decide ((↑(List.map celC xs).length : Int) > 65536)) = false) (h5 : (decide ((↑(List.map celC vs).length : Int) > 65536)) = false) (h6 : HLwPsXspecX L n (.spec 45 [(.lst 1 (List.map celC xs))] (.v (.bool (c37))))) (h7 : (!c37) = false) (h8 : HLwPsXspecX L n (.spec 45 [(.lst 1 (List.map celC vs))] (.v (.bool (c41))))) (h9 : (!c41) = false) (h10 : HLwPsXspecX L n (.loop 0 [1, 2, 3, 4, 11, 12] m20b0 [34] (.mk [(1, (.lst 1 (List.map celC xs))), (2, (.lst 1 (List.map celC vs))), (3, (.v (.int .i64 (nn)))), (4, (.ptr (.mk 0 4 0) [0] 0 0)), (11, (.slc (.mk 0 11 1000) [34] 1 0 0 false)), (12, (.v (.int .i64 0)))] [((.mk 0 11 1000), (.mk [34] [] 1 true)), ((.mk 0 4 0), (.mk [0] [[(.v (.int .i64 (rate))), (.v (.int .i64 (delay))), (.lst 1 (List.map celC ts)), (.lst 1 (List.map celC es))]] 4 false))] 0) (.exit 0) (.mk [(1, (.lst 1 (List.map celC xs))), (2, (.lst 1 (List.map celC vs))), (3, (.v (.int .i64 (nn)))), (4, (.ptr (.mk 0 4 0) [0] 0 0)), (11, (.slc (.mk 0 11 1000) (st) 1 0 (o) false)), (12, (.v (.int .i64 ((↑i : Int)))))] [((.mk 0 11 1000), (.mk (st) (List.map celC o2) 1 true)), ((.mk 0 4 0), (.mk [0] [[(.v (.int .i64 (rate))), (.v (.int .i64 (delay))), (.lst 1 (List.map celC ts)), (.lst 1 (List.map celC es))]] 4 false))] 0))) (h11 : HLwPsXspecX L n (.le (o) (List.length (List.map celC o2)))) : den ⟨fnOf, specX, L⟩ (n+1) 20 [.agg [.int .i64 rate, .int .i64 delay, .lst 1 (ts.map celC), .lst 1 (es.map celC)], .lst 1 (xs.map celC), .lst 1 (vs.map celC), .int .i64 nn] = some (.tup [(.own 1 (List.take (o) (List.map celC o2)) true), (.v (.int .i64 0))]) :=
  denD_sound (q := [((some 16), (Dec.call (.v (.int .i64 (c16))))), ((some 18), (Dec.b false)), ((some 22), (Dec.b false)), ((some 26), (Dec.b false)), ((some 31), (Dec.b false)), ((some 35), (Dec.b false)), ((some 37), (Dec.call (.v (.bool (c37))))), ((some 39), (Dec.b false)), ((some 41), (Dec.call (.v (.bool (c41))))), ((some 43), (Dec.b false)), ((some 200000), (Dec.loop (.exit 0) (.mk [(1, (.lst 1 (List.map celC xs))), (2, (.lst 1 (List.map celC vs))), (3, (.v (.int .i64 (nn)))), (4, (.ptr (.mk 0 4 0) [0] 0 0)), (11, (.slc (.mk 0 11 1000) (st) 1 0 (o) false)), (12, (.v (.int .i64 ((↑i : Int)))))] [((.mk 0 11 1000), (.mk (st) (List.map celC o2) 1 true)), ((.mk 0 4 0), (.mk [0] [[(.v (.int .i64 (rate))), (.v (.int .i64 (delay))), (.lst 1 (List.map celC ts)), (.lst 1 (List.map celC es))]] 4 false))] 0)))]) (by kernel_rfl) (hcLwPsX (c := (.st [0] [0])) rfl (hcLwPsX h0 (hbLwPsX h1 (hbLwPsX h2 (hbLwPsX h3 (hbLwPsX h4 (hbLwPsX h5 (hcLwPsX h6 (hbLwPsX h7 (hcLwPsX h8 (hbLwPsX h9 (hcLwPsX h10 (hcLwPsX (c := (.st (st) (st))) rfl (hcLwPsX h11 hnLwPsX))))))))))))))
theorem padr_0 {L n : Nat} {rate delay nn : Int} {ts es xs vs o2 o3 : List (Nat × Nat)} {mm o i : Nat} {st π : List Nat} {z58 : Nat × Nat} {z63 : Nat × Nat} (h0 : (decide ((↑i : Int) < nn)) = true) (h1 : HLwPsXspecX L n (.call 42 [(.lst 1 (List.map celC ts)), (.lst 1 (List.map celC xs)), (.v (.int .i64 (IntKind.wrap .i64 ((↑i : Int) - delay)))), (.v (.int .i64 (rate)))] (.cpx (z58.fst) (z58.snd)))) (h2 : HLwPsXspecX L n (.call 42 [(.lst 1 (List.map celC es)), (.lst 1 (List.map celC vs)), (.v (.int .i64 ((↑i : Int)))), (.v (.int .i64 1))] (.cpx (z63.fst) (z63.snd)))) (h3 : HLwPsXspecX L n (.push (o) 1 16 (List.map celC o2))) : rnd 0 [1, 2, 3, 4, 11, 12] (bodyOf ⟨fnOf, specX, L⟩ (runF ⟨fnOf, specX, L⟩ n) 0 m20b0 (π) (pdSt rate delay nn ts es xs vs o2 st o i : St)) = some (.nrm, (.mk [(1, (.lst 1 (List.map celC xs))), (2, (.lst 1 (List.map celC vs))), (3, (.v (.int .i64 (nn)))), (4, (.ptr (.mk 0 4 0) [0] 0 0)), (11, (.slc (.mk 0 11 1000) ([33] ++ (π)) 1 0 (o + 1) false)), (12, (.v (.int .i64 (IntKind.wrap .i64 ((↑i : Int) + 1)))))] [((.mk 0 11 1000), (.mk ([33] ++ (π)) ((List.map celC o2) ++ [[(AV.cpx (fadd z58.fst z63.fst) (fadd z58.snd z63.snd))]]) 1 true)), ((.mk 0 4 0), (.mk [0] [[(.v (.int .i64 (rate))), (.v (.int .i64 (delay))), (.lst 1 (List.map celC ts)), (.lst 1 (List.map celC es))]] 4 false))] 0)) :=
  rndD_sound (q := [((some 46), (Dec.b true)), ((some 58), (Dec.call (.cpx (z58.fst) (z58.snd)))), ((some 63), (Dec.call (.cpx (z63.fst) (z63.snd)))), ((some 77), Dec.push)]) (by kernel_rfl) (hbLwPsX h0 (hcLwPsX (c := (.st [0] [0])) rfl (hcLwPsX (c := (.st [0] [0])) rfl (hcLwPsX (c := (.st [0] [0])) rfl (hcLwPsX h1 (hcLwPsX (c := (.st [0] [0])) rfl (hcLwPsX h2 (hcLwPsX (c := (.st (st) (st))) rfl (hcLwPsX h3 (hcLwPsX (c := (.st ([32] ++ (π)) ([32] ++ (π)))) rfl hnLwPsX))))))))))
theorem padr_1 {L n : Nat} {rate delay nn : Int} {ts es xs vs o2 o3 : List (Nat × Nat)} {mm o i : Nat} {st π : List Nat} (h0 : (decide ((↑i : Int) < nn)) = false) : rnd 0 [1, 2, 3, 4, 11, 12] (bodyOf ⟨fnOf, specX, L⟩ (runF ⟨fnOf, specX, L⟩ n) 0 m20b0 (π) (pdSt rate delay nn ts es xs vs o2 st o i : St)) = some ((.exit 0), (.mk [(1, (.lst 1 (List.map celC xs))), (2, (.lst 1 (List.map celC vs))), (3, (.v (.int .i64 (nn)))), (4, (.ptr (.mk 0 4 0) [0] 0 0)), (11, (.slc (.mk 0 11 1000) (st) 1 0 (o) false)), (12, (.v (.int .i64 ((↑i : Int)))))] [((.mk 0 11 1000), (.mk (st) (List.map celC o2) 1 true)), ((.mk 0 4 0), (.mk [0] [[(.v (.int .i64 (rate))), (.v (.int .i64 (delay))), (.lst 1 (List.map celC ts)), (.lst 1 (List.map celC es))]] 4 false))] 0)) :=
  rndD_sound (q := [((some 46), (Dec.b false))]) (by kernel_rfl) (hbLwPsX h0 hnLwPsX)
end Go.Proofs.Ytnphdnokedhhkaa.Fw
namespace Go.Proofs.Ytnphdnokedhhkaa.Fw
open Go Go.RowKit

end Go.Proofs.Ytnphdnokedhhkaa.Fw
namespace Go.Proofs.Ytnphdnokedhhkaa.Fw
open Go Go.RowKit
theorem eq_tab {α : Type} {o : List α} {f : Nat → α} {m : Nat} {d : α} (h1 : o.length = m) (h2 : ∀ j, j < m → o.getD j d = f j) : o = tab f m := by
  apply List.ext_getElem
  · rw [h1, tab_len]
  · intro i a b
    have g1 := h2 i (by omega)
    have g2 := tab_at (f := f) (d := d) (n := m) (i := i) (by omega)
    rw [List.getD_eq_getElem?_getD, List.getElem?_eq_getElem a] at g1
    rw [List.getD_eq_getElem?_getD, List.getElem?_eq_getElem b] at g2
    simpa using g1.trans g2.symm
section
variable {σ : FuncId → Option (List AV → Option AV)} {L n : Nat}
end
section
variable {L n : Nat}
theorem chkT_ok {r d : Int} {ts es : List (Nat × Nat)} (h : chkT r d ts es = 0) : 1 ≤ r ∧ r ≤ 8 ∧ 0 ≤ d ∧ d ≤ 65536 ∧ tapsF ts = true ∧ (es.length = 0 ∨ tapsF es = true) := by
  unfold chkT at h
  split at h
  · cases h
  · split at h
    · rename_i h1 h2
      exact ⟨by omega, by omega, by omega, by omega, h2.1, h2.2⟩
    · cases h
variable {ra da rb db : Int} {ta ea tb eb : List (Nat × Nat)}
end
end Go.Proofs.Ytnphdnokedhhkaa.Fw
namespace Go.Proofs.Ytnphdnokedhhkaa.Fw
open Go Go.RowKit
def passE (rate delay nn : Int) (ts es xs vs : List (Nat × Nat)) : Int :=
  if chkT rate delay ts es ≠ 0 then chkT rate delay ts es
  else if nn < 0 ∨ 65536 < nn ∨ 65536 < xs.length ∨ 65536 < vs.length then 1
  else if rowF xs = true ∧ rowF vs = true then 0 else 7
def passP (rate delay nn : Int) (ts es xs vs : List (Nat × Nat)) : List (Nat × Nat) := tab (fun m => outP' ts xs es vs rate.toNat (m : Int) delay.toNat) nn.toNat
def passD (rate delay nn : Int) (ts es xs vs : List (Nat × Nat)) : List (Nat × Nat) := tab (fun m => outD' ts xs es vs rate.toNat (m : Int) delay.toNat) nn.toNat
def passA (e : Int) (l : List (Nat × Nat)) : AV := if e = 0 then .tup [.own 1 (l.map celC) true, .int .i64 0] else .tup [.nils, .int .i64 e]
section
variable {L n : Nat} {rate delay nn : Int} {ts es xs vs : List (Nat × Nat)}
theorem pass_both (hL : 70000 ≤ L) (m1 : shortL ts) (m2 : shortL es) (m3 : shortL xs) (m4 : shortL vs) :
    den ⟨fnOf, specX, L+1⟩ (n+2) 19 [.agg [.int .i64 rate, .int .i64 delay, .lst 1 (ts.map celC), .lst 1 (es.map celC)], .lst 1 (xs.map celC), .lst 1 (vs.map celC), .int .i64 nn] = some (passA (passE rate delay nn ts es xs vs) (passP rate delay nn ts es xs vs)) ∧
    den ⟨fnOf, specX, L+1⟩ (n+2) 20 [.agg [.int .i64 rate, .int .i64 delay, .lst 1 (ts.map celC), .lst 1 (es.map celC)], .lst 1 (xs.map celC), .lst 1 (vs.map celC), .int .i64 nn] = some (passA (passE rate delay nn ts es xs vs) (passD rate delay nn ts es xs vs)) := by
  have hlx : (xs.map celC).length = xs.length := map_len
  have hlv : (vs.map celC).length = vs.length := map_len
  have p1 := spec_is (P := ⟨fnOf, specX, L+1⟩) (C := runF ⟨fnOf, specX, L+1⟩ (n+1)) (f := 22) rfl (chkSem_at (rate := rate) (delay := delay) m1 m2)
  have d1 := spec_is (P := ⟨fnOf, specX, L+1⟩) (C := runF ⟨fnOf, specX, L+1⟩ (n+1)) (f := 23) rfl (chkSem_at (rate := rate) (delay := delay) m1 m2)
  unfold passA
  by_cases a1 : chkT rate delay ts es = 0
  case neg =>
    have e : passE rate delay nn ts es xs vs = chkT rate delay ts es := if_pos a1
    rw [e, if_neg a1, if_neg a1]
    have b1 : (chkT rate delay ts es != 0) = true := by simpa using a1
    exact ⟨@pap_0 (L+1) (n+1) rate delay nn ts es xs vs [] [] 0 0 0 [] [] _ p1 b1, @pad_0 (L+1) (n+1) rate delay nn ts es xs vs [] [] 0 0 0 [] [] _ d1 b1⟩
  have n1 : (chkT rate delay ts es != 0) = false := by rw [a1]; rfl
  obtain ⟨r1, r2, q1, q2, t1, t2⟩ := chkT_ok a1
  obtain ⟨u1, u2, _, _⟩ := tapsF_is.1 t1
  have hes : es.length ≤ 64 := by
    rcases t2 with h | h
    · omega
    · exact (tapsF_is.1 h).2.1
  have hE : passE rate delay nn ts es xs vs = if nn < 0 ∨ 65536 < nn ∨ 65536 < xs.length ∨ 65536 < vs.length then 1 else if rowF xs = true ∧ rowF vs = true then 0 else 7 := if_neg (by simp [a1])
  by_cases a2 : nn < 0
  · have e : passE rate delay nn ts es xs vs = 1 := by rw [hE, if_pos (.inl a2)]
    rw [e]
    exact ⟨@pap_1 (L+1) (n+1) rate delay nn ts es xs vs [] [] 0 0 0 [] [] _ p1 n1 (dT a2), @pad_1 (L+1) (n+1) rate delay nn ts es xs vs [] [] 0 0 0 [] [] _ d1 n1 (dT a2)⟩
  by_cases a3 : nn > 65536
  · have e : passE rate delay nn ts es xs vs = 1 := by rw [hE, if_pos (.inr (.inl a3))]
    rw [e]
    exact ⟨@pap_2 (L+1) (n+1) rate delay nn ts es xs vs [] [] 0 0 0 [] [] _ p1 n1 (dF a2) (dT a3), @pad_2 (L+1) (n+1) rate delay nn ts es xs vs [] [] 0 0 0 [] [] _ d1 n1 (dF a2) (dT a3)⟩
  by_cases a4 : 65536 < xs.length
  · have e : passE rate delay nn ts es xs vs = 1 := by rw [hE, if_pos (.inr (.inr (.inl a4)))]
    have b4 : decide (((xs.map celC).length : Int) > 65536) = true := by rw [hlx]; exact dT (by omega)
    rw [e]
    exact ⟨@pap_3 (L+1) (n+1) rate delay nn ts es xs vs [] [] 0 0 0 [] [] _ p1 n1 (dF a2) (dF a3) b4, @pad_3 (L+1) (n+1) rate delay nn ts es xs vs [] [] 0 0 0 [] [] _ d1 n1 (dF a2) (dF a3) b4⟩
  have n4 : decide (((xs.map celC).length : Int) > 65536) = false := by rw [hlx]; exact dF (by omega)
  by_cases a5 : 65536 < vs.length
  · have e : passE rate delay nn ts es xs vs = 1 := by rw [hE, if_pos (.inr (.inr (.inr a5)))]
    have b5 : decide (((vs.map celC).length : Int) > 65536) = true := by rw [hlv]; exact dT (by omega)
    rw [e]
    exact ⟨@pap_4 (L+1) (n+1) rate delay nn ts es xs vs [] [] 0 0 0 [] [] _ p1 n1 (dF a2) (dF a3) n4 b5, @pad_4 (L+1) (n+1) rate delay nn ts es xs vs [] [] 0 0 0 [] [] _ d1 n1 (dF a2) (dF a3) n4 b5⟩
  have n5 : decide (((vs.map celC).length : Int) > 65536) = false := by rw [hlv]; exact dF (by omega)
  have hE2 : passE rate delay nn ts es xs vs = if rowF xs = true ∧ rowF vs = true then 0 else 7 := by rw [hE, if_neg (by omega)]
  have x1 := spec_is (P := ⟨fnOf, specX, L+1⟩) (C := runF ⟨fnOf, specX, L+1⟩ (n+1)) (f := 44) rfl (rowSem_at m3)
  have x2 := spec_is (P := ⟨fnOf, specX, L+1⟩) (C := runF ⟨fnOf, specX, L+1⟩ (n+1)) (f := 44) rfl (rowSem_at m4)
  have y1 := spec_is (P := ⟨fnOf, specX, L+1⟩) (C := runF ⟨fnOf, specX, L+1⟩ (n+1)) (f := 45) rfl (rowSem_at m3)
  have y2 := spec_is (P := ⟨fnOf, specX, L+1⟩) (C := runF ⟨fnOf, specX, L+1⟩ (n+1)) (f := 45) rfl (rowSem_at m4)
  cases c1 : rowF xs with
  | false =>
    have e : passE rate delay nn ts es xs vs = 7 := by rw [hE2, if_neg (by rw [c1]; simp)]
    rw [e]
    exact ⟨@pap_5 (L+1) (n+1) rate delay nn ts es xs vs [] [] 0 0 0 [] [] _ _ p1 n1 (dF a2) (dF a3) n4 n5 x1 (by rw [c1]; rfl), @pad_5 (L+1) (n+1) rate delay nn ts es xs vs [] [] 0 0 0 [] [] _ _ d1 n1 (dF a2) (dF a3) n4 n5 y1 (by rw [c1]; rfl)⟩
  | true =>
  cases c2 : rowF vs with
  | false =>
    have e : passE rate delay nn ts es xs vs = 7 := by rw [hE2, if_neg (by rw [c2]; simp)]
    rw [e]
    exact ⟨@pap_6 (L+1) (n+1) rate delay nn ts es xs vs [] [] 0 0 0 [] [] _ _ _ p1 n1 (dF a2) (dF a3) n4 n5 x1 (by rw [c1]; rfl) x2 (by rw [c2]; rfl), @pad_6 (L+1) (n+1) rate delay nn ts es xs vs [] [] 0 0 0 [] [] _ _ _ d1 n1 (dF a2) (dF a3) n4 n5 y1 (by rw [c1]; rfl) y2 (by rw [c2]; rfl)⟩
  | true =>
  have e : passE rate delay nn ts es xs vs = 0 := by rw [hE2, if_pos ⟨c1, c2⟩]
  rw [e, if_pos rfl, if_pos rfl]
  obtain ⟨r, rfl⟩ : ∃ r : Nat, rate = r := ⟨rate.toNat, by omega⟩
  obtain ⟨d, rfl⟩ : ∃ d : Nat, delay = d := ⟨delay.toNat, by omega⟩
  obtain ⟨N, rfl⟩ : ∃ N : Nat, nn = N := ⟨nn.toNat, by omega⟩
  have hpl : (passP (r : Int) (d : Int) (N : Int) ts es xs vs).length = N := tab_len
  have hdl : (passD (r : Int) (d : Int) (N : Int) ts es xs vs).length = N := tab_len
  constructor
  · obtain ⟨o2, g1, g2, g3⟩ := @layX L n xs ts [33] [43] r d N (List.replicate N (0, 0)) List.length_replicate (by omega) (by omega) u2 (by omega) (by omega) hL
    obtain ⟨o3, h1, h2, h3⟩ := @layX L n vs es [33] [48] 1 0 N o2 g2 (by omega) (by omega) hes (by decide) (by decide) hL
    have go : o3 = passP (r : Int) (d : Int) (N : Int) ts es xs vs := eq_tab h2 fun j hj => by
      have e0 : (List.replicate N ((0, 0) : Nat × Nat)).getD j (0, 0) = (0, 0) := by
        rw [List.getD_eq_getElem?_getD, List.getElem?_replicate]; split <;> rfl
      rw [h3 j hj, g3 j hj, e0, show ((j : Int) - ((0 : Nat) : Int)) = (j : Int) by omega]
      rfl
    subst go
    have hmk : Con.holds ⟨fnOf, specX, L+1⟩ (runF ⟨fnOf, specX, L+1⟩ (n+1)) (.mk N N true ((List.replicate N (0, 0)).map celC) (N : Int) (N : Int) 16 [.cpx 0 0]) := mk_ok (f := celC) rfl (by simp only [most]; omega) (by simp only [most]; omega)
    have hle : Con.holds ⟨fnOf, specX, L+1⟩ (runF ⟨fnOf, specX, L+1⟩ (n+1)) (.le N ((passP (r : Int) (d : Int) (N : Int) ts es xs vs).map celC).length) := by
      show _ ≤ _; rw [show List.length _ = _ from map_len, hpl]; exact Nat.le_refl _
    have := @pap_7 (L+1) (n+1) (r : Int) (d : Int) (N : Int) ts es xs vs o2 (passP (r : Int) (d : Int) (N : Int) ts es xs vs) N 0 0 [] [] _ _ _ p1 n1 (dF a2) (dF a3) n4 n5 x1 (by rw [c1]; rfl) x2 (by rw [c2]; rfl) hmk g1 h1 hle
    rw [tkMap hpl.symm] at this
    exact this
  · obtain ⟨s', l1, st, rfl⟩ := loopJ (P := ⟨fnOf, specX, L+1⟩) (C := runF ⟨fnOf, specX, L+1⟩ (n+1)) (L := L) (d := 0) (live := [1, 2, 3, 4, 11, 12]) (π := [34]) (m := m20b0) (A := pdSt (r : Int) (d : Int) (N : Int) ts es xs vs [] [34] 0 0)
      (fun i s => ∃ st, s = pdSt (r : Int) (d : Int) (N : Int) ts es xs vs (tab (fun m => outD' ts xs es vs r (m : Int) d) i) st i i)
      (fun s => ∃ st, s = pdSt (r : Int) (d : Int) (N : Int) ts es xs vs (passD (r : Int) (d : Int) (N : Int) ts es xs vs) st N N) N (x := .exit 0) (by simp) rfl (by omega) ⟨[34], rfl⟩
      (fun i s hi hs => by
        obtain ⟨st, rfl⟩ := hs
        have hp : Con.holds ⟨fnOf, specX, L+1⟩ (runF ⟨fnOf, specX, L+1⟩ (n+1)) (.push i 1 16 ((tab (fun m => outD' ts xs es vs r (m : Int) d) i).map celC)) := push_ok (by rw [map_len, tab_len]) (by simp only [most]; omega)
        have w : IntKind.wrap .i64 ((i : Int) - (d : Int)) = (i : Int) - d := wrap_id (by omega)
        have hc1 := call_den (@throughX L n xs ts ((i : Int) - d) r (by omega) u2 (by omega) (by omega) (by omega))
        have hc2 := call_den (@throughX L n vs es (i : Int) 1 (by omega) hes (by omega) (by decide) (by omega))
        have := @padr_0 (L+1) (n+1) (r : Int) (d : Int) (N : Int) ts es xs vs (tab (fun m => outD' ts xs es vs r (m : Int) d) i) [] 0 i i st [i, 34] _ _ (dLt hi) (by rw [w]; exact hc1) hc2 hp
        rw [wrap_id (n := (i : Int) + 1) (by omega)] at this
        refine ⟨_, this, [33, i, 34], ?_⟩
        unfold pdSt
        rw [tab_up, List.map_append]
        rfl)
      (fun s hs => by
        obtain ⟨st, rfl⟩ := hs
        exact ⟨_, @padr_1 (L+1) (n+1) (r : Int) (d : Int) (N : Int) ts es xs vs (passD (r : Int) (d : Int) (N : Int) ts es xs vs) [] 0 N N st [N, 34] dNlt, st, rfl⟩)
    have hle : Con.holds ⟨fnOf, specX, L+1⟩ (runF ⟨fnOf, specX, L+1⟩ (n+1)) (.le N ((passD (r : Int) (d : Int) (N : Int) ts es xs vs).map celC).length) := by
      show _ ≤ _; rw [show List.length _ = _ from map_len, hdl]; exact Nat.le_refl _
    have := @pad_7 (L+1) (n+1) (r : Int) (d : Int) (N : Int) ts es xs vs (passD (r : Int) (d : Int) (N : Int) ts es xs vs) [] 0 N N st [] _ _ _ d1 n1 (dF a2) (dF a3) n4 n5 y1 (by rw [c1]; rfl) y2 (by rw [c2]; rfl) l1 hle
    rw [tkMap hdl.symm] at this
    exact this
/-- BOTH ROWS ARE THE SAME, number by number -/
theorem pass_same (h : passE rate delay nn ts es xs vs = 0) : (passP rate delay nn ts es xs vs).length = nn.toNat ∧ (passD rate delay nn ts es xs vs).length = nn.toNat ∧ nn ≤ 65536 ∧ ∀ i, i < nn.toNat →
    ∃ a b : Int, a.natAbs ≤ 134217728 ∧ b.natAbs ≤ 134217728 ∧ grid a ((passP rate delay nn ts es xs vs).getD i (0, 0)).1 ∧ grid b ((passP rate delay nn ts es xs vs).getD i (0, 0)).2 ∧ grid a ((passD rate delay nn ts es xs vs).getD i (0, 0)).1 ∧ grid b ((passD rate delay nn ts es xs vs).getD i (0, 0)).2 := by
  have a1 : chkT rate delay ts es = 0 := by
    by_cases c : chkT rate delay ts es = 0
    · exact c
    · unfold passE at h; rw [if_pos c] at h; exact absurd h c
  have hE : passE rate delay nn ts es xs vs = if nn < 0 ∨ 65536 < nn ∨ 65536 < xs.length ∨ 65536 < vs.length then 1 else if rowF xs = true ∧ rowF vs = true then 0 else 7 := if_neg (by simp [a1])
  rw [hE] at h
  split at h
  · cases h
  rename_i h2
  split at h
  · rename_i h3
    obtain ⟨_, _, _, _, t1, t2⟩ := chkT_ok a1
    obtain ⟨_, u2, u3, _⟩ := tapsF_is.1 t1
    have e1 : es.length ≤ 64 ∧ ∀ i, i < es.length → okTap (es.getD i (0, 0)) = true := by
      rcases t2 with h | h
      · exact ⟨by omega, fun i hi => by omega⟩
      · exact ⟨(tapsF_is.1 h).2.1, (tapsF_is.1 h).2.2.1⟩
    refine ⟨tab_len, tab_len, by omega, fun i hi => ?_⟩
    obtain ⟨a, b, z1, z2, z3, z4, z5, z6⟩ := @out_same ts xs es vs rate.toNat delay.toNat (i : Int) u2 e1.1 u3 (rowF_is.1 h3.1) e1.2 (rowF_is.1 h3.2)
    refine ⟨a, b, z1, z2, ?_⟩
    unfold passP passD
    rw [tab_at hi, tab_at hi]
    exact ⟨z3, z4, z5, z6⟩
  · cases h
end
end Go.Proofs.Ytnphdnokedhhkaa.Fw
namespace Go.Proofs.Ytnphdnokedhhkaa.Fw
open Go Go.RowKit
/-- what Pass hands out, as told: an empty row where it fails -/
def pasQ (e : Int) (l : List (Nat × Nat)) : AV := .tup [.own 1 ((if e = 0 then l else []).map celC) true, .int .i64 e]
theorem pas_wk (e : Int) (l : List (Nat × Nat)) : WkT (passA e l) (pasQ e l) := by
  unfold passA pasQ
  by_cases h : e = 0
  · rw [if_pos h, if_pos h, h]; exact WkT.refl _
  · rw [if_neg h, if_neg h]
    exact .inl ⟨_, _, rfl, rfl, ⟨.inr (.inr ⟨rfl, 1, true, rfl⟩), .inr (.inl rfl), trivial⟩⟩
def pasSem (doc : Bool) : List AV → Option AV
  | [.agg [.v (.int .i64 rate), .v (.int .i64 delay), .lst 1 e1, .lst 1 e2], .lst 1 e3, .lst 1 e4, .v (.int .i64 nn)] =>
    (unL unC e1).bind fun ts => (unL unC e2).bind fun es => (unL unC e3).bind fun xs => (unL unC e4).bind fun vs =>
      if shortL ts ∧ shortL es ∧ shortL xs ∧ shortL vs then some (pasQ (passE rate delay nn ts es xs vs) (if doc then passD rate delay nn ts es xs vs else passP rate delay nn ts es xs vs)) else none
  | _ => none
theorem pasSem_is {doc : Bool} {avs : List AV} {r : AV} (h : pasSem doc avs = some r) : ∃ rate delay nn ts es xs vs, avs = [.agg [.int .i64 rate, .int .i64 delay, .lst 1 (ts.map celC), .lst 1 (es.map celC)], .lst 1 (xs.map celC), .lst 1 (vs.map celC), .int .i64 nn] ∧
    shortL ts ∧ shortL es ∧ shortL xs ∧ shortL vs ∧ r = pasQ (passE rate delay nn ts es xs vs) (if doc then passD rate delay nn ts es xs vs else passP rate delay nn ts es xs vs) := by
  unfold pasSem at h
  split at h
  · rename_i rate delay e1 e2 e3 e4 nn
    rw [Option.bind_eq_some_iff] at h
    obtain ⟨ts, h1, h⟩ := h
    rw [Option.bind_eq_some_iff] at h
    obtain ⟨es, h2, h⟩ := h
    rw [Option.bind_eq_some_iff] at h
    obtain ⟨xs, h3, h⟩ := h
    rw [Option.bind_eq_some_iff] at h
    obtain ⟨vs, h4, h⟩ := h
    split at h
    · rename_i hm
      cases h
      have g1 := unL_inv (enc := celC) unC_is h1
      have g2 := unL_inv (enc := celC) unC_is h2
      have g3 := unL_inv (enc := celC) unC_is h3
      have g4 := unL_inv (enc := celC) unC_is h4
      subst g1; subst g2; subst g3; subst g4
      exact ⟨rate, delay, nn, ts, es, xs, vs, rfl, hm.1, hm.2.1, hm.2.2.1, hm.2.2.2, rfl⟩
    · cases h
  · cases h
theorem pasSem_at (doc : Bool) {rate delay nn : Int} {ts es xs vs : List (Nat × Nat)} (h1 : shortL ts) (h2 : shortL es) (h3 : shortL xs) (h4 : shortL vs) : pasSem doc [.agg [.int .i64 rate, .int .i64 delay, .lst 1 (ts.map celC), .lst 1 (es.map celC)], .lst 1 (xs.map celC), .lst 1 (vs.map celC), .int .i64 nn] =
    some (pasQ (passE rate delay nn ts es xs vs) (if doc then passD rate delay nn ts es xs vs else passP rate delay nn ts es xs vs)) := by
  simp only [pasSem, unC_L, Option.bind_some, if_pos (And.intro h1 (And.intro h2 (And.intro h3 h4)))]
def newP1 : FuncId → Option (List AV → Option AV)
  | 19 => some (pasSem false)
  | 20 => some (pasSem true)
  | _ => none
theorem spec_p1 : SpecOk Try.prog ⟨fnOf, fun f => match newP1 f with | some g => some g | none => specX f, 0⟩ :=
  spec_adds spec_x (fun L => fnsOk _ _) follows newP1 fun f g h => by
    unfold newP1 at h
    split at h
    · cases h
      refine ⟨⟨_, Try.func19, ne_of_beq_false (by kernel_rfl), by kernel_rfl⟩, fun avs r h => ?_⟩
      obtain ⟨rate, delay, nn, ts, es, xs, vs, rfl, h1, h2, h3, h4, rfl⟩ := pasSem_is h
      exact toldZ (P := ⟨fnOf, specX, 0⟩) (@pass_both 70000 0 rate delay nn ts es xs vs (Nat.le_refl _) h1 h2 h3 h4).1 (pas_wk _ _)
    · cases h
      refine ⟨⟨_, Try.func20, ne_of_beq_false (by kernel_rfl), by kernel_rfl⟩, fun avs r h => ?_⟩
      obtain ⟨rate, delay, nn, ts, es, xs, vs, rfl, h1, h2, h3, h4, rfl⟩ := pasSem_is h
      exact toldZ (P := ⟨fnOf, specX, 0⟩) (@pass_both 70000 0 rate delay nn ts es xs vs (Nat.le_refl _) h1 h2 h3 h4).2 (pas_wk _ _)
    · cases h
def newP2 : FuncId → Option (List AV → Option AV)
  | 13 => some (fun avs => den ⟨fnOf, specK, 20000000000001⟩ 2 13 avs)
  | 16 => some (fun avs => den ⟨fnOf, specK, 20000000000001⟩ 2 16 avs)
  | 21 => some (fun avs => den ⟨fnOf, specK, 20000000000001⟩ 1 21 avs)
  | 18 => some (fun avs => den ⟨fnOf, specK, 20000000000001⟩ 1 18 avs)
  | _ => none
theorem spec_p2 : SpecOk Try.prog ⟨fnOf, fun f => match newP2 f with | some g => some g | none => specK f, 0⟩ :=
  spec_adds spec_k (fun L => fnsOk _ _) follows newP2 fun f g h => by
    unfold newP2 at h
    split at h
    · cases h
      exact ⟨⟨_, Try.func13, ne_of_beq_false (by kernel_rfl), by kernel_rfl⟩, fun avs r h => toldZ (P := ⟨fnOf, specK, 0⟩) h (WkT.refl _)⟩
    · cases h
      exact ⟨⟨_, Try.func16, ne_of_beq_false (by kernel_rfl), by kernel_rfl⟩, fun avs r h => toldZ (P := ⟨fnOf, specK, 0⟩) h (WkT.refl _)⟩
    · cases h
      exact ⟨⟨_, Try.func21, ne_of_beq_false (by kernel_rfl), by kernel_rfl⟩, fun avs r h => toldZ (P := ⟨fnOf, specK, 0⟩) h (WkT.refl _)⟩
    · cases h
      exact ⟨⟨_, Try.func18, ne_of_beq_false (by kernel_rfl), by kernel_rfl⟩, fun avs r h => toldZ (P := ⟨fnOf, specK, 0⟩) h (WkT.refl _)⟩
    · cases h
def newY : FuncId → Option (List AV → Option AV)
  | 19 => some (pasSem false)
  | 20 => some (pasSem true)
  | 13 => some (fun avs => den ⟨fnOf, specK, 20000000000001⟩ 2 13 avs)
  | 16 => some (fun avs => den ⟨fnOf, specK, 20000000000001⟩ 2 16 avs)
  | 21 => some (fun avs => den ⟨fnOf, specK, 20000000000001⟩ 1 21 avs)
  | 18 => some (fun avs => den ⟨fnOf, specK, 20000000000001⟩ 1 18 avs)
  | _ => none
def specY : FuncId → Option (List AV → Option AV) := fun f => match newY f with | some g => some g | none => specX f
theorem spec_y : SpecOk Try.prog ⟨fnOf, specY, 0⟩ := by
  intro f g h
  have h : (match newY f with | some g => some g | none => specX f) = some g := h
  unfold newY at h
  split at h
  · rename_i g' hq
    split at hq
    · cases hq; cases h; exact spec_p1 19 _ rfl
    · cases hq; cases h; exact spec_p1 20 _ rfl
    · cases hq; cases h; exact spec_p2 13 _ rfl
    · cases hq; cases h; exact spec_p2 16 _ rfl
    · cases hq; cases h; exact spec_p2 21 _ rfl
    · cases hq; cases h; exact spec_p2 18 _ rfl
    · cases hq
  · exact spec_x f g h
end Go.Proofs.Ytnphdnokedhhkaa.Fw
namespace Go.Proofs.Ytnphdnokedhhkaa.Fw
open Go Go.RowKit
theorem hnLwDoA {P : Prog} {C : Caller} : Holds P C [] := trivial
theorem hcLwDoA {P : Prog} {C : Caller} {c : Con} {cs : List Con} (h : c.holds P C) (t : Holds P C cs) : Holds P C (c :: cs) := ⟨h, t⟩
theorem hbLwDoA {P : Prog} {C : Caller} {x y : Bool} {cs : List Con} (h : x = y) (t : Holds P C cs) : Holds P C (.b x y :: cs) := ⟨h, t⟩

def neSt (y m : Nat) : St := ⟨[(3, .flt y), (4, .flt m)], [], 0⟩
theorem ner_0 {L n a y m i : Nat} {k k2 : Int} {π : List Nat} (h0 : (fgt m y) = true) : seeZ 0 [3, 4] m68.res (bodyOf ⟨fnOf, specO, L⟩ (runF ⟨fnOf, specO, L⟩ n) 0 m68b0 (i :: π) (neSt y m : St)) = some (RO.go .nrm (.mk [(3, (.flt (y))), (4, (.flt (fsub m 4607182418800017408)))] [] 0)) :=
  rndZ_sound (q := [((some 13), (Dec.b true))]) (by kernel_rfl) (hbLwDoA h0 hnLwDoA)
theorem ner_1 {L n a y m i : Nat} {k k2 : Int} {π : List Nat} (h0 : (fgt m y) = false) : seeZ 0 [3, 4] m68.res (bodyOf ⟨fnOf, specO, L⟩ (runF ⟨fnOf, specO, L⟩ n) 0 m68b0 (i :: π) (neSt y m : St)) = some (RO.go (.exit 0) (.mk [(3, (.flt (y))), (4, (.flt (m)))] [] 0)) :=
  rndZ_sound (q := [((some 13), (Dec.b false))]) (by kernel_rfl) (hbLwDoA h0 hnLwDoA)
theorem nea_0 {L n a y m i : Nat} {k k2 : Int} {π : List Nat} (h0 : Con.holds ⟨fnOf, specO, L⟩ (runF ⟨fnOf, specO, L⟩ n) (.any 0 [5] (MO.mk (some 9) (MOp.conv (ConvK.toInt .i64) (Opd.t 8)) none []) [(8, (.flt (fmul a 4661225614328463360)))] [] (.v (.int .i64 (k))) [])) (h1 : Con.holds ⟨fnOf, specO, L⟩ (runF ⟨fnOf, specO, L⟩ n) (.loop 0 [3, 4] m68b0 [8] (.mk [(3, (.flt (fmul a 4661225614328463360))), (4, (.flt (fofInt k)))] [] 0) (.exit 0) (.mk [(3, (.flt (y))), (4, (.flt (m)))] [] 0))) (h2 : (fgt (fsub y m) 4602678819172646912) = true) : den ⟨fnOf, specO, L⟩ (n+1) 68 [.flt a] = some (.flt (fdiv (fadd m 4607182418800017408) 4661225614328463360)) :=
  denD_sound (q := [((some 9), (Dec.any (.v (.int .i64 (k))) [])), ((some 200000), (Dec.loop (.exit 0) (.mk [(3, (.flt (y))), (4, (.flt (m)))] [] 0))), ((some 21), (Dec.b true))]) (by kernel_rfl) (hcLwDoA h0 (hcLwDoA h1 (hbLwDoA h2 hnLwDoA)))
theorem nea_1 {L n a y m i : Nat} {k k2 : Int} {π : List Nat} (h0 : Con.holds ⟨fnOf, specO, L⟩ (runF ⟨fnOf, specO, L⟩ n) (.any 0 [5] (MO.mk (some 9) (MOp.conv (ConvK.toInt .i64) (Opd.t 8)) none []) [(8, (.flt (fmul a 4661225614328463360)))] [] (.v (.int .i64 (k))) [])) (h1 : Con.holds ⟨fnOf, specO, L⟩ (runF ⟨fnOf, specO, L⟩ n) (.loop 0 [3, 4] m68b0 [8] (.mk [(3, (.flt (fmul a 4661225614328463360))), (4, (.flt (fofInt k)))] [] 0) (.exit 0) (.mk [(3, (.flt (y))), (4, (.flt (m)))] [] 0))) (h2 : (fgt (fsub y m) 4602678819172646912) = false) (h3 : (feq (fsub y m) 4602678819172646912) = true) (h4 : Con.holds ⟨fnOf, specO, L⟩ (runF ⟨fnOf, specO, L⟩ n) (.any 0 [20] (MO.mk (some 26) (MOp.conv (ConvK.toInt .i64) (Opd.t 25)) (some (24, true)) []) [(25, (.flt (m)))] [] (.v (.int .i64 (k2))) [])) (h5 : (k2.tmod (2) != 0) = true) : den ⟨fnOf, specO, L⟩ (n+1) 68 [.flt a] = some (.flt (fdiv (fadd m 4607182418800017408) 4661225614328463360)) :=
  denD_sound (q := [((some 9), (Dec.any (.v (.int .i64 (k))) [])), ((some 200000), (Dec.loop (.exit 0) (.mk [(3, (.flt (y))), (4, (.flt (m)))] [] 0))), ((some 21), (Dec.b false)), ((some 24), (Dec.b true)), ((some 26), (Dec.any (.v (.int .i64 (k2))) [])), ((some 30), (Dec.b true))]) (by kernel_rfl) (hcLwDoA h0 (hcLwDoA h1 (hbLwDoA h2 (hbLwDoA h3 (hcLwDoA h4 (hbLwDoA h5 hnLwDoA))))))
theorem nea_2 {L n a y m i : Nat} {k k2 : Int} {π : List Nat} (h0 : Con.holds ⟨fnOf, specO, L⟩ (runF ⟨fnOf, specO, L⟩ n) (.any 0 [5] (MO.mk (some 9) (MOp.conv (ConvK.toInt .i64) (Opd.t 8)) none []) [(8, (.flt (fmul a 4661225614328463360)))] [] (.v (.int .i64 (k))) [])) (h1 : Con.holds ⟨fnOf, specO, L⟩ (runF ⟨fnOf, specO, L⟩ n) (.loop 0 [3, 4] m68b0 [8] (.mk [(3, (.flt (fmul a 4661225614328463360))), (4, (.flt (fofInt k)))] [] 0) (.exit 0) (.mk [(3, (.flt (y))), (4, (.flt (m)))] [] 0))) (h2 : (fgt (fsub y m) 4602678819172646912) = false) (h3 : (feq (fsub y m) 4602678819172646912) = true) (h4 : Con.holds ⟨fnOf, specO, L⟩ (runF ⟨fnOf, specO, L⟩ n) (.any 0 [20] (MO.mk (some 26) (MOp.conv (ConvK.toInt .i64) (Opd.t 25)) (some (24, true)) []) [(25, (.flt (m)))] [] (.v (.int .i64 (k2))) [])) (h5 : (k2.tmod (2) != 0) = false) : den ⟨fnOf, specO, L⟩ (n+1) 68 [.flt a] = some (.flt (fdiv m 4661225614328463360)) :=
  denD_sound (q := [((some 9), (Dec.any (.v (.int .i64 (k))) [])), ((some 200000), (Dec.loop (.exit 0) (.mk [(3, (.flt (y))), (4, (.flt (m)))] [] 0))), ((some 21), (Dec.b false)), ((some 24), (Dec.b true)), ((some 26), (Dec.any (.v (.int .i64 (k2))) [])), ((some 30), (Dec.b false))]) (by kernel_rfl) (hcLwDoA h0 (hcLwDoA h1 (hbLwDoA h2 (hbLwDoA h3 (hcLwDoA h4 (hbLwDoA h5 hnLwDoA))))))
theorem nea_3 {L n a y m i : Nat} {k k2 : Int} {π : List Nat} (h0 : Con.holds ⟨fnOf, specO, L⟩ (runF ⟨fnOf, specO, L⟩ n) (.any 0 [5] (MO.mk (some 9) (MOp.conv (ConvK.toInt .i64) (Opd.t 8)) none []) [(8, (.flt (fmul a 4661225614328463360)))] [] (.v (.int .i64 (k))) [])) (h1 : Con.holds ⟨fnOf, specO, L⟩ (runF ⟨fnOf, specO, L⟩ n) (.loop 0 [3, 4] m68b0 [8] (.mk [(3, (.flt (fmul a 4661225614328463360))), (4, (.flt (fofInt k)))] [] 0) (.exit 0) (.mk [(3, (.flt (y))), (4, (.flt (m)))] [] 0))) (h2 : (fgt (fsub y m) 4602678819172646912) = false) (h3 : (feq (fsub y m) 4602678819172646912) = false) : den ⟨fnOf, specO, L⟩ (n+1) 68 [.flt a] = some (.flt (fdiv m 4661225614328463360)) :=
  denD_sound (q := [((some 9), (Dec.any (.v (.int .i64 (k))) [])), ((some 200000), (Dec.loop (.exit 0) (.mk [(3, (.flt (y))), (4, (.flt (m)))] [] 0))), ((some 21), (Dec.b false)), ((some 24), (Dec.b false))]) (by kernel_rfl) (hcLwDoA h0 (hcLwDoA h1 (hbLwDoA h2 (hbLwDoA h3 hnLwDoA))))
theorem dor_0 {L n a b : Nat} {k k2 : Int}  : den ⟨fnOf, specO, L⟩ (n+1) 66 [.flt a] = some (.flt (fadd (fdiv (fint Ieee.Toward.even (fmul a 4661225614328463360)) 4661225614328463360) 0)) :=
  denD_sound (q := []) (by kernel_rfl) hnLwDoA
end Go.Proofs.Ytnphdnokedhhkaa.Fw
namespace Go.Proofs.Ytnphdnokedhhkaa.Fw
open Go Go.RowKit
theorem floor_small {y : Nat} (hb : (fv y).natAbs < 2 ^ 1104) : (fv y / 2 ^ 1074 + (halfUp (fv y)).toNat).natAbs < 2 ^ 32 := by
  have hG : (2 : Int) ^ 1074 = ((2 ^ 1074 : Nat) : Int) := by rw [Int.natCast_pow]; rfl
  have hq : (fv y).natAbs / 2 ^ 1074 < 2 ^ 30 := Nat.div_lt_of_lt_mul (by rw [← Nat.pow_add]; exact hb)
  have hg : 0 < 2 ^ 1074 := Nat.pow_pos (by decide)
  have hc : (halfUp (fv y)).toNat ≤ 1 := by cases halfUp (fv y) <;> decide
  rw [hG]
  generalize (halfUp (fv y)).toNat = c at *
  generalize fv y = V at *
  clear hG hb
  generalize 2 ^ 1074 = g at *
  rcases Int.le_total 0 V with hv | hv
  · obtain ⟨N, rfl⟩ : ∃ N : Nat, V = (N : Int) := ⟨V.toNat, by omega⟩
    obtain ⟨⟨a, _, _⟩, _⟩ := int_parts N g hg
    rw [Int.natAbs_natCast] at hq
    rw [a]
    generalize N / g = q at *
    omega
  · obtain ⟨N, rfl⟩ : ∃ N : Nat, V = -(N : Int) := ⟨V.natAbs, by omega⟩
    obtain ⟨_, a, _, _⟩ := int_parts N g hg
    rw [Int.natAbs_neg, Int.natAbs_natCast] at hq
    rw [a]
    generalize N / g = q at *
    split <;> omega
theorem steps6_read : Ieee.double.read 4634204016564240384 = .number false (2 ^ 52) ((6 : Nat) - 52 : Int) := by decide
theorem whole_div6 {K : Int} (hK : K.natAbs < 2 ^ 53) {w : Nat} (hw : fin w) (hv : fv w = K * 2 ^ 1074) : fin (fdiv w 4634204016564240384) ∧ fv (fdiv w 4634204016564240384) = K * 2 ^ 1068 := by
  have e : fv w = (K * 2 ^ 1068) * 2 ^ 6 := by rw [hv, Int.mul_assoc, ← Int.pow_add]
  have hst : stout w := by
    unfold stout
    by_cases h0 : K = 0
    · left; rw [hv, h0, Int.zero_mul]
    · right
      rw [hv, Int.natAbs_mul, Int.natAbs_pow]
      calc 2 ^ 600 ≤ 1 * 2 ^ 1074 := by rw [Nat.one_mul]; exact Nat.pow_le_pow_right (by decide) (by decide)
        _ ≤ K.natAbs * 2 ^ 1074 := Nat.mul_le_mul_right _ (by omega)
  exact fdiv_pow2 hw hst steps6_read (by decide) e (fits_grid hK (by decide))
end Go.Proofs.Ytnphdnokedhhkaa.Fw
namespace Go.Proofs.Ytnphdnokedhhkaa.Fw
open Go Go.RowKit
/-- the rest, above the half? -/
theorem rest_w {y w0 : Nat} (hy : fin y) (hb : (fv y).natAbs < 2 ^ 1104) (f1 : fin w0) (f2 : fv w0 = fv y / 2 ^ 1074 * 2 ^ 1074) :
    (fgt (fsub y w0) 4602678819172646912 || (feq (fsub y w0) 4602678819172646912 && decide (fv y / 2 ^ 1074 % 2 ≠ 0))) = halfUp (fv y) := by
  obtain ⟨g1, g2⟩ := half_is
  have hb26 : (fv y / 2 ^ 1074).natAbs ≤ 2 ^ 30 := by
    have hG : (2 : Int) ^ 1074 = ((2 ^ 1074 : Nat) : Int) := by rw [Int.natCast_pow]; rfl
    have hq : (fv y).natAbs / 2 ^ 1074 < 2 ^ 30 := Nat.div_lt_of_lt_mul (by rw [← Nat.pow_add]; exact hb)
    have hg : 0 < 2 ^ 1074 := Nat.pow_pos (by decide)
    rw [hG]
    generalize fv y = V at *
    generalize 2 ^ 1074 = g at *
    rcases Int.le_total 0 V with hv | hv
    · obtain ⟨N, rfl⟩ : ∃ N : Nat, V = (N : Int) := ⟨V.toNat, by omega⟩
      obtain ⟨⟨a, _, _⟩, _⟩ := int_parts N g hg
      rw [Int.natAbs_natCast] at hq
      rw [a]
      generalize N / g = q at *
      omega
    · obtain ⟨N, rfl⟩ : ∃ N : Nat, V = -(N : Int) := ⟨V.natAbs, by omega⟩
      obtain ⟨_, a, _, _⟩ := int_parts N g hg
      rw [Int.natAbs_neg, Int.natAbs_natCast] at hq
      rw [a]
      generalize N / g = q at *
      split <;> omega
  have hpos : (0 : Int) < 2 ^ 1074 := Int.pow_pos (by decide)
  have hmod : fv y - fv y / 2 ^ 1074 * 2 ^ 1074 = fv y % 2 ^ 1074 := by
    have := Int.emod_add_mul_ediv (fv y) (2 ^ 1074)
    rw [Int.mul_comm] at this
    omega
  have hh : (2 : Int) ^ 1074 = 2 * 2 ^ 1073 := by rw [show 1074 = 1073 + 1 from rfl, Int.pow_succ, Int.mul_comm]
  have exactly : fits (fv y % 2 ^ 1074).natAbs → (fgt (fsub y w0) 4602678819172646912 || (feq (fsub y w0) 4602678819172646912 && decide (fv y / 2 ^ 1074 % 2 ≠ 0))) = halfUp (fv y) := by
    intro hf
    obtain ⟨s1, s2⟩ := fsub_exact hy f1 (by rw [f2, hmod]; exact hf)
    rw [f2, hmod] at s2
    rw [fgt_fin s1 g1, feq_fin s1 g1, s2, g2]
    unfold halfUp
    rw [hh]
    congr 1
    · exact decide_eq_decide.2 (by omega)
    · congr 1
      exact decide_eq_decide.2 (by omega)
  obtain ⟨s, m, i, hr, hi⟩ := id hy
  have hm := read_mag hr
  have hv : fv y = (if s then -((m * 2 ^ (i + 1074).toNat : Nat) : Int) else ((m * 2 ^ (i + 1074).toNat : Nat) : Int)) := by
    rw [fv_of hr]; unfold Ieee.signed; rw [Nat.shiftLeft_eq]
  have hG : (2 : Int) ^ 1074 = ((2 ^ 1074 : Nat) : Int) := by rw [Int.natCast_pow]; rfl
  have hg : 0 < 2 ^ 1074 := Nat.pow_pos (by decide)
  cases s with
  | false =>
    refine exactly ?_
    rw [hv, if_neg (by decide), hG, (int_parts _ _ hg).1.2.1, Int.natAbs_natCast]
    exact fits_mod hm
  | true =>
    rw [if_pos rfl] at hv
    by_cases h0 : m * 2 ^ (i + 1074).toNat % 2 ^ 1074 = 0
    · refine exactly ?_
      rw [hv, hG, (int_parts _ _ hg).2.2.1, if_pos h0]
      exact fits_zero
    · by_cases hbig : 2 ^ 1073 < m * 2 ^ (i + 1074).toNat
      · refine exactly ?_
        rw [hv, hG, (int_parts _ _ hg).2.2.1, if_neg h0]
        have hl := Nat.mod_lt (m * 2 ^ (i + 1074).toNat) hg
        have e : ((((2 ^ 1074 : Nat) : Int) - ((m * 2 ^ (i + 1074).toNat % 2 ^ 1074 : Nat) : Int))).natAbs = 2 ^ 1074 - m * 2 ^ (i + 1074).toNat % 2 ^ 1074 := by
          generalize m * 2 ^ (i + 1074).toNat % 2 ^ 1074 = w at *
          generalize 2 ^ 1074 = g at *
          omega
        rw [e]
        exact fits_rest hm h0 hbig
      · -- between -1/2 and nought
        have hlt : m * 2 ^ (i + 1074).toNat < 2 ^ 1074 := Nat.lt_of_le_of_lt (Nat.not_lt.1 hbig) (Nat.pow_lt_pow_right (by decide) (by decide))
        have ed := (int_parts (m * 2 ^ (i + 1074).toNat) _ hg).2.1
        have em := (int_parts (m * 2 ^ (i + 1074).toNat) _ hg).2.2.1
        rw [if_neg h0, Nat.div_eq_of_lt hlt, ← hG, ← hv] at ed
        rw [if_neg h0, Nat.mod_eq_of_lt hlt, ← hG, ← hv] at em
        have hd1 : fv y / 2 ^ 1074 = -1 := by rw [ed]; rfl
        have hle : ((m * 2 ^ (i + 1074).toNat : Nat) : Int) ≤ 2 ^ 1073 := by
          have c : (2 : Int) ^ 1073 = ((2 ^ 1073 : Nat) : Int) := by rw [Int.natCast_pow]; rfl
          rw [c]
          exact Int.ofNat_le.2 (Nat.not_lt.1 hbig)
        have hpos2 : (0 : Int) < ((m * 2 ^ (i + 1074).toNat : Nat) : Int) := by
          rcases Nat.eq_zero_or_pos (m * 2 ^ (i + 1074).toNat) with h | h
          · rw [h, Nat.zero_mod] at h0; exact absurd rfl h0
          · exact Int.ofNat_lt.2 h
        have r1 : fv y - fv w0 = fv y % 2 ^ 1074 := by rw [f2, hmod]
        generalize ((m * 2 ^ (i + 1074).toNat : Nat) : Int) = N at em hle hpos2
        obtain ⟨s1, s2⟩ := fsub_half hy f1 (by rw [r1, em]; omega) (by rw [r1, em]; omega)
        rw [fgt_fin s1 g1, feq_fin s1 g1, g2]
        unfold halfUp
        rw [em, hd1]
        generalize fv (fsub y w0) = w at *
        have t1 : (decide ((2 : Int) ^ 1073 < w) || (decide (w = 2 ^ 1073) && decide ((-1 : Int) % 2 ≠ 0))) = true := by
          rw [Bool.or_eq_true, Bool.and_eq_true]
          rcases Int.lt_or_eq_of_le s2 with h | h
          · exact .inl (decide_eq_true h)
          · exact .inr ⟨decide_eq_true h.symm, by decide⟩
        have t2 : (decide ((2 : Int) ^ 1074 < 2 * (2 ^ 1074 - N)) || (decide ((2 : Int) ^ 1074 = 2 * (2 ^ 1074 - N)) && decide ((-1 : Int) % 2 ≠ 0))) = true := by
          rw [Bool.or_eq_true, Bool.and_eq_true]
          rcases Int.lt_or_eq_of_le hle with h | h
          · exact .inl (decide_eq_true (by omega))
          · exact .inr ⟨decide_eq_true (by omega), by decide⟩
        rw [t1, t2]

def floW (y : Nat) : Nat := bif fgt (fofInt ((fv y).tdiv (2 ^ 1074))) y then fsub (fofInt ((fv y).tdiv (2 ^ 1074))) 4607182418800017408 else fofInt ((fv y).tdiv (2 ^ 1074))
theorem oneF : fin 4607182418800017408 ∧ fv 4607182418800017408 = 1 * 2 ^ 1074 := by
  have hr : Ieee.double.read 4607182418800017408 = .number false (2 ^ 52) (-52) := by decide
  refine ⟨⟨_, _, _, hr, by decide⟩, ?_⟩
  rw [fv_of hr]
  show (if false = true then _ else (((2 ^ 52) <<< 1022 : Nat) : Int)) = _
  rw [if_neg (by decide), Nat.shiftLeft_eq, ← Nat.pow_add, Int.natCast_pow, Int.one_mul]
  rfl
theorem fits_stepI {k : Int} (h : k.natAbs < 2 ^ 53) : fits (k * 2 ^ 1074).natAbs := by
  rw [Int.natAbs_mul, Int.natAbs_pow]
  exact fits_whole (by omega)
theorem floor_small' {y : Nat} (hb : (fv y).natAbs < 2 ^ 1104) : (fv y / 2 ^ 1074).natAbs < 2 ^ 33 := by
  have := floor_small hb
  cases h : halfUp (fv y) with
  | true => rw [h, Bool.toNat_true] at this; omega
  | false => rw [h, Bool.toNat_false] at this; omega
theorem floW_is {y : Nat} (hy : fin y) (hb : (fv y).natAbs < 2 ^ 1104) : fin (floW y) ∧ fv (floW y) = fv y / 2 ^ 1074 * 2 ^ 1074 := by
  have fl := floor_is hy hb
  obtain ⟨hn, _⟩ := trunc_is hy hb
  obtain ⟨f1, f2⟩ := fofInt_exact (n := (fv y).tdiv (2 ^ 1074)) (Nat.lt_trans hn (by decide))
  unfold floW
  generalize (fv y).tdiv (2 ^ 1074) = t at *
  cases c : fgt (fofInt t) y with
  | true =>
    rw [c, if_pos rfl] at fl
    have e : fv (fofInt t) - fv 4607182418800017408 = (t - 1) * 2 ^ 1074 := by rw [f2, oneF.2, Int.sub_mul]
    obtain ⟨g1, g2⟩ := fsub_exact f1 oneF.1 (by rw [e]; exact fits_stepI (by omega))
    exact ⟨g1, by rw [← fl, ← e]; exact g2⟩
  | false =>
    rw [c, if_neg (by decide)] at fl
    exact ⟨f1, by rw [← fl]; exact f2⟩
def nearW (a : Nat) : Nat := fdiv (bif halfUp (fv (up12 a)) then fadd (floW (up12 a)) 4607182418800017408 else floW (up12 a)) 4661225614328463360
theorem nearW_grid {a : Nat} (h : wi a = true) : grid (nearK a) (nearW a) := by
  have hlt := up12_lt h
  obtain ⟨q1, _, _⟩ := up12_is h
  obtain ⟨w1, w2⟩ := floW_is q1 hlt
  have hK := nearK_le h
  have hK53 : (nearK a).natAbs < 2 ^ 53 := Nat.lt_of_le_of_lt hK (by decide)
  have eK : nearK a = fv (up12 a) / 2 ^ 1074 + (halfUp (fv (up12 a))).toNat := rfl
  unfold nearW
  cases c : halfUp (fv (up12 a)) with
  | true =>
    rw [c] at eK
    have eK : nearK a = fv (up12 a) / 2 ^ 1074 + 1 := eK
    have e : fv (floW (up12 a)) + fv 4607182418800017408 = nearK a * 2 ^ 1074 := by rw [w2, oneF.2, eK, Int.add_mul]
    obtain ⟨g1, g2⟩ := fadd_exact w1 oneF.1 (by rw [e]; exact fits_stepI hK53)
    exact whole_read hK53 g1 (g2.trans e)
  | false =>
    rw [c] at eK
    have eK : nearK a = fv (up12 a) / 2 ^ 1074 := by rw [eK, Bool.toNat_false, Int.natCast_zero, Int.add_zero]
    exact whole_read hK53 w1 (by rw [eK]; exact w2)
theorem whole_tdiv (k : Int) : (k * 2 ^ 1074).tdiv (2 ^ 1074) = k := Int.mul_tdiv_cancel _ (pow_ne _)
theorem tmod2 (k : Int) : (k.tmod 2 != 0) = decide (k % 2 ≠ 0) := by
  have h1 : (2 : Int) ∣ k ↔ k.tmod 2 = 0 := ⟨fun h => Int.tmod_eq_zero_of_dvd h, fun h => Int.dvd_of_tmod_eq_zero h⟩
  have h2 : (2 : Int) ∣ k ↔ k % 2 = 0 := ⟨fun h => Int.emod_eq_zero_of_dvd h, fun h => Int.dvd_of_emod_eq_zero h⟩
  rw [Bool.eq_iff_iff, bne_iff_ne, decide_eq_true_eq, Ne, Ne, ← h1, ← h2]
section
variable {L n a : Nat}
theorem near_den (h : wi a = true) (hL : 5 ≤ L) : den ⟨fnOf, specO, L+1⟩ (n+1) 68 [.flt a] = some (.flt (nearW a)) := by
  have hlt := up12_lt h
  obtain ⟨q1, _, _⟩ := up12_is h
  obtain ⟨w1, w2⟩ := floW_is q1 hlt
  have rs := rest_w q1 hlt w1 w2
  obtain ⟨_, q2, _⟩ := trunc_is q1 hlt
  have q5 := floor_small' hlt
  have q3 : ftoInt (floW (up12 a)) .i64 = some (fv (up12 a) / 2 ^ 1074) := by
    unfold ftoInt
    rw [toInt_fin w1, w2, whole_tdiv]
    have e1 : IntKind.i64.min = -9223372036854775808 := rfl
    have e2 : IntKind.i64.max = 9223372036854775807 := rfl
    simp only
    rw [if_pos (by omega)]
  have ha : Con.holds ⟨fnOf, specO, L+1⟩ (runF ⟨fnOf, specO, L+1⟩ n) (.any 0 [5] (MO.mk (some 9) (MOp.conv (ConvK.toInt .i64) (Opd.t 8)) none []) [(8, (.flt (fmul a 4661225614328463360)))] [] (.v (.int .i64 ((fv (up12 a)).tdiv (2 ^ 1074)))) []) := by
    show (((ftoInt (up12 a) .i64).map (AV.int .i64)).map fun v => (v, ([] : Heap))) = _
    rw [q2]; rfl
  have hm : Con.holds ⟨fnOf, specO, L+1⟩ (runF ⟨fnOf, specO, L+1⟩ n) (.any 0 [20] (MO.mk (some 26) (MOp.conv (ConvK.toInt .i64) (Opd.t 25)) (some (24, true)) []) [(25, (.flt (floW (up12 a))))] [] (.v (.int .i64 (fv (up12 a) / 2 ^ 1074))) []) := by
    show (((ftoInt (floW (up12 a)) .i64).map (AV.int .i64)).map fun v => (v, ([] : Heap))) = _
    rw [q3]; rfl
  have hlo : Con.holds ⟨fnOf, specO, L+1⟩ (runF ⟨fnOf, specO, L+1⟩ n) (.loop 0 [3, 4] m68b0 [8] (neSt (up12 a) (fofInt ((fv (up12 a)).tdiv (2 ^ 1074)))) (.exit 0) (neSt (up12 a) (floW (up12 a)))) := by
    cases c : fgt (fofInt ((fv (up12 a)).tdiv (2 ^ 1074))) (up12 a) with
    | false =>
      have e : floW (up12 a) = fofInt ((fv (up12 a)).tdiv (2 ^ 1074)) := by unfold floW; rw [c]; rfl
      rw [e]
      exact loopX (res := m68.res) (fun _ => neSt (up12 a) (fofInt ((fv (up12 a)).tdiv (2 ^ 1074)))) 0 rfl (by omega) (fun i hi => absurd hi (by omega)) (@ner_1 (L+1) n a (up12 a) (fofInt ((fv (up12 a)).tdiv (2 ^ 1074))) 0 0 0 [8] c) (by simp)
    | true =>
      have e : floW (up12 a) = fsub (fofInt ((fv (up12 a)).tdiv (2 ^ 1074))) 4607182418800017408 := by unfold floW; rw [c]; rfl
      have hg : fgt (floW (up12 a)) (up12 a) = false := by
        rw [fgt_fin w1 q1, w2]
        refine decide_eq_false ?_
        have := Int.ediv_mul_le (fv (up12 a)) (pow_ne 1074)
        omega
      have := loopX (P := ⟨fnOf, specO, L+1⟩) (C := runF ⟨fnOf, specO, L+1⟩ n) (L := L) (d := 0) (live := [3, 4]) (π := [8]) (m := m68b0) (res := m68.res) (fun i => neSt (up12 a) (if i = 0 then fofInt ((fv (up12 a)).tdiv (2 ^ 1074)) else floW (up12 a))) 1 (x := .exit 0) (s' := neSt (up12 a) (floW (up12 a))) rfl (by omega) (fun i hi => by
        have hi0 : i = 0 := by omega
        subst hi0
        rw [if_pos rfl, if_neg (by omega), e]
        exact @ner_0 (L+1) n a (up12 a) (fofInt ((fv (up12 a)).tdiv (2 ^ 1074))) 0 0 0 [8] c) (by
        rw [if_neg (by omega)]
        exact @ner_1 (L+1) n a (up12 a) (floW (up12 a)) 1 0 0 [8] hg) (by simp)
      exact this
  unfold nearW
  cases c1 : fgt (fsub (up12 a) (floW (up12 a))) 4602678819172646912 with
  | true =>
    rw [c1, Bool.true_or] at rs
    rw [← rs]
    exact @nea_0 (L+1) n a (up12 a) (floW (up12 a)) 0 ((fv (up12 a)).tdiv (2 ^ 1074)) 0 [] ha hlo c1
  | false =>
    rw [c1, Bool.false_or] at rs
    cases c2 : feq (fsub (up12 a) (floW (up12 a))) 4602678819172646912 with
    | false =>
      rw [c2, Bool.false_and] at rs
      rw [← rs]
      exact @nea_3 (L+1) n a (up12 a) (floW (up12 a)) 0 ((fv (up12 a)).tdiv (2 ^ 1074)) 0 [] ha hlo c1 c2
    | true =>
      rw [c2, Bool.true_and] at rs
      rw [← rs]
      cases c3 : decide (fv (up12 a) / 2 ^ 1074 % 2 ≠ 0) with
      | true => exact @nea_1 (L+1) n a (up12 a) (floW (up12 a)) 0 ((fv (up12 a)).tdiv (2 ^ 1074)) (fv (up12 a) / 2 ^ 1074) [] ha hlo c1 c2 hm (by rw [tmod2, c3])
      | false => exact @nea_2 (L+1) n a (up12 a) (floW (up12 a)) 0 ((fv (up12 a)).tdiv (2 ^ 1074)) (fv (up12 a) / 2 ^ 1074) [] ha hlo c1 c2 hm (by rw [tmod2, c3])
end
theorem abs_wi (a : Nat) : fle (absF a) 4652218415073722368 = wi a := by
  obtain ⟨e1, e2, e3, e4⟩ := edge_is
  unfold wi
  rw [fle_rk, fge_rk, fle_rk, (absF_rk a).1, (absF_rk a).2, e1, e2, e3, e4]
  generalize rk a = X
  cases isNaN a with
  | true => rfl
  | false =>
    simp only [Bool.not_false, Bool.true_and]
    rw [← Bool.decide_and]
    exact decide_eq_decide.2 (by omega)
theorem siz_wi (a : Nat) : fle (szF a) 4652218415073722368 = wi a := by
  obtain ⟨e1, e2, e3, e4⟩ := edge_is
  unfold wi
  rw [fle_rk, fge_rk, fle_rk, (szF_rk a).1, (szF_rk a).2, e1, e2, e3, e4]
  generalize rk a = X
  cases isNaN a with
  | true => rfl
  | false =>
    simp only [Bool.not_false, Bool.true_and]
    rw [← Bool.decide_and]
    exact decide_eq_decide.2 (by omega)
/-- what lies on the grid, by its own near step -/
theorem onD_near {a : Nat} (h : wi a = true) : feq (nearW a) a = onD a := by
  have hg := nearW_grid h
  obtain ⟨h1, h2, _⟩ := up12_is h
  obtain ⟨hf, _⟩ := wi_fin h
  obtain ⟨z1, z2⟩ := fint_zero h1
  have e : onD a = feq (fint .zero (up12 a)) (up12 a) := by unfold onD; rw [abs_wi, h]; rfl
  rw [e, feq_fin hg.1 hf, feq_fin z1 h1, z2, hg.2]
  have eK : nearK a = fv (up12 a) / 2 ^ 1074 + (halfUp (fv (up12 a))).toNat := rfl
  have p : (2 : Int) ^ 1074 = 2 ^ 1062 * 2 ^ 12 := by rw [← Int.pow_add]
  have c : (nearK a * 2 ^ 1062 = fv a) ↔ (nearK a * 2 ^ 1074 = fv (up12 a)) := by
    rw [h2, p, ← Int.mul_assoc]
    exact ⟨fun h => by rw [h], fun h => Int.eq_of_mul_eq_mul_right (by decide) h⟩
  refine decide_eq_decide.2 ?_
  rw [c]
  generalize fv (up12 a) = V at *
  constructor
  · intro hk
    rw [← hk, whole_tdiv]
  · intro hk
    have hm : V % 2 ^ 1074 = 0 := by rw [← hk]; exact Int.mul_emod_left _ _
    have hh : halfUp V = false := by
      unfold halfUp
      rw [hm]
      have hp : (0 : Int) < 2 ^ 1074 := Int.pow_pos (by decide)
      rw [decide_eq_false (by omega), decide_eq_false (by omega)]; rfl
    rw [eK, hh, Bool.toNat_false, Int.natCast_zero, Int.add_zero]
    have := Int.emod_add_mul_ediv V (2 ^ 1074)
    rw [hm, Int.zero_add, Int.mul_comm] at this
    exact this
/-- a sample: the program's, and the document's -/
def smp (doc : Bool) (z : Nat × Nat) : (Nat × Nat) × Bool := if wi z.1 = true ∧ wi z.2 = true then ((if doc then nearW z.1 else nearF z.1, if doc then nearW z.2 else nearF z.2), false) else ((0, 0), true)
end Go.Proofs.Ytnphdnokedhhkaa.Fw
namespace Go.Proofs.Ytnphdnokedhhkaa.Fw
open Go Go.RowKit
def dorSem : List AV → Option AV
  | [.flt a] => some (.flt (nearF a))
  | _ => none
def neaSem : List AV → Option AV
  | [.flt a] => if wi a = true then some (.flt (nearW a)) else none
  | _ => none
def newNe : FuncId → Option (List AV → Option AV)
  | 66 => some dorSem
  | 68 => some neaSem
  | _ => none
def specNe : FuncId → Option (List AV → Option AV) := fun f => match newNe f with | some g => some g | none => specO f
theorem spec_ne : SpecOk Try.prog ⟨fnOf, specNe, 0⟩ :=
  spec_adds spec_o (fun L => fnsOk _ _) follows newNe fun f g h => by
    unfold newNe at h
    split at h
    · cases h
      refine ⟨⟨_, Try.func66, ne_of_beq_false (by kernel_rfl), by kernel_rfl⟩, fun avs r h => ?_⟩
      unfold dorSem at h
      split at h
      · rename_i a; cases h; exact told (P := ⟨fnOf, specO, 0⟩) ⟨0, 4, @dor_0 0 3 a 0 0 0⟩
      · cases h
    · cases h
      refine ⟨⟨_, Try.func68, ne_of_beq_false (by kernel_rfl), by kernel_rfl⟩, fun avs r h => ?_⟩
      unfold neaSem at h
      split at h
      · split at h
        · rename_i a hw; cases h; exact told (P := ⟨fnOf, specO, 0⟩) ⟨6, 1, near_den hw (Nat.le_refl _)⟩
        · cases h
      · cases h
    · cases h
end Go.Proofs.Ytnphdnokedhhkaa.Fw
namespace Go.Proofs.Ytnphdnokedhhkaa.Fw
open Go Go.RowKit
theorem hnLwDoC {P : Prog} {C : Caller} : Holds P C [] := trivial
theorem hcLwDoC {P : Prog} {C : Caller} {c : Con} {cs : List Con} (h : c.holds P C) (t : Holds P C cs) : Holds P C (c :: cs) := ⟨h, t⟩
theorem hbLwDoC {P : Prog} {C : Caller} {x y : Bool} {cs : List Con} (h : x = y) (t : Holds P C cs) : Holds P C (.b x y :: cs) := ⟨h, t⟩

theorem dwp_0 {L n a b : Nat} (h0 : (fle (absF a) 4652218415073722368) = true) (h1 : (!fle (absF b) 4652218415073722368) = true) : den ⟨fnOf, specNe, L⟩ (n+1) 52 [.cpx a b] = some (.agg [(AV.cpx 0 0), (.v (.bool true))]) :=
  denD_sound (q := [((some 13), (Dec.b true)), ((some 18), (Dec.b true))]) (by kernel_rfl) (hbLwDoC h0 (hbLwDoC h1 (hcLwDoC (c := (.st [0] [0])) rfl hnLwDoC)))
theorem dwp_1 {L n a b : Nat} (h0 : (fle (absF a) 4652218415073722368) = true) (h1 : (!fle (absF b) 4652218415073722368) = false) : den ⟨fnOf, specNe, L⟩ (n+1) 52 [.cpx a b] = some (.agg [(AV.cpx (nearF a) (nearF b)), (.v (.bool false))]) :=
  denD_sound (q := [((some 13), (Dec.b true)), ((some 18), (Dec.b false))]) (by kernel_rfl) (hbLwDoC h0 (hbLwDoC h1 (hcLwDoC (c := (.st [0] [0])) rfl hnLwDoC)))
theorem dwp_2 {L n a b : Nat} (h0 : (fle (absF a) 4652218415073722368) = false) : den ⟨fnOf, specNe, L⟩ (n+1) 52 [.cpx a b] = some (.agg [(AV.cpx 0 0), (.v (.bool true))]) :=
  denD_sound (q := [((some 13), (Dec.b false))]) (by kernel_rfl) (hbLwDoC h0 (hcLwDoC (c := (.st [0] [0])) rfl hnLwDoC))
theorem dwd_0 {L n a b : Nat} (h0 : (!fle (szF a) 4652218415073722368) = true) : den ⟨fnOf, specNe, L⟩ (n+1) 54 [.cpx a b] = some (.agg [(AV.cpx 0 0), (.v (.bool true))]) :=
  denD_sound (q := [((some 8), (Dec.b true))]) (by kernel_rfl) (hbLwDoC h0 (hcLwDoC (c := (.st [0] [0])) rfl hnLwDoC))
theorem dwd_1 {L n a b : Nat} (h0 : (!fle (szF a) 4652218415073722368) = false) (h1 : (!fle (szF b) 4652218415073722368) = true) : den ⟨fnOf, specNe, L⟩ (n+1) 54 [.cpx a b] = some (.agg [(AV.cpx 0 0), (.v (.bool true))]) :=
  denD_sound (q := [((some 8), (Dec.b false)), ((some 14), (Dec.b true))]) (by kernel_rfl) (hbLwDoC h0 (hbLwDoC h1 (hcLwDoC (c := (.st [0] [0])) rfl hnLwDoC)))
theorem dwd_2 {L n a b : Nat} {y18 : Nat} {y21 : Nat} (h0 : (!fle (szF a) 4652218415073722368) = false) (h1 : (!fle (szF b) 4652218415073722368) = false) (h2 : Con.holds ⟨fnOf, specNe, L⟩ (runF ⟨fnOf, specNe, L⟩ n) (.spec 68 [(.flt (a))] (.flt (y18)))) (h3 : Con.holds ⟨fnOf, specNe, L⟩ (runF ⟨fnOf, specNe, L⟩ n) (.spec 68 [(.flt (b))] (.flt (y21)))) : den ⟨fnOf, specNe, L⟩ (n+1) 54 [.cpx a b] = some (.agg [(AV.cpx (y18) (y21)), (.v (.bool false))]) :=
  denD_sound (q := [((some 8), (Dec.b false)), ((some 14), (Dec.b false)), ((some 18), (Dec.call (.flt (y18)))), ((some 21), (Dec.call (.flt (y21))))]) (by kernel_rfl) (hbLwDoC h0 (hbLwDoC h1 (hcLwDoC h2 (hcLwDoC h3 (hcLwDoC (c := (.st [0] [0])) rfl hnLwDoC)))))
theorem gwd_0 {L n a b : Nat} {y8 : Nat} (h0 : (fle (szF a) 4652218415073722368) = true) (h1 : Con.holds ⟨fnOf, specNe, L⟩ (runF ⟨fnOf, specNe, L⟩ n) (.spec 68 [(.flt (a))] (.flt (y8)))) : den ⟨fnOf, specNe, L⟩ (n+1) 53 [.flt a] = some (.v (.bool (feq y8 a))) :=
  denD_sound (q := [((some 6), (Dec.b true)), ((some 8), (Dec.call (.flt (y8))))]) (by kernel_rfl) (hbLwDoC h0 (hcLwDoC h1 hnLwDoC))
theorem gwd_1 {L n a b : Nat} (h0 : (fle (szF a) 4652218415073722368) = false) : den ⟨fnOf, specNe, L⟩ (n+1) 53 [.flt a] = some (.v (.bool false)) :=
  denD_sound (q := [((some 6), (Dec.b false))]) (by kernel_rfl) (hbLwDoC h0 hnLwDoC)
end Go.Proofs.Ytnphdnokedhhkaa.Fw
namespace Go.Proofs.Ytnphdnokedhhkaa.Fw
open Go Go.RowKit
def smpA (s : (Nat × Nat) × Bool) : AV := .agg [.cpx s.1.1 s.1.2, .v (.bool s.2)]
section
variable {L n a b : Nat}
theorem door_den : den ⟨fnOf, specNe, L⟩ (n+1) 52 [.cpx a b] = some (smpA (smp false (a, b))) := by
  cases h1 : wi a with
  | false =>
    have e : smp false (a, b) = ((0, 0), true) := if_neg (by simp [h1])
    rw [e]; exact dwp_2 (by rw [abs_wi, h1])
  | true =>
    cases h2 : wi b with
    | false =>
      have e : smp false (a, b) = ((0, 0), true) := if_neg (by simp [h2])
      rw [e]; exact dwp_0 (by rw [abs_wi, h1]) (by rw [abs_wi, h2]; rfl)
    | true =>
      have e : smp false (a, b) = ((nearF a, nearF b), false) := if_pos ⟨h1, h2⟩
      rw [e]; exact dwp_1 (by rw [abs_wi, h1]) (by rw [abs_wi, h2]; rfl)
theorem Door_den : den ⟨fnOf, specNe, L⟩ (n+1) 54 [.cpx a b] = some (smpA (smp true (a, b))) := by
  cases h1 : wi a with
  | false =>
    have e : smp true (a, b) = ((0, 0), true) := if_neg (by simp [h1])
    rw [e]; exact dwd_0 (by rw [siz_wi, h1]; rfl)
  | true =>
    cases h2 : wi b with
    | false =>
      have e : smp true (a, b) = ((0, 0), true) := if_neg (by simp [h2])
      rw [e]; exact dwd_1 (by rw [siz_wi, h1]; rfl) (by rw [siz_wi, h2]; rfl)
    | true =>
      have e : smp true (a, b) = ((nearW a, nearW b), false) := if_pos ⟨h1, h2⟩
      rw [e]
      exact dwd_2 (by rw [siz_wi, h1]; rfl) (by rw [siz_wi, h2]; rfl) (spec_is (g := neaSem) rfl (if_pos h1)) (spec_is (g := neaSem) rfl (if_pos h2))
theorem Grid_den : den ⟨fnOf, specNe, L⟩ (n+1) 53 [.flt a] = some (.v (.bool (onD a))) := by
  cases h1 : wi a with
  | false =>
    have e : onD a = false := by unfold onD; rw [abs_wi, h1]; rfl
    rw [e]; exact gwd_1 (b := 0) (by rw [siz_wi, h1])
  | true =>
    have := @gwd_0 L n a 0 (nearW a) (by rw [siz_wi, h1]) (spec_is (g := neaSem) rfl (if_pos h1))
    rw [onD_near h1] at this
    exact this
end
def doorSem (doc : Bool) : List AV → Option AV
  | [.cpx a b] => some (smpA (smp doc (a, b)))
  | _ => none
def gridSem : List AV → Option AV
  | [.flt a] => some (.v (.bool (onD a)))
  | _ => none
def newA1 : FuncId → Option (List AV → Option AV)
  | 52 => some (doorSem false)
  | 54 => some (doorSem true)
  | 53 => some gridSem
  | _ => none
theorem spec_a1 : SpecOk Try.prog ⟨fnOf, fun f => match newA1 f with | some g => some g | none => specNe f, 0⟩ :=
  spec_adds spec_ne (fun L => fnsOk _ _) follows newA1 fun f g h => by
    unfold newA1 at h
    split at h
    · cases h
      refine ⟨⟨_, Try.func52, ne_of_beq_false (by kernel_rfl), by kernel_rfl⟩, fun avs r h => ?_⟩
      unfold doorSem at h
      split at h
      · cases h; exact told (P := ⟨fnOf, specNe, 0⟩) ⟨0, 1, door_den⟩
      · cases h
    · cases h
      refine ⟨⟨_, Try.func54, ne_of_beq_false (by kernel_rfl), by kernel_rfl⟩, fun avs r h => ?_⟩
      unfold doorSem at h
      split at h
      · cases h; exact told (P := ⟨fnOf, specNe, 0⟩) ⟨0, 1, Door_den⟩
      · cases h
    · cases h
      refine ⟨⟨_, Try.func53, ne_of_beq_false (by kernel_rfl), by kernel_rfl⟩, fun avs r h => ?_⟩
      unfold gridSem at h
      split at h
      · cases h; exact told (P := ⟨fnOf, specNe, 0⟩) ⟨0, 1, Grid_den⟩
      · cases h
    · cases h
def specA : FuncId → Option (List AV → Option AV) := fun f => match newA1 f with | some g => some g | none => specY f
theorem spec_a : SpecOk Try.prog ⟨fnOf, specA, 0⟩ := by
  intro f g h
  have h : (match newA1 f with | some g => some g | none => specY f) = some g := h
  unfold newA1 at h
  split at h
  · rename_i g' hq
    split at hq
    · cases hq; cases h; exact spec_a1 52 _ rfl
    · cases hq; cases h; exact spec_a1 54 _ rfl
    · cases hq; cases h; exact spec_a1 53 _ rfl
    · cases hq
  · exact spec_y f g h
end Go.Proofs.Ytnphdnokedhhkaa.Fw
namespace Go.Proofs.Ytnphdnokedhhkaa.Fw
open Go Go.RowKit
abbrev HLwArAspecA (L n : Nat) : Con → Prop := Con.holds ⟨fnOf, specA, L⟩ (runF ⟨fnOf, specA, L⟩ n)
theorem hnLwArA {P : Prog} {C : Caller} : Holds P C [] := trivial
theorem hcLwArA {P : Prog} {C : Caller} {c : Con} {cs : List Con} (h : c.holds P C) (t : Holds P C cs) : Holds P C (c :: cs) := ⟨h, t⟩
theorem hbLwArA {P : Prog} {C : Caller} {x y : Bool} {cs : List Con} (h : x = y) (t : Holds P C cs) : Holds P C (.b x y :: cs) := ⟨h, t⟩

def celBu (b : (Int × Int) × (Nat × Nat) × Bool) : List AV := [.int .i64 b.1.1, .int .i64 b.1.2, .cpx b.2.1.1 b.2.1.2, .v (.bool b.2.2)]
def arV (ds us : List (Nat × Nat)) (bs : List ((Int × Int) × (Nat × Nat) × Bool)) (nn : Int) (lu i : Nat) : St := ⟨[(3, .lst 1 (ds.map celC)), (4, .lst 4 (bs.map celBu)), (5, .int .i64 nn), (14, .slc ⟨0,32,0⟩ [1,7] 1 0 lu false), (46, .lst 4 (bs.map celBu)), (47, .int .i64 (bs.map celBu).length), (48, .int .i64 i)], [(⟨0,32,0⟩, ⟨[1,7], us.map celC, 1, true⟩)], 0⟩
def adV (ds us : List (Nat × Nat)) (bs : List ((Int × Int) × (Nat × Nat) × Bool)) (nn : Int) (lu i : Nat) : St := ⟨[(3, .lst 1 (ds.map celC)), (4, .lst 4 (bs.map celBu)), (5, .int .i64 nn), (14, .slc ⟨0,28,0⟩ [1,7] 1 0 lu false), (16, .int .i64 i)], [(⟨0,28,0⟩, ⟨[1,7], us.map celC, 1, true⟩)], 0⟩
def arD (ds us : List (Nat × Nat)) (bs : List ((Int × Int) × (Nat × Nat) × Bool)) (nn : Int) (lu i : Nat) : St := ⟨[(4, .lst 4 (bs.map celBu)), (5, .int .i64 nn), (14, .slc ⟨0,32,0⟩ [1,7] 1 0 lu false), (61, .lst 1 (ds.map celC)), (62, .int .i64 (ds.map celC).length), (63, .int .i64 i)], [(⟨0,32,0⟩, ⟨[1,7], us.map celC, 1, true⟩)], 0⟩
def adD (ds us : List (Nat × Nat)) (bs : List ((Int × Int) × (Nat × Nat) × Bool)) (nn : Int) (lu i : Nat) : St := ⟨[(3, .lst 1 (ds.map celC)), (4, .lst 4 (bs.map celBu)), (5, .int .i64 nn), (14, .slc ⟨0,28,0⟩ [1,7] 1 0 lu false), (17, .int .i64 i)], [(⟨0,28,0⟩, ⟨[1,7], us.map celC, 1, true⟩)], 0⟩
def arO (us : List (Nat × Nat)) (os : List ((Nat × Nat) × Bool)) (bs : List ((Int × Int) × (Nat × Nat) × Bool)) (nn : Int) (lu lo i : Nat) : St := ⟨[(4, .lst 4 (bs.map celBu)), (5, .int .i64 nn), (20, .slc ⟨0,90,0⟩ [32] 2 0 lo true), (91, .slc ⟨0,32,0⟩ [1,7] 1 0 lu false), (92, .int .i64 lu), (93, .int .i64 i)], [(⟨0,32,0⟩, ⟨[1,7], us.map celC, 1, true⟩), (⟨0,90,0⟩, ⟨[32], os.map celS, 2, true⟩)], 0⟩
def adO (ds us : List (Nat × Nat)) (os : List ((Nat × Nat) × Bool)) (bs : List ((Int × Int) × (Nat × Nat) × Bool)) (nn : Int) (st : List Nat) (lu lo i : Nat) : St := ⟨[(3, .lst 1 (ds.map celC)), (4, .lst 4 (bs.map celBu)), (5, .int .i64 nn), (14, .slc ⟨0,28,0⟩ [1,7] 1 0 lu false), (18, .slc ⟨0,18,1000⟩ st 2 0 lo false), (19, .int .i64 i)], [(⟨0,18,1000⟩, ⟨st, os.map celS, 2, true⟩), (⟨0,28,0⟩, ⟨[1,7], us.map celC, 1, true⟩)], 0⟩
def arB (os : List ((Nat × Nat) × Bool)) (bs : List ((Int × Int) × (Nat × Nat) × Bool)) (nn : Int) (lo i : Nat) : St := ⟨[(5, .int .i64 nn), (20, .slc ⟨0,90,0⟩ [32] 2 0 lo true), (104, .lst 4 (bs.map celBu)), (105, .int .i64 (bs.map celBu).length), (106, .int .i64 i)], [(⟨0,90,0⟩, ⟨[32], os.map celS, 2, true⟩)], 0⟩
def adI (ds us : List (Nat × Nat)) (os : List ((Nat × Nat) × Bool)) (bs : List ((Int × Int) × (Nat × Nat) × Bool)) (nn : Int) (st τ : List Nat) (lu lo i : Nat) (v : (Nat × Nat) × Bool) (j : Nat) : St := ⟨[(3, .lst 1 (ds.map celC)), (4, .lst 4 (bs.map celBu)), (5, .int .i64 nn), (14, .slc ⟨0,28,0⟩ [1,7] 1 0 lu false), (18, .slc ⟨0,18,1000⟩ st 2 0 lo false), (19, .int .i64 i), (21, .ptr ⟨0,21,0⟩ τ 0 0), (22, .int .i64 j)], [(⟨0,18,1000⟩, ⟨st, os.map celS, 2, true⟩), (⟨0,28,0⟩, ⟨[1,7], us.map celC, 1, true⟩), (⟨0,21,0⟩, ⟨τ, [celS v], 2, true⟩)], 0⟩
def arI (os : List ((Nat × Nat) × Bool)) (bs : List ((Int × Int) × (Nat × Nat) × Bool)) (nn : Int) (τ σ : List Nat) (b : (Int × Int) × (Nat × Nat) × Bool) (v : (Nat × Nat) × Bool) (lo i j : Nat) : St := ⟨[(5, .int .i64 nn), (20, .slc ⟨0,90,0⟩ [32] 2 0 lo true), (24, .ptr ⟨0,24,0⟩ τ 0 0), (25, .ptr ⟨0,25,0⟩ σ 0 0), (104, .lst 4 (bs.map celBu)), (105, .int .i64 (bs.map celBu).length), (106, .int .i64 i), (117, .int .i64 b.1.2), (118, .int .i64 j)], [(⟨0,90,0⟩, ⟨[32], os.map celS, 2, true⟩), (⟨0,24,0⟩, ⟨τ, [celBu b], 4, true⟩), (⟨0,25,0⟩, ⟨σ, [celS v], 2, true⟩)], 0⟩
theorem arp_0 {L n : Nat} {rate delay nn : Int} {ts es xs vs ds : List (Nat × Nat)} {us u2 : List (Nat × Nat)} {lu lo i : Nat} {os o2 : List ((Nat × Nat) × Bool)} {st π : List Nat} {bs : List ((Int × Int) × (Nat × Nat) × Bool)} {i2 i3 i4 : Nat} {us32 : List (Nat × Nat)} {e32 : Int} (h0 : HLwArAspecA L n (.spec 19 [(.agg [(.v (.int .i64 (rate))), (.v (.int .i64 (delay))), (.lst 1 (List.map celC ts)), (.lst 1 (List.map celC es))]), (.lst 1 (List.map celC xs)), (.lst 1 (List.map celC vs)), (.v (.int .i64 (nn)))] (.tup [(.own 1 (List.map celC us32) true), (.v (.int .i64 (e32)))]))) (h1 : (e32 != 0) = true) : den ⟨fnOf, specA, L⟩ (n+1) 31 [.agg [.int .i64 rate, .int .i64 delay, .lst 1 (ts.map celC), .lst 1 (es.map celC)], .lst 1 (xs.map celC), .lst 1 (vs.map celC), .lst 1 (ds.map celC), .lst 4 (bs.map celBu), .int .i64 nn] = some (.tup [.nils, (.v (.int .i64 (e32)))]) :=
  denD_sound (q := [((some 32), (Dec.call (.tup [(.own 1 (List.map celC us32) true), (.v (.int .i64 (e32)))]))), ((some 36), (Dec.b true))]) (by kernel_rfl) (hcLwArA (c := (.st [0] [0])) rfl (hcLwArA h0 (hbLwArA h1 hnLwArA)))
theorem arp_1 {L n : Nat} {rate delay nn : Int} {ts es xs vs ds : List (Nat × Nat)} {us u2 : List (Nat × Nat)} {lu lo i : Nat} {os o2 : List ((Nat × Nat) × Bool)} {st π : List Nat} {bs : List ((Int × Int) × (Nat × Nat) × Bool)} {i2 i3 i4 : Nat} {us32 : List (Nat × Nat)} {e32 : Int} (h0 : HLwArAspecA L n (.spec 19 [(.agg [(.v (.int .i64 (rate))), (.v (.int .i64 (delay))), (.lst 1 (List.map celC ts)), (.lst 1 (List.map celC es))]), (.lst 1 (List.map celC xs)), (.lst 1 (List.map celC vs)), (.v (.int .i64 (nn)))] (.tup [(.own 1 (List.map celC us32) true), (.v (.int .i64 (e32)))]))) (h1 : (e32 != 0) = false) (h2 : (decide ((↑(List.map celC ds).length : Int) > 65536)) = true) : den ⟨fnOf, specA, L⟩ (n+1) 31 [.agg [.int .i64 rate, .int .i64 delay, .lst 1 (ts.map celC), .lst 1 (es.map celC)], .lst 1 (xs.map celC), .lst 1 (vs.map celC), .lst 1 (ds.map celC), .lst 4 (bs.map celBu), .int .i64 nn] = some (.tup [.nils, (.v (.int .i64 1))]) :=
  denD_sound (q := [((some 32), (Dec.call (.tup [(.own 1 (List.map celC us32) true), (.v (.int .i64 (e32)))]))), ((some 36), (Dec.b false)), ((some 41), (Dec.b true))]) (by kernel_rfl) (hcLwArA (c := (.st [0] [0])) rfl (hcLwArA h0 (hbLwArA h1 (hbLwArA h2 hnLwArA))))
theorem arp_2 {L n : Nat} {rate delay nn : Int} {ts es xs vs ds : List (Nat × Nat)} {us u2 : List (Nat × Nat)} {lu lo i : Nat} {os o2 : List ((Nat × Nat) × Bool)} {st π : List Nat} {bs : List ((Int × Int) × (Nat × Nat) × Bool)} {i2 i3 i4 : Nat} {us32 : List (Nat × Nat)} {e32 : Int} (h0 : HLwArAspecA L n (.spec 19 [(.agg [(.v (.int .i64 (rate))), (.v (.int .i64 (delay))), (.lst 1 (List.map celC ts)), (.lst 1 (List.map celC es))]), (.lst 1 (List.map celC xs)), (.lst 1 (List.map celC vs)), (.v (.int .i64 (nn)))] (.tup [(.own 1 (List.map celC us32) true), (.v (.int .i64 (e32)))]))) (h1 : (e32 != 0) = false) (h2 : (decide ((↑(List.map celC ds).length : Int) > 65536)) = false) (h3 : (decide ((↑(List.map celBu bs).length : Int) > 5000)) = true) : den ⟨fnOf, specA, L⟩ (n+1) 31 [.agg [.int .i64 rate, .int .i64 delay, .lst 1 (ts.map celC), .lst 1 (es.map celC)], .lst 1 (xs.map celC), .lst 1 (vs.map celC), .lst 1 (ds.map celC), .lst 4 (bs.map celBu), .int .i64 nn] = some (.tup [.nils, (.v (.int .i64 1))]) :=
  denD_sound (q := [((some 32), (Dec.call (.tup [(.own 1 (List.map celC us32) true), (.v (.int .i64 (e32)))]))), ((some 36), (Dec.b false)), ((some 41), (Dec.b false)), ((some 45), (Dec.b true))]) (by kernel_rfl) (hcLwArA (c := (.st [0] [0])) rfl (hcLwArA h0 (hbLwArA h1 (hbLwArA h2 (hbLwArA h3 hnLwArA)))))
theorem arp_3 {L n : Nat} {rate delay nn : Int} {ts es xs vs ds : List (Nat × Nat)} {us u2 : List (Nat × Nat)} {lu lo i : Nat} {os o2 : List ((Nat × Nat) × Bool)} {st π : List Nat} {bs : List ((Int × Int) × (Nat × Nat) × Bool)} {i2 i3 i4 : Nat} {us32 : List (Nat × Nat)} {e32 : Int} {m90 : Nat} (h0 : HLwArAspecA L n (.spec 19 [(.agg [(.v (.int .i64 (rate))), (.v (.int .i64 (delay))), (.lst 1 (List.map celC ts)), (.lst 1 (List.map celC es))]), (.lst 1 (List.map celC xs)), (.lst 1 (List.map celC vs)), (.v (.int .i64 (nn)))] (.tup [(.own 1 (List.map celC us32) true), (.v (.int .i64 (e32)))]))) (h1 : (e32 != 0) = false) (h2 : (decide ((↑(List.map celC ds).length : Int) > 65536)) = false) (h3 : (decide ((↑(List.map celBu bs).length : Int) > 5000)) = false) (h4 : HLwArAspecA L n (.loop 0 [3, 4, 5, 14, 46, 47, 48] m31b4 [26] (.mk [(3, (.lst 1 (List.map celC ds))), (4, (.lst 4 (List.map celBu bs))), (5, (.v (.int .i64 (nn)))), (14, (.slc (.mk 0 32 0) [1, 7] 1 0 (List.length (List.map celC us32)) false)), (46, (.lst 4 (List.map celBu bs))), (47, (.v (.int .i64 ((↑(List.map celBu bs).length : Int))))), (48, (.v (.int .i64 0)))] [((.mk 0 32 0), (.mk [1, 7] (List.map celC us32) 1 true))] 0) (.exit 0) (.mk [(3, (.lst 1 (List.map celC ds))), (4, (.lst 4 (List.map celBu bs))), (5, (.v (.int .i64 (nn)))), (14, (.slc (.mk 0 32 0) [1, 7] 1 0 (lu) false)), (46, (.lst 4 (List.map celBu bs))), (47, (.v (.int .i64 ((↑(List.map celBu bs).length : Int))))), (48, (.v (.int .i64 ((↑i : Int)))))] [((.mk 0 32 0), (.mk [1, 7] (List.map celC us) 1 true))] 0))) (h5 : HLwArAspecA L n (.loop 0 [4, 5, 14, 61, 62, 63] m31b3 [30] (.mk [(4, (.lst 4 (List.map celBu bs))), (5, (.v (.int .i64 (nn)))), (14, (.slc (.mk 0 32 0) [1, 7] 1 0 (lu) false)), (61, (.lst 1 (List.map celC ds))), (62, (.v (.int .i64 ((↑(List.map celC ds).length : Int))))), (63, (.v (.int .i64 0)))] [((.mk 0 32 0), (.mk [1, 7] (List.map celC us) 1 true))] 0) (.exit 2) (.mk [(4, (.lst 4 (List.map celBu bs))), (5, (.v (.int .i64 (nn)))), (14, (.slc (.mk 0 32 0) [1, 7] 1 0 (lu) false)), (61, (.lst 1 (List.map celC ds))), (62, (.v (.int .i64 ((↑(List.map celC ds).length : Int))))), (63, (.v (.int .i64 ((↑i2 : Int)))))] [((.mk 0 32 0), (.mk [1, 7] (List.map celC u2) 1 true))] 0))) (h6 : HLwArAspecA L n (.mk (m90) (m90) true (List.map celS (List.replicate m90 ((0, 0), false))) (nn) (nn) 24 [(AV.cpx 0 0), (.v (.bool false))])) (h7 : HLwArAspecA L n (.loop 0 [4, 5, 20, 91, 92, 93] m31b2 [37] (.mk [(4, (.lst 4 (List.map celBu bs))), (5, (.v (.int .i64 (nn)))), (20, (.slc (.mk 0 90 0) [32] 2 0 (m90) true)), (91, (.slc (.mk 0 32 0) [1, 7] 1 0 (lu) false)), (92, (.v (.int .i64 ((↑lu : Int))))), (93, (.v (.int .i64 0)))] [((.mk 0 32 0), (.mk [1, 7] (List.map celC u2) 1 true)), ((.mk 0 90 0), (.mk [32] (List.map celS (List.replicate m90 ((0, 0), false))) 2 true))] 0) (.exit 4) (.mk [(4, (.lst 4 (List.map celBu bs))), (5, (.v (.int .i64 (nn)))), (20, (.slc (.mk 0 90 0) [32] 2 0 (lo) true)), (91, (.slc (.mk 0 32 0) [1, 7] 1 0 (lu) false)), (92, (.v (.int .i64 ((↑lu : Int))))), (93, (.v (.int .i64 ((↑i3 : Int)))))] [((.mk 0 32 0), (.mk [1, 7] (List.map celC u2) 1 true)), ((.mk 0 90 0), (.mk [32] (List.map celS os) 2 true))] 0))) (h8 : HLwArAspecA L n (.loop 0 [5, 20, 104, 105, 106] m31b1 [41] (.mk [(5, (.v (.int .i64 (nn)))), (20, (.slc (.mk 0 90 0) [32] 2 0 (lo) true)), (104, (.lst 4 (List.map celBu bs))), (105, (.v (.int .i64 ((↑(List.map celBu bs).length : Int))))), (106, (.v (.int .i64 0)))] [((.mk 0 90 0), (.mk [32] (List.map celS os) 2 true))] 0) (.exit 6) (.mk [(5, (.v (.int .i64 (nn)))), (20, (.slc (.mk 0 90 0) [32] 2 0 (lo) true)), (104, (.lst 4 (List.map celBu bs))), (105, (.v (.int .i64 ((↑(List.map celBu bs).length : Int))))), (106, (.v (.int .i64 ((↑i4 : Int)))))] [((.mk 0 90 0), (.mk [32] (List.map celS o2) 2 true))] 0))) (h9 : HLwArAspecA L n (.le (lo) (List.length (List.map celS o2)))) : den ⟨fnOf, specA, L⟩ (n+1) 31 [.agg [.int .i64 rate, .int .i64 delay, .lst 1 (ts.map celC), .lst 1 (es.map celC)], .lst 1 (xs.map celC), .lst 1 (vs.map celC), .lst 1 (ds.map celC), .lst 4 (bs.map celBu), .int .i64 nn] = some (.tup [(.own 2 (List.take (lo) (List.map celS o2)) true), (.v (.int .i64 0))]) :=
  denD_sound (q := [((some 32), (Dec.call (.tup [(.own 1 (List.map celC us32) true), (.v (.int .i64 (e32)))]))), ((some 36), (Dec.b false)), ((some 41), (Dec.b false)), ((some 45), (Dec.b false)), ((some 200004), (Dec.loop (.exit 0) (.mk [(3, (.lst 1 (List.map celC ds))), (4, (.lst 4 (List.map celBu bs))), (5, (.v (.int .i64 (nn)))), (14, (.slc (.mk 0 32 0) [1, 7] 1 0 (lu) false)), (46, (.lst 4 (List.map celBu bs))), (47, (.v (.int .i64 ((↑(List.map celBu bs).length : Int))))), (48, (.v (.int .i64 ((↑i : Int)))))] [((.mk 0 32 0), (.mk [1, 7] (List.map celC us) 1 true))] 0))), ((some 200003), (Dec.loop (.exit 2) (.mk [(4, (.lst 4 (List.map celBu bs))), (5, (.v (.int .i64 (nn)))), (14, (.slc (.mk 0 32 0) [1, 7] 1 0 (lu) false)), (61, (.lst 1 (List.map celC ds))), (62, (.v (.int .i64 ((↑(List.map celC ds).length : Int))))), (63, (.v (.int .i64 ((↑i2 : Int)))))] [((.mk 0 32 0), (.mk [1, 7] (List.map celC u2) 1 true))] 0))), ((some 90), (Dec.mk (m90) (m90) true (List.map celS (List.replicate m90 ((0, 0), false))))), ((some 200002), (Dec.loop (.exit 4) (.mk [(4, (.lst 4 (List.map celBu bs))), (5, (.v (.int .i64 (nn)))), (20, (.slc (.mk 0 90 0) [32] 2 0 (lo) true)), (91, (.slc (.mk 0 32 0) [1, 7] 1 0 (lu) false)), (92, (.v (.int .i64 ((↑lu : Int))))), (93, (.v (.int .i64 ((↑i3 : Int)))))] [((.mk 0 32 0), (.mk [1, 7] (List.map celC u2) 1 true)), ((.mk 0 90 0), (.mk [32] (List.map celS os) 2 true))] 0))), ((some 200001), (Dec.loop (.exit 6) (.mk [(5, (.v (.int .i64 (nn)))), (20, (.slc (.mk 0 90 0) [32] 2 0 (lo) true)), (104, (.lst 4 (List.map celBu bs))), (105, (.v (.int .i64 ((↑(List.map celBu bs).length : Int))))), (106, (.v (.int .i64 ((↑i4 : Int)))))] [((.mk 0 90 0), (.mk [32] (List.map celS o2) 2 true))] 0)))]) (by kernel_rfl) (hcLwArA (c := (.st [0] [0])) rfl (hcLwArA h0 (hbLwArA h1 (hbLwArA h2 (hbLwArA h3 (hcLwArA h4 (hcLwArA h5 (hcLwArA h6 (hcLwArA h7 (hcLwArA h8 (hcLwArA (c := (.st [32] [32])) rfl (hcLwArA h9 hnLwArA))))))))))))
theorem ard_0 {L n : Nat} {rate delay nn : Int} {ts es xs vs ds : List (Nat × Nat)} {us u2 : List (Nat × Nat)} {lu lo i : Nat} {os o2 : List ((Nat × Nat) × Bool)} {st π : List Nat} {bs : List ((Int × Int) × (Nat × Nat) × Bool)} {i2 i3 i4 : Nat} {us28 : List (Nat × Nat)} {e28 : Int} (h0 : HLwArAspecA L n (.spec 20 [(.agg [(.v (.int .i64 (rate))), (.v (.int .i64 (delay))), (.lst 1 (List.map celC ts)), (.lst 1 (List.map celC es))]), (.lst 1 (List.map celC xs)), (.lst 1 (List.map celC vs)), (.v (.int .i64 (nn)))] (.tup [(.own 1 (List.map celC us28) true), (.v (.int .i64 (e28)))]))) (h1 : (e28 != 0) = true) : den ⟨fnOf, specA, L⟩ (n+1) 32 [.agg [.int .i64 rate, .int .i64 delay, .lst 1 (ts.map celC), .lst 1 (es.map celC)], .lst 1 (xs.map celC), .lst 1 (vs.map celC), .lst 1 (ds.map celC), .lst 4 (bs.map celBu), .int .i64 nn] = some (.tup [.nils, (.v (.int .i64 (e28)))]) :=
  denD_sound (q := [((some 28), (Dec.call (.tup [(.own 1 (List.map celC us28) true), (.v (.int .i64 (e28)))]))), ((some 32), (Dec.b true))]) (by kernel_rfl) (hcLwArA (c := (.st [0] [0])) rfl (hcLwArA h0 (hbLwArA h1 hnLwArA)))
theorem ard_1 {L n : Nat} {rate delay nn : Int} {ts es xs vs ds : List (Nat × Nat)} {us u2 : List (Nat × Nat)} {lu lo i : Nat} {os o2 : List ((Nat × Nat) × Bool)} {st π : List Nat} {bs : List ((Int × Int) × (Nat × Nat) × Bool)} {i2 i3 i4 : Nat} {us28 : List (Nat × Nat)} {e28 : Int} (h0 : HLwArAspecA L n (.spec 20 [(.agg [(.v (.int .i64 (rate))), (.v (.int .i64 (delay))), (.lst 1 (List.map celC ts)), (.lst 1 (List.map celC es))]), (.lst 1 (List.map celC xs)), (.lst 1 (List.map celC vs)), (.v (.int .i64 (nn)))] (.tup [(.own 1 (List.map celC us28) true), (.v (.int .i64 (e28)))]))) (h1 : (e28 != 0) = false) (h2 : (decide ((↑(List.map celC ds).length : Int) > 65536)) = true) : den ⟨fnOf, specA, L⟩ (n+1) 32 [.agg [.int .i64 rate, .int .i64 delay, .lst 1 (ts.map celC), .lst 1 (es.map celC)], .lst 1 (xs.map celC), .lst 1 (vs.map celC), .lst 1 (ds.map celC), .lst 4 (bs.map celBu), .int .i64 nn] = some (.tup [.nils, (.v (.int .i64 1))]) :=
  denD_sound (q := [((some 28), (Dec.call (.tup [(.own 1 (List.map celC us28) true), (.v (.int .i64 (e28)))]))), ((some 32), (Dec.b false)), ((some 37), (Dec.b true))]) (by kernel_rfl) (hcLwArA (c := (.st [0] [0])) rfl (hcLwArA h0 (hbLwArA h1 (hbLwArA h2 hnLwArA))))
theorem ard_2 {L n : Nat} {rate delay nn : Int} {ts es xs vs ds : List (Nat × Nat)} {us u2 : List (Nat × Nat)} {lu lo i : Nat} {os o2 : List ((Nat × Nat) × Bool)} {st π : List Nat} {bs : List ((Int × Int) × (Nat × Nat) × Bool)} {i2 i3 i4 : Nat} {us28 : List (Nat × Nat)} {e28 : Int} (h0 : HLwArAspecA L n (.spec 20 [(.agg [(.v (.int .i64 (rate))), (.v (.int .i64 (delay))), (.lst 1 (List.map celC ts)), (.lst 1 (List.map celC es))]), (.lst 1 (List.map celC xs)), (.lst 1 (List.map celC vs)), (.v (.int .i64 (nn)))] (.tup [(.own 1 (List.map celC us28) true), (.v (.int .i64 (e28)))]))) (h1 : (e28 != 0) = false) (h2 : (decide ((↑(List.map celC ds).length : Int) > 65536)) = false) (h3 : (decide ((↑(List.map celBu bs).length : Int) > 5000)) = true) : den ⟨fnOf, specA, L⟩ (n+1) 32 [.agg [.int .i64 rate, .int .i64 delay, .lst 1 (ts.map celC), .lst 1 (es.map celC)], .lst 1 (xs.map celC), .lst 1 (vs.map celC), .lst 1 (ds.map celC), .lst 4 (bs.map celBu), .int .i64 nn] = some (.tup [.nils, (.v (.int .i64 1))]) :=
  denD_sound (q := [((some 28), (Dec.call (.tup [(.own 1 (List.map celC us28) true), (.v (.int .i64 (e28)))]))), ((some 32), (Dec.b false)), ((some 37), (Dec.b false)), ((some 41), (Dec.b true))]) (by kernel_rfl) (hcLwArA (c := (.st [0] [0])) rfl (hcLwArA h0 (hbLwArA h1 (hbLwArA h2 (hbLwArA h3 hnLwArA)))))
theorem ard_3 {L n : Nat} {rate delay nn : Int} {ts es xs vs ds : List (Nat × Nat)} {us u2 : List (Nat × Nat)} {lu lo i : Nat} {os o2 : List ((Nat × Nat) × Bool)} {st π : List Nat} {bs : List ((Int × Int) × (Nat × Nat) × Bool)} {i2 i3 i4 : Nat} {us28 : List (Nat × Nat)} {e28 : Int} (h0 : HLwArAspecA L n (.spec 20 [(.agg [(.v (.int .i64 (rate))), (.v (.int .i64 (delay))), (.lst 1 (List.map celC ts)), (.lst 1 (List.map celC es))]), (.lst 1 (List.map celC xs)), (.lst 1 (List.map celC vs)), (.v (.int .i64 (nn)))] (.tup [(.own 1 (List.map celC us28) true), (.v (.int .i64 (e28)))]))) (h1 : (e28 != 0) = false) (h2 : (decide ((↑(List.map celC ds).length : Int) > 65536)) = false) (h3 : (decide ((↑(List.map celBu bs).length : Int) > 5000)) = false) (h4 : HLwArAspecA L n (.loop 0 [3, 4, 5, 14, 16] m32b3 [24] (.mk [(3, (.lst 1 (List.map celC ds))), (4, (.lst 4 (List.map celBu bs))), (5, (.v (.int .i64 (nn)))), (14, (.slc (.mk 0 28 0) [1, 7] 1 0 (List.length (List.map celC us28)) false)), (16, (.v (.int .i64 0)))] [((.mk 0 28 0), (.mk [1, 7] (List.map celC us28) 1 true))] 0) (.exit 0) (.mk [(3, (.lst 1 (List.map celC ds))), (4, (.lst 4 (List.map celBu bs))), (5, (.v (.int .i64 (nn)))), (14, (.slc (.mk 0 28 0) [1, 7] 1 0 (lu) false)), (16, (.v (.int .i64 ((↑i : Int)))))] [((.mk 0 28 0), (.mk [1, 7] (List.map celC us) 1 true))] 0))) (h5 : HLwArAspecA L n (.loop 0 [3, 4, 5, 14, 17] m32b2 [26] (.mk [(3, (.lst 1 (List.map celC ds))), (4, (.lst 4 (List.map celBu bs))), (5, (.v (.int .i64 (nn)))), (14, (.slc (.mk 0 28 0) [1, 7] 1 0 (lu) false)), (17, (.v (.int .i64 0)))] [((.mk 0 28 0), (.mk [1, 7] (List.map celC us) 1 true))] 0) (.exit 2) (.mk [(3, (.lst 1 (List.map celC ds))), (4, (.lst 4 (List.map celBu bs))), (5, (.v (.int .i64 (nn)))), (14, (.slc (.mk 0 28 0) [1, 7] 1 0 (lu) false)), (17, (.v (.int .i64 ((↑i2 : Int)))))] [((.mk 0 28 0), (.mk [1, 7] (List.map celC us) 1 true))] 0))) (h6 : HLwArAspecA L n (.loop 0 [3, 4, 5, 14, 18, 19] m32b1 [29] (.mk [(3, (.lst 1 (List.map celC ds))), (4, (.lst 4 (List.map celBu bs))), (5, (.v (.int .i64 (nn)))), (14, (.slc (.mk 0 28 0) [1, 7] 1 0 (lu) false)), (18, (.slc (.mk 0 18 1000) [29] 2 0 0 false)), (19, (.v (.int .i64 0)))] [((.mk 0 18 1000), (.mk [29] [] 2 true)), ((.mk 0 28 0), (.mk [1, 7] (List.map celC us) 1 true))] 0) (.exit 4) (.mk [(3, (.lst 1 (List.map celC ds))), (4, (.lst 4 (List.map celBu bs))), (5, (.v (.int .i64 (nn)))), (14, (.slc (.mk 0 28 0) [1, 7] 1 0 (lu) false)), (18, (.slc (.mk 0 18 1000) (st) 2 0 (lo) false)), (19, (.v (.int .i64 ((↑i3 : Int)))))] [((.mk 0 18 1000), (.mk (st) (List.map celS os) 2 true)), ((.mk 0 28 0), (.mk [1, 7] (List.map celC us) 1 true))] 0))) (h7 : HLwArAspecA L n (.le (lo) (List.length (List.map celS os)))) : den ⟨fnOf, specA, L⟩ (n+1) 32 [.agg [.int .i64 rate, .int .i64 delay, .lst 1 (ts.map celC), .lst 1 (es.map celC)], .lst 1 (xs.map celC), .lst 1 (vs.map celC), .lst 1 (ds.map celC), .lst 4 (bs.map celBu), .int .i64 nn] = some (.tup [(.own 2 (List.take (lo) (List.map celS os)) true), (.v (.int .i64 0))]) :=
  denD_sound (q := [((some 28), (Dec.call (.tup [(.own 1 (List.map celC us28) true), (.v (.int .i64 (e28)))]))), ((some 32), (Dec.b false)), ((some 37), (Dec.b false)), ((some 41), (Dec.b false)), ((some 200003), (Dec.loop (.exit 0) (.mk [(3, (.lst 1 (List.map celC ds))), (4, (.lst 4 (List.map celBu bs))), (5, (.v (.int .i64 (nn)))), (14, (.slc (.mk 0 28 0) [1, 7] 1 0 (lu) false)), (16, (.v (.int .i64 ((↑i : Int)))))] [((.mk 0 28 0), (.mk [1, 7] (List.map celC us) 1 true))] 0))), ((some 200002), (Dec.loop (.exit 2) (.mk [(3, (.lst 1 (List.map celC ds))), (4, (.lst 4 (List.map celBu bs))), (5, (.v (.int .i64 (nn)))), (14, (.slc (.mk 0 28 0) [1, 7] 1 0 (lu) false)), (17, (.v (.int .i64 ((↑i2 : Int)))))] [((.mk 0 28 0), (.mk [1, 7] (List.map celC us) 1 true))] 0))), ((some 200001), (Dec.loop (.exit 4) (.mk [(3, (.lst 1 (List.map celC ds))), (4, (.lst 4 (List.map celBu bs))), (5, (.v (.int .i64 (nn)))), (14, (.slc (.mk 0 28 0) [1, 7] 1 0 (lu) false)), (18, (.slc (.mk 0 18 1000) (st) 2 0 (lo) false)), (19, (.v (.int .i64 ((↑i3 : Int)))))] [((.mk 0 18 1000), (.mk (st) (List.map celS os) 2 true)), ((.mk 0 28 0), (.mk [1, 7] (List.map celC us) 1 true))] 0)))]) (by kernel_rfl) (hcLwArA (c := (.st [0] [0])) rfl (hcLwArA h0 (hbLwArA h1 (hbLwArA h2 (hbLwArA h3 (hcLwArA h4 (hcLwArA h5 (hcLwArA h6 (hcLwArA (c := (.st (st) (st))) rfl (hcLwArA h7 hnLwArA))))))))))
theorem aqp_3 {L n : Nat} {rate delay nn : Int} {ts es xs vs ds : List (Nat × Nat)} {us u2 : List (Nat × Nat)} {lu lo i : Nat} {os o2 : List ((Nat × Nat) × Bool)} {st π : List Nat} {bs : List ((Int × Int) × (Nat × Nat) × Bool)} {s : St} {v : AV} {us32 : List (Nat × Nat)} {e32 : Int} (h0 : HLwArAspecA L n (.spec 19 [(.agg [(.v (.int .i64 (rate))), (.v (.int .i64 (delay))), (.lst 1 (List.map celC ts)), (.lst 1 (List.map celC es))]), (.lst 1 (List.map celC xs)), (.lst 1 (List.map celC vs)), (.v (.int .i64 (nn)))] (.tup [(.own 1 (List.map celC us32) true), (.v (.int .i64 (e32)))]))) (h1 : (e32 != 0) = false) (h2 : (decide ((↑(List.map celC ds).length : Int) > 65536)) = false) (h3 : (decide ((↑(List.map celBu bs).length : Int) > 5000)) = false) (h4 : HLwArAspecA L n (.loop 0 [3, 4, 5, 14, 46, 47, 48] m31b4 [26] (.mk [(3, (.lst 1 (List.map celC ds))), (4, (.lst 4 (List.map celBu bs))), (5, (.v (.int .i64 (nn)))), (14, (.slc (.mk 0 32 0) [1, 7] 1 0 (List.length (List.map celC us32)) false)), (46, (.lst 4 (List.map celBu bs))), (47, (.v (.int .i64 ((↑(List.map celBu bs).length : Int))))), (48, (.v (.int .i64 0)))] [((.mk 0 32 0), (.mk [1, 7] (List.map celC us32) 1 true))] 0) .ret (s))) (hv : outS s m31.res = some v) : den ⟨fnOf, specA, L⟩ (n+1) 31 [.agg [.int .i64 rate, .int .i64 delay, .lst 1 (ts.map celC), .lst 1 (es.map celC)], .lst 1 (xs.map celC), .lst 1 (vs.map celC), .lst 1 (ds.map celC), .lst 4 (bs.map celBu), .int .i64 nn] = some v :=
  tailD_sound (q := [((some 32), (Dec.call (.tup [(.own 1 (List.map celC us32) true), (.v (.int .i64 (e32)))]))), ((some 36), (Dec.b false)), ((some 41), (Dec.b false)), ((some 45), (Dec.b false)), ((some 200004), (Dec.loop .ret (s)))]) (k := 27) (by kernel_rfl) rfl (hcLwArA (c := (.st [0] [0])) rfl (hcLwArA h0 (hbLwArA h1 (hbLwArA h2 (hbLwArA h3 (hcLwArA h4 hnLwArA)))))) hv
theorem aqd_3 {L n : Nat} {rate delay nn : Int} {ts es xs vs ds : List (Nat × Nat)} {us u2 : List (Nat × Nat)} {lu lo i : Nat} {os o2 : List ((Nat × Nat) × Bool)} {st π : List Nat} {bs : List ((Int × Int) × (Nat × Nat) × Bool)} {s : St} {v : AV} {us28 : List (Nat × Nat)} {e28 : Int} (h0 : HLwArAspecA L n (.spec 20 [(.agg [(.v (.int .i64 (rate))), (.v (.int .i64 (delay))), (.lst 1 (List.map celC ts)), (.lst 1 (List.map celC es))]), (.lst 1 (List.map celC xs)), (.lst 1 (List.map celC vs)), (.v (.int .i64 (nn)))] (.tup [(.own 1 (List.map celC us28) true), (.v (.int .i64 (e28)))]))) (h1 : (e28 != 0) = false) (h2 : (decide ((↑(List.map celC ds).length : Int) > 65536)) = false) (h3 : (decide ((↑(List.map celBu bs).length : Int) > 5000)) = false) (h4 : HLwArAspecA L n (.loop 0 [3, 4, 5, 14, 16] m32b3 [24] (.mk [(3, (.lst 1 (List.map celC ds))), (4, (.lst 4 (List.map celBu bs))), (5, (.v (.int .i64 (nn)))), (14, (.slc (.mk 0 28 0) [1, 7] 1 0 (List.length (List.map celC us28)) false)), (16, (.v (.int .i64 0)))] [((.mk 0 28 0), (.mk [1, 7] (List.map celC us28) 1 true))] 0) .ret (s))) (hv : outS s m32.res = some v) : den ⟨fnOf, specA, L⟩ (n+1) 32 [.agg [.int .i64 rate, .int .i64 delay, .lst 1 (ts.map celC), .lst 1 (es.map celC)], .lst 1 (xs.map celC), .lst 1 (vs.map celC), .lst 1 (ds.map celC), .lst 4 (bs.map celBu), .int .i64 nn] = some v :=
  tailD_sound (q := [((some 28), (Dec.call (.tup [(.own 1 (List.map celC us28) true), (.v (.int .i64 (e28)))]))), ((some 32), (Dec.b false)), ((some 37), (Dec.b false)), ((some 41), (Dec.b false)), ((some 200003), (Dec.loop .ret (s)))]) (k := 25) (by kernel_rfl) rfl (hcLwArA (c := (.st [0] [0])) rfl (hcLwArA h0 (hbLwArA h1 (hbLwArA h2 (hbLwArA h3 (hcLwArA h4 hnLwArA)))))) hv
theorem aup_3 {L n : Nat} {rate delay nn : Int} {ts es xs vs ds : List (Nat × Nat)} {us u2 : List (Nat × Nat)} {lu lo i : Nat} {os o2 : List ((Nat × Nat) × Bool)} {st π : List Nat} {bs : List ((Int × Int) × (Nat × Nat) × Bool)} {s : St} {v : AV} {us32 : List (Nat × Nat)} {e32 : Int} (h0 : HLwArAspecA L n (.spec 19 [(.agg [(.v (.int .i64 (rate))), (.v (.int .i64 (delay))), (.lst 1 (List.map celC ts)), (.lst 1 (List.map celC es))]), (.lst 1 (List.map celC xs)), (.lst 1 (List.map celC vs)), (.v (.int .i64 (nn)))] (.tup [(.own 1 (List.map celC us32) true), (.v (.int .i64 (e32)))]))) (h1 : (e32 != 0) = false) (h2 : (decide ((↑(List.map celC ds).length : Int) > 65536)) = false) (h3 : (decide ((↑(List.map celBu bs).length : Int) > 5000)) = false) (h4 : HLwArAspecA L n (.loop 0 [3, 4, 5, 14, 46, 47, 48] m31b4 [26] (.mk [(3, (.lst 1 (List.map celC ds))), (4, (.lst 4 (List.map celBu bs))), (5, (.v (.int .i64 (nn)))), (14, (.slc (.mk 0 32 0) [1, 7] 1 0 (List.length (List.map celC us32)) false)), (46, (.lst 4 (List.map celBu bs))), (47, (.v (.int .i64 ((↑(List.map celBu bs).length : Int))))), (48, (.v (.int .i64 0)))] [((.mk 0 32 0), (.mk [1, 7] (List.map celC us32) 1 true))] 0) (.exit 0) (.mk [(3, (.lst 1 (List.map celC ds))), (4, (.lst 4 (List.map celBu bs))), (5, (.v (.int .i64 (nn)))), (14, (.slc (.mk 0 32 0) [1, 7] 1 0 (lu) false)), (46, (.lst 4 (List.map celBu bs))), (47, (.v (.int .i64 ((↑(List.map celBu bs).length : Int))))), (48, (.v (.int .i64 ((↑i : Int)))))] [((.mk 0 32 0), (.mk [1, 7] (List.map celC us) 1 true))] 0))) (h5 : HLwArAspecA L n (.loop 0 [4, 5, 14, 61, 62, 63] m31b3 [30] (.mk [(4, (.lst 4 (List.map celBu bs))), (5, (.v (.int .i64 (nn)))), (14, (.slc (.mk 0 32 0) [1, 7] 1 0 (lu) false)), (61, (.lst 1 (List.map celC ds))), (62, (.v (.int .i64 ((↑(List.map celC ds).length : Int))))), (63, (.v (.int .i64 0)))] [((.mk 0 32 0), (.mk [1, 7] (List.map celC us) 1 true))] 0) .ret (s))) (hv : outS s m31.res = some v) : den ⟨fnOf, specA, L⟩ (n+1) 31 [.agg [.int .i64 rate, .int .i64 delay, .lst 1 (ts.map celC), .lst 1 (es.map celC)], .lst 1 (xs.map celC), .lst 1 (vs.map celC), .lst 1 (ds.map celC), .lst 4 (bs.map celBu), .int .i64 nn] = some v :=
  tailD_sound (q := [((some 32), (Dec.call (.tup [(.own 1 (List.map celC us32) true), (.v (.int .i64 (e32)))]))), ((some 36), (Dec.b false)), ((some 41), (Dec.b false)), ((some 45), (Dec.b false)), ((some 200004), (Dec.loop (.exit 0) (.mk [(3, (.lst 1 (List.map celC ds))), (4, (.lst 4 (List.map celBu bs))), (5, (.v (.int .i64 (nn)))), (14, (.slc (.mk 0 32 0) [1, 7] 1 0 (lu) false)), (46, (.lst 4 (List.map celBu bs))), (47, (.v (.int .i64 ((↑(List.map celBu bs).length : Int))))), (48, (.v (.int .i64 ((↑i : Int)))))] [((.mk 0 32 0), (.mk [1, 7] (List.map celC us) 1 true))] 0))), ((some 200003), (Dec.loop .ret (s)))]) (k := 31) (by kernel_rfl) rfl (hcLwArA (c := (.st [0] [0])) rfl (hcLwArA h0 (hbLwArA h1 (hbLwArA h2 (hbLwArA h3 (hcLwArA h4 (hcLwArA h5 hnLwArA))))))) hv
theorem aud_3 {L n : Nat} {rate delay nn : Int} {ts es xs vs ds : List (Nat × Nat)} {us u2 : List (Nat × Nat)} {lu lo i : Nat} {os o2 : List ((Nat × Nat) × Bool)} {st π : List Nat} {bs : List ((Int × Int) × (Nat × Nat) × Bool)} {s : St} {v : AV} {us28 : List (Nat × Nat)} {e28 : Int} (h0 : HLwArAspecA L n (.spec 20 [(.agg [(.v (.int .i64 (rate))), (.v (.int .i64 (delay))), (.lst 1 (List.map celC ts)), (.lst 1 (List.map celC es))]), (.lst 1 (List.map celC xs)), (.lst 1 (List.map celC vs)), (.v (.int .i64 (nn)))] (.tup [(.own 1 (List.map celC us28) true), (.v (.int .i64 (e28)))]))) (h1 : (e28 != 0) = false) (h2 : (decide ((↑(List.map celC ds).length : Int) > 65536)) = false) (h3 : (decide ((↑(List.map celBu bs).length : Int) > 5000)) = false) (h4 : HLwArAspecA L n (.loop 0 [3, 4, 5, 14, 16] m32b3 [24] (.mk [(3, (.lst 1 (List.map celC ds))), (4, (.lst 4 (List.map celBu bs))), (5, (.v (.int .i64 (nn)))), (14, (.slc (.mk 0 28 0) [1, 7] 1 0 (List.length (List.map celC us28)) false)), (16, (.v (.int .i64 0)))] [((.mk 0 28 0), (.mk [1, 7] (List.map celC us28) 1 true))] 0) (.exit 0) (.mk [(3, (.lst 1 (List.map celC ds))), (4, (.lst 4 (List.map celBu bs))), (5, (.v (.int .i64 (nn)))), (14, (.slc (.mk 0 28 0) [1, 7] 1 0 (lu) false)), (16, (.v (.int .i64 ((↑i : Int)))))] [((.mk 0 28 0), (.mk [1, 7] (List.map celC us) 1 true))] 0))) (h5 : HLwArAspecA L n (.loop 0 [3, 4, 5, 14, 17] m32b2 [26] (.mk [(3, (.lst 1 (List.map celC ds))), (4, (.lst 4 (List.map celBu bs))), (5, (.v (.int .i64 (nn)))), (14, (.slc (.mk 0 28 0) [1, 7] 1 0 (lu) false)), (17, (.v (.int .i64 0)))] [((.mk 0 28 0), (.mk [1, 7] (List.map celC us) 1 true))] 0) .ret (s))) (hv : outS s m32.res = some v) : den ⟨fnOf, specA, L⟩ (n+1) 32 [.agg [.int .i64 rate, .int .i64 delay, .lst 1 (ts.map celC), .lst 1 (es.map celC)], .lst 1 (xs.map celC), .lst 1 (vs.map celC), .lst 1 (ds.map celC), .lst 4 (bs.map celBu), .int .i64 nn] = some v :=
  tailD_sound (q := [((some 28), (Dec.call (.tup [(.own 1 (List.map celC us28) true), (.v (.int .i64 (e28)))]))), ((some 32), (Dec.b false)), ((some 37), (Dec.b false)), ((some 41), (Dec.b false)), ((some 200003), (Dec.loop (.exit 0) (.mk [(3, (.lst 1 (List.map celC ds))), (4, (.lst 4 (List.map celBu bs))), (5, (.v (.int .i64 (nn)))), (14, (.slc (.mk 0 28 0) [1, 7] 1 0 (lu) false)), (16, (.v (.int .i64 ((↑i : Int)))))] [((.mk 0 28 0), (.mk [1, 7] (List.map celC us) 1 true))] 0))), ((some 200002), (Dec.loop .ret (s)))]) (k := 27) (by kernel_rfl) rfl (hcLwArA (c := (.st [0] [0])) rfl (hcLwArA h0 (hbLwArA h1 (hbLwArA h2 (hbLwArA h3 (hcLwArA h4 (hcLwArA h5 hnLwArA))))))) hv
theorem arv_0 {L n : Nat} {rate delay nn : Int} {ts es xs vs ds : List (Nat × Nat)} {us u2 : List (Nat × Nat)} {lu lo i : Nat} {os o2 : List ((Nat × Nat) × Bool)} {st π : List Nat} {bs : List ((Int × Int) × (Nat × Nat) × Bool)} {x50 : (Int × Int) × (Nat × Nat) × Bool} (h0 : (decide ((↑i : Int) < (↑(List.map celBu bs).length : Int))) = true) (h1 : HLwArAspecA L n (.el (List.map celBu bs) (.v (.int .i64 ((↑i : Int)))) [(.v (.int .i64 (x50.fst.fst))), (.v (.int .i64 (x50.fst.snd))), (.cpx (x50.snd.fst.fst) (x50.snd.fst.snd)), (.v (.bool (x50.snd.snd)))])) (h2 : (decide (x50.fst.fst < 0)) = true) : seeZ 0 [3, 4, 5, 14, 46, 47, 48] m31.res (bodyOf ⟨fnOf, specA, L⟩ (runF ⟨fnOf, specA, L⟩ n) 0 m31b4 (i :: π) (arV ds us bs nn lu i : St)) = some (RO.out (.tup [.nils, (.v (.int .i64 1))])) :=
  rndZ_sound (q := [((some 49), (Dec.b true)), ((some 50), (Dec.el [(.v (.int .i64 (x50.fst.fst))), (.v (.int .i64 (x50.fst.snd))), (.cpx (x50.snd.fst.fst) (x50.snd.fst.snd)), (.v (.bool (x50.snd.snd)))])), ((some 55), (Dec.b true))]) (by kernel_rfl) (hbLwArA h0 (hcLwArA h1 (hcLwArA (c := (.st ([3, (i)] ++ (π)) ([3, (i)] ++ (π)))) rfl (hcLwArA (c := (.st ([3, (i)] ++ (π)) ([3, (i)] ++ (π)))) rfl (hbLwArA h2 hnLwArA)))))
theorem arv_1 {L n : Nat} {rate delay nn : Int} {ts es xs vs ds : List (Nat × Nat)} {us u2 : List (Nat × Nat)} {lu lo i : Nat} {os o2 : List ((Nat × Nat) × Bool)} {st π : List Nat} {bs : List ((Int × Int) × (Nat × Nat) × Bool)} {x50 : (Int × Int) × (Nat × Nat) × Bool} (h0 : (decide ((↑i : Int) < (↑(List.map celBu bs).length : Int))) = true) (h1 : HLwArAspecA L n (.el (List.map celBu bs) (.v (.int .i64 ((↑i : Int)))) [(.v (.int .i64 (x50.fst.fst))), (.v (.int .i64 (x50.fst.snd))), (.cpx (x50.snd.fst.fst) (x50.snd.fst.snd)), (.v (.bool (x50.snd.snd)))])) (h2 : (decide (x50.fst.fst < 0)) = false) (h3 : (decide (x50.fst.snd < 0)) = true) : seeZ 0 [3, 4, 5, 14, 46, 47, 48] m31.res (bodyOf ⟨fnOf, specA, L⟩ (runF ⟨fnOf, specA, L⟩ n) 0 m31b4 (i :: π) (arV ds us bs nn lu i : St)) = some (RO.out (.tup [.nils, (.v (.int .i64 1))])) :=
  rndZ_sound (q := [((some 49), (Dec.b true)), ((some 50), (Dec.el [(.v (.int .i64 (x50.fst.fst))), (.v (.int .i64 (x50.fst.snd))), (.cpx (x50.snd.fst.fst) (x50.snd.fst.snd)), (.v (.bool (x50.snd.snd)))])), ((some 55), (Dec.b false)), ((some 59), (Dec.b true))]) (by kernel_rfl) (hbLwArA h0 (hcLwArA h1 (hcLwArA (c := (.st ([3, (i)] ++ (π)) ([3, (i)] ++ (π)))) rfl (hcLwArA (c := (.st ([3, (i)] ++ (π)) ([3, (i)] ++ (π)))) rfl (hbLwArA h2 (hcLwArA (c := (.st ([3, (i)] ++ (π)) ([3, (i)] ++ (π)))) rfl (hbLwArA h3 hnLwArA)))))))
theorem arv_2 {L n : Nat} {rate delay nn : Int} {ts es xs vs ds : List (Nat × Nat)} {us u2 : List (Nat × Nat)} {lu lo i : Nat} {os o2 : List ((Nat × Nat) × Bool)} {st π : List Nat} {bs : List ((Int × Int) × (Nat × Nat) × Bool)} {x50 : (Int × Int) × (Nat × Nat) × Bool} (h0 : (decide ((↑i : Int) < (↑(List.map celBu bs).length : Int))) = true) (h1 : HLwArAspecA L n (.el (List.map celBu bs) (.v (.int .i64 ((↑i : Int)))) [(.v (.int .i64 (x50.fst.fst))), (.v (.int .i64 (x50.fst.snd))), (.cpx (x50.snd.fst.fst) (x50.snd.fst.snd)), (.v (.bool (x50.snd.snd)))])) (h2 : (decide (x50.fst.fst < 0)) = false) (h3 : (decide (x50.fst.snd < 0)) = false) : seeZ 0 [3, 4, 5, 14, 46, 47, 48] m31.res (bodyOf ⟨fnOf, specA, L⟩ (runF ⟨fnOf, specA, L⟩ n) 0 m31b4 (i :: π) (arV ds us bs nn lu i : St)) = some (RO.go .nrm (.mk [(3, (.lst 1 (List.map celC ds))), (4, (.lst 4 (List.map celBu bs))), (5, (.v (.int .i64 (nn)))), (14, (.slc (.mk 0 32 0) [1, 7] 1 0 (lu) false)), (46, (.lst 4 (List.map celBu bs))), (47, (.v (.int .i64 ((↑(List.map celBu bs).length : Int))))), (48, (.v (.int .i64 (IntKind.wrap .i64 ((↑i : Int) + 1)))))] [((.mk 0 32 0), (.mk [1, 7] (List.map celC us) 1 true))] 0)) :=
  rndZ_sound (q := [((some 49), (Dec.b true)), ((some 50), (Dec.el [(.v (.int .i64 (x50.fst.fst))), (.v (.int .i64 (x50.fst.snd))), (.cpx (x50.snd.fst.fst) (x50.snd.fst.snd)), (.v (.bool (x50.snd.snd)))])), ((some 55), (Dec.b false)), ((some 59), (Dec.b false))]) (by kernel_rfl) (hbLwArA h0 (hcLwArA h1 (hcLwArA (c := (.st ([3, (i)] ++ (π)) ([3, (i)] ++ (π)))) rfl (hcLwArA (c := (.st ([3, (i)] ++ (π)) ([3, (i)] ++ (π)))) rfl (hbLwArA h2 (hcLwArA (c := (.st ([3, (i)] ++ (π)) ([3, (i)] ++ (π)))) rfl (hbLwArA h3 hnLwArA)))))))
theorem arv_3 {L n : Nat} {rate delay nn : Int} {ts es xs vs ds : List (Nat × Nat)} {us u2 : List (Nat × Nat)} {lu lo i : Nat} {os o2 : List ((Nat × Nat) × Bool)} {st π : List Nat} {bs : List ((Int × Int) × (Nat × Nat) × Bool)} (h0 : (decide ((↑i : Int) < (↑(List.map celBu bs).length : Int))) = false) : seeZ 0 [3, 4, 5, 14, 46, 47, 48] m31.res (bodyOf ⟨fnOf, specA, L⟩ (runF ⟨fnOf, specA, L⟩ n) 0 m31b4 (i :: π) (arV ds us bs nn lu i : St)) = some (RO.go (.exit 0) (.mk [(3, (.lst 1 (List.map celC ds))), (4, (.lst 4 (List.map celBu bs))), (5, (.v (.int .i64 (nn)))), (14, (.slc (.mk 0 32 0) [1, 7] 1 0 (lu) false)), (46, (.lst 4 (List.map celBu bs))), (47, (.v (.int .i64 ((↑(List.map celBu bs).length : Int))))), (48, (.v (.int .i64 ((↑i : Int)))))] [((.mk 0 32 0), (.mk [1, 7] (List.map celC us) 1 true))] 0)) :=
  rndZ_sound (q := [((some 49), (Dec.b false))]) (by kernel_rfl) (hbLwArA h0 hnLwArA)
theorem adv_0 {L n : Nat} {rate delay nn : Int} {ts es xs vs ds : List (Nat × Nat)} {us u2 : List (Nat × Nat)} {lu lo i : Nat} {os o2 : List ((Nat × Nat) × Bool)} {st π : List Nat} {bs : List ((Int × Int) × (Nat × Nat) × Bool)} {x50 : (Int × Int) × (Nat × Nat) × Bool} (h0 : (decide ((↑i : Int) < (↑(List.map celBu bs).length : Int))) = true) (h1 : HLwArAspecA L n (.el (List.map celBu bs) (.v (.int .i64 ((↑i : Int)))) [(.v (.int .i64 (x50.fst.fst))), (.v (.int .i64 (x50.fst.snd))), (.cpx (x50.snd.fst.fst) (x50.snd.fst.snd)), (.v (.bool (x50.snd.snd)))])) (h2 : (decide (x50.fst.fst < 0)) = true) : seeZ 0 [3, 4, 5, 14, 16] m32.res (bodyOf ⟨fnOf, specA, L⟩ (runF ⟨fnOf, specA, L⟩ n) 0 m32b3 (i :: π) (adV ds us bs nn lu i : St)) = some (RO.out (.tup [.nils, (.v (.int .i64 1))])) :=
  rndZ_sound (q := [((some 45), (Dec.b true)), ((some 50), (Dec.el [(.v (.int .i64 (x50.fst.fst))), (.v (.int .i64 (x50.fst.snd))), (.cpx (x50.snd.fst.fst) (x50.snd.fst.snd)), (.v (.bool (x50.snd.snd)))])), ((some 54), (Dec.b true))]) (by kernel_rfl) (hbLwArA h0 (hcLwArA h1 (hbLwArA h2 hnLwArA)))
theorem adv_1 {L n : Nat} {rate delay nn : Int} {ts es xs vs ds : List (Nat × Nat)} {us u2 : List (Nat × Nat)} {lu lo i : Nat} {os o2 : List ((Nat × Nat) × Bool)} {st π : List Nat} {bs : List ((Int × Int) × (Nat × Nat) × Bool)} {x50 : (Int × Int) × (Nat × Nat) × Bool} {x57 : (Int × Int) × (Nat × Nat) × Bool} (h0 : (decide ((↑i : Int) < (↑(List.map celBu bs).length : Int))) = true) (h1 : HLwArAspecA L n (.el (List.map celBu bs) (.v (.int .i64 ((↑i : Int)))) [(.v (.int .i64 (x50.fst.fst))), (.v (.int .i64 (x50.fst.snd))), (.cpx (x50.snd.fst.fst) (x50.snd.fst.snd)), (.v (.bool (x50.snd.snd)))])) (h2 : (decide (x50.fst.fst < 0)) = false) (h3 : HLwArAspecA L n (.el (List.map celBu bs) (.v (.int .i64 ((↑i : Int)))) [(.v (.int .i64 (x57.fst.fst))), (.v (.int .i64 (x57.fst.snd))), (.cpx (x57.snd.fst.fst) (x57.snd.fst.snd)), (.v (.bool (x57.snd.snd)))])) (h4 : (decide (x57.fst.snd < 0)) = true) : seeZ 0 [3, 4, 5, 14, 16] m32.res (bodyOf ⟨fnOf, specA, L⟩ (runF ⟨fnOf, specA, L⟩ n) 0 m32b3 (i :: π) (adV ds us bs nn lu i : St)) = some (RO.out (.tup [.nils, (.v (.int .i64 1))])) :=
  rndZ_sound (q := [((some 45), (Dec.b true)), ((some 50), (Dec.el [(.v (.int .i64 (x50.fst.fst))), (.v (.int .i64 (x50.fst.snd))), (.cpx (x50.snd.fst.fst) (x50.snd.fst.snd)), (.v (.bool (x50.snd.snd)))])), ((some 54), (Dec.b false)), ((some 57), (Dec.el [(.v (.int .i64 (x57.fst.fst))), (.v (.int .i64 (x57.fst.snd))), (.cpx (x57.snd.fst.fst) (x57.snd.fst.snd)), (.v (.bool (x57.snd.snd)))])), ((some 61), (Dec.b true))]) (by kernel_rfl) (hbLwArA h0 (hcLwArA h1 (hbLwArA h2 (hcLwArA h3 (hbLwArA h4 hnLwArA)))))
theorem adv_2 {L n : Nat} {rate delay nn : Int} {ts es xs vs ds : List (Nat × Nat)} {us u2 : List (Nat × Nat)} {lu lo i : Nat} {os o2 : List ((Nat × Nat) × Bool)} {st π : List Nat} {bs : List ((Int × Int) × (Nat × Nat) × Bool)} {x50 : (Int × Int) × (Nat × Nat) × Bool} {x57 : (Int × Int) × (Nat × Nat) × Bool} (h0 : (decide ((↑i : Int) < (↑(List.map celBu bs).length : Int))) = true) (h1 : HLwArAspecA L n (.el (List.map celBu bs) (.v (.int .i64 ((↑i : Int)))) [(.v (.int .i64 (x50.fst.fst))), (.v (.int .i64 (x50.fst.snd))), (.cpx (x50.snd.fst.fst) (x50.snd.fst.snd)), (.v (.bool (x50.snd.snd)))])) (h2 : (decide (x50.fst.fst < 0)) = false) (h3 : HLwArAspecA L n (.el (List.map celBu bs) (.v (.int .i64 ((↑i : Int)))) [(.v (.int .i64 (x57.fst.fst))), (.v (.int .i64 (x57.fst.snd))), (.cpx (x57.snd.fst.fst) (x57.snd.fst.snd)), (.v (.bool (x57.snd.snd)))])) (h4 : (decide (x57.fst.snd < 0)) = false) : seeZ 0 [3, 4, 5, 14, 16] m32.res (bodyOf ⟨fnOf, specA, L⟩ (runF ⟨fnOf, specA, L⟩ n) 0 m32b3 (i :: π) (adV ds us bs nn lu i : St)) = some (RO.go .nrm (.mk [(3, (.lst 1 (List.map celC ds))), (4, (.lst 4 (List.map celBu bs))), (5, (.v (.int .i64 (nn)))), (14, (.slc (.mk 0 28 0) [1, 7] 1 0 (lu) false)), (16, (.v (.int .i64 (IntKind.wrap .i64 ((↑i : Int) + 1)))))] [((.mk 0 28 0), (.mk [1, 7] (List.map celC us) 1 true))] 0)) :=
  rndZ_sound (q := [((some 45), (Dec.b true)), ((some 50), (Dec.el [(.v (.int .i64 (x50.fst.fst))), (.v (.int .i64 (x50.fst.snd))), (.cpx (x50.snd.fst.fst) (x50.snd.fst.snd)), (.v (.bool (x50.snd.snd)))])), ((some 54), (Dec.b false)), ((some 57), (Dec.el [(.v (.int .i64 (x57.fst.fst))), (.v (.int .i64 (x57.fst.snd))), (.cpx (x57.snd.fst.fst) (x57.snd.fst.snd)), (.v (.bool (x57.snd.snd)))])), ((some 61), (Dec.b false))]) (by kernel_rfl) (hbLwArA h0 (hcLwArA h1 (hbLwArA h2 (hcLwArA h3 (hbLwArA h4 hnLwArA)))))
theorem adv_3 {L n : Nat} {rate delay nn : Int} {ts es xs vs ds : List (Nat × Nat)} {us u2 : List (Nat × Nat)} {lu lo i : Nat} {os o2 : List ((Nat × Nat) × Bool)} {st π : List Nat} {bs : List ((Int × Int) × (Nat × Nat) × Bool)} (h0 : (decide ((↑i : Int) < (↑(List.map celBu bs).length : Int))) = false) : seeZ 0 [3, 4, 5, 14, 16] m32.res (bodyOf ⟨fnOf, specA, L⟩ (runF ⟨fnOf, specA, L⟩ n) 0 m32b3 (i :: π) (adV ds us bs nn lu i : St)) = some (RO.go (.exit 0) (.mk [(3, (.lst 1 (List.map celC ds))), (4, (.lst 4 (List.map celBu bs))), (5, (.v (.int .i64 (nn)))), (14, (.slc (.mk 0 28 0) [1, 7] 1 0 (lu) false)), (16, (.v (.int .i64 ((↑i : Int)))))] [((.mk 0 28 0), (.mk [1, 7] (List.map celC us) 1 true))] 0)) :=
  rndZ_sound (q := [((some 45), (Dec.b false))]) (by kernel_rfl) (hbLwArA h0 hnLwArA)
theorem are_0 {L n : Nat} {rate delay nn : Int} {ts es xs vs ds : List (Nat × Nat)} {us u2 : List (Nat × Nat)} {lu lo i : Nat} {os o2 : List ((Nat × Nat) × Bool)} {st π : List Nat} {bs : List ((Int × Int) × (Nat × Nat) × Bool)} {x66 : Nat × Nat} (h0 : (decide ((↑i : Int) < (↑(List.map celC ds).length : Int))) = true) (h1 : HLwArAspecA L n (.el (List.map celC ds) (.v (.int .i64 ((↑i : Int)))) [(AV.cpx (x66.fst) (x66.snd))])) (h2 : (!onD x66.fst) = true) : seeZ 0 [4, 5, 14, 61, 62, 63] m31.res (bodyOf ⟨fnOf, specA, L⟩ (runF ⟨fnOf, specA, L⟩ n) 0 m31b3 (i :: π) (arD ds us bs nn lu i : St)) = some (RO.out (.tup [.nils, (.v (.int .i64 7))])) :=
  rndZ_sound (q := [((some 64), (Dec.b true)), ((some 66), (Dec.el [(AV.cpx (x66.fst) (x66.snd))])), ((some 72), (Dec.b true))]) (by kernel_rfl) (hbLwArA h0 (hcLwArA h1 (hbLwArA h2 hnLwArA)))
theorem are_1 {L n : Nat} {rate delay nn : Int} {ts es xs vs ds : List (Nat × Nat)} {us u2 : List (Nat × Nat)} {lu lo i : Nat} {os o2 : List ((Nat × Nat) × Bool)} {st π : List Nat} {bs : List ((Int × Int) × (Nat × Nat) × Bool)} {x66 : Nat × Nat} (h0 : (decide ((↑i : Int) < (↑(List.map celC ds).length : Int))) = true) (h1 : HLwArAspecA L n (.el (List.map celC ds) (.v (.int .i64 ((↑i : Int)))) [(AV.cpx (x66.fst) (x66.snd))])) (h2 : (!onD x66.fst) = false) (h3 : (!onD x66.snd) = true) : seeZ 0 [4, 5, 14, 61, 62, 63] m31.res (bodyOf ⟨fnOf, specA, L⟩ (runF ⟨fnOf, specA, L⟩ n) 0 m31b3 (i :: π) (arD ds us bs nn lu i : St)) = some (RO.out (.tup [.nils, (.v (.int .i64 7))])) :=
  rndZ_sound (q := [((some 64), (Dec.b true)), ((some 66), (Dec.el [(AV.cpx (x66.fst) (x66.snd))])), ((some 72), (Dec.b false)), ((some 77), (Dec.b true))]) (by kernel_rfl) (hbLwArA h0 (hcLwArA h1 (hbLwArA h2 (hbLwArA h3 hnLwArA))))
theorem are_2 {L n : Nat} {rate delay nn : Int} {ts es xs vs ds : List (Nat × Nat)} {us u2 : List (Nat × Nat)} {lu lo i : Nat} {os o2 : List ((Nat × Nat) × Bool)} {st π : List Nat} {bs : List ((Int × Int) × (Nat × Nat) × Bool)} {x66 : Nat × Nat} {k83 : Nat} {x84 : Nat × Nat} {k87 : Nat} {x0 : Nat × Nat} (h0 : (decide ((↑i : Int) < (↑(List.map celC ds).length : Int))) = true) (h1 : HLwArAspecA L n (.el (List.map celC ds) (.v (.int .i64 ((↑i : Int)))) [(AV.cpx (x66.fst) (x66.snd))])) (h2 : (!onD x66.fst) = false) (h3 : (!onD x66.snd) = false) (h4 : (decide ((↑i : Int) < nn)) = true) (h5 : HLwArAspecA L n (.ix (.v (.int .i64 ((↑i : Int)))) (lu) (k83))) (h6 : HLwArAspecA L n (.at (List.map celC us) (0 + k83) [(AV.cpx (x84.fst) (x84.snd))])) (h7 : HLwArAspecA L n (.ix (.v (.int .i64 ((↑i : Int)))) (lu) (k87))) (h8 : HLwArAspecA L n (.at (List.map celC us) (0 + k87) [(AV.cpx (x0.fst) (x0.snd))])) : seeZ 0 [4, 5, 14, 61, 62, 63] m31.res (bodyOf ⟨fnOf, specA, L⟩ (runF ⟨fnOf, specA, L⟩ n) 0 m31b3 (i :: π) (arD ds us bs nn lu i : St)) = some (RO.go .nrm (.mk [(4, (.lst 4 (List.map celBu bs))), (5, (.v (.int .i64 (nn)))), (14, (.slc (.mk 0 32 0) [1, 7] 1 0 (lu) false)), (61, (.lst 1 (List.map celC ds))), (62, (.v (.int .i64 ((↑(List.map celC ds).length : Int))))), (63, (.v (.int .i64 (IntKind.wrap .i64 ((↑i : Int) + 1)))))] [((.mk 0 32 0), (.mk [1, 7] (List.set (List.map celC us) (0 + k87) [(AV.cpx (fadd x84.fst x66.fst) (fadd x84.snd x66.snd))]) 1 true))] 0)) :=
  rndZ_sound (q := [((some 64), (Dec.b true)), ((some 66), (Dec.el [(AV.cpx (x66.fst) (x66.snd))])), ((some 72), (Dec.b false)), ((some 77), (Dec.b false)), ((some 80), (Dec.b true)), ((some 83), (Dec.ix (k83))), ((some 84), (Dec.el [(AV.cpx (x84.fst) (x84.snd))])), ((some 87), (Dec.ix (k87))), (none, (Dec.el [(AV.cpx (x0.fst) (x0.snd))]))]) (by kernel_rfl) (hbLwArA h0 (hcLwArA h1 (hbLwArA h2 (hbLwArA h3 (hbLwArA h4 (hcLwArA h5 (hcLwArA (c := (.st [1, 7] [1, 7])) rfl (hcLwArA h6 (hcLwArA h7 (hcLwArA (c := (.st [1, 7] [1, 7])) rfl (hcLwArA h8 hnLwArA)))))))))))
theorem are_3 {L n : Nat} {rate delay nn : Int} {ts es xs vs ds : List (Nat × Nat)} {us u2 : List (Nat × Nat)} {lu lo i : Nat} {os o2 : List ((Nat × Nat) × Bool)} {st π : List Nat} {bs : List ((Int × Int) × (Nat × Nat) × Bool)} {x66 : Nat × Nat} (h0 : (decide ((↑i : Int) < (↑(List.map celC ds).length : Int))) = true) (h1 : HLwArAspecA L n (.el (List.map celC ds) (.v (.int .i64 ((↑i : Int)))) [(AV.cpx (x66.fst) (x66.snd))])) (h2 : (!onD x66.fst) = false) (h3 : (!onD x66.snd) = false) (h4 : (decide ((↑i : Int) < nn)) = false) : seeZ 0 [4, 5, 14, 61, 62, 63] m31.res (bodyOf ⟨fnOf, specA, L⟩ (runF ⟨fnOf, specA, L⟩ n) 0 m31b3 (i :: π) (arD ds us bs nn lu i : St)) = some (RO.go .nrm (.mk [(4, (.lst 4 (List.map celBu bs))), (5, (.v (.int .i64 (nn)))), (14, (.slc (.mk 0 32 0) [1, 7] 1 0 (lu) false)), (61, (.lst 1 (List.map celC ds))), (62, (.v (.int .i64 ((↑(List.map celC ds).length : Int))))), (63, (.v (.int .i64 (IntKind.wrap .i64 ((↑i : Int) + 1)))))] [((.mk 0 32 0), (.mk [1, 7] (List.map celC us) 1 true))] 0)) :=
  rndZ_sound (q := [((some 64), (Dec.b true)), ((some 66), (Dec.el [(AV.cpx (x66.fst) (x66.snd))])), ((some 72), (Dec.b false)), ((some 77), (Dec.b false)), ((some 80), (Dec.b false))]) (by kernel_rfl) (hbLwArA h0 (hcLwArA h1 (hbLwArA h2 (hbLwArA h3 (hbLwArA h4 hnLwArA)))))
theorem are_4 {L n : Nat} {rate delay nn : Int} {ts es xs vs ds : List (Nat × Nat)} {us u2 : List (Nat × Nat)} {lu lo i : Nat} {os o2 : List ((Nat × Nat) × Bool)} {st π : List Nat} {bs : List ((Int × Int) × (Nat × Nat) × Bool)} (h0 : (decide ((↑i : Int) < (↑(List.map celC ds).length : Int))) = false) : seeZ 0 [4, 5, 14, 61, 62, 63] m31.res (bodyOf ⟨fnOf, specA, L⟩ (runF ⟨fnOf, specA, L⟩ n) 0 m31b3 (i :: π) (arD ds us bs nn lu i : St)) = some (RO.go (.exit 2) (.mk [(4, (.lst 4 (List.map celBu bs))), (5, (.v (.int .i64 (nn)))), (14, (.slc (.mk 0 32 0) [1, 7] 1 0 (lu) false)), (61, (.lst 1 (List.map celC ds))), (62, (.v (.int .i64 ((↑(List.map celC ds).length : Int))))), (63, (.v (.int .i64 ((↑i : Int)))))] [((.mk 0 32 0), (.mk [1, 7] (List.map celC us) 1 true))] 0)) :=
  rndZ_sound (q := [((some 64), (Dec.b false))]) (by kernel_rfl) (hbLwArA h0 hnLwArA)
theorem ade_0 {L n : Nat} {rate delay nn : Int} {ts es xs vs ds : List (Nat × Nat)} {us u2 : List (Nat × Nat)} {lu lo i : Nat} {os o2 : List ((Nat × Nat) × Bool)} {st π : List Nat} {bs : List ((Int × Int) × (Nat × Nat) × Bool)} {x70 : Nat × Nat} (h0 : (decide ((↑i : Int) < (↑(List.map celC ds).length : Int))) = true) (h1 : HLwArAspecA L n (.el (List.map celC ds) (.v (.int .i64 ((↑i : Int)))) [(AV.cpx (x70.fst) (x70.snd))])) (h2 : (!onD x70.fst) = true) : seeZ 0 [3, 4, 5, 14, 17] m32.res (bodyOf ⟨fnOf, specA, L⟩ (runF ⟨fnOf, specA, L⟩ n) 0 m32b2 (i :: π) (adD ds us bs nn lu i : St)) = some (RO.out (.tup [.nils, (.v (.int .i64 7))])) :=
  rndZ_sound (q := [((some 65), (Dec.b true)), ((some 70), (Dec.el [(AV.cpx (x70.fst) (x70.snd))])), ((some 75), (Dec.b true))]) (by kernel_rfl) (hbLwArA h0 (hcLwArA h1 (hbLwArA h2 hnLwArA)))
theorem ade_1 {L n : Nat} {rate delay nn : Int} {ts es xs vs ds : List (Nat × Nat)} {us u2 : List (Nat × Nat)} {lu lo i : Nat} {os o2 : List ((Nat × Nat) × Bool)} {st π : List Nat} {bs : List ((Int × Int) × (Nat × Nat) × Bool)} {x70 : Nat × Nat} {x78 : Nat × Nat} (h0 : (decide ((↑i : Int) < (↑(List.map celC ds).length : Int))) = true) (h1 : HLwArAspecA L n (.el (List.map celC ds) (.v (.int .i64 ((↑i : Int)))) [(AV.cpx (x70.fst) (x70.snd))])) (h2 : (!onD x70.fst) = false) (h3 : HLwArAspecA L n (.el (List.map celC ds) (.v (.int .i64 ((↑i : Int)))) [(AV.cpx (x78.fst) (x78.snd))])) (h4 : (!onD x78.snd) = true) : seeZ 0 [3, 4, 5, 14, 17] m32.res (bodyOf ⟨fnOf, specA, L⟩ (runF ⟨fnOf, specA, L⟩ n) 0 m32b2 (i :: π) (adD ds us bs nn lu i : St)) = some (RO.out (.tup [.nils, (.v (.int .i64 7))])) :=
  rndZ_sound (q := [((some 65), (Dec.b true)), ((some 70), (Dec.el [(AV.cpx (x70.fst) (x70.snd))])), ((some 75), (Dec.b false)), ((some 78), (Dec.el [(AV.cpx (x78.fst) (x78.snd))])), ((some 83), (Dec.b true))]) (by kernel_rfl) (hbLwArA h0 (hcLwArA h1 (hbLwArA h2 (hcLwArA h3 (hbLwArA h4 hnLwArA)))))
theorem ade_2 {L n : Nat} {rate delay nn : Int} {ts es xs vs ds : List (Nat × Nat)} {us u2 : List (Nat × Nat)} {lu lo i : Nat} {os o2 : List ((Nat × Nat) × Bool)} {st π : List Nat} {bs : List ((Int × Int) × (Nat × Nat) × Bool)} {x70 : Nat × Nat} {x78 : Nat × Nat} (h0 : (decide ((↑i : Int) < (↑(List.map celC ds).length : Int))) = true) (h1 : HLwArAspecA L n (.el (List.map celC ds) (.v (.int .i64 ((↑i : Int)))) [(AV.cpx (x70.fst) (x70.snd))])) (h2 : (!onD x70.fst) = false) (h3 : HLwArAspecA L n (.el (List.map celC ds) (.v (.int .i64 ((↑i : Int)))) [(AV.cpx (x78.fst) (x78.snd))])) (h4 : (!onD x78.snd) = false) : seeZ 0 [3, 4, 5, 14, 17] m32.res (bodyOf ⟨fnOf, specA, L⟩ (runF ⟨fnOf, specA, L⟩ n) 0 m32b2 (i :: π) (adD ds us bs nn lu i : St)) = some (RO.go .nrm (.mk [(3, (.lst 1 (List.map celC ds))), (4, (.lst 4 (List.map celBu bs))), (5, (.v (.int .i64 (nn)))), (14, (.slc (.mk 0 28 0) [1, 7] 1 0 (lu) false)), (17, (.v (.int .i64 (IntKind.wrap .i64 ((↑i : Int) + 1)))))] [((.mk 0 28 0), (.mk [1, 7] (List.map celC us) 1 true))] 0)) :=
  rndZ_sound (q := [((some 65), (Dec.b true)), ((some 70), (Dec.el [(AV.cpx (x70.fst) (x70.snd))])), ((some 75), (Dec.b false)), ((some 78), (Dec.el [(AV.cpx (x78.fst) (x78.snd))])), ((some 83), (Dec.b false))]) (by kernel_rfl) (hbLwArA h0 (hcLwArA h1 (hbLwArA h2 (hcLwArA h3 (hbLwArA h4 hnLwArA)))))
theorem ade_3 {L n : Nat} {rate delay nn : Int} {ts es xs vs ds : List (Nat × Nat)} {us u2 : List (Nat × Nat)} {lu lo i : Nat} {os o2 : List ((Nat × Nat) × Bool)} {st π : List Nat} {bs : List ((Int × Int) × (Nat × Nat) × Bool)} (h0 : (decide ((↑i : Int) < (↑(List.map celC ds).length : Int))) = false) : seeZ 0 [3, 4, 5, 14, 17] m32.res (bodyOf ⟨fnOf, specA, L⟩ (runF ⟨fnOf, specA, L⟩ n) 0 m32b2 (i :: π) (adD ds us bs nn lu i : St)) = some (RO.go (.exit 2) (.mk [(3, (.lst 1 (List.map celC ds))), (4, (.lst 4 (List.map celBu bs))), (5, (.v (.int .i64 (nn)))), (14, (.slc (.mk 0 28 0) [1, 7] 1 0 (lu) false)), (17, (.v (.int .i64 ((↑i : Int)))))] [((.mk 0 28 0), (.mk [1, 7] (List.map celC us) 1 true))] 0)) :=
  rndZ_sound (q := [((some 65), (Dec.b false))]) (by kernel_rfl) (hbLwArA h0 hnLwArA)
theorem aro_0 {L n : Nat} {rate delay nn : Int} {ts es xs vs ds : List (Nat × Nat)} {us u2 : List (Nat × Nat)} {lu lo i : Nat} {os o2 : List ((Nat × Nat) × Bool)} {st π : List Nat} {bs : List ((Int × Int) × (Nat × Nat) × Bool)} {k96 : Nat} {x97 : Nat × Nat} {k102 : Nat} {x0 : (Nat × Nat) × Bool} (h0 : (decide ((↑i : Int) < (↑lu : Int))) = true) (h1 : HLwArAspecA L n (.ix (.v (.int .i64 ((↑i : Int)))) (lu) (k96))) (h2 : HLwArAspecA L n (.at (List.map celC us) (0 + k96) [(AV.cpx (x97.fst) (x97.snd))])) (h3 : HLwArAspecA L n (.ix (.v (.int .i64 ((↑i : Int)))) (lo) (k102))) (h4 : HLwArAspecA L n (.at (List.map celS os) (0 + k102) [(AV.cpx (x0.fst.fst) (x0.fst.snd)), (.v (.bool (x0.snd)))])) : rnd 0 [4, 5, 20, 91, 92, 93] (bodyOf ⟨fnOf, specA, L⟩ (runF ⟨fnOf, specA, L⟩ n) 0 m31b2 (i :: π) (arO us os bs nn lu lo i : St)) = some (.nrm, (.mk [(4, (.lst 4 (List.map celBu bs))), (5, (.v (.int .i64 (nn)))), (20, (.slc (.mk 0 90 0) [32] 2 0 (lo) true)), (91, (.slc (.mk 0 32 0) [1, 7] 1 0 (lu) false)), (92, (.v (.int .i64 ((↑lu : Int))))), (93, (.v (.int .i64 (IntKind.wrap .i64 ((↑i : Int) + 1)))))] [((.mk 0 32 0), (.mk [1, 7] (List.map celC us) 1 true)), ((.mk 0 90 0), (.mk [32] (List.set (List.map celS os) (0 + k102) [(AV.cpx ((smp false (x97.fst, x97.snd)).fst.fst) ((smp false (x97.fst, x97.snd)).fst.snd)), (.v (.bool ((smp false (x97.fst, x97.snd)).snd)))]) 2 true))] 0)) :=
  rndD_sound (q := [((some 94), (Dec.b true)), ((some 96), (Dec.ix (k96))), ((some 97), (Dec.el [(AV.cpx (x97.fst) (x97.snd))])), ((some 102), (Dec.ix (k102))), (none, (Dec.el [(AV.cpx (x0.fst.fst) (x0.fst.snd)), (.v (.bool (x0.snd)))]))]) (by kernel_rfl) (hbLwArA h0 (hcLwArA h1 (hcLwArA (c := (.st [1, 7] [1, 7])) rfl (hcLwArA h2 (hcLwArA h3 (hcLwArA (c := (.st [32] [32])) rfl (hcLwArA h4 hnLwArA)))))))
theorem aro_1 {L n : Nat} {rate delay nn : Int} {ts es xs vs ds : List (Nat × Nat)} {us u2 : List (Nat × Nat)} {lu lo i : Nat} {os o2 : List ((Nat × Nat) × Bool)} {st π : List Nat} {bs : List ((Int × Int) × (Nat × Nat) × Bool)} (h0 : (decide ((↑i : Int) < (↑lu : Int))) = false) : rnd 0 [4, 5, 20, 91, 92, 93] (bodyOf ⟨fnOf, specA, L⟩ (runF ⟨fnOf, specA, L⟩ n) 0 m31b2 (i :: π) (arO us os bs nn lu lo i : St)) = some ((.exit 4), (.mk [(4, (.lst 4 (List.map celBu bs))), (5, (.v (.int .i64 (nn)))), (20, (.slc (.mk 0 90 0) [32] 2 0 (lo) true)), (91, (.slc (.mk 0 32 0) [1, 7] 1 0 (lu) false)), (92, (.v (.int .i64 ((↑lu : Int))))), (93, (.v (.int .i64 ((↑i : Int)))))] [((.mk 0 32 0), (.mk [1, 7] (List.map celC us) 1 true)), ((.mk 0 90 0), (.mk [32] (List.map celS os) 2 true))] 0)) :=
  rndD_sound (q := [((some 94), (Dec.b false))]) (by kernel_rfl) (hbLwArA h0 hnLwArA)
theorem ado_0 {L n : Nat} {rate delay nn : Int} {ts es xs vs ds : List (Nat × Nat)} {us u2 : List (Nat × Nat)} {lu lo i : Nat} {os o2 : List ((Nat × Nat) × Bool)} {st π : List Nat} {bs : List ((Int × Int) × (Nat × Nat) × Bool)} {τ : List Nat} {v : (Nat × Nat) × Bool} {j : Nat} {k91 : Nat} {x92 : Nat × Nat} {x101 : Nat × Nat} {x109 : Nat × Nat} (h0 : (decide ((↑i : Int) < nn)) = true) (h1 : HLwArAspecA L n (.ix (.v (.int .i64 ((↑i : Int)))) (lu) (k91))) (h2 : HLwArAspecA L n (.at (List.map celC us) (0 + k91) [(AV.cpx (x92.fst) (x92.snd))])) (h3 : (decide ((↑i : Int) < (↑(List.map celC ds).length : Int))) = true) (h4 : HLwArAspecA L n (.el (List.map celC ds) (.v (.int .i64 ((↑i : Int)))) [(AV.cpx (x101.fst) (x101.snd))])) (h5 : HLwArAspecA L n (.el (List.map celC ds) (.v (.int .i64 ((↑i : Int)))) [(AV.cpx (x109.fst) (x109.snd))])) (h6 : HLwArAspecA L n (.loop 0 [3, 4, 5, 14, 18, 19, 21, 22] m32b0 ([35, (i)] ++ (π)) (.mk [(3, (.lst 1 (List.map celC ds))), (4, (.lst 4 (List.map celBu bs))), (5, (.v (.int .i64 (nn)))), (14, (.slc (.mk 0 28 0) [1, 7] 1 0 (lu) false)), (18, (.slc (.mk 0 18 1000) (st) 2 0 (lo) false)), (19, (.v (.int .i64 ((↑i : Int))))), (21, (.ptr (.mk 0 21 0) ([32, (i)] ++ (π)) 0 0)), (22, (.v (.int .i64 0)))] [((.mk 0 18 1000), (.mk (st) (List.map celS os) 2 true)), ((.mk 0 28 0), (.mk [1, 7] (List.map celC us) 1 true)), ((.mk 0 21 0), (.mk ([32, (i)] ++ (π)) [[(AV.cpx ((smp true (fadd x92.fst x101.fst, fadd x92.snd x109.snd)).fst.fst) ((smp true (fadd x92.fst x101.fst, fadd x92.snd x109.snd)).fst.snd)), (.v (.bool ((smp true (fadd x92.fst x101.fst, fadd x92.snd x109.snd)).snd)))]] 2 true))] 0) (.exit 6) (.mk [(3, (.lst 1 (List.map celC ds))), (4, (.lst 4 (List.map celBu bs))), (5, (.v (.int .i64 (nn)))), (14, (.slc (.mk 0 28 0) [1, 7] 1 0 (lu) false)), (18, (.slc (.mk 0 18 1000) (st) 2 0 (lo) false)), (19, (.v (.int .i64 ((↑i : Int))))), (21, (.ptr (.mk 0 21 0) (τ) 0 0)), (22, (.v (.int .i64 ((↑j : Int)))))] [((.mk 0 18 1000), (.mk (st) (List.map celS os) 2 true)), ((.mk 0 28 0), (.mk [1, 7] (List.map celC us) 1 true)), ((.mk 0 21 0), (.mk (τ) [[(AV.cpx (v.fst.fst) (v.fst.snd)), (.v (.bool (v.snd)))]] 2 true))] 0))) (h7 : HLwArAspecA L n (.push (lo) 1 24 (List.map celS os))) : rnd 0 [3, 4, 5, 14, 18, 19] (bodyOf ⟨fnOf, specA, L⟩ (runF ⟨fnOf, specA, L⟩ n) 0 m32b1 (i :: π) (adO ds us os bs nn st lu lo i : St)) = some (.nrm, (.mk [(3, (.lst 1 (List.map celC ds))), (4, (.lst 4 (List.map celBu bs))), (5, (.v (.int .i64 (nn)))), (14, (.slc (.mk 0 28 0) [1, 7] 1 0 (lu) false)), (18, (.slc (.mk 0 18 1000) ([39, (i)] ++ (π)) 2 0 (lo + 1) false)), (19, (.v (.int .i64 (IntKind.wrap .i64 ((↑i : Int) + 1)))))] [((.mk 0 18 1000), (.mk ([39, (i)] ++ (π)) ((List.map celS os) ++ [[(AV.cpx (v.fst.fst) (v.fst.snd)), (.v (.bool (v.snd)))]]) 2 true)), ((.mk 0 28 0), (.mk [1, 7] (List.map celC us) 1 true))] 0)) :=
  rndD_sound (q := [((some 86), (Dec.b true)), ((some 91), (Dec.ix (k91))), ((some 92), (Dec.el [(AV.cpx (x92.fst) (x92.snd))])), ((some 96), (Dec.b true)), ((some 101), (Dec.el [(AV.cpx (x101.fst) (x101.snd))])), ((some 109), (Dec.el [(AV.cpx (x109.fst) (x109.snd))])), ((some 200000), (Dec.loop (.exit 6) (.mk [(3, (.lst 1 (List.map celC ds))), (4, (.lst 4 (List.map celBu bs))), (5, (.v (.int .i64 (nn)))), (14, (.slc (.mk 0 28 0) [1, 7] 1 0 (lu) false)), (18, (.slc (.mk 0 18 1000) (st) 2 0 (lo) false)), (19, (.v (.int .i64 ((↑i : Int))))), (21, (.ptr (.mk 0 21 0) (τ) 0 0)), (22, (.v (.int .i64 ((↑j : Int)))))] [((.mk 0 18 1000), (.mk (st) (List.map celS os) 2 true)), ((.mk 0 28 0), (.mk [1, 7] (List.map celC us) 1 true)), ((.mk 0 21 0), (.mk (τ) [[(AV.cpx (v.fst.fst) (v.fst.snd)), (.v (.bool (v.snd)))]] 2 true))] 0))), ((some 159), Dec.push)]) (by kernel_rfl) (hbLwArA h0 (hcLwArA h1 (hcLwArA (c := (.st [1, 7] [1, 7])) rfl (hcLwArA h2 (hbLwArA h3 (hcLwArA h4 (hcLwArA h5 (hcLwArA (c := (.st ([32, (i)] ++ (π)) ([32, (i)] ++ (π)))) rfl (hcLwArA h6 (hcLwArA (c := (.st (τ) (τ))) rfl (hcLwArA (c := (.st (st) (st))) rfl (hcLwArA h7 (hcLwArA (c := (.st ([38, (i)] ++ (π)) ([38, (i)] ++ (π)))) rfl hnLwArA)))))))))))))
theorem ado_1 {L n : Nat} {rate delay nn : Int} {ts es xs vs ds : List (Nat × Nat)} {us u2 : List (Nat × Nat)} {lu lo i : Nat} {os o2 : List ((Nat × Nat) × Bool)} {st π : List Nat} {bs : List ((Int × Int) × (Nat × Nat) × Bool)} {τ : List Nat} {v : (Nat × Nat) × Bool} {j : Nat} {k91 : Nat} {x92 : Nat × Nat} (h0 : (decide ((↑i : Int) < nn)) = true) (h1 : HLwArAspecA L n (.ix (.v (.int .i64 ((↑i : Int)))) (lu) (k91))) (h2 : HLwArAspecA L n (.at (List.map celC us) (0 + k91) [(AV.cpx (x92.fst) (x92.snd))])) (h3 : (decide ((↑i : Int) < (↑(List.map celC ds).length : Int))) = false) (h4 : HLwArAspecA L n (.loop 0 [3, 4, 5, 14, 18, 19, 21, 22] m32b0 ([17, (i)] ++ (π)) (.mk [(3, (.lst 1 (List.map celC ds))), (4, (.lst 4 (List.map celBu bs))), (5, (.v (.int .i64 (nn)))), (14, (.slc (.mk 0 28 0) [1, 7] 1 0 (lu) false)), (18, (.slc (.mk 0 18 1000) (st) 2 0 (lo) false)), (19, (.v (.int .i64 ((↑i : Int))))), (21, (.ptr (.mk 0 21 0) ([14, (i)] ++ (π)) 0 0)), (22, (.v (.int .i64 0)))] [((.mk 0 18 1000), (.mk (st) (List.map celS os) 2 true)), ((.mk 0 28 0), (.mk [1, 7] (List.map celC us) 1 true)), ((.mk 0 21 0), (.mk ([14, (i)] ++ (π)) [[(AV.cpx ((smp true (x92.fst, x92.snd)).fst.fst) ((smp true (x92.fst, x92.snd)).fst.snd)), (.v (.bool ((smp true (x92.fst, x92.snd)).snd)))]] 2 true))] 0) (.exit 6) (.mk [(3, (.lst 1 (List.map celC ds))), (4, (.lst 4 (List.map celBu bs))), (5, (.v (.int .i64 (nn)))), (14, (.slc (.mk 0 28 0) [1, 7] 1 0 (lu) false)), (18, (.slc (.mk 0 18 1000) (st) 2 0 (lo) false)), (19, (.v (.int .i64 ((↑i : Int))))), (21, (.ptr (.mk 0 21 0) (τ) 0 0)), (22, (.v (.int .i64 ((↑j : Int)))))] [((.mk 0 18 1000), (.mk (st) (List.map celS os) 2 true)), ((.mk 0 28 0), (.mk [1, 7] (List.map celC us) 1 true)), ((.mk 0 21 0), (.mk (τ) [[(AV.cpx (v.fst.fst) (v.fst.snd)), (.v (.bool (v.snd)))]] 2 true))] 0))) (h5 : HLwArAspecA L n (.push (lo) 1 24 (List.map celS os))) : rnd 0 [3, 4, 5, 14, 18, 19] (bodyOf ⟨fnOf, specA, L⟩ (runF ⟨fnOf, specA, L⟩ n) 0 m32b1 (i :: π) (adO ds us os bs nn st lu lo i : St)) = some (.nrm, (.mk [(3, (.lst 1 (List.map celC ds))), (4, (.lst 4 (List.map celBu bs))), (5, (.v (.int .i64 (nn)))), (14, (.slc (.mk 0 28 0) [1, 7] 1 0 (lu) false)), (18, (.slc (.mk 0 18 1000) ([21, (i)] ++ (π)) 2 0 (lo + 1) false)), (19, (.v (.int .i64 (IntKind.wrap .i64 ((↑i : Int) + 1)))))] [((.mk 0 18 1000), (.mk ([21, (i)] ++ (π)) ((List.map celS os) ++ [[(AV.cpx (v.fst.fst) (v.fst.snd)), (.v (.bool (v.snd)))]]) 2 true)), ((.mk 0 28 0), (.mk [1, 7] (List.map celC us) 1 true))] 0)) :=
  rndD_sound (q := [((some 86), (Dec.b true)), ((some 91), (Dec.ix (k91))), ((some 92), (Dec.el [(AV.cpx (x92.fst) (x92.snd))])), ((some 96), (Dec.b false)), ((some 200000), (Dec.loop (.exit 6) (.mk [(3, (.lst 1 (List.map celC ds))), (4, (.lst 4 (List.map celBu bs))), (5, (.v (.int .i64 (nn)))), (14, (.slc (.mk 0 28 0) [1, 7] 1 0 (lu) false)), (18, (.slc (.mk 0 18 1000) (st) 2 0 (lo) false)), (19, (.v (.int .i64 ((↑i : Int))))), (21, (.ptr (.mk 0 21 0) (τ) 0 0)), (22, (.v (.int .i64 ((↑j : Int)))))] [((.mk 0 18 1000), (.mk (st) (List.map celS os) 2 true)), ((.mk 0 28 0), (.mk [1, 7] (List.map celC us) 1 true)), ((.mk 0 21 0), (.mk (τ) [[(AV.cpx (v.fst.fst) (v.fst.snd)), (.v (.bool (v.snd)))]] 2 true))] 0))), ((some 159), Dec.push)]) (by kernel_rfl) (hbLwArA h0 (hcLwArA h1 (hcLwArA (c := (.st [1, 7] [1, 7])) rfl (hcLwArA h2 (hbLwArA h3 (hcLwArA (c := (.st ([14, (i)] ++ (π)) ([14, (i)] ++ (π)))) rfl (hcLwArA h4 (hcLwArA (c := (.st (τ) (τ))) rfl (hcLwArA (c := (.st (st) (st))) rfl (hcLwArA h5 (hcLwArA (c := (.st ([20, (i)] ++ (π)) ([20, (i)] ++ (π)))) rfl hnLwArA)))))))))))
theorem ado_2 {L n : Nat} {rate delay nn : Int} {ts es xs vs ds : List (Nat × Nat)} {us u2 : List (Nat × Nat)} {lu lo i : Nat} {os o2 : List ((Nat × Nat) × Bool)} {st π : List Nat} {bs : List ((Int × Int) × (Nat × Nat) × Bool)} {τ : List Nat} {v : (Nat × Nat) × Bool} {j : Nat} (h0 : (decide ((↑i : Int) < nn)) = false) : rnd 0 [3, 4, 5, 14, 18, 19] (bodyOf ⟨fnOf, specA, L⟩ (runF ⟨fnOf, specA, L⟩ n) 0 m32b1 (i :: π) (adO ds us os bs nn st lu lo i : St)) = some ((.exit 4), (.mk [(3, (.lst 1 (List.map celC ds))), (4, (.lst 4 (List.map celBu bs))), (5, (.v (.int .i64 (nn)))), (14, (.slc (.mk 0 28 0) [1, 7] 1 0 (lu) false)), (18, (.slc (.mk 0 18 1000) (st) 2 0 (lo) false)), (19, (.v (.int .i64 ((↑i : Int)))))] [((.mk 0 18 1000), (.mk (st) (List.map celS os) 2 true)), ((.mk 0 28 0), (.mk [1, 7] (List.map celC us) 1 true))] 0)) :=
  rndD_sound (q := [((some 86), (Dec.b false))]) (by kernel_rfl) (hbLwArA h0 hnLwArA)
theorem arb_0 {L n : Nat} {rate delay nn : Int} {ts es xs vs ds : List (Nat × Nat)} {us u2 : List (Nat × Nat)} {lu lo i : Nat} {os o2 : List ((Nat × Nat) × Bool)} {st π : List Nat} {bs : List ((Int × Int) × (Nat × Nat) × Bool)} {τ σ : List Nat} {b : (Int × Int) × (Nat × Nat) × Bool} {v : (Nat × Nat) × Bool} {j : Nat} {x108 : (Int × Int) × (Nat × Nat) × Bool} (h0 : (decide ((↑i : Int) < (↑(List.map celBu bs).length : Int))) = true) (h1 : HLwArAspecA L n (.el (List.map celBu bs) (.v (.int .i64 ((↑i : Int)))) [(.v (.int .i64 (x108.fst.fst))), (.v (.int .i64 (x108.fst.snd))), (.cpx (x108.snd.fst.fst) (x108.snd.fst.snd)), (.v (.bool (x108.snd.snd)))])) (h2 : (x108.snd.snd) = true) (h3 : HLwArAspecA L n (.loop 0 [5, 20, 24, 25, 104, 105, 106, 117, 118] m31b0 ([17, (i)] ++ (π)) (.mk [(5, (.v (.int .i64 (nn)))), (20, (.slc (.mk 0 90 0) [32] 2 0 (lo) true)), (24, (.ptr (.mk 0 24 0) ([3, (i)] ++ (π)) 0 0)), (25, (.ptr (.mk 0 25 0) ([8, (i)] ++ (π)) 0 0)), (104, (.lst 4 (List.map celBu bs))), (105, (.v (.int .i64 ((↑(List.map celBu bs).length : Int))))), (106, (.v (.int .i64 ((↑i : Int))))), (117, (.v (.int .i64 (x108.fst.snd)))), (118, (.v (.int .i64 0)))] [((.mk 0 90 0), (.mk [32] (List.map celS os) 2 true)), ((.mk 0 24 0), (.mk ([3, (i)] ++ (π)) [[(.v (.int .i64 (x108.fst.fst))), (.v (.int .i64 (x108.fst.snd))), (.cpx (x108.snd.fst.fst) (x108.snd.fst.snd)), (.v (.bool (x108.snd.snd)))]] 4 true)), ((.mk 0 25 0), (.mk ([8, (i)] ++ (π)) [[(AV.cpx 0 0), (.v (.bool true))]] 2 true))] 0) (.exit 8) (.mk [(5, (.v (.int .i64 (nn)))), (20, (.slc (.mk 0 90 0) [32] 2 0 (lo) true)), (24, (.ptr (.mk 0 24 0) (τ) 0 0)), (25, (.ptr (.mk 0 25 0) (σ) 0 0)), (104, (.lst 4 (List.map celBu bs))), (105, (.v (.int .i64 ((↑(List.map celBu bs).length : Int))))), (106, (.v (.int .i64 ((↑i : Int))))), (117, (.v (.int .i64 (b.fst.snd)))), (118, (.v (.int .i64 ((↑j : Int)))))] [((.mk 0 90 0), (.mk [32] (List.map celS o2) 2 true)), ((.mk 0 24 0), (.mk (τ) [[(.v (.int .i64 (b.fst.fst))), (.v (.int .i64 (b.fst.snd))), (.cpx (b.snd.fst.fst) (b.snd.fst.snd)), (.v (.bool (b.snd.snd)))]] 4 true)), ((.mk 0 25 0), (.mk (σ) [[(AV.cpx (v.fst.fst) (v.fst.snd)), (.v (.bool (v.snd)))]] 2 true))] 0))) : rnd 0 [5, 20, 104, 105, 106] (bodyOf ⟨fnOf, specA, L⟩ (runF ⟨fnOf, specA, L⟩ n) 0 m31b1 (i :: π) (arB os bs nn lo i : St)) = some (.nrm, (.mk [(5, (.v (.int .i64 (nn)))), (20, (.slc (.mk 0 90 0) [32] 2 0 (lo) true)), (104, (.lst 4 (List.map celBu bs))), (105, (.v (.int .i64 ((↑(List.map celBu bs).length : Int))))), (106, (.v (.int .i64 (IntKind.wrap .i64 ((↑i : Int) + 1)))))] [((.mk 0 90 0), (.mk [32] (List.map celS o2) 2 true))] 0)) :=
  rndD_sound (q := [((some 107), (Dec.b true)), ((some 108), (Dec.el [(.v (.int .i64 (x108.fst.fst))), (.v (.int .i64 (x108.fst.snd))), (.cpx (x108.snd.fst.fst) (x108.snd.fst.snd)), (.v (.bool (x108.snd.snd)))])), ((some 114), (Dec.b true)), ((some 200000), (Dec.loop (.exit 8) (.mk [(5, (.v (.int .i64 (nn)))), (20, (.slc (.mk 0 90 0) [32] 2 0 (lo) true)), (24, (.ptr (.mk 0 24 0) (τ) 0 0)), (25, (.ptr (.mk 0 25 0) (σ) 0 0)), (104, (.lst 4 (List.map celBu bs))), (105, (.v (.int .i64 ((↑(List.map celBu bs).length : Int))))), (106, (.v (.int .i64 ((↑i : Int))))), (117, (.v (.int .i64 (b.fst.snd)))), (118, (.v (.int .i64 ((↑j : Int)))))] [((.mk 0 90 0), (.mk [32] (List.map celS o2) 2 true)), ((.mk 0 24 0), (.mk (τ) [[(.v (.int .i64 (b.fst.fst))), (.v (.int .i64 (b.fst.snd))), (.cpx (b.snd.fst.fst) (b.snd.fst.snd)), (.v (.bool (b.snd.snd)))]] 4 true)), ((.mk 0 25 0), (.mk (σ) [[(AV.cpx (v.fst.fst) (v.fst.snd)), (.v (.bool (v.snd)))]] 2 true))] 0)))]) (by kernel_rfl) (hbLwArA h0 (hcLwArA h1 (hcLwArA (c := (.st ([3, (i)] ++ (π)) ([3, (i)] ++ (π)))) rfl (hcLwArA (c := (.st ([3, (i)] ++ (π)) ([3, (i)] ++ (π)))) rfl (hcLwArA (c := (.st ([8, (i)] ++ (π)) ([8, (i)] ++ (π)))) rfl (hbLwArA h2 (hcLwArA (c := (.st ([3, (i)] ++ (π)) ([3, (i)] ++ (π)))) rfl (hcLwArA (c := (.st ([8, (i)] ++ (π)) ([8, (i)] ++ (π)))) rfl (hcLwArA (c := (.st ([3, (i)] ++ (π)) ([3, (i)] ++ (π)))) rfl (hcLwArA h3 hnLwArA))))))))))
theorem arb_1 {L n : Nat} {rate delay nn : Int} {ts es xs vs ds : List (Nat × Nat)} {us u2 : List (Nat × Nat)} {lu lo i : Nat} {os o2 : List ((Nat × Nat) × Bool)} {st π : List Nat} {bs : List ((Int × Int) × (Nat × Nat) × Bool)} {τ σ : List Nat} {b : (Int × Int) × (Nat × Nat) × Bool} {v : (Nat × Nat) × Bool} {j : Nat} {x108 : (Int × Int) × (Nat × Nat) × Bool} (h0 : (decide ((↑i : Int) < (↑(List.map celBu bs).length : Int))) = true) (h1 : HLwArAspecA L n (.el (List.map celBu bs) (.v (.int .i64 ((↑i : Int)))) [(.v (.int .i64 (x108.fst.fst))), (.v (.int .i64 (x108.fst.snd))), (.cpx (x108.snd.fst.fst) (x108.snd.fst.snd)), (.v (.bool (x108.snd.snd)))])) (h2 : (x108.snd.snd) = false) (h3 : HLwArAspecA L n (.loop 0 [5, 20, 24, 25, 104, 105, 106, 117, 118] m31b0 ([15, (i)] ++ (π)) (.mk [(5, (.v (.int .i64 (nn)))), (20, (.slc (.mk 0 90 0) [32] 2 0 (lo) true)), (24, (.ptr (.mk 0 24 0) ([3, (i)] ++ (π)) 0 0)), (25, (.ptr (.mk 0 25 0) ([8, (i)] ++ (π)) 0 0)), (104, (.lst 4 (List.map celBu bs))), (105, (.v (.int .i64 ((↑(List.map celBu bs).length : Int))))), (106, (.v (.int .i64 ((↑i : Int))))), (117, (.v (.int .i64 (x108.fst.snd)))), (118, (.v (.int .i64 0)))] [((.mk 0 90 0), (.mk [32] (List.map celS os) 2 true)), ((.mk 0 24 0), (.mk ([3, (i)] ++ (π)) [[(.v (.int .i64 (x108.fst.fst))), (.v (.int .i64 (x108.fst.snd))), (.cpx (x108.snd.fst.fst) (x108.snd.fst.snd)), (.v (.bool (x108.snd.snd)))]] 4 true)), ((.mk 0 25 0), (.mk ([8, (i)] ++ (π)) [[(AV.cpx ((smp false (x108.snd.fst.fst, x108.snd.fst.snd)).fst.fst) ((smp false (x108.snd.fst.fst, x108.snd.fst.snd)).fst.snd)), (.v (.bool ((smp false (x108.snd.fst.fst, x108.snd.fst.snd)).snd)))]] 2 true))] 0) (.exit 8) (.mk [(5, (.v (.int .i64 (nn)))), (20, (.slc (.mk 0 90 0) [32] 2 0 (lo) true)), (24, (.ptr (.mk 0 24 0) (τ) 0 0)), (25, (.ptr (.mk 0 25 0) (σ) 0 0)), (104, (.lst 4 (List.map celBu bs))), (105, (.v (.int .i64 ((↑(List.map celBu bs).length : Int))))), (106, (.v (.int .i64 ((↑i : Int))))), (117, (.v (.int .i64 (b.fst.snd)))), (118, (.v (.int .i64 ((↑j : Int)))))] [((.mk 0 90 0), (.mk [32] (List.map celS o2) 2 true)), ((.mk 0 24 0), (.mk (τ) [[(.v (.int .i64 (b.fst.fst))), (.v (.int .i64 (b.fst.snd))), (.cpx (b.snd.fst.fst) (b.snd.fst.snd)), (.v (.bool (b.snd.snd)))]] 4 true)), ((.mk 0 25 0), (.mk (σ) [[(AV.cpx (v.fst.fst) (v.fst.snd)), (.v (.bool (v.snd)))]] 2 true))] 0))) : rnd 0 [5, 20, 104, 105, 106] (bodyOf ⟨fnOf, specA, L⟩ (runF ⟨fnOf, specA, L⟩ n) 0 m31b1 (i :: π) (arB os bs nn lo i : St)) = some (.nrm, (.mk [(5, (.v (.int .i64 (nn)))), (20, (.slc (.mk 0 90 0) [32] 2 0 (lo) true)), (104, (.lst 4 (List.map celBu bs))), (105, (.v (.int .i64 ((↑(List.map celBu bs).length : Int))))), (106, (.v (.int .i64 (IntKind.wrap .i64 ((↑i : Int) + 1)))))] [((.mk 0 90 0), (.mk [32] (List.map celS o2) 2 true))] 0)) :=
  rndD_sound (q := [((some 107), (Dec.b true)), ((some 108), (Dec.el [(.v (.int .i64 (x108.fst.fst))), (.v (.int .i64 (x108.fst.snd))), (.cpx (x108.snd.fst.fst) (x108.snd.fst.snd)), (.v (.bool (x108.snd.snd)))])), ((some 114), (Dec.b false)), ((some 200000), (Dec.loop (.exit 8) (.mk [(5, (.v (.int .i64 (nn)))), (20, (.slc (.mk 0 90 0) [32] 2 0 (lo) true)), (24, (.ptr (.mk 0 24 0) (τ) 0 0)), (25, (.ptr (.mk 0 25 0) (σ) 0 0)), (104, (.lst 4 (List.map celBu bs))), (105, (.v (.int .i64 ((↑(List.map celBu bs).length : Int))))), (106, (.v (.int .i64 ((↑i : Int))))), (117, (.v (.int .i64 (b.fst.snd)))), (118, (.v (.int .i64 ((↑j : Int)))))] [((.mk 0 90 0), (.mk [32] (List.map celS o2) 2 true)), ((.mk 0 24 0), (.mk (τ) [[(.v (.int .i64 (b.fst.fst))), (.v (.int .i64 (b.fst.snd))), (.cpx (b.snd.fst.fst) (b.snd.fst.snd)), (.v (.bool (b.snd.snd)))]] 4 true)), ((.mk 0 25 0), (.mk (σ) [[(AV.cpx (v.fst.fst) (v.fst.snd)), (.v (.bool (v.snd)))]] 2 true))] 0)))]) (by kernel_rfl) (hbLwArA h0 (hcLwArA h1 (hcLwArA (c := (.st ([3, (i)] ++ (π)) ([3, (i)] ++ (π)))) rfl (hcLwArA (c := (.st ([3, (i)] ++ (π)) ([3, (i)] ++ (π)))) rfl (hcLwArA (c := (.st ([8, (i)] ++ (π)) ([8, (i)] ++ (π)))) rfl (hbLwArA h2 (hcLwArA (c := (.st ([3, (i)] ++ (π)) ([3, (i)] ++ (π)))) rfl (hcLwArA (c := (.st ([3, (i)] ++ (π)) ([3, (i)] ++ (π)))) rfl (hcLwArA h3 hnLwArA)))))))))
theorem arb_2 {L n : Nat} {rate delay nn : Int} {ts es xs vs ds : List (Nat × Nat)} {us u2 : List (Nat × Nat)} {lu lo i : Nat} {os o2 : List ((Nat × Nat) × Bool)} {st π : List Nat} {bs : List ((Int × Int) × (Nat × Nat) × Bool)} {τ σ : List Nat} {b : (Int × Int) × (Nat × Nat) × Bool} {v : (Nat × Nat) × Bool} {j : Nat} (h0 : (decide ((↑i : Int) < (↑(List.map celBu bs).length : Int))) = false) : rnd 0 [5, 20, 104, 105, 106] (bodyOf ⟨fnOf, specA, L⟩ (runF ⟨fnOf, specA, L⟩ n) 0 m31b1 (i :: π) (arB os bs nn lo i : St)) = some ((.exit 6), (.mk [(5, (.v (.int .i64 (nn)))), (20, (.slc (.mk 0 90 0) [32] 2 0 (lo) true)), (104, (.lst 4 (List.map celBu bs))), (105, (.v (.int .i64 ((↑(List.map celBu bs).length : Int))))), (106, (.v (.int .i64 ((↑i : Int)))))] [((.mk 0 90 0), (.mk [32] (List.map celS os) 2 true))] 0)) :=
  rndD_sound (q := [((some 107), (Dec.b false))]) (by kernel_rfl) (hbLwArA h0 hnLwArA)
theorem arx_0 {L n : Nat} {rate delay nn : Int} {ts es xs vs ds : List (Nat × Nat)} {us u2 : List (Nat × Nat)} {lu lo i : Nat} {os o2 : List ((Nat × Nat) × Bool)} {st π : List Nat} {bs : List ((Int × Int) × (Nat × Nat) × Bool)} {τ σ : List Nat} {b : (Int × Int) × (Nat × Nat) × Bool} {v : (Nat × Nat) × Bool} {j : Nat} {x108 : (Int × Int) × (Nat × Nat) × Bool} (h0 : (decide ((↑i : Int) < (↑(List.map celBu bs).length : Int))) = true) (h1 : HLwArAspecA L n (.el (List.map celBu bs) (.v (.int .i64 ((↑i : Int)))) [(.v (.int .i64 (x108.fst.fst))), (.v (.int .i64 (x108.fst.snd))), (.cpx (x108.snd.fst.fst) (x108.snd.fst.snd)), (.v (.bool (x108.snd.snd)))])) (h2 : (x108.snd.snd) = true) (h3 : HLwArAspecA L n (.loop 0 [5, 20, 24, 25, 104, 105, 106, 117, 118] m31b0 ([17, (i)] ++ (π)) (.mk [(5, (.v (.int .i64 (nn)))), (20, (.slc (.mk 0 90 0) [32] 2 0 (lo) true)), (24, (.ptr (.mk 0 24 0) ([3, (i)] ++ (π)) 0 0)), (25, (.ptr (.mk 0 25 0) ([8, (i)] ++ (π)) 0 0)), (104, (.lst 4 (List.map celBu bs))), (105, (.v (.int .i64 ((↑(List.map celBu bs).length : Int))))), (106, (.v (.int .i64 ((↑i : Int))))), (117, (.v (.int .i64 (x108.fst.snd)))), (118, (.v (.int .i64 0)))] [((.mk 0 90 0), (.mk [32] (List.map celS os) 2 true)), ((.mk 0 24 0), (.mk ([3, (i)] ++ (π)) [[(.v (.int .i64 (x108.fst.fst))), (.v (.int .i64 (x108.fst.snd))), (.cpx (x108.snd.fst.fst) (x108.snd.fst.snd)), (.v (.bool (x108.snd.snd)))]] 4 true)), ((.mk 0 25 0), (.mk ([8, (i)] ++ (π)) [[(AV.cpx 0 0), (.v (.bool true))]] 2 true))] 0) (.exit 7) (.mk [(5, (.v (.int .i64 (nn)))), (20, (.slc (.mk 0 90 0) [32] 2 0 (lo) true)), (24, (.ptr (.mk 0 24 0) (τ) 0 0)), (25, (.ptr (.mk 0 25 0) (σ) 0 0)), (104, (.lst 4 (List.map celBu bs))), (105, (.v (.int .i64 ((↑(List.map celBu bs).length : Int))))), (106, (.v (.int .i64 ((↑i : Int))))), (117, (.v (.int .i64 (b.fst.snd)))), (118, (.v (.int .i64 ((↑j : Int)))))] [((.mk 0 90 0), (.mk [32] (List.map celS o2) 2 true)), ((.mk 0 24 0), (.mk (τ) [[(.v (.int .i64 (b.fst.fst))), (.v (.int .i64 (b.fst.snd))), (.cpx (b.snd.fst.fst) (b.snd.fst.snd)), (.v (.bool (b.snd.snd)))]] 4 true)), ((.mk 0 25 0), (.mk (σ) [[(AV.cpx (v.fst.fst) (v.fst.snd)), (.v (.bool (v.snd)))]] 2 true))] 0))) : rnd 0 [5, 20, 104, 105, 106] (bodyOf ⟨fnOf, specA, L⟩ (runF ⟨fnOf, specA, L⟩ n) 0 m31b1 (i :: π) (arB os bs nn lo i : St)) = some (.nrm, (.mk [(5, (.v (.int .i64 (nn)))), (20, (.slc (.mk 0 90 0) [32] 2 0 (lo) true)), (104, (.lst 4 (List.map celBu bs))), (105, (.v (.int .i64 ((↑(List.map celBu bs).length : Int))))), (106, (.v (.int .i64 (IntKind.wrap .i64 ((↑i : Int) + 1)))))] [((.mk 0 90 0), (.mk [32] (List.map celS o2) 2 true))] 0)) :=
  rndD_sound (q := [((some 107), (Dec.b true)), ((some 108), (Dec.el [(.v (.int .i64 (x108.fst.fst))), (.v (.int .i64 (x108.fst.snd))), (.cpx (x108.snd.fst.fst) (x108.snd.fst.snd)), (.v (.bool (x108.snd.snd)))])), ((some 114), (Dec.b true)), ((some 200000), (Dec.loop (.exit 7) (.mk [(5, (.v (.int .i64 (nn)))), (20, (.slc (.mk 0 90 0) [32] 2 0 (lo) true)), (24, (.ptr (.mk 0 24 0) (τ) 0 0)), (25, (.ptr (.mk 0 25 0) (σ) 0 0)), (104, (.lst 4 (List.map celBu bs))), (105, (.v (.int .i64 ((↑(List.map celBu bs).length : Int))))), (106, (.v (.int .i64 ((↑i : Int))))), (117, (.v (.int .i64 (b.fst.snd)))), (118, (.v (.int .i64 ((↑j : Int)))))] [((.mk 0 90 0), (.mk [32] (List.map celS o2) 2 true)), ((.mk 0 24 0), (.mk (τ) [[(.v (.int .i64 (b.fst.fst))), (.v (.int .i64 (b.fst.snd))), (.cpx (b.snd.fst.fst) (b.snd.fst.snd)), (.v (.bool (b.snd.snd)))]] 4 true)), ((.mk 0 25 0), (.mk (σ) [[(AV.cpx (v.fst.fst) (v.fst.snd)), (.v (.bool (v.snd)))]] 2 true))] 0)))]) (by kernel_rfl) (hbLwArA h0 (hcLwArA h1 (hcLwArA (c := (.st ([3, (i)] ++ (π)) ([3, (i)] ++ (π)))) rfl (hcLwArA (c := (.st ([3, (i)] ++ (π)) ([3, (i)] ++ (π)))) rfl (hcLwArA (c := (.st ([8, (i)] ++ (π)) ([8, (i)] ++ (π)))) rfl (hbLwArA h2 (hcLwArA (c := (.st ([3, (i)] ++ (π)) ([3, (i)] ++ (π)))) rfl (hcLwArA (c := (.st ([8, (i)] ++ (π)) ([8, (i)] ++ (π)))) rfl (hcLwArA (c := (.st ([3, (i)] ++ (π)) ([3, (i)] ++ (π)))) rfl (hcLwArA h3 hnLwArA))))))))))
theorem arx_1 {L n : Nat} {rate delay nn : Int} {ts es xs vs ds : List (Nat × Nat)} {us u2 : List (Nat × Nat)} {lu lo i : Nat} {os o2 : List ((Nat × Nat) × Bool)} {st π : List Nat} {bs : List ((Int × Int) × (Nat × Nat) × Bool)} {τ σ : List Nat} {b : (Int × Int) × (Nat × Nat) × Bool} {v : (Nat × Nat) × Bool} {j : Nat} {x108 : (Int × Int) × (Nat × Nat) × Bool} (h0 : (decide ((↑i : Int) < (↑(List.map celBu bs).length : Int))) = true) (h1 : HLwArAspecA L n (.el (List.map celBu bs) (.v (.int .i64 ((↑i : Int)))) [(.v (.int .i64 (x108.fst.fst))), (.v (.int .i64 (x108.fst.snd))), (.cpx (x108.snd.fst.fst) (x108.snd.fst.snd)), (.v (.bool (x108.snd.snd)))])) (h2 : (x108.snd.snd) = false) (h3 : HLwArAspecA L n (.loop 0 [5, 20, 24, 25, 104, 105, 106, 117, 118] m31b0 ([15, (i)] ++ (π)) (.mk [(5, (.v (.int .i64 (nn)))), (20, (.slc (.mk 0 90 0) [32] 2 0 (lo) true)), (24, (.ptr (.mk 0 24 0) ([3, (i)] ++ (π)) 0 0)), (25, (.ptr (.mk 0 25 0) ([8, (i)] ++ (π)) 0 0)), (104, (.lst 4 (List.map celBu bs))), (105, (.v (.int .i64 ((↑(List.map celBu bs).length : Int))))), (106, (.v (.int .i64 ((↑i : Int))))), (117, (.v (.int .i64 (x108.fst.snd)))), (118, (.v (.int .i64 0)))] [((.mk 0 90 0), (.mk [32] (List.map celS os) 2 true)), ((.mk 0 24 0), (.mk ([3, (i)] ++ (π)) [[(.v (.int .i64 (x108.fst.fst))), (.v (.int .i64 (x108.fst.snd))), (.cpx (x108.snd.fst.fst) (x108.snd.fst.snd)), (.v (.bool (x108.snd.snd)))]] 4 true)), ((.mk 0 25 0), (.mk ([8, (i)] ++ (π)) [[(AV.cpx ((smp false (x108.snd.fst.fst, x108.snd.fst.snd)).fst.fst) ((smp false (x108.snd.fst.fst, x108.snd.fst.snd)).fst.snd)), (.v (.bool ((smp false (x108.snd.fst.fst, x108.snd.fst.snd)).snd)))]] 2 true))] 0) (.exit 7) (.mk [(5, (.v (.int .i64 (nn)))), (20, (.slc (.mk 0 90 0) [32] 2 0 (lo) true)), (24, (.ptr (.mk 0 24 0) (τ) 0 0)), (25, (.ptr (.mk 0 25 0) (σ) 0 0)), (104, (.lst 4 (List.map celBu bs))), (105, (.v (.int .i64 ((↑(List.map celBu bs).length : Int))))), (106, (.v (.int .i64 ((↑i : Int))))), (117, (.v (.int .i64 (b.fst.snd)))), (118, (.v (.int .i64 ((↑j : Int)))))] [((.mk 0 90 0), (.mk [32] (List.map celS o2) 2 true)), ((.mk 0 24 0), (.mk (τ) [[(.v (.int .i64 (b.fst.fst))), (.v (.int .i64 (b.fst.snd))), (.cpx (b.snd.fst.fst) (b.snd.fst.snd)), (.v (.bool (b.snd.snd)))]] 4 true)), ((.mk 0 25 0), (.mk (σ) [[(AV.cpx (v.fst.fst) (v.fst.snd)), (.v (.bool (v.snd)))]] 2 true))] 0))) : rnd 0 [5, 20, 104, 105, 106] (bodyOf ⟨fnOf, specA, L⟩ (runF ⟨fnOf, specA, L⟩ n) 0 m31b1 (i :: π) (arB os bs nn lo i : St)) = some (.nrm, (.mk [(5, (.v (.int .i64 (nn)))), (20, (.slc (.mk 0 90 0) [32] 2 0 (lo) true)), (104, (.lst 4 (List.map celBu bs))), (105, (.v (.int .i64 ((↑(List.map celBu bs).length : Int))))), (106, (.v (.int .i64 (IntKind.wrap .i64 ((↑i : Int) + 1)))))] [((.mk 0 90 0), (.mk [32] (List.map celS o2) 2 true))] 0)) :=
  rndD_sound (q := [((some 107), (Dec.b true)), ((some 108), (Dec.el [(.v (.int .i64 (x108.fst.fst))), (.v (.int .i64 (x108.fst.snd))), (.cpx (x108.snd.fst.fst) (x108.snd.fst.snd)), (.v (.bool (x108.snd.snd)))])), ((some 114), (Dec.b false)), ((some 200000), (Dec.loop (.exit 7) (.mk [(5, (.v (.int .i64 (nn)))), (20, (.slc (.mk 0 90 0) [32] 2 0 (lo) true)), (24, (.ptr (.mk 0 24 0) (τ) 0 0)), (25, (.ptr (.mk 0 25 0) (σ) 0 0)), (104, (.lst 4 (List.map celBu bs))), (105, (.v (.int .i64 ((↑(List.map celBu bs).length : Int))))), (106, (.v (.int .i64 ((↑i : Int))))), (117, (.v (.int .i64 (b.fst.snd)))), (118, (.v (.int .i64 ((↑j : Int)))))] [((.mk 0 90 0), (.mk [32] (List.map celS o2) 2 true)), ((.mk 0 24 0), (.mk (τ) [[(.v (.int .i64 (b.fst.fst))), (.v (.int .i64 (b.fst.snd))), (.cpx (b.snd.fst.fst) (b.snd.fst.snd)), (.v (.bool (b.snd.snd)))]] 4 true)), ((.mk 0 25 0), (.mk (σ) [[(AV.cpx (v.fst.fst) (v.fst.snd)), (.v (.bool (v.snd)))]] 2 true))] 0)))]) (by kernel_rfl) (hbLwArA h0 (hcLwArA h1 (hcLwArA (c := (.st ([3, (i)] ++ (π)) ([3, (i)] ++ (π)))) rfl (hcLwArA (c := (.st ([3, (i)] ++ (π)) ([3, (i)] ++ (π)))) rfl (hcLwArA (c := (.st ([8, (i)] ++ (π)) ([8, (i)] ++ (π)))) rfl (hbLwArA h2 (hcLwArA (c := (.st ([3, (i)] ++ (π)) ([3, (i)] ++ (π)))) rfl (hcLwArA (c := (.st ([3, (i)] ++ (π)) ([3, (i)] ++ (π)))) rfl (hcLwArA h3 hnLwArA)))))))))
theorem adi_0 {L n : Nat} {rate delay nn : Int} {ts es xs vs ds : List (Nat × Nat)} {us u2 : List (Nat × Nat)} {lu lo i : Nat} {os o2 : List ((Nat × Nat) × Bool)} {st π : List Nat} {bs : List ((Int × Int) × (Nat × Nat) × Bool)} {τ : List Nat} {v : (Nat × Nat) × Bool} {j : Nat} {x125 : (Int × Int) × (Nat × Nat) × Bool} {x133 : (Int × Int) × (Nat × Nat) × Bool} {x139 : (Int × Int) × (Nat × Nat) × Bool} {x146 : (Int × Int) × (Nat × Nat) × Bool} {x152 : (Int × Int) × (Nat × Nat) × Bool} (h0 : (decide ((↑j : Int) < (↑(List.map celBu bs).length : Int))) = true) (h1 : HLwArAspecA L n (.el (List.map celBu bs) (.v (.int .i64 ((↑j : Int)))) [(.v (.int .i64 (x125.fst.fst))), (.v (.int .i64 (x125.fst.snd))), (.cpx (x125.snd.fst.fst) (x125.snd.fst.snd)), (.v (.bool (x125.snd.snd)))])) (h2 : (decide ((↑i : Int) ≥ x125.fst.fst)) = true) (h3 : HLwArAspecA L n (.el (List.map celBu bs) (.v (.int .i64 ((↑j : Int)))) [(.v (.int .i64 (x133.fst.fst))), (.v (.int .i64 (x133.fst.snd))), (.cpx (x133.snd.fst.fst) (x133.snd.fst.snd)), (.v (.bool (x133.snd.snd)))])) (h4 : HLwArAspecA L n (.el (List.map celBu bs) (.v (.int .i64 ((↑j : Int)))) [(.v (.int .i64 (x139.fst.fst))), (.v (.int .i64 (x139.fst.snd))), (.cpx (x139.snd.fst.fst) (x139.snd.fst.snd)), (.v (.bool (x139.snd.snd)))])) (h5 : (decide (IntKind.wrap .i64 ((↑i : Int) - x133.fst.fst) < x139.fst.snd)) = true) (h6 : HLwArAspecA L n (.el (List.map celBu bs) (.v (.int .i64 ((↑j : Int)))) [(.v (.int .i64 (x146.fst.fst))), (.v (.int .i64 (x146.fst.snd))), (.cpx (x146.snd.fst.fst) (x146.snd.fst.snd)), (.v (.bool (x146.snd.snd)))])) (h7 : HLwArAspecA L n (.el (List.map celBu bs) (.v (.int .i64 ((↑j : Int)))) [(.v (.int .i64 (x152.fst.fst))), (.v (.int .i64 (x152.fst.snd))), (.cpx (x152.snd.fst.fst) (x152.snd.fst.snd)), (.v (.bool (x152.snd.snd)))])) (h8 : (x152.snd.snd) = true) : rnd 0 [3, 4, 5, 14, 18, 19, 21, 22] (bodyOf ⟨fnOf, specA, L⟩ (runF ⟨fnOf, specA, L⟩ n) 0 m32b0 (j :: π) (adI ds us os bs nn st τ lu lo i v j : St)) = some (.nrm, (.mk [(3, (.lst 1 (List.map celC ds))), (4, (.lst 4 (List.map celBu bs))), (5, (.v (.int .i64 (nn)))), (14, (.slc (.mk 0 28 0) [1, 7] 1 0 (lu) false)), (18, (.slc (.mk 0 18 1000) (st) 2 0 (lo) false)), (19, (.v (.int .i64 ((↑i : Int))))), (21, (.ptr (.mk 0 21 0) (τ) 0 0)), (22, (.v (.int .i64 (IntKind.wrap .i64 ((↑j : Int) + 1)))))] [((.mk 0 18 1000), (.mk (st) (List.map celS os) 2 true)), ((.mk 0 28 0), (.mk [1, 7] (List.map celC us) 1 true)), ((.mk 0 21 0), (.mk (τ) [[(AV.cpx 0 0), (.v (.bool true))]] 2 true))] 0)) :=
  rndD_sound (q := [((some 119), (Dec.b true)), ((some 125), (Dec.el [(.v (.int .i64 (x125.fst.fst))), (.v (.int .i64 (x125.fst.snd))), (.cpx (x125.snd.fst.fst) (x125.snd.fst.snd)), (.v (.bool (x125.snd.snd)))])), ((some 129), (Dec.b true)), ((some 133), (Dec.el [(.v (.int .i64 (x133.fst.fst))), (.v (.int .i64 (x133.fst.snd))), (.cpx (x133.snd.fst.fst) (x133.snd.fst.snd)), (.v (.bool (x133.snd.snd)))])), ((some 139), (Dec.el [(.v (.int .i64 (x139.fst.fst))), (.v (.int .i64 (x139.fst.snd))), (.cpx (x139.snd.fst.fst) (x139.snd.fst.snd)), (.v (.bool (x139.snd.snd)))])), ((some 143), (Dec.b true)), ((some 146), (Dec.el [(.v (.int .i64 (x146.fst.fst))), (.v (.int .i64 (x146.fst.snd))), (.cpx (x146.snd.fst.fst) (x146.snd.fst.snd)), (.v (.bool (x146.snd.snd)))])), ((some 152), (Dec.el [(.v (.int .i64 (x152.fst.fst))), (.v (.int .i64 (x152.fst.snd))), (.cpx (x152.snd.fst.fst) (x152.snd.fst.snd)), (.v (.bool (x152.snd.snd)))])), ((some 154), (Dec.b true))]) (by kernel_rfl) (hbLwArA h0 (hcLwArA h1 (hbLwArA h2 (hcLwArA h3 (hcLwArA h4 (hbLwArA h5 (hcLwArA h6 (hcLwArA (c := (.st (τ) (τ))) rfl (hcLwArA h7 (hbLwArA h8 (hcLwArA (c := (.st (τ) (τ))) rfl hnLwArA)))))))))))
theorem adi_1 {L n : Nat} {rate delay nn : Int} {ts es xs vs ds : List (Nat × Nat)} {us u2 : List (Nat × Nat)} {lu lo i : Nat} {os o2 : List ((Nat × Nat) × Bool)} {st π : List Nat} {bs : List ((Int × Int) × (Nat × Nat) × Bool)} {τ : List Nat} {v : (Nat × Nat) × Bool} {j : Nat} {x125 : (Int × Int) × (Nat × Nat) × Bool} {x133 : (Int × Int) × (Nat × Nat) × Bool} {x139 : (Int × Int) × (Nat × Nat) × Bool} {x146 : (Int × Int) × (Nat × Nat) × Bool} {x152 : (Int × Int) × (Nat × Nat) × Bool} (h0 : (decide ((↑j : Int) < (↑(List.map celBu bs).length : Int))) = true) (h1 : HLwArAspecA L n (.el (List.map celBu bs) (.v (.int .i64 ((↑j : Int)))) [(.v (.int .i64 (x125.fst.fst))), (.v (.int .i64 (x125.fst.snd))), (.cpx (x125.snd.fst.fst) (x125.snd.fst.snd)), (.v (.bool (x125.snd.snd)))])) (h2 : (decide ((↑i : Int) ≥ x125.fst.fst)) = true) (h3 : HLwArAspecA L n (.el (List.map celBu bs) (.v (.int .i64 ((↑j : Int)))) [(.v (.int .i64 (x133.fst.fst))), (.v (.int .i64 (x133.fst.snd))), (.cpx (x133.snd.fst.fst) (x133.snd.fst.snd)), (.v (.bool (x133.snd.snd)))])) (h4 : HLwArAspecA L n (.el (List.map celBu bs) (.v (.int .i64 ((↑j : Int)))) [(.v (.int .i64 (x139.fst.fst))), (.v (.int .i64 (x139.fst.snd))), (.cpx (x139.snd.fst.fst) (x139.snd.fst.snd)), (.v (.bool (x139.snd.snd)))])) (h5 : (decide (IntKind.wrap .i64 ((↑i : Int) - x133.fst.fst) < x139.fst.snd)) = true) (h6 : HLwArAspecA L n (.el (List.map celBu bs) (.v (.int .i64 ((↑j : Int)))) [(.v (.int .i64 (x146.fst.fst))), (.v (.int .i64 (x146.fst.snd))), (.cpx (x146.snd.fst.fst) (x146.snd.fst.snd)), (.v (.bool (x146.snd.snd)))])) (h7 : HLwArAspecA L n (.el (List.map celBu bs) (.v (.int .i64 ((↑j : Int)))) [(.v (.int .i64 (x152.fst.fst))), (.v (.int .i64 (x152.fst.snd))), (.cpx (x152.snd.fst.fst) (x152.snd.fst.snd)), (.v (.bool (x152.snd.snd)))])) (h8 : (x152.snd.snd) = false) : rnd 0 [3, 4, 5, 14, 18, 19, 21, 22] (bodyOf ⟨fnOf, specA, L⟩ (runF ⟨fnOf, specA, L⟩ n) 0 m32b0 (j :: π) (adI ds us os bs nn st τ lu lo i v j : St)) = some (.nrm, (.mk [(3, (.lst 1 (List.map celC ds))), (4, (.lst 4 (List.map celBu bs))), (5, (.v (.int .i64 (nn)))), (14, (.slc (.mk 0 28 0) [1, 7] 1 0 (lu) false)), (18, (.slc (.mk 0 18 1000) (st) 2 0 (lo) false)), (19, (.v (.int .i64 ((↑i : Int))))), (21, (.ptr (.mk 0 21 0) (τ) 0 0)), (22, (.v (.int .i64 (IntKind.wrap .i64 ((↑j : Int) + 1)))))] [((.mk 0 18 1000), (.mk (st) (List.map celS os) 2 true)), ((.mk 0 28 0), (.mk [1, 7] (List.map celC us) 1 true)), ((.mk 0 21 0), (.mk (τ) [[(AV.cpx ((smp true (x146.snd.fst.fst, x146.snd.fst.snd)).fst.fst) ((smp true (x146.snd.fst.fst, x146.snd.fst.snd)).fst.snd)), (.v (.bool ((smp true (x146.snd.fst.fst, x146.snd.fst.snd)).snd)))]] 2 true))] 0)) :=
  rndD_sound (q := [((some 119), (Dec.b true)), ((some 125), (Dec.el [(.v (.int .i64 (x125.fst.fst))), (.v (.int .i64 (x125.fst.snd))), (.cpx (x125.snd.fst.fst) (x125.snd.fst.snd)), (.v (.bool (x125.snd.snd)))])), ((some 129), (Dec.b true)), ((some 133), (Dec.el [(.v (.int .i64 (x133.fst.fst))), (.v (.int .i64 (x133.fst.snd))), (.cpx (x133.snd.fst.fst) (x133.snd.fst.snd)), (.v (.bool (x133.snd.snd)))])), ((some 139), (Dec.el [(.v (.int .i64 (x139.fst.fst))), (.v (.int .i64 (x139.fst.snd))), (.cpx (x139.snd.fst.fst) (x139.snd.fst.snd)), (.v (.bool (x139.snd.snd)))])), ((some 143), (Dec.b true)), ((some 146), (Dec.el [(.v (.int .i64 (x146.fst.fst))), (.v (.int .i64 (x146.fst.snd))), (.cpx (x146.snd.fst.fst) (x146.snd.fst.snd)), (.v (.bool (x146.snd.snd)))])), ((some 152), (Dec.el [(.v (.int .i64 (x152.fst.fst))), (.v (.int .i64 (x152.fst.snd))), (.cpx (x152.snd.fst.fst) (x152.snd.fst.snd)), (.v (.bool (x152.snd.snd)))])), ((some 154), (Dec.b false))]) (by kernel_rfl) (hbLwArA h0 (hcLwArA h1 (hbLwArA h2 (hcLwArA h3 (hcLwArA h4 (hbLwArA h5 (hcLwArA h6 (hcLwArA (c := (.st (τ) (τ))) rfl (hcLwArA h7 (hbLwArA h8 hnLwArA))))))))))
theorem adi_2 {L n : Nat} {rate delay nn : Int} {ts es xs vs ds : List (Nat × Nat)} {us u2 : List (Nat × Nat)} {lu lo i : Nat} {os o2 : List ((Nat × Nat) × Bool)} {st π : List Nat} {bs : List ((Int × Int) × (Nat × Nat) × Bool)} {τ : List Nat} {v : (Nat × Nat) × Bool} {j : Nat} {x125 : (Int × Int) × (Nat × Nat) × Bool} {x133 : (Int × Int) × (Nat × Nat) × Bool} {x139 : (Int × Int) × (Nat × Nat) × Bool} (h0 : (decide ((↑j : Int) < (↑(List.map celBu bs).length : Int))) = true) (h1 : HLwArAspecA L n (.el (List.map celBu bs) (.v (.int .i64 ((↑j : Int)))) [(.v (.int .i64 (x125.fst.fst))), (.v (.int .i64 (x125.fst.snd))), (.cpx (x125.snd.fst.fst) (x125.snd.fst.snd)), (.v (.bool (x125.snd.snd)))])) (h2 : (decide ((↑i : Int) ≥ x125.fst.fst)) = true) (h3 : HLwArAspecA L n (.el (List.map celBu bs) (.v (.int .i64 ((↑j : Int)))) [(.v (.int .i64 (x133.fst.fst))), (.v (.int .i64 (x133.fst.snd))), (.cpx (x133.snd.fst.fst) (x133.snd.fst.snd)), (.v (.bool (x133.snd.snd)))])) (h4 : HLwArAspecA L n (.el (List.map celBu bs) (.v (.int .i64 ((↑j : Int)))) [(.v (.int .i64 (x139.fst.fst))), (.v (.int .i64 (x139.fst.snd))), (.cpx (x139.snd.fst.fst) (x139.snd.fst.snd)), (.v (.bool (x139.snd.snd)))])) (h5 : (decide (IntKind.wrap .i64 ((↑i : Int) - x133.fst.fst) < x139.fst.snd)) = false) : rnd 0 [3, 4, 5, 14, 18, 19, 21, 22] (bodyOf ⟨fnOf, specA, L⟩ (runF ⟨fnOf, specA, L⟩ n) 0 m32b0 (j :: π) (adI ds us os bs nn st τ lu lo i v j : St)) = some (.nrm, (.mk [(3, (.lst 1 (List.map celC ds))), (4, (.lst 4 (List.map celBu bs))), (5, (.v (.int .i64 (nn)))), (14, (.slc (.mk 0 28 0) [1, 7] 1 0 (lu) false)), (18, (.slc (.mk 0 18 1000) (st) 2 0 (lo) false)), (19, (.v (.int .i64 ((↑i : Int))))), (21, (.ptr (.mk 0 21 0) (τ) 0 0)), (22, (.v (.int .i64 (IntKind.wrap .i64 ((↑j : Int) + 1)))))] [((.mk 0 18 1000), (.mk (st) (List.map celS os) 2 true)), ((.mk 0 28 0), (.mk [1, 7] (List.map celC us) 1 true)), ((.mk 0 21 0), (.mk (τ) [[(AV.cpx (v.fst.fst) (v.fst.snd)), (.v (.bool (v.snd)))]] 2 true))] 0)) :=
  rndD_sound (q := [((some 119), (Dec.b true)), ((some 125), (Dec.el [(.v (.int .i64 (x125.fst.fst))), (.v (.int .i64 (x125.fst.snd))), (.cpx (x125.snd.fst.fst) (x125.snd.fst.snd)), (.v (.bool (x125.snd.snd)))])), ((some 129), (Dec.b true)), ((some 133), (Dec.el [(.v (.int .i64 (x133.fst.fst))), (.v (.int .i64 (x133.fst.snd))), (.cpx (x133.snd.fst.fst) (x133.snd.fst.snd)), (.v (.bool (x133.snd.snd)))])), ((some 139), (Dec.el [(.v (.int .i64 (x139.fst.fst))), (.v (.int .i64 (x139.fst.snd))), (.cpx (x139.snd.fst.fst) (x139.snd.fst.snd)), (.v (.bool (x139.snd.snd)))])), ((some 143), (Dec.b false))]) (by kernel_rfl) (hbLwArA h0 (hcLwArA h1 (hbLwArA h2 (hcLwArA h3 (hcLwArA h4 (hbLwArA h5 hnLwArA))))))
theorem adi_3 {L n : Nat} {rate delay nn : Int} {ts es xs vs ds : List (Nat × Nat)} {us u2 : List (Nat × Nat)} {lu lo i : Nat} {os o2 : List ((Nat × Nat) × Bool)} {st π : List Nat} {bs : List ((Int × Int) × (Nat × Nat) × Bool)} {τ : List Nat} {v : (Nat × Nat) × Bool} {j : Nat} {x125 : (Int × Int) × (Nat × Nat) × Bool} (h0 : (decide ((↑j : Int) < (↑(List.map celBu bs).length : Int))) = true) (h1 : HLwArAspecA L n (.el (List.map celBu bs) (.v (.int .i64 ((↑j : Int)))) [(.v (.int .i64 (x125.fst.fst))), (.v (.int .i64 (x125.fst.snd))), (.cpx (x125.snd.fst.fst) (x125.snd.fst.snd)), (.v (.bool (x125.snd.snd)))])) (h2 : (decide ((↑i : Int) ≥ x125.fst.fst)) = false) : rnd 0 [3, 4, 5, 14, 18, 19, 21, 22] (bodyOf ⟨fnOf, specA, L⟩ (runF ⟨fnOf, specA, L⟩ n) 0 m32b0 (j :: π) (adI ds us os bs nn st τ lu lo i v j : St)) = some (.nrm, (.mk [(3, (.lst 1 (List.map celC ds))), (4, (.lst 4 (List.map celBu bs))), (5, (.v (.int .i64 (nn)))), (14, (.slc (.mk 0 28 0) [1, 7] 1 0 (lu) false)), (18, (.slc (.mk 0 18 1000) (st) 2 0 (lo) false)), (19, (.v (.int .i64 ((↑i : Int))))), (21, (.ptr (.mk 0 21 0) (τ) 0 0)), (22, (.v (.int .i64 (IntKind.wrap .i64 ((↑j : Int) + 1)))))] [((.mk 0 18 1000), (.mk (st) (List.map celS os) 2 true)), ((.mk 0 28 0), (.mk [1, 7] (List.map celC us) 1 true)), ((.mk 0 21 0), (.mk (τ) [[(AV.cpx (v.fst.fst) (v.fst.snd)), (.v (.bool (v.snd)))]] 2 true))] 0)) :=
  rndD_sound (q := [((some 119), (Dec.b true)), ((some 125), (Dec.el [(.v (.int .i64 (x125.fst.fst))), (.v (.int .i64 (x125.fst.snd))), (.cpx (x125.snd.fst.fst) (x125.snd.fst.snd)), (.v (.bool (x125.snd.snd)))])), ((some 129), (Dec.b false))]) (by kernel_rfl) (hbLwArA h0 (hcLwArA h1 (hbLwArA h2 hnLwArA)))
theorem adi_4 {L n : Nat} {rate delay nn : Int} {ts es xs vs ds : List (Nat × Nat)} {us u2 : List (Nat × Nat)} {lu lo i : Nat} {os o2 : List ((Nat × Nat) × Bool)} {st π : List Nat} {bs : List ((Int × Int) × (Nat × Nat) × Bool)} {τ : List Nat} {v : (Nat × Nat) × Bool} {j : Nat} (h0 : (decide ((↑j : Int) < (↑(List.map celBu bs).length : Int))) = false) : rnd 0 [3, 4, 5, 14, 18, 19, 21, 22] (bodyOf ⟨fnOf, specA, L⟩ (runF ⟨fnOf, specA, L⟩ n) 0 m32b0 (j :: π) (adI ds us os bs nn st τ lu lo i v j : St)) = some ((.exit 6), (.mk [(3, (.lst 1 (List.map celC ds))), (4, (.lst 4 (List.map celBu bs))), (5, (.v (.int .i64 (nn)))), (14, (.slc (.mk 0 28 0) [1, 7] 1 0 (lu) false)), (18, (.slc (.mk 0 18 1000) (st) 2 0 (lo) false)), (19, (.v (.int .i64 ((↑i : Int))))), (21, (.ptr (.mk 0 21 0) (τ) 0 0)), (22, (.v (.int .i64 ((↑j : Int)))))] [((.mk 0 18 1000), (.mk (st) (List.map celS os) 2 true)), ((.mk 0 28 0), (.mk [1, 7] (List.map celC us) 1 true)), ((.mk 0 21 0), (.mk (τ) [[(AV.cpx (v.fst.fst) (v.fst.snd)), (.v (.bool (v.snd)))]] 2 true))] 0)) :=
  rndD_sound (q := [((some 119), (Dec.b false))]) (by kernel_rfl) (hbLwArA h0 hnLwArA)
theorem ari_0 {L n : Nat} {rate delay nn : Int} {ts es xs vs ds : List (Nat × Nat)} {us u2 : List (Nat × Nat)} {lu lo i : Nat} {os o2 : List ((Nat × Nat) × Bool)} {st π : List Nat} {bs : List ((Int × Int) × (Nat × Nat) × Bool)} {τ σ : List Nat} {b : (Int × Int) × (Nat × Nat) × Bool} {v : (Nat × Nat) × Bool} {j : Nat} (h0 : (decide ((↑j : Int) < b.fst.snd)) = true) (h1 : (decide (b.fst.fst ≥ IntKind.wrap .i64 (nn - (↑j : Int)))) = true) : rnd 0 [5, 20, 24, 25, 104, 105, 106, 117, 118] (bodyOf ⟨fnOf, specA, L⟩ (runF ⟨fnOf, specA, L⟩ n) 0 m31b0 (j :: π) (arI os bs nn τ σ b v lo i j : St)) = some ((.exit 7), (.mk [(5, (.v (.int .i64 (nn)))), (20, (.slc (.mk 0 90 0) [32] 2 0 (lo) true)), (24, (.ptr (.mk 0 24 0) (τ) 0 0)), (25, (.ptr (.mk 0 25 0) (σ) 0 0)), (104, (.lst 4 (List.map celBu bs))), (105, (.v (.int .i64 ((↑(List.map celBu bs).length : Int))))), (106, (.v (.int .i64 ((↑i : Int))))), (117, (.v (.int .i64 (b.fst.snd)))), (118, (.v (.int .i64 ((↑j : Int)))))] [((.mk 0 90 0), (.mk [32] (List.map celS os) 2 true)), ((.mk 0 24 0), (.mk (τ) [[(.v (.int .i64 (b.fst.fst))), (.v (.int .i64 (b.fst.snd))), (.cpx (b.snd.fst.fst) (b.snd.fst.snd)), (.v (.bool (b.snd.snd)))]] 4 true)), ((.mk 0 25 0), (.mk (σ) [[(AV.cpx (v.fst.fst) (v.fst.snd)), (.v (.bool (v.snd)))]] 2 true))] 0)) :=
  rndD_sound (q := [((some 119), (Dec.b true)), ((some 126), (Dec.b true))]) (by kernel_rfl) (hbLwArA h0 (hcLwArA (c := (.st (τ) (τ))) rfl (hbLwArA h1 hnLwArA)))
theorem ari_1 {L n : Nat} {rate delay nn : Int} {ts es xs vs ds : List (Nat × Nat)} {us u2 : List (Nat × Nat)} {lu lo i : Nat} {os o2 : List ((Nat × Nat) × Bool)} {st π : List Nat} {bs : List ((Int × Int) × (Nat × Nat) × Bool)} {τ σ : List Nat} {b : (Int × Int) × (Nat × Nat) × Bool} {v : (Nat × Nat) × Bool} {j : Nat} {k133 : Nat} {x0 : (Nat × Nat) × Bool} (h0 : (decide ((↑j : Int) < b.fst.snd)) = true) (h1 : (decide (b.fst.fst ≥ IntKind.wrap .i64 (nn - (↑j : Int)))) = false) (h2 : HLwArAspecA L n (.ix (.v (.int .i64 (IntKind.wrap .i64 (b.fst.fst + (↑j : Int))))) (lo) (k133))) (h3 : HLwArAspecA L n (.at (List.map celS os) (0 + k133) [(AV.cpx (x0.fst.fst) (x0.fst.snd)), (.v (.bool (x0.snd)))])) : rnd 0 [5, 20, 24, 25, 104, 105, 106, 117, 118] (bodyOf ⟨fnOf, specA, L⟩ (runF ⟨fnOf, specA, L⟩ n) 0 m31b0 (j :: π) (arI os bs nn τ σ b v lo i j : St)) = some (.nrm, (.mk [(5, (.v (.int .i64 (nn)))), (20, (.slc (.mk 0 90 0) [32] 2 0 (lo) true)), (24, (.ptr (.mk 0 24 0) (τ) 0 0)), (25, (.ptr (.mk 0 25 0) (σ) 0 0)), (104, (.lst 4 (List.map celBu bs))), (105, (.v (.int .i64 ((↑(List.map celBu bs).length : Int))))), (106, (.v (.int .i64 ((↑i : Int))))), (117, (.v (.int .i64 (b.fst.snd)))), (118, (.v (.int .i64 (IntKind.wrap .i64 ((↑j : Int) + 1)))))] [((.mk 0 90 0), (.mk [32] (List.set (List.map celS os) (0 + k133) [(AV.cpx (v.fst.fst) (v.fst.snd)), (.v (.bool (v.snd)))]) 2 true)), ((.mk 0 24 0), (.mk (τ) [[(.v (.int .i64 (b.fst.fst))), (.v (.int .i64 (b.fst.snd))), (.cpx (b.snd.fst.fst) (b.snd.fst.snd)), (.v (.bool (b.snd.snd)))]] 4 true)), ((.mk 0 25 0), (.mk (σ) [[(AV.cpx (v.fst.fst) (v.fst.snd)), (.v (.bool (v.snd)))]] 2 true))] 0)) :=
  rndD_sound (q := [((some 119), (Dec.b true)), ((some 126), (Dec.b false)), ((some 133), (Dec.ix (k133))), (none, (Dec.el [(AV.cpx (x0.fst.fst) (x0.fst.snd)), (.v (.bool (x0.snd)))]))]) (by kernel_rfl) (hbLwArA h0 (hcLwArA (c := (.st (τ) (τ))) rfl (hbLwArA h1 (hcLwArA (c := (.st (τ) (τ))) rfl (hcLwArA (c := (.st (σ) (σ))) rfl (hcLwArA h2 (hcLwArA (c := (.st [32] [32])) rfl (hcLwArA h3 hnLwArA))))))))
theorem ari_2 {L n : Nat} {rate delay nn : Int} {ts es xs vs ds : List (Nat × Nat)} {us u2 : List (Nat × Nat)} {lu lo i : Nat} {os o2 : List ((Nat × Nat) × Bool)} {st π : List Nat} {bs : List ((Int × Int) × (Nat × Nat) × Bool)} {τ σ : List Nat} {b : (Int × Int) × (Nat × Nat) × Bool} {v : (Nat × Nat) × Bool} {j : Nat} (h0 : (decide ((↑j : Int) < b.fst.snd)) = false) : rnd 0 [5, 20, 24, 25, 104, 105, 106, 117, 118] (bodyOf ⟨fnOf, specA, L⟩ (runF ⟨fnOf, specA, L⟩ n) 0 m31b0 (j :: π) (arI os bs nn τ σ b v lo i j : St)) = some ((.exit 8), (.mk [(5, (.v (.int .i64 (nn)))), (20, (.slc (.mk 0 90 0) [32] 2 0 (lo) true)), (24, (.ptr (.mk 0 24 0) (τ) 0 0)), (25, (.ptr (.mk 0 25 0) (σ) 0 0)), (104, (.lst 4 (List.map celBu bs))), (105, (.v (.int .i64 ((↑(List.map celBu bs).length : Int))))), (106, (.v (.int .i64 ((↑i : Int))))), (117, (.v (.int .i64 (b.fst.snd)))), (118, (.v (.int .i64 ((↑j : Int)))))] [((.mk 0 90 0), (.mk [32] (List.map celS os) 2 true)), ((.mk 0 24 0), (.mk (τ) [[(.v (.int .i64 (b.fst.fst))), (.v (.int .i64 (b.fst.snd))), (.cpx (b.snd.fst.fst) (b.snd.fst.snd)), (.v (.bool (b.snd.snd)))]] 4 true)), ((.mk 0 25 0), (.mk (σ) [[(AV.cpx (v.fst.fst) (v.fst.snd)), (.v (.bool (v.snd)))]] 2 true))] 0)) :=
  rndD_sound (q := [((some 119), (Dec.b false))]) (by kernel_rfl) (hbLwArA h0 hnLwArA)
end Go.Proofs.Ytnphdnokedhhkaa.Fw
