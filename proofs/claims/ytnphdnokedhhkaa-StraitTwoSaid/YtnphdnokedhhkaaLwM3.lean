/- filter, fit, plain, onGrid of chapter 10: paths, printed by a program of ours. | filter, fit, plain, onGrid of chapter 10: what they answer. | The outright statements of chapter 10: what is spoken for. | StraitTwo: paths, printed by a program of ours. | StraitLate: paths, printed by a program of ours. | StraitLate: later, halved; the law's own run. | Two sums over taps, one behind the other, are one sum over the joined taps: whole numbers alone. | StraitTwo: the law's whole run. -/
import Derived.Test.YtnphdnokedhhkaaFwY
import Derived.Test.YtnphdnokedhhkaaFwAbs
import Derived.Test.YtnphdnokedhhkaaFwW
import Derived.KernelRfl
import Derived.Test.YtnphdnokedhhkaaLwM2
set_option maxRecDepth 100000
set_option maxHeartbeats 4000000
set_option linter.unusedSimpArgs false
set_option linter.unusedVariables false
set_option exponentiation.threshold 4000
namespace Go.Proofs.Ytnphdnokedhhkaa.Fw
open Go Go.RowKit
abbrev HLwOuAspecK (L n : Nat) : Con → Prop := Con.holds ⟨fnOf, specK, L⟩ (runF ⟨fnOf, specK, L⟩ n)
theorem hnLwOuA {P : Prog} {C : Caller} : Holds P C [] := trivial
theorem hcLwOuA {P : Prog} {C : Caller} {c : Con} {cs : List Con} (h : c.holds P C) (t : Holds P C cs) : Holds P C (c :: cs) := ⟨h, t⟩
theorem hbLwOuA {P : Prog} {C : Caller} {x y : Bool} {cs : List Con} (h : x = y) (t : Holds P C cs) : Holds P C (.b x y :: cs) := ⟨h, t⟩

def fiSt (ps : List Int) (most : Int) (zs : List (Nat × Nat)) (left : Int) (st : List Nat) (o : Nat) (i : Int) : St := ⟨[(0, .lst 1 (ps.map celI)), (1, .int .i64 most), (5, .int .i64 left), (6, .slc ⟨0,6,1000⟩ st 1 0 o false), (7, .int .i64 i)], [(⟨0,6,1000⟩, ⟨st, zs.map celC, 1, true⟩)], 0⟩
def plSt (ps : List Int) (unit size most : Int) (zs : List (Nat × Nat)) (st : List Nat) (o : Nat) (i : Int) : St := ⟨[(0, .lst 1 (ps.map celI)), (1, .int .i64 unit), (2, .int .i64 size), (3, .int .i64 most), (9, .slc ⟨0,9,1000⟩ st 1 0 o false), (10, .int .i64 i)], [(⟨0,9,1000⟩, ⟨st, zs.map celC, 1, true⟩)], 0⟩
theorem fil_0 {L n : Nat} {ps : List Int} {most left k unit size i : Int} {zs : List (Nat × Nat)} {o : Nat} {st π : List Nat} (h0 : HLwOuAspecK L n (.loop 0 [0, 1, 5, 6, 7] m55b0 [4] (.mk [(0, (.lst 1 (List.map celI ps))), (1, (.v (.int .i64 (most)))), (5, (.v (.int .i64 256))), (6, (.slc (.mk 0 6 1000) [4] 1 0 0 false)), (7, (.v (.int .i64 0)))] [((.mk 0 6 1000), (.mk [4] [] 1 true))] 0) (.exit 0) (.mk [(0, (.lst 1 (List.map celI ps))), (1, (.v (.int .i64 (most)))), (5, (.v (.int .i64 (left)))), (6, (.slc (.mk 0 6 1000) (st) 1 0 (o) false)), (7, (.v (.int .i64 (i))))] [((.mk 0 6 1000), (.mk (st) (List.map celC zs) 1 true))] 0))) (h1 : HLwOuAspecK L n (.le (o) (List.length (List.map celC zs)))) : den ⟨fnOf, specK, L⟩ (n+1) 55 [.lst 1 (ps.map celI), .int .i64 most] = some (.own 1 (List.take (o) (List.map celC zs)) true) :=
  denD_sound (q := [((some 200000), (Dec.loop (.exit 0) (.mk [(0, (.lst 1 (List.map celI ps))), (1, (.v (.int .i64 (most)))), (5, (.v (.int .i64 (left)))), (6, (.slc (.mk 0 6 1000) (st) 1 0 (o) false)), (7, (.v (.int .i64 (i))))] [((.mk 0 6 1000), (.mk (st) (List.map celC zs) 1 true))] 0)))]) (by kernel_rfl) (hcLwOuA h0 (hcLwOuA (c := (.st (st) (st))) rfl (hcLwOuA h1 hnLwOuA)))
theorem flr_0 {L n : Nat} {ps : List Int} {most left k unit size i : Int} {zs : List (Nat × Nat)} {o : Nat} {st π : List Nat} {j : Nat} {x25 : Int} {x31 : Int} (h0 : (decide (IntKind.wrap .i64 (i + 1) < (↑(List.map celI ps).length : Int))) = true) (h1 : (decide ((↑o : Int) < most)) = true) (h2 : HLwOuAspecK L n (.el (List.map celI ps) (.v (.int .i64 (i))) [(.v (.int .i64 (x25)))])) (h3 : HLwOuAspecK L n (.el (List.map celI ps) (.v (.int .i64 (IntKind.wrap .i64 (i + 1)))) [(.v (.int .i64 (x31)))])) (h4 : (decide ((if IntKind.wrap .i64 (0 - x25.tmod (65)) > x25.tmod (65) then IntKind.wrap .i64 (0 - x25.tmod (65)) else x25.tmod (65)) > left)) = true) (h5 : (decide ((if IntKind.wrap .i64 (0 - x31.tmod (65)) > x31.tmod (65) then IntKind.wrap .i64 (0 - x31.tmod (65)) else x31.tmod (65)) > IntKind.wrap .i64 (left - if IntKind.wrap .i64 (0 - 0) > 0 then IntKind.wrap .i64 (0 - 0) else 0))) = true) (h6 : HLwOuAspecK L n (.push (o) 1 16 (List.map celC zs))) : rnd 0 [0, 1, 5, 6, 7] (bodyOf ⟨fnOf, specK, L⟩ (runF ⟨fnOf, specK, L⟩ n) 0 m55b0 (j :: π) (fiSt ps most zs left st o i : St)) = some (.nrm, (.mk [(0, (.lst 1 (List.map celI ps))), (1, (.v (.int .i64 (most)))), (5, (.v (.int .i64 (IntKind.wrap .i64 (IntKind.wrap .i64 (left - if IntKind.wrap .i64 (0 - 0) > 0 then IntKind.wrap .i64 (0 - 0) else 0) - if IntKind.wrap .i64 (0 - 0) > 0 then IntKind.wrap .i64 (0 - 0) else 0))))), (6, (.slc (.mk 0 6 1000) ([61, (j)] ++ (π)) 1 0 (o + 1) false)), (7, (.v (.int .i64 (IntKind.wrap .i64 (i + 2)))))] [((.mk 0 6 1000), (.mk ([61, (j)] ++ (π)) ((List.map celC zs) ++ [[(AV.cpx 0 0)]]) 1 true))] 0)) :=
  rndD_sound (q := [((some 15), (Dec.b true)), ((some 20), (Dec.b true)), ((some 25), (Dec.el [(.v (.int .i64 (x25)))])), ((some 31), (Dec.el [(.v (.int .i64 (x31)))])), ((some 39), (Dec.b true)), ((some 51), (Dec.b true)), ((some 67), Dec.push)]) (by kernel_rfl) (hbLwOuA h0 (hbLwOuA h1 (hcLwOuA h2 (hcLwOuA h3 (hbLwOuA h4 (hbLwOuA h5 (hcLwOuA (c := (.st (st) (st))) rfl (hcLwOuA h6 (hcLwOuA (c := (.st ([60, (j)] ++ (π)) ([60, (j)] ++ (π)))) rfl hnLwOuA)))))))))
theorem flr_1 {L n : Nat} {ps : List Int} {most left k unit size i : Int} {zs : List (Nat × Nat)} {o : Nat} {st π : List Nat} {j : Nat} {x25 : Int} {x31 : Int} (h0 : (decide (IntKind.wrap .i64 (i + 1) < (↑(List.map celI ps).length : Int))) = true) (h1 : (decide ((↑o : Int) < most)) = true) (h2 : HLwOuAspecK L n (.el (List.map celI ps) (.v (.int .i64 (i))) [(.v (.int .i64 (x25)))])) (h3 : HLwOuAspecK L n (.el (List.map celI ps) (.v (.int .i64 (IntKind.wrap .i64 (i + 1)))) [(.v (.int .i64 (x31)))])) (h4 : (decide ((if IntKind.wrap .i64 (0 - x25.tmod (65)) > x25.tmod (65) then IntKind.wrap .i64 (0 - x25.tmod (65)) else x25.tmod (65)) > left)) = true) (h5 : (decide ((if IntKind.wrap .i64 (0 - x31.tmod (65)) > x31.tmod (65) then IntKind.wrap .i64 (0 - x31.tmod (65)) else x31.tmod (65)) > IntKind.wrap .i64 (left - if IntKind.wrap .i64 (0 - 0) > 0 then IntKind.wrap .i64 (0 - 0) else 0))) = false) (h6 : HLwOuAspecK L n (.push (o) 1 16 (List.map celC zs))) : rnd 0 [0, 1, 5, 6, 7] (bodyOf ⟨fnOf, specK, L⟩ (runF ⟨fnOf, specK, L⟩ n) 0 m55b0 (j :: π) (fiSt ps most zs left st o i : St)) = some (.nrm, (.mk [(0, (.lst 1 (List.map celI ps))), (1, (.v (.int .i64 (most)))), (5, (.v (.int .i64 (IntKind.wrap .i64 (IntKind.wrap .i64 (left - if IntKind.wrap .i64 (0 - 0) > 0 then IntKind.wrap .i64 (0 - 0) else 0) - if IntKind.wrap .i64 (0 - x31.tmod (65)) > x31.tmod (65) then IntKind.wrap .i64 (0 - x31.tmod (65)) else x31.tmod (65)))))), (6, (.slc (.mk 0 6 1000) ([60, (j)] ++ (π)) 1 0 (o + 1) false)), (7, (.v (.int .i64 (IntKind.wrap .i64 (i + 2)))))] [((.mk 0 6 1000), (.mk ([60, (j)] ++ (π)) ((List.map celC zs) ++ [[(AV.cpx 0 (fdiv (fofInt (x31.tmod (65))) 4634204016564240384))]]) 1 true))] 0)) :=
  rndD_sound (q := [((some 15), (Dec.b true)), ((some 20), (Dec.b true)), ((some 25), (Dec.el [(.v (.int .i64 (x25)))])), ((some 31), (Dec.el [(.v (.int .i64 (x31)))])), ((some 39), (Dec.b true)), ((some 51), (Dec.b false)), ((some 67), Dec.push)]) (by kernel_rfl) (hbLwOuA h0 (hbLwOuA h1 (hcLwOuA h2 (hcLwOuA h3 (hbLwOuA h4 (hbLwOuA h5 (hcLwOuA (c := (.st (st) (st))) rfl (hcLwOuA h6 (hcLwOuA (c := (.st ([59, (j)] ++ (π)) ([59, (j)] ++ (π)))) rfl hnLwOuA)))))))))
theorem flr_2 {L n : Nat} {ps : List Int} {most left k unit size i : Int} {zs : List (Nat × Nat)} {o : Nat} {st π : List Nat} {j : Nat} {x25 : Int} {x31 : Int} (h0 : (decide (IntKind.wrap .i64 (i + 1) < (↑(List.map celI ps).length : Int))) = true) (h1 : (decide ((↑o : Int) < most)) = true) (h2 : HLwOuAspecK L n (.el (List.map celI ps) (.v (.int .i64 (i))) [(.v (.int .i64 (x25)))])) (h3 : HLwOuAspecK L n (.el (List.map celI ps) (.v (.int .i64 (IntKind.wrap .i64 (i + 1)))) [(.v (.int .i64 (x31)))])) (h4 : (decide ((if IntKind.wrap .i64 (0 - x25.tmod (65)) > x25.tmod (65) then IntKind.wrap .i64 (0 - x25.tmod (65)) else x25.tmod (65)) > left)) = false) (h5 : (decide ((if IntKind.wrap .i64 (0 - x31.tmod (65)) > x31.tmod (65) then IntKind.wrap .i64 (0 - x31.tmod (65)) else x31.tmod (65)) > IntKind.wrap .i64 (left - if IntKind.wrap .i64 (0 - x25.tmod (65)) > x25.tmod (65) then IntKind.wrap .i64 (0 - x25.tmod (65)) else x25.tmod (65)))) = true) (h6 : HLwOuAspecK L n (.push (o) 1 16 (List.map celC zs))) : rnd 0 [0, 1, 5, 6, 7] (bodyOf ⟨fnOf, specK, L⟩ (runF ⟨fnOf, specK, L⟩ n) 0 m55b0 (j :: π) (fiSt ps most zs left st o i : St)) = some (.nrm, (.mk [(0, (.lst 1 (List.map celI ps))), (1, (.v (.int .i64 (most)))), (5, (.v (.int .i64 (IntKind.wrap .i64 (IntKind.wrap .i64 (left - if IntKind.wrap .i64 (0 - x25.tmod (65)) > x25.tmod (65) then IntKind.wrap .i64 (0 - x25.tmod (65)) else x25.tmod (65)) - if IntKind.wrap .i64 (0 - 0) > 0 then IntKind.wrap .i64 (0 - 0) else 0))))), (6, (.slc (.mk 0 6 1000) ([60, (j)] ++ (π)) 1 0 (o + 1) false)), (7, (.v (.int .i64 (IntKind.wrap .i64 (i + 2)))))] [((.mk 0 6 1000), (.mk ([60, (j)] ++ (π)) ((List.map celC zs) ++ [[(AV.cpx (fdiv (fofInt (x25.tmod (65))) 4634204016564240384) 0)]]) 1 true))] 0)) :=
  rndD_sound (q := [((some 15), (Dec.b true)), ((some 20), (Dec.b true)), ((some 25), (Dec.el [(.v (.int .i64 (x25)))])), ((some 31), (Dec.el [(.v (.int .i64 (x31)))])), ((some 39), (Dec.b false)), ((some 51), (Dec.b true)), ((some 67), Dec.push)]) (by kernel_rfl) (hbLwOuA h0 (hbLwOuA h1 (hcLwOuA h2 (hcLwOuA h3 (hbLwOuA h4 (hbLwOuA h5 (hcLwOuA (c := (.st (st) (st))) rfl (hcLwOuA h6 (hcLwOuA (c := (.st ([59, (j)] ++ (π)) ([59, (j)] ++ (π)))) rfl hnLwOuA)))))))))
theorem flr_3 {L n : Nat} {ps : List Int} {most left k unit size i : Int} {zs : List (Nat × Nat)} {o : Nat} {st π : List Nat} {j : Nat} {x25 : Int} {x31 : Int} (h0 : (decide (IntKind.wrap .i64 (i + 1) < (↑(List.map celI ps).length : Int))) = true) (h1 : (decide ((↑o : Int) < most)) = true) (h2 : HLwOuAspecK L n (.el (List.map celI ps) (.v (.int .i64 (i))) [(.v (.int .i64 (x25)))])) (h3 : HLwOuAspecK L n (.el (List.map celI ps) (.v (.int .i64 (IntKind.wrap .i64 (i + 1)))) [(.v (.int .i64 (x31)))])) (h4 : (decide ((if IntKind.wrap .i64 (0 - x25.tmod (65)) > x25.tmod (65) then IntKind.wrap .i64 (0 - x25.tmod (65)) else x25.tmod (65)) > left)) = false) (h5 : (decide ((if IntKind.wrap .i64 (0 - x31.tmod (65)) > x31.tmod (65) then IntKind.wrap .i64 (0 - x31.tmod (65)) else x31.tmod (65)) > IntKind.wrap .i64 (left - if IntKind.wrap .i64 (0 - x25.tmod (65)) > x25.tmod (65) then IntKind.wrap .i64 (0 - x25.tmod (65)) else x25.tmod (65)))) = false) (h6 : HLwOuAspecK L n (.push (o) 1 16 (List.map celC zs))) : rnd 0 [0, 1, 5, 6, 7] (bodyOf ⟨fnOf, specK, L⟩ (runF ⟨fnOf, specK, L⟩ n) 0 m55b0 (j :: π) (fiSt ps most zs left st o i : St)) = some (.nrm, (.mk [(0, (.lst 1 (List.map celI ps))), (1, (.v (.int .i64 (most)))), (5, (.v (.int .i64 (IntKind.wrap .i64 (IntKind.wrap .i64 (left - if IntKind.wrap .i64 (0 - x25.tmod (65)) > x25.tmod (65) then IntKind.wrap .i64 (0 - x25.tmod (65)) else x25.tmod (65)) - if IntKind.wrap .i64 (0 - x31.tmod (65)) > x31.tmod (65) then IntKind.wrap .i64 (0 - x31.tmod (65)) else x31.tmod (65)))))), (6, (.slc (.mk 0 6 1000) ([59, (j)] ++ (π)) 1 0 (o + 1) false)), (7, (.v (.int .i64 (IntKind.wrap .i64 (i + 2)))))] [((.mk 0 6 1000), (.mk ([59, (j)] ++ (π)) ((List.map celC zs) ++ [[(AV.cpx (fdiv (fofInt (x25.tmod (65))) 4634204016564240384) (fdiv (fofInt (x31.tmod (65))) 4634204016564240384))]]) 1 true))] 0)) :=
  rndD_sound (q := [((some 15), (Dec.b true)), ((some 20), (Dec.b true)), ((some 25), (Dec.el [(.v (.int .i64 (x25)))])), ((some 31), (Dec.el [(.v (.int .i64 (x31)))])), ((some 39), (Dec.b false)), ((some 51), (Dec.b false)), ((some 67), Dec.push)]) (by kernel_rfl) (hbLwOuA h0 (hbLwOuA h1 (hcLwOuA h2 (hcLwOuA h3 (hbLwOuA h4 (hbLwOuA h5 (hcLwOuA (c := (.st (st) (st))) rfl (hcLwOuA h6 (hcLwOuA (c := (.st ([58, (j)] ++ (π)) ([58, (j)] ++ (π)))) rfl hnLwOuA)))))))))
theorem flr_4 {L n : Nat} {ps : List Int} {most left k unit size i : Int} {zs : List (Nat × Nat)} {o : Nat} {st π : List Nat} {j : Nat} (h0 : (decide (IntKind.wrap .i64 (i + 1) < (↑(List.map celI ps).length : Int))) = true) (h1 : (decide ((↑o : Int) < most)) = false) : rnd 0 [0, 1, 5, 6, 7] (bodyOf ⟨fnOf, specK, L⟩ (runF ⟨fnOf, specK, L⟩ n) 0 m55b0 (j :: π) (fiSt ps most zs left st o i : St)) = some ((.exit 0), (.mk [(0, (.lst 1 (List.map celI ps))), (1, (.v (.int .i64 (most)))), (5, (.v (.int .i64 (left)))), (6, (.slc (.mk 0 6 1000) (st) 1 0 (o) false)), (7, (.v (.int .i64 (i))))] [((.mk 0 6 1000), (.mk (st) (List.map celC zs) 1 true))] 0)) :=
  rndD_sound (q := [((some 15), (Dec.b true)), ((some 20), (Dec.b false))]) (by kernel_rfl) (hbLwOuA h0 (hbLwOuA h1 hnLwOuA))
theorem flr_5 {L n : Nat} {ps : List Int} {most left k unit size i : Int} {zs : List (Nat × Nat)} {o : Nat} {st π : List Nat} {j : Nat} (h0 : (decide (IntKind.wrap .i64 (i + 1) < (↑(List.map celI ps).length : Int))) = false) : rnd 0 [0, 1, 5, 6, 7] (bodyOf ⟨fnOf, specK, L⟩ (runF ⟨fnOf, specK, L⟩ n) 0 m55b0 (j :: π) (fiSt ps most zs left st o i : St)) = some ((.exit 0), (.mk [(0, (.lst 1 (List.map celI ps))), (1, (.v (.int .i64 (most)))), (5, (.v (.int .i64 (left)))), (6, (.slc (.mk 0 6 1000) (st) 1 0 (o) false)), (7, (.v (.int .i64 (i))))] [((.mk 0 6 1000), (.mk (st) (List.map celC zs) 1 true))] 0)) :=
  rndD_sound (q := [((some 15), (Dec.b false))]) (by kernel_rfl) (hbLwOuA h0 hnLwOuA)
theorem pln_0 {L n : Nat} {ps : List Int} {most left k unit size i : Int} {zs : List (Nat × Nat)} {o : Nat} {st π : List Nat} (h0 : HLwOuAspecK L n (.loop 0 [0, 1, 2, 3, 9, 10] m38b0 [3] (.mk [(0, (.lst 1 (List.map celI ps))), (1, (.v (.int .i64 (unit)))), (2, (.v (.int .i64 (size)))), (3, (.v (.int .i64 (most)))), (9, (.slc (.mk 0 9 1000) [3] 1 0 0 false)), (10, (.v (.int .i64 0)))] [((.mk 0 9 1000), (.mk [3] [] 1 true))] 0) (.exit 0) (.mk [(0, (.lst 1 (List.map celI ps))), (1, (.v (.int .i64 (unit)))), (2, (.v (.int .i64 (size)))), (3, (.v (.int .i64 (most)))), (9, (.slc (.mk 0 9 1000) (st) 1 0 (o) false)), (10, (.v (.int .i64 (i))))] [((.mk 0 9 1000), (.mk (st) (List.map celC zs) 1 true))] 0))) (h1 : HLwOuAspecK L n (.le (o) (List.length (List.map celC zs)))) : den ⟨fnOf, specK, L⟩ (n+1) 38 [.lst 1 (ps.map celI), .int .i64 unit, .int .i64 size, .int .i64 most] = some (.own 1 (List.take (o) (List.map celC zs)) true) :=
  denD_sound (q := [((some 200000), (Dec.loop (.exit 0) (.mk [(0, (.lst 1 (List.map celI ps))), (1, (.v (.int .i64 (unit)))), (2, (.v (.int .i64 (size)))), (3, (.v (.int .i64 (most)))), (9, (.slc (.mk 0 9 1000) (st) 1 0 (o) false)), (10, (.v (.int .i64 (i))))] [((.mk 0 9 1000), (.mk (st) (List.map celC zs) 1 true))] 0)))]) (by kernel_rfl) (hcLwOuA h0 (hcLwOuA (c := (.st (st) (st))) rfl (hcLwOuA h1 hnLwOuA)))
theorem plr_0 {L n : Nat} {ps : List Int} {most left k unit size i : Int} {zs : List (Nat × Nat)} {o : Nat} {st π : List Nat} {j : Nat} {x28 : Int} {x38 : Int} (h0 : (decide (IntKind.wrap .i64 (i + 1) < (↑(List.map celI ps).length : Int))) = true) (h1 : (decide ((↑o : Int) < most)) = true) (h2 : HLwOuAspecK L n (.el (List.map celI ps) (.v (.int .i64 (i))) [(.v (.int .i64 (x28)))])) (h3 : HLwOuAspecK L n (.nz (IntKind.wrap .i64 (IntKind.wrap .i64 (size * unit) + 1)))) (h4 : HLwOuAspecK L n (.el (List.map celI ps) (.v (.int .i64 (IntKind.wrap .i64 (i + 1)))) [(.v (.int .i64 (x38)))])) (h5 : HLwOuAspecK L n (.push (o) 1 16 (List.map celC zs))) : rnd 0 [0, 1, 2, 3, 9, 10] (bodyOf ⟨fnOf, specK, L⟩ (runF ⟨fnOf, specK, L⟩ n) 0 m38b0 (j :: π) (plSt ps unit size most zs st o i : St)) = some (.nrm, (.mk [(0, (.lst 1 (List.map celI ps))), (1, (.v (.int .i64 (unit)))), (2, (.v (.int .i64 (size)))), (3, (.v (.int .i64 (most)))), (9, (.slc (.mk 0 9 1000) ([45, (j)] ++ (π)) 1 0 (o + 1) false)), (10, (.v (.int .i64 (IntKind.wrap .i64 (i + 2)))))] [((.mk 0 9 1000), (.mk ([45, (j)] ++ (π)) ((List.map celC zs) ++ [[(AV.cpx (fdiv (fofInt (x28.tmod (IntKind.wrap .i64 (IntKind.wrap .i64 (size * unit) + 1)))) (fofInt unit)) (fdiv (fofInt (x38.tmod (IntKind.wrap .i64 (IntKind.wrap .i64 (size * unit) + 1)))) (fofInt unit)))]]) 1 true))] 0)) :=
  rndD_sound (q := [((some 18), (Dec.b true)), ((some 23), (Dec.b true)), ((some 28), (Dec.el [(.v (.int .i64 (x28)))])), ((some 34), Dec.div), ((some 38), (Dec.el [(.v (.int .i64 (x38)))])), ((some 44), Dec.div), ((some 58), Dec.push)]) (by kernel_rfl) (hbLwOuA h0 (hbLwOuA h1 (hcLwOuA h2 (hcLwOuA h3 (hcLwOuA h4 (hcLwOuA h3 (hcLwOuA (c := (.st (st) (st))) rfl (hcLwOuA h5 (hcLwOuA (c := (.st ([44, (j)] ++ (π)) ([44, (j)] ++ (π)))) rfl hnLwOuA)))))))))
theorem plr_1 {L n : Nat} {ps : List Int} {most left k unit size i : Int} {zs : List (Nat × Nat)} {o : Nat} {st π : List Nat} {j : Nat} (h0 : (decide (IntKind.wrap .i64 (i + 1) < (↑(List.map celI ps).length : Int))) = true) (h1 : (decide ((↑o : Int) < most)) = false) : rnd 0 [0, 1, 2, 3, 9, 10] (bodyOf ⟨fnOf, specK, L⟩ (runF ⟨fnOf, specK, L⟩ n) 0 m38b0 (j :: π) (plSt ps unit size most zs st o i : St)) = some ((.exit 0), (.mk [(0, (.lst 1 (List.map celI ps))), (1, (.v (.int .i64 (unit)))), (2, (.v (.int .i64 (size)))), (3, (.v (.int .i64 (most)))), (9, (.slc (.mk 0 9 1000) (st) 1 0 (o) false)), (10, (.v (.int .i64 (i))))] [((.mk 0 9 1000), (.mk (st) (List.map celC zs) 1 true))] 0)) :=
  rndD_sound (q := [((some 18), (Dec.b true)), ((some 23), (Dec.b false))]) (by kernel_rfl) (hbLwOuA h0 (hbLwOuA h1 hnLwOuA))
theorem plr_2 {L n : Nat} {ps : List Int} {most left k unit size i : Int} {zs : List (Nat × Nat)} {o : Nat} {st π : List Nat} {j : Nat} (h0 : (decide (IntKind.wrap .i64 (i + 1) < (↑(List.map celI ps).length : Int))) = false) : rnd 0 [0, 1, 2, 3, 9, 10] (bodyOf ⟨fnOf, specK, L⟩ (runF ⟨fnOf, specK, L⟩ n) 0 m38b0 (j :: π) (plSt ps unit size most zs st o i : St)) = some ((.exit 0), (.mk [(0, (.lst 1 (List.map celI ps))), (1, (.v (.int .i64 (unit)))), (2, (.v (.int .i64 (size)))), (3, (.v (.int .i64 (most)))), (9, (.slc (.mk 0 9 1000) (st) 1 0 (o) false)), (10, (.v (.int .i64 (i))))] [((.mk 0 9 1000), (.mk (st) (List.map celC zs) 1 true))] 0)) :=
  rndD_sound (q := [((some 18), (Dec.b false))]) (by kernel_rfl) (hbLwOuA h0 hnLwOuA)
theorem fit_0 {L n : Nat} {rate delay att : Int} {ts es : List Int} {odd a b : Nat} {zs17 : List (Nat × Nat)} {zs20 : List (Nat × Nat)} (h0 : HLwOuAspecK L n (.call 55 [(.lst 1 (List.map celI ts)), (.v (.int .i64 64))] (.own 1 (List.map celC zs17) true))) (h1 : HLwOuAspecK L n (.call 55 [(.lst 1 (List.map celI es)), (.v (.int .i64 64))] (.own 1 (List.map celC zs20) true))) (h2 : ((↑(List.map celC zs17).length : Int) == 0) = true) (h3 : HLwOuAspecK L n (.le (List.length (List.map celC zs20)) (List.length (List.map celC zs20)))) : den ⟨fnOf, specK, L⟩ (n+1) 37 [.agg [.int .i64 rate, .int .i64 delay, .lst 1 (ts.map celI), .lst 1 (es.map celI), .flt odd, .int .i64 att]] = some (.agg [(.v (.int .i64 (IntKind.wrap .i64 (1 + IntKind.wrap .i64 ((IntKind.wrap .u64 rate).tmod (8)))))), (.v (.int .i64 (IntKind.wrap .i64 ((IntKind.wrap .u64 delay).tmod (200))))), (.own 1 [[(AV.cpx 4607182418800017408 0)]] true), (.own 1 (List.take (List.length (List.map celC zs20)) (List.map celC zs20)) true)]) :=
  denD_sound (q := [((some 17), (Dec.call (.own 1 (List.map celC zs17) true))), ((some 20), (Dec.call (.own 1 (List.map celC zs20) true))), ((some 25), (Dec.b true))]) (by kernel_rfl) (hcLwOuA (c := (.st [0] [0])) rfl (hcLwOuA (c := (.st [0] [0])) rfl (hcLwOuA (c := (.st [0] [0])) rfl (hcLwOuA h0 (hcLwOuA (c := (.st [0] [0])) rfl (hcLwOuA h1 (hcLwOuA (c := (.st [20] [20])) rfl (hcLwOuA (c := (.st [20] [20])) rfl (hbLwOuA h2 (hcLwOuA (c := (.st [20] [20])) rfl (hcLwOuA (c := (.st [20] [20])) rfl (hcLwOuA (c := (.st [1] [1])) rfl (hcLwOuA (c := (.st [26] [26])) rfl (hcLwOuA (c := (.le 1 1)) (by simp [Con.holds]) (hcLwOuA (c := (.st [1, 18] [1, 18])) rfl (hcLwOuA h3 hnLwOuA))))))))))))))))
theorem fit_1 {L n : Nat} {rate delay att : Int} {ts es : List Int} {odd a b : Nat} {zs17 : List (Nat × Nat)} {zs20 : List (Nat × Nat)} (h0 : HLwOuAspecK L n (.call 55 [(.lst 1 (List.map celI ts)), (.v (.int .i64 64))] (.own 1 (List.map celC zs17) true))) (h1 : HLwOuAspecK L n (.call 55 [(.lst 1 (List.map celI es)), (.v (.int .i64 64))] (.own 1 (List.map celC zs20) true))) (h2 : ((↑(List.map celC zs17).length : Int) == 0) = false) (h3 : HLwOuAspecK L n (.le (List.length (List.map celC zs17)) (List.length (List.map celC zs17)))) (h4 : HLwOuAspecK L n (.le (List.length (List.map celC zs20)) (List.length (List.map celC zs20)))) : den ⟨fnOf, specK, L⟩ (n+1) 37 [.agg [.int .i64 rate, .int .i64 delay, .lst 1 (ts.map celI), .lst 1 (es.map celI), .flt odd, .int .i64 att]] = some (.agg [(.v (.int .i64 (IntKind.wrap .i64 (1 + IntKind.wrap .i64 ((IntKind.wrap .u64 rate).tmod (8)))))), (.v (.int .i64 (IntKind.wrap .i64 ((IntKind.wrap .u64 delay).tmod (200))))), (.own 1 (List.take (List.length (List.map celC zs17)) (List.map celC zs17)) true), (.own 1 (List.take (List.length (List.map celC zs20)) (List.map celC zs20)) true)]) :=
  denD_sound (q := [((some 17), (Dec.call (.own 1 (List.map celC zs17) true))), ((some 20), (Dec.call (.own 1 (List.map celC zs20) true))), ((some 25), (Dec.b false))]) (by kernel_rfl) (hcLwOuA (c := (.st [0] [0])) rfl (hcLwOuA (c := (.st [0] [0])) rfl (hcLwOuA (c := (.st [0] [0])) rfl (hcLwOuA h0 (hcLwOuA (c := (.st [0] [0])) rfl (hcLwOuA h1 (hcLwOuA (c := (.st [20] [20])) rfl (hcLwOuA (c := (.st [20] [20])) rfl (hbLwOuA h2 (hcLwOuA (c := (.st [20] [20])) rfl (hcLwOuA (c := (.st [1] [1])) rfl (hcLwOuA (c := (.st [1, 15] [1, 15])) rfl (hcLwOuA h3 (hcLwOuA (c := (.st [1, 18] [1, 18])) rfl (hcLwOuA h4 hnLwOuA)))))))))))))))
end Go.Proofs.Ytnphdnokedhhkaa.Fw
namespace Go.Proofs.Ytnphdnokedhhkaa.Fw
open Go Go.RowKit
theorem u64_nonneg (x : Int) : 0 ≤ IntKind.wrap .u64 x := by
  unfold IntKind.wrap
  simp [IntKind.signed, IntKind.bits]
  omega
theorem mx_abs (a : Int) : (if -a > a then -a else a) = (a.natAbs : Int) := by split <;> omega
theorem tmod_small (x : Int) {m : Int} (h : 0 < m) : (x.tmod m).natAbs < m.natAbs := by
  rw [Int.natAbs_tmod]; exact Nat.mod_lt _ (by omega)
theorem tat_at {zs : List (Nat × Nat)} {z : Nat × Nat} {k : Nat} (h : k < zs.length) : (zs ++ [z]).getD k (0, 0) = zs.getD k (0, 0) := by
  rw [getD_apps, if_pos h]
theorem tat_last {zs : List (Nat × Nat)} {z : Nat × Nat} : (zs ++ [z]).getD zs.length (0, 0) = z := by
  rw [getD_apps, if_neg (Nat.lt_irrefl _), Nat.sub_self]; rfl
theorem sumA_app {zs : List (Nat × Nat)} {z : Nat × Nat} : ∀ k, k ≤ zs.length → sumA (tat (zs ++ [z])) k = sumA (tat zs) k
  | 0, _ => rfl
  | k + 1, h => by
    show sumA (tat (zs ++ [z])) k + absI (sxC ((zs ++ [z]).getD k (0, 0))) = sumA (tat zs) k + absI (sxC (zs.getD k (0, 0)))
    rw [sumA_app k (by omega), tat_at (by omega)]
/-- what filter keeps up -/
def okFi (zs : List (Nat × Nat)) (left : Int) : Prop := 0 ≤ left ∧ left + sumA (tat zs) zs.length = 256 ∧ ∀ j, j < zs.length → okTap (zs.getD j (0, 0)) = true
theorem okFi_up {zs : List (Nat × Nat)} {left a b : Int} (h : okFi zs left) (a1 : a.natAbs ≤ 64) (a2 : (a.natAbs : Int) ≤ left) (b1 : b.natAbs ≤ 64) (b2 : (b.natAbs : Int) ≤ left - a.natAbs) :
    okFi (zs ++ [(fdiv (fofInt a) 4634204016564240384, fdiv (fofInt b) 4634204016564240384)]) (left - a.natAbs - b.natAbs) := by
  obtain ⟨h1, h2, h3⟩ := h
  have hz : sixC (a, b) (fdiv (fofInt a) 4634204016564240384, fdiv (fofInt b) 4634204016564240384) := ⟨div64 (by omega), div64 (by omega)⟩
  refine ⟨by omega, ?_, fun j hj => ?_⟩
  · rw [List.length_append, List.length_singleton]
    generalize (fdiv (fofInt a) 4634204016564240384, fdiv (fofInt b) 4634204016564240384) = z at hz ⊢
    have es : sumA (tat (zs ++ [z])) (zs.length + 1) = sumA (tat (zs ++ [z])) zs.length + absI (sxC ((zs ++ [z]).getD zs.length (0, 0))) := rfl
    have ea : absI (a, b) = a.natAbs + b.natAbs := rfl
    rw [es, sumA_app _ (Nat.le_refl _), tat_last, sixC_sx hz, ea]
    omega
  · rw [List.length_append, List.length_singleton] at hj
    by_cases c : j < zs.length
    · rw [tat_at c]; exact h3 j c
    · rw [show j = zs.length by omega, tat_last]
      exact okTap_of hz a1 b1
section
variable {L n : Nat}
theorem filter_den {ps : List Int} (hm : ps.length ≤ 17592186044406) (hL : 100 ≤ L) : ∃ zs left, den ⟨fnOf, specK, L+1⟩ (n+1) 55 [.lst 1 (ps.map celI), .int .i64 64] = some (.own 1 (zs.map celC) true) ∧ zs.length ≤ 64 ∧ okFi zs left := by
  have hl : (ps.map celI).length = ps.length := map_len
  have e0 : IntKind.wrap .i64 (0 - 0) = 0 := by decide
  obtain ⟨s', g1, zs, left, st, i, rfl, hz, hf⟩ := loopJ (P := ⟨fnOf, specK, L+1⟩) (C := runF ⟨fnOf, specK, L+1⟩ n) (L := L) (d := 0) (live := [0, 1, 5, 6, 7]) (π := [4]) (m := m55b0) (A := fiSt ps 64 [] 256 [4] 0 0)
    (fun j s => ∃ zs left st, s = fiSt ps 64 zs left st j ((2 * j : Nat) : Int) ∧ zs.length = j ∧ okFi zs left) (fun s => ∃ zs left st i, s = fiSt ps 64 zs left st zs.length i ∧ zs.length ≤ 64 ∧ okFi zs left) (min (ps.length / 2) 64) (x := .exit 0) (by simp) rfl (by omega) ⟨[], 256, [4], rfl, rfl, by decide, rfl, fun j hj => by simp at hj⟩
    (fun j s hj hs => by
      obtain ⟨zs, left, st, rfl, hz, hf⟩ := hs
      have w1 : IntKind.wrap .i64 (((2 * j : Nat) : Int) + 1) = ((2 * j + 1 : Nat) : Int) := by rw [wrap_id (by omega)]; omega
      have w2 : IntKind.wrap .i64 (((2 * j : Nat) : Int) + 2) = ((2 * (j + 1) : Nat) : Int) := by rw [wrap_id (by omega)]; omega
      have he := elD_map (P := ⟨fnOf, specK, L+1⟩) (C := runF ⟨fnOf, specK, L+1⟩ n) (f := celI) (d := 0) (show 2 * j < ps.length by omega)
      have hf2 := elD_map (P := ⟨fnOf, specK, L+1⟩) (C := runF ⟨fnOf, specK, L+1⟩ n) (f := celI) (d := 0) (show 2 * j + 1 < ps.length by omega)
      have hp : Con.holds ⟨fnOf, specK, L+1⟩ (runF ⟨fnOf, specK, L+1⟩ n) (.push j 1 16 (zs.map celC)) := push_ok (by rw [map_len, hz]) (by simp only [most]; omega)
      have hd : decide (IntKind.wrap .i64 (((2 * j : Nat) : Int) + 1) < ((ps.map celI).length : Int)) = true := by rw [w1, hl]; exact dT (by omega)
      have hd2 : decide ((j : Int) < (64 : Int)) = true := dT (by omega)
      have hl0 : left ≤ 256 := by obtain ⟨_, h2, _⟩ := hf; omega
      have hl1 : 0 ≤ left := hf.1
      generalize ps.getD (2 * j) 0 = x at he
      generalize ps.getD (2 * j + 1) 0 = y at hf2
      have ax := tmod_small x (m := 65) (by decide)
      have ay := tmod_small y (m := 65) (by decide)
      rw [← w1] at hf2
      have F0 := @flr_0 (L+1) n ps 64 left 0 0 0 ((2 * j : Nat) : Int) zs j st [4] j x y hd hd2 he hf2
      have F1 := @flr_1 (L+1) n ps 64 left 0 0 0 ((2 * j : Nat) : Int) zs j st [4] j x y hd hd2 he hf2
      have F2 := @flr_2 (L+1) n ps 64 left 0 0 0 ((2 * j : Nat) : Int) zs j st [4] j x y hd hd2 he hf2
      have F3 := @flr_3 (L+1) n ps 64 left 0 0 0 ((2 * j : Nat) : Int) zs j st [4] j x y hd hd2 he hf2
      generalize x.tmod 65 = a at *
      generalize y.tmod 65 = b at *
      have a1 : a.natAbs ≤ 64 := by omega
      have b1 : b.natAbs ≤ 64 := by omega
      have ea : IntKind.wrap .i64 (0 - a) = -a := by rw [wrap_id (by omega)]; omega
      have eb : IntKind.wrap .i64 (0 - b) = -b := by rw [wrap_id (by omega)]; omega
      have key : ∀ (a' b' : Int) (σ : List Nat), a'.natAbs ≤ 64 → (a'.natAbs : Int) ≤ left → b'.natAbs ≤ 64 → (b'.natAbs : Int) ≤ left - a'.natAbs →
          ∃ zs1 left1 st1, fiSt ps 64 (zs ++ [(fdiv (fofInt a') 4634204016564240384, fdiv (fofInt b') 4634204016564240384)]) (left - a'.natAbs - b'.natAbs) σ (j + 1) ((2 * (j + 1) : Nat) : Int) = fiSt ps 64 zs1 left1 st1 (j + 1) ((2 * (j + 1) : Nat) : Int) ∧ zs1.length = j + 1 ∧ okFi zs1 left1 := fun a' b' σ q1 q2 q3 q4 =>
        ⟨_, _, _, rfl, by rw [List.length_append, List.length_singleton, hz], okFi_up hf q1 q2 q3 q4⟩
      have wl : ∀ c : Int, c.natAbs ≤ 1000 → IntKind.wrap .i64 c = c := fun c hc => wrap_id (by omega)
      by_cases c1 : (a.natAbs : Int) > left
      · by_cases c2 : (b.natAbs : Int) > left
        · have := F0 (by rw [ea, mx_abs]; exact dT c1) (by rw [eb, mx_abs, e0, ite_self, Int.sub_zero, wl _ (by omega)]; exact dT c2) hp
          rw [e0, ite_self, Int.sub_zero, Int.sub_zero, wl left (by omega), wl left (by omega), w2] at this
          obtain ⟨zs1, left1, st1, k1, k2, k3⟩ := key 0 0 _ (by decide) hl1 (by decide) (by simpa using hl1)
          refine ⟨_, this, zs1, left1, st1, ?_, k2, k3⟩
          rw [← k1]
          unfold fiSt
          rw [List.map_append, show left - ((0 : Int).natAbs : Int) - ((0 : Int).natAbs : Int) = left by simp]
          rfl
        · have := F1 (by rw [ea, mx_abs]; exact dT c1) (by rw [eb, mx_abs, e0, ite_self, Int.sub_zero, wl _ (by omega)]; exact dF c2) hp
          rw [e0, ite_self, Int.sub_zero, wl left (by omega), eb, mx_abs, wl _ (by omega), w2] at this
          obtain ⟨zs1, left1, st1, k1, k2, k3⟩ := key 0 b _ (by decide) hl1 b1 (by simp only [Int.natAbs_zero]; omega)
          refine ⟨_, this, zs1, left1, st1, ?_, k2, k3⟩
          rw [← k1]
          unfold fiSt
          rw [List.map_append, show left - ((0 : Int).natAbs : Int) - (b.natAbs : Int) = left - b.natAbs by simp]
          rfl
      · by_cases c2 : (b.natAbs : Int) > left - a.natAbs
        · have := F2 (by rw [ea, mx_abs]; exact dF c1) (by rw [eb, mx_abs, ea, mx_abs, wl _ (by omega)]; exact dT c2) hp
          rw [ea, mx_abs, e0, ite_self, Int.sub_zero, wl (left - a.natAbs) (by omega), wl (left - a.natAbs) (by omega), w2] at this
          obtain ⟨zs1, left1, st1, k1, k2, k3⟩ := key a 0 _ a1 (by omega) (by decide) (by simp only [Int.natAbs_zero]; omega)
          refine ⟨_, this, zs1, left1, st1, ?_, k2, k3⟩
          rw [← k1]
          unfold fiSt
          rw [List.map_append, show left - (a.natAbs : Int) - ((0 : Int).natAbs : Int) = left - a.natAbs by simp]
          rfl
        · have := F3 (by rw [ea, mx_abs]; exact dF c1) (by rw [eb, mx_abs, ea, mx_abs, wl _ (by omega)]; exact dF c2) hp
          rw [ea, mx_abs, eb, mx_abs, wl (left - a.natAbs) (by omega), wl _ (by omega), w2] at this
          obtain ⟨zs1, left1, st1, k1, k2, k3⟩ := key a b _ a1 (by omega) b1 (by omega)
          refine ⟨_, this, zs1, left1, st1, ?_, k2, k3⟩
          rw [← k1]
          unfold fiSt
          rw [List.map_append]
          rfl)
    (fun s hs => by
      obtain ⟨zs, left, st, rfl, hz, hf⟩ := hs
      have w1 : IntKind.wrap .i64 (((2 * min (ps.length / 2) 64 : Nat) : Int) + 1) = ((2 * min (ps.length / 2) 64 + 1 : Nat) : Int) := by rw [wrap_id (by omega)]; omega
      have ho : fiSt ps 64 zs left st (min (ps.length / 2) 64) ((2 * min (ps.length / 2) 64 : Nat) : Int) = fiSt ps 64 zs left st zs.length ((2 * min (ps.length / 2) 64 : Nat) : Int) := by rw [hz]
      by_cases c : ps.length / 2 < 64 ∧ True
      · exact ⟨_, @flr_5 (L+1) n ps 64 left 0 0 0 ((2 * min (ps.length / 2) 64 : Nat) : Int) zs (min (ps.length / 2) 64) st [4] (min (ps.length / 2) 64) (by rw [w1, hl]; exact dF (by omega)), zs, left, st, _, ho, by omega, hf⟩
      · by_cases c2 : 2 * min (ps.length / 2) 64 + 1 < ps.length
        · exact ⟨_, @flr_4 (L+1) n ps 64 left 0 0 0 ((2 * min (ps.length / 2) 64 : Nat) : Int) zs (min (ps.length / 2) 64) st [4] (min (ps.length / 2) 64) (by rw [w1, hl]; exact dT (by omega)) (dF (by omega)), zs, left, st, _, ho, by omega, hf⟩
        · exact ⟨_, @flr_5 (L+1) n ps 64 left 0 0 0 ((2 * min (ps.length / 2) 64 : Nat) : Int) zs (min (ps.length / 2) 64) st [4] (min (ps.length / 2) 64) (by rw [w1, hl]; exact dF (by omega)), zs, left, st, _, ho, by omega, hf⟩)
  have hle : Con.holds ⟨fnOf, specK, L+1⟩ (runF ⟨fnOf, specK, L+1⟩ n) (.le zs.length (List.length (zs.map celC))) := by show _ ≤ _; rw [map_len]; exact Nat.le_refl _
  have := @fil_0 (L+1) n ps 64 left 0 0 0 i zs zs.length st [] g1 hle
  rw [tkMap rfl] at this
  exact ⟨zs, left, this, hz, hf⟩
theorem chkT_zero {r d : Int} {ts es : List (Nat × Nat)} (h1 : 1 ≤ r) (h2 : r ≤ 8) (h3 : 0 ≤ d) (h4 : d ≤ 65536) (h5 : tapsF ts = true) (h6 : es.length = 0 ∨ tapsF es = true) : chkT r d ts es = 0 := by
  unfold chkT
  rw [if_neg (by omega), if_pos ⟨h5, h6⟩]
theorem okFi_taps {zs : List (Nat × Nat)} {left : Int} (h : okFi zs left) (hz : zs.length ≤ 64) (h0 : 0 < zs.length) : tapsF zs = true := by
  obtain ⟨h1, h2, h3⟩ := h
  exact tapsF_of h0 hz h3 (by omega)
theorem one_taps : tapsF [(4607182418800017408, 0)] = true := by decide +kernel
/-- a strait that may be -/
theorem fit_den {rate delay att : Int} {ts es : List Int} {odd : Nat} (m1 : ts.length ≤ 17592186044406) (m2 : es.length ≤ 17592186044406) (hL : 100 ≤ L) :
    ∃ (r d : Int) (ta ea : List (Nat × Nat)), den ⟨fnOf, specK, L+1⟩ (n+2) 37 [.agg [.int .i64 rate, .int .i64 delay, .lst 1 (ts.map celI), .lst 1 (es.map celI), .flt odd, .int .i64 att]] = some (.agg [.int .i64 r, .int .i64 d, .own 1 (ta.map celC) true, .own 1 (ea.map celC) true]) ∧ chkT r d ta ea = 0 ∧ d < 200 := by
  obtain ⟨z1, l1, d1, k1, f1⟩ := @filter_den L n ts m1 hL
  obtain ⟨z2, l2, d2, k2, f2⟩ := @filter_den L n es m2 hL
  have c1 := call_den d1
  have c2 := call_den d2
  have hr0 := Int.tmod_nonneg 8 (u64_nonneg rate)
  have hr1 := Int.tmod_lt_of_pos (IntKind.wrap .u64 rate) (b := 8) (by decide)
  have hd0 := Int.tmod_nonneg 200 (u64_nonneg delay)
  have hd1 := Int.tmod_lt_of_pos (IntKind.wrap .u64 delay) (b := 200) (by decide)
  have leq : ∀ l : List (Nat × Nat), Con.holds ⟨fnOf, specK, L+1⟩ (runF ⟨fnOf, specK, L+1⟩ (n+1)) (.le (List.length (l.map celC)) (List.length (l.map celC))) := fun l => by show _ ≤ _; exact Nat.le_refl _
  have tl : ∀ l : List (Nat × Nat), List.take (List.length (l.map celC)) (l.map celC) = l.map celC := fun l => List.take_length
  have he : z2.length = 0 ∨ tapsF z2 = true := by
    by_cases c : z2.length = 0
    · exact .inl c
    · exact .inr (okFi_taps f2 k2 (by omega))
  generalize hR : (IntKind.wrap .u64 rate).tmod 8 = R at *
  generalize hD : (IntKind.wrap .u64 delay).tmod 200 = D at *
  have w1 : IntKind.wrap .i64 R = R := wrap_id (by omega)
  have w2 : IntKind.wrap .i64 (1 + R) = 1 + R := wrap_id (by omega)
  have w3 : IntKind.wrap .i64 D = D := wrap_id (by omega)
  by_cases c : z1.length = 0
  · have := @fit_0 (L+1) (n+1) rate delay att ts es odd 0 0 z1 z2 c1 c2 (by rw [map_len, c]; rfl) (leq _)
    rw [hR, hD, w1, w2, w3, tl] at this
    exact ⟨1 + R, D, [(4607182418800017408, 0)], z2, this, chkT_zero (by omega) (by omega) (by omega) (by omega) one_taps he, hd1⟩
  · have := @fit_1 (L+1) (n+1) rate delay att ts es odd 0 0 z1 z2 c1 c2 (by rw [map_len]; exact beq_eq_false_iff_ne.2 (by omega)) (leq _) (leq _)
    rw [hR, hD, w1, w2, w3, tl, tl] at this
    exact ⟨1 + R, D, z1, z2, this, chkT_zero (by omega) (by omega) (by omega) (by omega) (okFi_taps f1 k1 (by omega)) he, hd1⟩
/-- a number of a plain row: its whole numbers; 'q' divides them -/
def plC (q : Int) (M : Nat) (z : Nat × Nat) : Prop := ∃ m : CI, sixC (m.1 * q, m.2 * q) z ∧ (m.1 * q).natAbs ≤ M ∧ (m.2 * q).natAbs ≤ M
theorem div1 {a : Int} (h : a.natAbs < 2 ^ 40) : six (a * 64) (fdiv (fofInt a) 4607182418800017408) := by
  obtain ⟨f1, f2⟩ := fofInt_exact (n := a) (by omega)
  have hr : Ieee.double.read 4607182418800017408 = .number false (2 ^ 52) ((0 : Nat) - 52 : Int) := by decide
  have hst : stout (fofInt a) := by
    unfold stout
    by_cases h0 : a = 0
    · left; rw [f2, h0, Int.zero_mul]
    · right
      rw [f2, Int.natAbs_mul, Int.natAbs_pow]
      calc 2 ^ 600 ≤ 1 * 2 ^ 1074 := by rw [Nat.one_mul]; exact Nat.pow_le_pow_right (by decide) (by decide)
        _ ≤ a.natAbs * 2 ^ 1074 := Nat.mul_le_mul_right _ (by omega)
  obtain ⟨g1, g2⟩ := fdiv_pow2 (k := 0) (V := a * 2 ^ 1074) f1 hst hr (by decide) (by rw [f2]; simp) (fits_stepI (by omega))
  refine ⟨g1, ?_⟩
  rw [g2, show (64 : Int) = 2 ^ 6 from rfl, Int.mul_assoc, ← Int.pow_add]
theorem plain10 {ps : List Int} {unit size mst q : Int} {mo : Nat} (hu : (unit = 64 ∧ q = 1) ∨ (unit = 1 ∧ q = 64)) (hs : 0 < size ∧ size ≤ 128) (hmo : mst = (mo : Int)) (hmo2 : mo ≤ 100000) (hm : ps.length ≤ 17592186044406) (hL : 100000 ≤ L) :
    ∃ zs : List (Nat × Nat), den ⟨fnOf, specK, L+1⟩ (n+1) 38 [.lst 1 (ps.map celI), .int .i64 unit, .int .i64 size, .int .i64 mst] = some (.own 1 (zs.map celC) true) ∧ zs.length ≤ mo ∧ ∀ j, j < zs.length → plC q (size.toNat * 64) (zs.getD j (0, 0)) := by
  have hl : (ps.map celI).length = ps.length := map_len
  subst hmo
  have hmul : size * unit = size * 64 ∨ size * unit = size := by rcases hu with ⟨rfl, _⟩ | ⟨rfl, _⟩ <;> omega
  have ws : IntKind.wrap .i64 (size * unit) = size * unit := wrap_id (by omega)
  have ws2 : IntKind.wrap .i64 (size * unit + 1) = size * unit + 1 := wrap_id (by omega)
  obtain ⟨s', g1, zs, st, i, rfl, hz, hf⟩ := loopJ (P := ⟨fnOf, specK, L+1⟩) (C := runF ⟨fnOf, specK, L+1⟩ n) (L := L) (d := 0) (live := [0, 1, 2, 3, 9, 10]) (π := [3]) (m := m38b0) (A := plSt ps unit size mo [] [3] 0 0)
    (fun j s => ∃ (zs : List (Nat × Nat)) (st : List Nat), s = plSt ps unit size mo zs st j ((2 * j : Nat) : Int) ∧ zs.length = j ∧ ∀ k, k < zs.length → plC q (size.toNat * 64) (zs.getD k (0, 0)))
    (fun s => ∃ (zs : List (Nat × Nat)) (st : List Nat) (i : Int), s = plSt ps unit size mo zs st zs.length i ∧ zs.length ≤ mo ∧ ∀ k, k < zs.length → plC q (size.toNat * 64) (zs.getD k (0, 0))) (min (ps.length / 2) mo) (x := .exit 0) (by simp) rfl (by omega) ⟨[], [3], rfl, rfl, fun j hj => by simp at hj⟩
    (fun j s hj hs => by
      obtain ⟨zs, st, rfl, hz, hf⟩ := hs
      have w1 : IntKind.wrap .i64 (((2 * j : Nat) : Int) + 1) = ((2 * j + 1 : Nat) : Int) := by rw [wrap_id (by omega)]; omega
      have w2 : IntKind.wrap .i64 (((2 * j : Nat) : Int) + 2) = ((2 * (j + 1) : Nat) : Int) := by rw [wrap_id (by omega)]; omega
      have he := elD_map (P := ⟨fnOf, specK, L+1⟩) (C := runF ⟨fnOf, specK, L+1⟩ n) (f := celI) (d := 0) (show 2 * j < ps.length by omega)
      have hf2 := elD_map (P := ⟨fnOf, specK, L+1⟩) (C := runF ⟨fnOf, specK, L+1⟩ n) (f := celI) (d := 0) (show 2 * j + 1 < ps.length by omega)
      have hp : Con.holds ⟨fnOf, specK, L+1⟩ (runF ⟨fnOf, specK, L+1⟩ n) (.push j 1 16 (zs.map celC)) := push_ok (by rw [map_len, hz]) (by simp only [most]; omega)
      have hd : decide (IntKind.wrap .i64 (((2 * j : Nat) : Int) + 1) < ((ps.map celI).length : Int)) = true := by rw [w1, hl]; exact dT (by omega)
      have hnz : Con.holds ⟨fnOf, specK, L+1⟩ (runF ⟨fnOf, specK, L+1⟩ n) (.nz (IntKind.wrap .i64 (IntKind.wrap .i64 (size * unit) + 1))) := by
        show _ ≠ _; rw [ws, ws2]; omega
      generalize ps.getD (2 * j) 0 = x at he
      generalize ps.getD (2 * j + 1) 0 = y at hf2
      rw [← w1] at hf2
      have := @plr_0 (L+1) n ps mo 0 0 unit size ((2 * j : Nat) : Int) zs j st [3] j x y hd (dT (by omega)) he hnz hf2 hp
      rw [w2] at this
      refine ⟨_, this, zs ++ [((fdiv (fofInt (x.tmod (IntKind.wrap .i64 (IntKind.wrap .i64 (size * unit) + 1)))) (fofInt unit)), (fdiv (fofInt (y.tmod (IntKind.wrap .i64 (IntKind.wrap .i64 (size * unit) + 1)))) (fofInt unit)))], [45, j] ++ [3], ?_, ?_, fun k hk => ?_⟩
      · unfold plSt
        rw [List.map_append]
        rfl
      · rw [List.length_append, List.length_singleton, hz]
      · rw [List.length_append, List.length_singleton] at hk
        by_cases c : k < zs.length
        · rw [tat_at c]; exact hf k c
        · rw [show k = zs.length by omega, tat_last, ws, ws2]
          have ax := tmod_small x (m := size * unit + 1) (by omega)
          have ay := tmod_small y (m := size * unit + 1) (by omega)
          generalize x.tmod (size * unit + 1) = a at *
          generalize y.tmod (size * unit + 1) = b at *
          rcases hu with ⟨rfl, rfl⟩ | ⟨rfl, rfl⟩
          · have e : fofInt 64 = 4634204016564240384 := by kernel_rfl
            rw [e]
            refine ⟨(a, b), ⟨?_, ?_⟩, ?_, ?_⟩
            · show six (a * 1) _; rw [Int.mul_one]; exact div64 (by omega)
            · show six (b * 1) _; rw [Int.mul_one]; exact div64 (by omega)
            · show (a * 1).natAbs ≤ _; omega
            · show (b * 1).natAbs ≤ _; omega
          · have e : fofInt 1 = 4607182418800017408 := by kernel_rfl
            rw [e]
            exact ⟨(a, b), ⟨div1 (by omega), div1 (by omega)⟩, by show (a * 64).natAbs ≤ _; omega, by show (b * 64).natAbs ≤ _; omega⟩)
    (fun s hs => by
      obtain ⟨zs, st, rfl, hz, hf⟩ := hs
      have w1 : IntKind.wrap .i64 (((2 * min (ps.length / 2) mo : Nat) : Int) + 1) = ((2 * min (ps.length / 2) mo + 1 : Nat) : Int) := by rw [wrap_id (by omega)]; omega
      have ho : plSt ps unit size mo zs st (min (ps.length / 2) mo) ((2 * min (ps.length / 2) mo : Nat) : Int) = plSt ps unit size mo zs st zs.length ((2 * min (ps.length / 2) mo : Nat) : Int) := by rw [hz]
      by_cases c2 : 2 * min (ps.length / 2) mo + 1 < ps.length
      · exact ⟨_, @plr_1 (L+1) n ps mo 0 0 unit size ((2 * min (ps.length / 2) mo : Nat) : Int) zs (min (ps.length / 2) mo) st [3] (min (ps.length / 2) mo) (by rw [w1, hl]; exact dT (by omega)) (dF (by omega)), zs, st, _, ho, by omega, hf⟩
      · exact ⟨_, @plr_2 (L+1) n ps mo 0 0 unit size ((2 * min (ps.length / 2) mo : Nat) : Int) zs (min (ps.length / 2) mo) st [3] (min (ps.length / 2) mo) (by rw [w1, hl]; exact dF (by omega)), zs, st, _, ho, by omega, hf⟩)
  have hle : Con.holds ⟨fnOf, specK, L+1⟩ (runF ⟨fnOf, specK, L+1⟩ n) (.le zs.length (List.length (zs.map celC))) := by show _ ≤ _; rw [map_len]; exact Nat.le_refl _
  have := @pln_0 (L+1) n ps mo 0 0 unit size i zs zs.length st [] g1 hle
  rw [tkMap rfl] at this
  exact ⟨zs, this, hz, hf⟩
end
end Go.Proofs.Ytnphdnokedhhkaa.Fw
namespace Go.Proofs.Ytnphdnokedhhkaa.Fw
open Go Go.RowKit
def newG1 : FuncId → Option (List AV → Option AV)
  | 19 => some (fun avs => pasSem false (avs.map nzA))
  | _ => none
theorem spec_G1 : SpecOk Try.prog ⟨fnOf, fun f => match newG1 f with | some g => some g | none => specX f, 0⟩ :=
  spec_adds spec_x (fun L => fnsOk _ _) follows newG1 fun f g h => by
    unfold newG1 at h
    split at h
    · cases h
      refine ⟨⟨_, Try.func19, ne_of_beq_false (by kernel_rfl), by kernel_rfl⟩, fun avs r h => ?_⟩
      have hw := wi_nz avs
      obtain ⟨rate, delay, nn, ts, es, xs, vs, he, h1, h2, h3, h4, rfl⟩ := pasSem_is h
      rw [he] at hw
      exact ⟨_, _, _, _, hw, (@pass_both 70000 0 rate delay nn ts es xs vs (Nat.le_refl _) h1 h2 h3 h4).1, pas_wk _ _⟩
    · cases h
def newG5 : FuncId → Option (List AV → Option AV)
  | 37 => some (fun avs => den ⟨fnOf, specK, 200001⟩ 2 37 avs)
  | 38 => some (fun avs => den ⟨fnOf, specK, 200001⟩ 1 38 avs)
  | 39 => some (fun avs => den ⟨fnOf, specK, 200001⟩ 2 39 avs)
  | 21 => some (fun avs => den ⟨fnOf, specK, 20000000000001⟩ 1 21 (avs.map nzA))
  | 14 => some (fun avs => den ⟨fnOf, specK, 70001⟩ 2 14 (avs.map nzA))
  | _ => none
theorem spec_G5 : SpecOk Try.prog ⟨fnOf, fun f => match newG5 f with | some g => some g | none => specK f, 0⟩ :=
  spec_adds spec_k (fun L => fnsOk _ _) follows newG5 fun f g h => by
    unfold newG5 at h
    split at h
    · cases h
      refine ⟨⟨_, Try.func37, ne_of_beq_false (by kernel_rfl), by kernel_rfl⟩, fun avs r h => ?_⟩
      exact toldZ (P := ⟨fnOf, specK, 0⟩) h (WkT.refl _)
    · cases h
      refine ⟨⟨_, Try.func38, ne_of_beq_false (by kernel_rfl), by kernel_rfl⟩, fun avs r h => ?_⟩
      exact toldZ (P := ⟨fnOf, specK, 0⟩) h (WkT.refl _)
    · cases h
      refine ⟨⟨_, Try.func39, ne_of_beq_false (by kernel_rfl), by kernel_rfl⟩, fun avs r h => ?_⟩
      exact toldZ (P := ⟨fnOf, specK, 0⟩) h (WkT.refl _)
    · cases h
      refine ⟨⟨_, Try.func21, ne_of_beq_false (by kernel_rfl), by kernel_rfl⟩, fun avs r h => ?_⟩
      exact ⟨_, _, _, _, wi_nz avs, h, WkT.refl _⟩
    · cases h
      refine ⟨⟨_, Try.func14, ne_of_beq_false (by kernel_rfl), by kernel_rfl⟩, fun avs r h => ?_⟩
      exact ⟨_, _, _, _, wi_nz avs, h, WkT.refl _⟩
    · cases h
def newG6 : FuncId → Option (List AV → Option AV)
  | 26 => some (fun avs => den ⟨fnOf, specZ, 70001⟩ 2 26 (avs.map nzA))
  | 28 => some (fun avs => den ⟨fnOf, specZ, 70001⟩ 2 28 (avs.map nzA))
  | _ => none
theorem spec_G6 : SpecOk Try.prog ⟨fnOf, fun f => match newG6 f with | some g => some g | none => specZ f, 0⟩ :=
  spec_adds spec_z (fun L => fnsOk _ _) follows newG6 fun f g h => by
    unfold newG6 at h
    split at h
    · cases h
      refine ⟨⟨_, Try.func26, ne_of_beq_false (by kernel_rfl), by kernel_rfl⟩, fun avs r h => ?_⟩
      exact ⟨_, _, _, _, wi_nz avs, h, WkT.refl _⟩
    · cases h
      refine ⟨⟨_, Try.func28, ne_of_beq_false (by kernel_rfl), by kernel_rfl⟩, fun avs r h => ?_⟩
      exact ⟨_, _, _, _, wi_nz avs, h, WkT.refl _⟩
    · cases h
def newG : FuncId → Option (List AV → Option AV)
  | 22 => some (fun avs => chkSem (avs.map nzA))
  | 31 => some (fun avs => arrSem false (nzR avs))
  | 35 => some wkSem
  | 19 => some (fun avs => pasSem false (avs.map nzA))
  | 37 => some (fun avs => den ⟨fnOf, specK, 200001⟩ 2 37 avs)
  | 38 => some (fun avs => den ⟨fnOf, specK, 200001⟩ 1 38 avs)
  | 39 => some (fun avs => den ⟨fnOf, specK, 200001⟩ 2 39 avs)
  | 21 => some (fun avs => den ⟨fnOf, specK, 20000000000001⟩ 1 21 (avs.map nzA))
  | 14 => some (fun avs => den ⟨fnOf, specK, 70001⟩ 2 14 (avs.map nzA))
  | 26 => some (fun avs => den ⟨fnOf, specZ, 70001⟩ 2 26 (avs.map nzA))
  | 28 => some (fun avs => den ⟨fnOf, specZ, 70001⟩ 2 28 (avs.map nzA))
  | _ => none
def specG : FuncId → Option (List AV → Option AV) := fun f => match newG f with | some g => some g | none => specK f
theorem spec_g : SpecOk Try.prog ⟨fnOf, specG, 0⟩ := by
  intro f g h
  have h : (match newG f with | some g => some g | none => specK f) = some g := h
  unfold newG at h
  split at h
  · rename_i g' hq
    split at hq
    · cases hq; cases h; exact spec_v 22 _ rfl
    · cases hq; cases h; exact spec_b 31 _ rfl
    · cases hq; cases h; exact spec_vw 35 _ rfl
    · cases hq; cases h; exact spec_G1 19 _ rfl
    · cases hq; cases h; exact spec_G5 37 _ rfl
    · cases hq; cases h; exact spec_G5 38 _ rfl
    · cases hq; cases h; exact spec_G5 39 _ rfl
    · cases hq; cases h; exact spec_G5 21 _ rfl
    · cases hq; cases h; exact spec_G5 14 _ rfl
    · cases hq; cases h; exact spec_G6 26 _ rfl
    · cases hq; cases h; exact spec_G6 28 _ rfl
    · cases hq
  · exact spec_k f g h
theorem spec_gL (L : Nat) : SpecOk Try.prog ⟨fnOf, specG, L⟩ := fun f g h => spec_g f g h
section
variable {P : Prog} {C : Caller}
theorem fit_toldG (hp : P.spec = specG) {rate delay att : Int} {ts es : List Int} {odd : Nat} (m1 : ts.length ≤ 17592186044406) (m2 : es.length ≤ 17592186044406) :
    ∃ (r d : Int) (ta ea : List (Nat × Nat)), Con.holds P C (.spec 37 [.agg [.int .i64 rate, .int .i64 delay, .lst 1 (ts.map celI), .lst 1 (es.map celI), .flt odd, .int .i64 att]] (.agg [.int .i64 r, .int .i64 d, .own 1 (ta.map celC) true, .own 1 (ea.map celC) true])) ∧ chkT r d ta ea = 0 ∧ d < 200 := by
  obtain ⟨r, d, ta, ea, h, h2, h3⟩ := @fit_den 200000 0 rate delay att ts es odd m1 m2 (by omega)
  exact ⟨r, d, ta, ea, spec_is (g := fun avs => den ⟨fnOf, specK, 200001⟩ 2 37 avs) (by rw [hp]; rfl) h, h2, h3⟩
theorem plain_toldG (hp : P.spec = specG) {ps : List Int} {unit size mst q : Int} {mo : Nat} (hu : (unit = 64 ∧ q = 1) ∨ (unit = 1 ∧ q = 64)) (hs : 0 < size ∧ size ≤ 128) (hmo : mst = (mo : Int)) (hmo2 : mo ≤ 100000) (hm : ps.length ≤ 17592186044406) :
    ∃ zs : List (Nat × Nat), Con.holds P C (.spec 38 [.lst 1 (ps.map celI), .int .i64 unit, .int .i64 size, .int .i64 mst] (.own 1 (zs.map celC) true)) ∧ zs.length ≤ mo ∧ ∀ j, j < zs.length → plC q (size.toNat * 64) (zs.getD j (0, 0)) := by
  obtain ⟨zs, h, h2, h3⟩ := @plain10 200000 0 ps unit size mst q mo hu hs hmo hmo2 hm (by omega)
  exact ⟨zs, spec_is (g := fun avs => den ⟨fnOf, specK, 200001⟩ 1 38 avs) (by rw [hp]; rfl) h, h2, h3⟩
theorem pasQ_ok {e : Int} {l : List (Nat × Nat)} (h : e = 0) : pasQ e l = .tup [.own 1 (l.map celC) true, .int .i64 0] := by
  unfold pasQ; rw [if_pos h, h]
theorem passE_zero {rate delay nn : Int} {ts es xs vs : List (Nat × Nat)} (h : chkT rate delay ts es = 0) (h1 : 0 ≤ nn) (h2 : nn ≤ 65536) (h3 : xs.length ≤ 65536) (h4 : vs.length ≤ 65536) (h5 : rowF xs = true) (h6 : rowF vs = true) : passE rate delay nn ts es xs vs = 0 := by
  unfold passE
  rw [if_neg (by simp [h]), if_neg (by omega), if_pos ⟨h5, h6⟩]
theorem taps_short {rate delay : Int} {ts es : List (Nat × Nat)} (h : chkT rate delay ts es = 0) : shortL ts ∧ shortL es := by
  obtain ⟨_, ⟨_, h2, _⟩, h3, _⟩ := chk_parts h
  unfold shortL; omega
/-- what comes through, told: 'a', 'b', 'c': a list or none -/
theorem pass_toldG (hp : P.spec = specG) {rate delay nn : Int} {ts es xs vs : List (Nat × Nat)} {a b c : AV} (ha : nz1 a = .lst 1 (es.map celC)) (hb : nzA b = .lst 1 (xs.map celC)) (hc : nzA c = .lst 1 (vs.map celC)) (h : chkT rate delay ts es = 0) (h1 : 0 ≤ nn) (h2 : nn ≤ 65536) (h3 : xs.length ≤ 65536) (h4 : vs.length ≤ 65536) (h5 : rowF xs = true) (h6 : rowF vs = true) :
    Con.holds P C (.spec 19 [.agg [.int .i64 rate, .int .i64 delay, .lst 1 (ts.map celC), a], b, c, .int .i64 nn] (.tup [.own 1 ((passP rate delay nn ts es xs vs).map celC) true, .int .i64 0])) := by
  obtain ⟨t1, t2⟩ := taps_short h
  refine spec_is (g := fun avs => pasSem false (avs.map nzA)) (by rw [hp]; rfl) ?_
  have e : List.map nzA [.agg [.int .i64 rate, .int .i64 delay, .lst 1 (ts.map celC), a], b, c, .int .i64 nn] = [.agg [.int .i64 rate, .int .i64 delay, .lst 1 (ts.map celC), .lst 1 (es.map celC)], .lst 1 (xs.map celC), .lst 1 (vs.map celC), .int .i64 nn] := by
    show [AV.agg [_, _, _, nz1 a], nzA b, nzA c, _] = _
    rw [ha, hb, hc]; rfl
  show pasSem false (List.map nzA _) = _
  rw [e, pasSem_at false t1 t2 (by unfold shortL; omega) (by unfold shortL; omega), pasQ_ok (passE_zero h h1 h2 h3 h4 h5 h6)]
  rfl
end
theorem rowF_nil : rowF [] = true := rfl
theorem rowF_plC {q : Int} {M : Nat} {zs : List (Nat × Nat)} (hM : M ≤ 8192) (h : ∀ j, j < zs.length → plC q M (zs.getD j (0, 0))) : rowF zs = true :=
  rowF_of fun i hi => by
    obtain ⟨m, h1, h2, h3⟩ := h i hi
    exact ⟨_, h1, Nat.le_trans h2 hM, Nat.le_trans h3 hM⟩
/-- the numbers that come through -/
theorem passP_val {rate delay nn : Int} {ts xs es vs : List (Nat × Nat)} (h : chkT rate delay ts es = 0) (h3 : rowF xs = true) (h4 : rowF vs = true) {i : Nat} (hi : i < nn.toNat) :
    gridC (outI ts xs es vs rate.toNat (i : Int) delay.toNat) ((passP rate delay nn ts es xs vs).getD i (0, 0)) := by
  unfold passP; rw [tab_at hi]
  exact out_val h h3 h4 _
theorem passP_len {rate delay nn : Int} {ts xs es vs : List (Nat × Nat)} : (passP rate delay nn ts es xs vs).length = nn.toNat := tab_len
end Go.Proofs.Ytnphdnokedhhkaa.Fw
namespace Go.Proofs.Ytnphdnokedhhkaa.Fw
open Go Go.RowKit
abbrev HLwTwAspecG (L n : Nat) : Con → Prop := Con.holds ⟨fnOf, specG, L⟩ (runF ⟨fnOf, specG, L⟩ n)
theorem hnLwTwA {P : Prog} {C : Caller} : Holds P C [] := trivial
theorem hcLwTwA {P : Prog} {C : Caller} {c : Con} {cs : List Con} (h : c.holds P C) (t : Holds P C cs) : Holds P C (c :: cs) := ⟨h, t⟩
theorem hbLwTwA {P : Prog} {C : Caller} {x y : Bool} {cs : List Con} (h : x = y) (t : Holds P C cs) : Holds P C (.b x y :: cs) := ⟨h, t⟩

theorem twl_1 {L n : Nat} {rate delay att rate2 delay2 att2 : Int} {ts es ts2 es2 ps : List Int} {odd odd2 : Nat} {r21 : Int} {d21 : Int} {ta21 : List (Nat × Nat)} {ea21 : List (Nat × Nat)} {r23 : Int} {d23 : Int} {ta23 : List (Nat × Nat)} {ea23 : List (Nat × Nat)} {zs30 : List (Nat × Nat)} {r37 : Int} {d37 : Int} {ta37 : List (Nat × Nat)} {e37 : Int} {us48 : List (Nat × Nat)} {e48 : Int} {us55 : List (Nat × Nat)} {e55 : Int} {us62 : List (Nat × Nat)} {e62 : Int} {c84 : Bool} (h0 : HLwTwAspecG L n (.spec 37 [(.agg [(.v (.int .i64 (rate))), (.v (.int .i64 (delay))), (.lst 1 (List.map celI ts)), (.lst 1 (List.map celI es)), (.flt (odd)), (.v (.int .i64 (att)))])] (.agg [(.v (.int .i64 (r21))), (.v (.int .i64 (d21))), (.own 1 (List.map celC ta21) true), (.own 1 (List.map celC ea21) true)]))) (h1 : HLwTwAspecG L n (.spec 37 [(.agg [(.v (.int .i64 (rate2))), (.v (.int .i64 (delay2))), (.lst 1 (List.map celI ts2)), (.lst 1 (List.map celI es2)), (.flt (odd2)), (.v (.int .i64 (att2)))])] (.agg [(.v (.int .i64 (r23))), (.v (.int .i64 (d23))), (.own 1 (List.map celC ta23) true), (.own 1 (List.map celC ea23) true)]))) (h2 : HLwTwAspecG L n (.spec 38 [(.lst 1 (List.map celI ps)), (.v (.int .i64 1)), (.v (.int .i64 32)), (.v (.int .i64 100))] (.own 1 (List.map celC zs30) true))) (h3 : HLwTwAspecG L n (.spec 14 [(.agg [(.v (.int .i64 (r21))), (.v (.int .i64 (d21))), (.lst 1 (cutX (List.map celC ta21) 0 (List.length (List.map celC ta21)))), .nils]), (.agg [(.v (.int .i64 (r21))), (.v (.int .i64 (d23))), (.lst 1 (cutX (List.map celC ta23) 0 (List.length (List.map celC ta23)))), .nils])] (.tup [(.agg [(.v (.int .i64 (r37))), (.v (.int .i64 (d37))), (.own 1 (List.map celC ta37) true), .nils]), (.v (.int .i64 (e37)))]))) (h4 : HLwTwAspecG L n (.le (0 + (List.map celC ta21).length) (List.length (List.map celC ta21)))) (h5 : HLwTwAspecG L n (.le (0 + (List.map celC ta23).length) (List.length (List.map celC ta23)))) (h6 : (e37 != 0) = false) (h7 : HLwTwAspecG L n (.spec 19 [(.agg [(.v (.int .i64 (r21))), (.v (.int .i64 (d21))), (.lst 1 (cutX (List.map celC ta21) 0 (List.length (List.map celC ta21)))), .nils]), (.lst 1 (cutX (List.map celC zs30) 0 (List.length (List.map celC zs30)))), .nils, (.v (.int .i64 (IntKind.wrap .i64 (300 + (↑(List.map celC zs30).length : Int)))))] (.tup [(.own 1 (List.map celC us48) true), (.v (.int .i64 (e48)))]))) (h8 : HLwTwAspecG L n (.le (0 + (List.map celC zs30).length) (List.length (List.map celC zs30)))) (h9 : HLwTwAspecG L n (.spec 19 [(.agg [(.v (.int .i64 (r21))), (.v (.int .i64 (d23))), (.lst 1 (cutX (List.map celC ta23) 0 (List.length (List.map celC ta23)))), .nils]), (.lst 1 (cutX (List.map celC us48) 0 (List.length (List.map celC us48)))), .nils, (.v (.int .i64 (IntKind.wrap .i64 (300 + (↑(List.map celC zs30).length : Int)))))] (.tup [(.own 1 (List.map celC us55) true), (.v (.int .i64 (e55)))]))) (h10 : HLwTwAspecG L n (.le (0 + (List.map celC us48).length) (List.length (List.map celC us48)))) (h11 : HLwTwAspecG L n (.spec 19 [(.agg [(.v (.int .i64 (r37))), (.v (.int .i64 (d37))), (.lst 1 (cutX (List.map celC ta37) 0 (List.length (List.map celC ta37)))), .nils]), (.lst 1 (cutX (List.map celC zs30) 0 (List.length (List.map celC zs30)))), .nils, (.v (.int .i64 (IntKind.wrap .i64 (300 + (↑(List.map celC zs30).length : Int)))))] (.tup [(.own 1 (List.map celC us62) true), (.v (.int .i64 (e62)))]))) (h12 : HLwTwAspecG L n (.le (0 + (List.map celC ta37).length) (List.length (List.map celC ta37)))) (h13 : (e48 == 0) = true) (h14 : (e55 == 0) = true) (h15 : (e62 == 0) = true) (h16 : ((↑(List.map celC us62).length : Int) == IntKind.wrap .i64 (300 + (↑(List.map celC zs30).length : Int))) = true) (h17 : HLwTwAspecG L n (.spec 21 [(.lst 1 (cutX (List.map celC us55) 0 (List.length (List.map celC us55)))), (.lst 1 (cutX (List.map celC us62) 0 (List.length (List.map celC us62))))] (.v (.bool (c84))))) (h18 : HLwTwAspecG L n (.le (0 + (List.map celC us55).length) (List.length (List.map celC us55)))) (h19 : HLwTwAspecG L n (.le (0 + (List.map celC us62).length) (List.length (List.map celC us62)))) : den ⟨fnOf, specG, L⟩ (n+1) 9 [.agg [.int .i64 rate, .int .i64 delay, .lst 1 (ts.map celI), .lst 1 (es.map celI), .flt odd, .int .i64 att], .agg [.int .i64 rate2, .int .i64 delay2, .lst 1 (ts2.map celI), .lst 1 (es2.map celI), .flt odd2, .int .i64 att2], .lst 1 (ps.map celI)] = some (.v (.bool (c84))) :=
  denD_sound (q := [((some 21), (Dec.call (.agg [(.v (.int .i64 (r21))), (.v (.int .i64 (d21))), (.own 1 (List.map celC ta21) true), (.own 1 (List.map celC ea21) true)]))), ((some 23), (Dec.call (.agg [(.v (.int .i64 (r23))), (.v (.int .i64 (d23))), (.own 1 (List.map celC ta23) true), (.own 1 (List.map celC ea23) true)]))), ((some 30), (Dec.call (.own 1 (List.map celC zs30) true))), ((some 37), (Dec.call (.tup [(.agg [(.v (.int .i64 (r37))), (.v (.int .i64 (d37))), (.own 1 (List.map celC ta37) true), .nils]), (.v (.int .i64 (e37)))]))), ((some 41), (Dec.b false)), ((some 48), (Dec.call (.tup [(.own 1 (List.map celC us48) true), (.v (.int .i64 (e48)))]))), ((some 55), (Dec.call (.tup [(.own 1 (List.map celC us55) true), (.v (.int .i64 (e55)))]))), ((some 62), (Dec.call (.tup [(.own 1 (List.map celC us62) true), (.v (.int .i64 (e62)))]))), ((some 67), (Dec.b true)), ((some 71), (Dec.b true)), ((some 75), (Dec.b true)), ((some 81), (Dec.b true)), ((some 84), (Dec.call (.v (.bool (c84)))))]) (by kernel_rfl) (hcLwTwA (c := (.st [0] [0])) rfl (hcLwTwA h0 (hcLwTwA (c := (.st [7] [7])) rfl (hcLwTwA (c := (.st [1] [1])) rfl (hcLwTwA h1 (hcLwTwA (c := (.st [11] [11])) rfl (hcLwTwA (c := (.st [7] [7])) rfl (hcLwTwA (c := (.st [11] [11])) rfl (hcLwTwA (c := (.st [7] [7])) rfl (hcLwTwA (c := (.st [11] [11])) rfl (hcLwTwA h2 (hcLwTwA (c := (.st [7] [7])) rfl (hcLwTwA (c := (.st [11] [11])) rfl (hcLwTwA h3 (hcLwTwA (c := (.st [1, 6] [1, 6])) rfl (hcLwTwA h4 (hcLwTwA (c := (.st [1, 10] [1, 10])) rfl (hcLwTwA h5 (hcLwTwA (c := (.st [34] [34])) rfl (hbLwTwA h6 (hcLwTwA (c := (.st [7] [7])) rfl (hcLwTwA h7 (hcLwTwA (c := (.st [1, 6] [1, 6])) rfl (hcLwTwA h4 (hcLwTwA (c := (.st [1, 22] [1, 22])) rfl (hcLwTwA h8 (hcLwTwA (c := (.st [11] [11])) rfl (hcLwTwA h9 (hcLwTwA (c := (.st [1, 10] [1, 10])) rfl (hcLwTwA h5 (hcLwTwA (c := (.st [1, 42] [1, 42])) rfl (hcLwTwA h10 (hcLwTwA (c := (.st [34] [34])) rfl (hcLwTwA h11 (hcLwTwA (c := (.st [1, 30] [1, 30])) rfl (hcLwTwA h12 (hcLwTwA (c := (.st [1, 22] [1, 22])) rfl (hcLwTwA h8 (hbLwTwA h13 (hbLwTwA h14 (hbLwTwA h15 (hbLwTwA h16 (hcLwTwA h17 (hcLwTwA (c := (.st [1, 51] [1, 51])) rfl (hcLwTwA h18 (hcLwTwA (c := (.st [1, 60] [1, 60])) rfl (hcLwTwA h19 hnLwTwA)))))))))))))))))))))))))))))))))))))))))))))))
theorem twf_0 {L n : Nat} {rate delay att rate2 delay2 att2 : Int} {ts es ts2 es2 ps : List Int} {odd odd2 : Nat} {r21 : Int} {d21 : Int} {ta21 : List (Nat × Nat)} {ea21 : List (Nat × Nat)} {r23 : Int} {d23 : Int} {ta23 : List (Nat × Nat)} {ea23 : List (Nat × Nat)} {zs30 : List (Nat × Nat)} (h0 : HLwTwAspecG L n (.spec 37 [(.agg [(.v (.int .i64 (rate))), (.v (.int .i64 (delay))), (.lst 1 (List.map celI ts)), (.lst 1 (List.map celI es)), (.flt (odd)), (.v (.int .i64 (att)))])] (.agg [(.v (.int .i64 (r21))), (.v (.int .i64 (d21))), (.own 1 (List.map celC ta21) true), (.own 1 (List.map celC ea21) true)]))) (h1 : HLwTwAspecG L n (.spec 37 [(.agg [(.v (.int .i64 (rate2))), (.v (.int .i64 (delay2))), (.lst 1 (List.map celI ts2)), (.lst 1 (List.map celI es2)), (.flt (odd2)), (.v (.int .i64 (att2)))])] (.agg [(.v (.int .i64 (r23))), (.v (.int .i64 (d23))), (.own 1 (List.map celC ta23) true), (.own 1 (List.map celC ea23) true)]))) (h2 : HLwTwAspecG L n (.spec 38 [(.lst 1 (List.map celI ps)), (.v (.int .i64 1)), (.v (.int .i64 32)), (.v (.int .i64 100))] (.own 1 (List.map celC zs30) true))) (h3 : HLwTwAspecG L n (.spec 14 [(.agg [(.v (.int .i64 (r21))), (.v (.int .i64 (d21))), (.lst 1 (cutX (List.map celC ta21) 0 (List.length (List.map celC ta21)))), .nils]), (.agg [(.v (.int .i64 (r21))), (.v (.int .i64 (d23))), (.lst 1 (cutX (List.map celC ta23) 0 (List.length (List.map celC ta23)))), .nils])] (.tup [(.agg [(.v (.int .i64 0)), (.v (.int .i64 0)), .nils, .nils]), (.v (.int .i64 8))]))) (h4 : HLwTwAspecG L n (.le (0 + (List.map celC ta21).length) (List.length (List.map celC ta21)))) (h5 : HLwTwAspecG L n (.le (0 + (List.map celC ta23).length) (List.length (List.map celC ta23)))) : den ⟨fnOf, specG, L⟩ (n+1) 9 [.agg [.int .i64 rate, .int .i64 delay, .lst 1 (ts.map celI), .lst 1 (es.map celI), .flt odd, .int .i64 att], .agg [.int .i64 rate2, .int .i64 delay2, .lst 1 (ts2.map celI), .lst 1 (es2.map celI), .flt odd2, .int .i64 att2], .lst 1 (ps.map celI)] = some (.v (.bool true)) :=
  denD_sound (q := [((some 21), (Dec.call (.agg [(.v (.int .i64 (r21))), (.v (.int .i64 (d21))), (.own 1 (List.map celC ta21) true), (.own 1 (List.map celC ea21) true)]))), ((some 23), (Dec.call (.agg [(.v (.int .i64 (r23))), (.v (.int .i64 (d23))), (.own 1 (List.map celC ta23) true), (.own 1 (List.map celC ea23) true)]))), ((some 30), (Dec.call (.own 1 (List.map celC zs30) true))), ((some 37), (Dec.call (.tup [(.agg [(.v (.int .i64 0)), (.v (.int .i64 0)), .nils, .nils]), (.v (.int .i64 8))])))]) (by kernel_rfl) (hcLwTwA (c := (.st [0] [0])) rfl (hcLwTwA h0 (hcLwTwA (c := (.st [7] [7])) rfl (hcLwTwA (c := (.st [1] [1])) rfl (hcLwTwA h1 (hcLwTwA (c := (.st [11] [11])) rfl (hcLwTwA (c := (.st [7] [7])) rfl (hcLwTwA (c := (.st [11] [11])) rfl (hcLwTwA (c := (.st [7] [7])) rfl (hcLwTwA (c := (.st [11] [11])) rfl (hcLwTwA h2 (hcLwTwA (c := (.st [7] [7])) rfl (hcLwTwA (c := (.st [11] [11])) rfl (hcLwTwA h3 (hcLwTwA (c := (.st [1, 6] [1, 6])) rfl (hcLwTwA h4 (hcLwTwA (c := (.st [1, 10] [1, 10])) rfl (hcLwTwA h5 (hcLwTwA (c := (.st [34] [34])) rfl hnLwTwA)))))))))))))))))))
end Go.Proofs.Ytnphdnokedhhkaa.Fw
namespace Go.Proofs.Ytnphdnokedhhkaa.Fw
open Go Go.RowKit

end Go.Proofs.Ytnphdnokedhhkaa.Fw
namespace Go.Proofs.Ytnphdnokedhhkaa.Fw
open Go Go.RowKit
theorem xat_neg {xs : List (Nat × Nat)} {i : Int} (h : i < 0) : xat xs i = (0, 0) := if_neg (by omega)
theorem conv_neg {h : Nat → CI} {xs : List (Nat × Nat)} {ap : Nat} {at' : Int} (ha : at' < 0) : ∀ k, conv h (xat xs) ap at' k = (0, 0)
  | 0 => rfl
  | k + 1 => by
    show addI (conv h (xat xs) ap at' k) (timI (h k) (xat xs (at' - (k * ap : Nat)))) = _
    rw [conv_neg ha k, xat_neg (by omega), timI_zero, addI_zero]
theorem outI_none {ts xs vs : List (Nat × Nat)} {rate : Nat} {m : Int} {delay : Nat} : outI ts xs [] vs rate m delay = conv (tat ts) (xat xs) rate (m - delay) ts.length := by
  unfold outI
  show addI _ (0, 0) = _
  rw [addI_zero]
section
variable {L n : Nat}
end
end Go.Proofs.Ytnphdnokedhhkaa.Fw
namespace Go.Proofs.Ytnphdnokedhhkaa.Fw
open Go Go.RowKit
def sclI (n : Int) (a : CI) : CI := (n * a.1, n * a.2)
theorem ciL (a b c : CI) : timI a (addI b c) = addI (timI a b) (timI a c) := by
  unfold timI addI; simp only [Prod.mk.injEq]; constructor <;> grind
theorem ciR (a b c : CI) : timI (addI a b) c = addI (timI a c) (timI b c) := by
  unfold timI addI; simp only [Prod.mk.injEq]; constructor <;> grind
theorem ciA (a b c : CI) : timI (timI a b) c = timI a (timI b c) := by
  unfold timI; simp only [Prod.mk.injEq]; constructor <;> grind
theorem ciS (n : Int) (a b : CI) : timI a (sclI n b) = sclI n (timI a b) := by
  unfold timI sclI; simp only [Prod.mk.injEq]; constructor <;> grind
theorem ciT (n : Int) (a b : CI) : timI (sclI n a) b = sclI n (timI a b) := by
  unfold timI sclI; simp only [Prod.mk.injEq]; constructor <;> grind
theorem ciD (n : Int) (a b : CI) : sclI n (addI a b) = addI (sclI n a) (sclI n b) := by
  unfold addI sclI; simp only [Prod.mk.injEq]; constructor <;> grind
theorem ciX (a b c d : CI) : addI (addI a b) (addI c d) = addI (addI a c) (addI b d) := by
  unfold addI; simp only [Prod.mk.injEq]; constructor <;> omega
theorem ciZ (a : CI) : timI (0, 0) a = (0, 0) := by unfold timI; simp
theorem sclZ (n : Int) : sclI n (0, 0) = (0, 0) := by unfold sclI; simp
/-- a sum of products -/
def smI (h F : Nat → CI) : Nat → CI
  | 0 => (0, 0)
  | k + 1 => addI (smI h F k) (timI (h k) (F k))
theorem conv_sm {h : Nat → CI} {x : Int → CI} {ap : Nat} {at' : Int} : ∀ k, conv h x ap at' k = smI h (fun j => x (at' - (j * ap : Nat))) k
  | 0 => rfl
  | k + 1 => by
    show addI (conv h x ap at' k) _ = addI (smI h _ k) _
    rw [conv_sm k]
theorem sm_congr {h g F G : Nat → CI} : ∀ k, (∀ j, j < k → h j = g j) → (∀ j, j < k → F j = G j) → smI h F k = smI g G k
  | 0, _, _ => rfl
  | k + 1, hh, hx => by
    show addI (smI h F k) (timI (h k) (F k)) = addI (smI g G k) (timI (g k) (G k))
    rw [sm_congr k (fun j hj => hh j (by omega)) (fun j hj => hx j (by omega)), hh k (by omega), hx k (by omega)]
theorem sm_zero {h F : Nat → CI} : ∀ k, (∀ j, j < k → h j = (0, 0)) → smI h F k = (0, 0)
  | 0, _ => rfl
  | k + 1, hh => by
    show addI (smI h F k) (timI (h k) (F k)) = _
    rw [sm_zero k (fun j hj => hh j (by omega)), hh k (by omega), ciZ, addI_zero]
theorem sm_add {h g F : Nat → CI} : ∀ k, smI (fun j => addI (h j) (g j)) F k = addI (smI h F k) (smI g F k)
  | 0 => rfl
  | k + 1 => by
    show addI (smI (fun j => addI (h j) (g j)) F k) (timI (addI (h k) (g k)) (F k)) = addI (addI (smI h F k) (timI (h k) (F k))) (addI (smI g F k) (timI (g k) (F k)))
    rw [sm_add k, ciR, ciX]
theorem sm_tim {h F : Nat → CI} (a : CI) : ∀ k, smI (fun j => timI a (h j)) F k = timI a (smI h F k)
  | 0 => by show (0, 0) = timI a (0, 0); rw [timI_zero]
  | k + 1 => by
    show addI (smI (fun j => timI a (h j)) F k) (timI (timI a (h k)) (F k)) = timI a (addI (smI h F k) (timI (h k) (F k)))
    rw [sm_tim a k, ciL, ciA]
theorem sm_sclF {h F : Nat → CI} (n : Int) : ∀ k, smI h (fun j => sclI n (F j)) k = sclI n (smI h F k)
  | 0 => (sclZ n).symm
  | k + 1 => by
    show addI (smI h (fun j => sclI n (F j)) k) (timI (h k) (sclI n (F k))) = sclI n (addI (smI h F k) (timI (h k) (F k)))
    rw [sm_sclF n k, ciS, ciD]
theorem sm_sclH {h F : Nat → CI} (n : Int) : ∀ k, smI (fun j => sclI n (h j)) F k = sclI n (smI h F k)
  | 0 => (sclZ n).symm
  | k + 1 => by
    show addI (smI (fun j => sclI n (h j)) F k) (timI (sclI n (h k)) (F k)) = sclI n (addI (smI h F k) (timI (h k) (F k)))
    rw [sm_sclH n k, ciT, ciD]
/-- the taps from a place on -/
theorem sm_shift {t F : Nat → CI} {t' : Int → CI} {J K : Nat} (ht : ∀ j : Nat, j < J → t' j = t j) (h0 : ∀ i : Int, i < 0 ∨ (J : Int) ≤ i → t' i = (0, 0)) : ∀ d, smI (fun m => t' ((m : Int) - K)) F (K + J + d) = smI t (fun j => F (K + j)) J := by
  have step : ∀ c, c ≤ J → smI (fun m => t' ((m : Int) - K)) F (K + c) = smI t (fun j => F (K + j)) c := by
    intro c
    induction c with
    | zero =>
      intro _
      exact sm_zero K (fun j hj => h0 _ (.inl (by omega)))
    | succ c ih =>
      intro hc
      show addI (smI _ F (K + c)) (timI (t' (((K + c : Nat) : Int) - K)) (F (K + c))) = addI (smI t _ c) (timI (t c) (F (K + c)))
      rw [ih (by omega), show (((K + c : Nat) : Int) - (K : Int)) = (c : Int) by omega, ht c (by omega)]
  intro d
  induction d with
  | zero => exact step J (Nat.le_refl _)
  | succ d ih =>
    show addI (smI _ F (K + J + d)) (timI (t' (((K + J + d : Nat) : Int) - K)) (F (K + J + d))) = _
    rw [ih, h0 _ (.inr (by omega)), ciZ, addI_zero]
/-- THE TWO SUMS ARE ONE -/
theorem two_sums {t s : Nat → CI} {t' : Int → CI} {F : Nat → CI} {J M : Nat} (ht : ∀ j : Nat, j < J → t' j = t j) (h0 : ∀ i : Int, i < 0 ∨ (J : Int) ≤ i → t' i = (0, 0)) :
    ∀ K, (∀ k, k < K → k + J ≤ M) → smI (fun m => conv s t' 1 m K) F M = smI s (fun k => smI t (fun j => F (k + j)) J) K
  | 0, _ => sm_zero M (fun j hj => rfl)
  | K + 1, hM => by
    show smI (fun m => addI (conv s t' 1 m K) (timI (s K) (t' ((m : Int) - (K * 1 : Nat))))) F M = addI (smI s _ K) (timI (s K) (smI t (fun j => F (K + j)) J))
    have hd := hM K (by omega)
    have e : M = K + J + (M - (K + J)) := by omega
    have sh := sm_shift (F := F) (K := K) ht h0 (M - (K + J))
    rw [← e] at sh
    rw [sm_add, two_sums ht h0 K (fun k hk => hM k (by omega)), sm_tim, Nat.mul_one, sh]
/-- the numbers of a row whose parts are whole -/
theorem plC_div {q : Int} {M : Nat} {z : Nat × Nat} (hq : q ≠ 0) (h : plC q M z) : sxC z = sclI q ((sxC z).1 / q, (sxC z).2 / q) := by
  obtain ⟨m, h1, _⟩ := h
  have e : sxC z = (m.1 * q, m.2 * q) := sixC_sx h1
  rw [e]
  show (m.1 * q, m.2 * q) = (q * (m.1 * q / q), q * (m.2 * q / q))
  rw [Int.mul_ediv_cancel _ hq, Int.mul_ediv_cancel _ hq, Int.mul_comm q, Int.mul_comm q]
def xdiv (q : Int) (xs : List (Nat × Nat)) (i : Int) : CI := ((xat xs i).1 / q, (xat xs i).2 / q)
theorem xat_div {q : Int} {M : Nat} {xs : List (Nat × Nat)} (hq : q ≠ 0) (h : ∀ j, j < xs.length → plC q M (xs.getD j (0, 0))) (i : Int) : xat xs i = sclI q (xdiv q xs i) := by
  unfold xdiv xat
  by_cases c : 0 ≤ i ∧ i < xs.length
  · rw [if_pos c]; exact plC_div hq (h i.toNat (by omega))
  · rw [if_neg c]
    show _ = (q * (0 / q), q * (0 / q))
    simp
/-- in parts of 2^-12, a multiple of 64: in parts of 2^-6 -/
theorem grid_six {m : Int} {x : Nat} (h : grid (64 * m) x) : six m x := by
  refine ⟨h.1, ?_⟩
  rw [h.2, show (64 : Int) = 2 ^ 6 from rfl, Int.mul_comm (2 ^ 6), Int.mul_assoc, ← Int.pow_add]
theorem six_grid {m : Int} {x : Nat} (h : six m x) : grid (64 * m) x := by
  refine ⟨h.1, ?_⟩
  rw [h.2, show (64 : Int) = 2 ^ 6 from rfl, Int.mul_comm (2 ^ 6), Int.mul_assoc, ← Int.pow_add]
theorem gridC_inj {a b : CI} {z : Nat × Nat} (h : gridC a z) (k : gridC b z) : a = b := by
  have e1 := grid_gx h.1
  have e2 := grid_gx k.1
  have e3 := grid_gx h.2
  have e4 := grid_gx k.2
  exact Prod.ext (e1.symm.trans e2) (e3.symm.trans e4)
/-- the joined taps, as whole numbers -/
theorem join_val {ta tb : List (Nat × Nat)} (h1 : tapsF ta = true) (h2 : tapsF tb = true) (h3 : tapsF (joinL ta tb) = true) {m : Nat} (hm : m < ta.length + tb.length - 1) : sclI 64 (tat (joinL ta tb) m) = conv (tat tb) (xat ta) 1 m tb.length := by
  obtain ⟨_, a2, a3, _⟩ := tapsF_is.1 h1
  obtain ⟨_, b2, b3, _⟩ := tapsF_is.1 h2
  obtain ⟨_, _, j3, _⟩ := tapsF_is.1 h3
  have hl : (joinL ta tb).length = ta.length + tb.length - 1 := tab_len
  have ra : rowF ta = true := rowF_of fun i hi => by
    obtain ⟨x1, x2, x3⟩ := okTap_six (a3 i hi)
    exact ⟨_, x1, by omega, by omega⟩
  have v := acc_val (ap := 1) (at' := (m : Int)) b2 b3 ra gridC_zero (by decide) (by decide) tb.length (Nat.le_refl _)
  rw [zero_addI] at v
  obtain ⟨y1, _, _⟩ := okTap_six (j3 m (by rw [hl]; exact hm))
  have e : (joinL ta tb).getD m (0, 0) = accL tb ta 1 (m : Int) (0, 0) tb.length := by unfold joinL; rw [tab_at hm]
  have hg : gridC (sclI 64 (tat (joinL ta tb) m)) ((joinL ta tb).getD m (0, 0)) := ⟨six_grid y1.1, six_grid y1.2⟩
  rw [e] at hg
  exact gridC_inj hg v
theorem tat_xat {ta : List (Nat × Nat)} : (∀ j : Nat, j < ta.length → xat ta j = tat ta j) ∧ ∀ i : Int, i < 0 ∨ (ta.length : Int) ≤ i → xat ta i = (0, 0) := by
  refine ⟨fun j hj => ?_, fun i hi => ?_⟩
  · unfold xat
    rw [if_pos (by omega), Int.toNat_natCast]; rfl
  · exact if_neg (by omega)
/-- THROUGH BOTH AS ONE: the same whole number -/
theorem two_val {ta tb xs : List (Nat × Nat)} {M r : Nat} {i : Int} {da db : Int} (h1 : tapsF ta = true) (h2 : tapsF tb = true) (h3 : tapsF (joinL ta tb) = true) (hx : ∀ j, j < xs.length → plC 64 M (xs.getD j (0, 0))) (p : Int → CI)
    (hp : ∀ k : Nat, k < tb.length → p (i - db - (k * r : Nat)) = conv (tat ta) (xdiv 64 xs) r (i - db - (k * r : Nat) - da) ta.length) :
    conv (tat tb) p r (i - db) tb.length = conv (tat (joinL ta tb)) (xat xs) r (i - (da + db)) (joinL ta tb).length := by
  obtain ⟨x1, x2⟩ := @tat_xat ta
  have hl : (joinL ta tb).length = ta.length + tb.length - 1 := tab_len
  obtain ⟨a1, _, _, _⟩ := tapsF_is.1 h1
  have hs := two_sums (s := tat tb) (F := fun m => xdiv 64 xs (i - (da + db) - (m * r : Nat))) (M := (joinL ta tb).length) x1 x2 tb.length (fun k hk => by omega)
  rw [conv_sm, conv_sm]
  have e1 : smI (tat (joinL ta tb)) (fun j => xat xs (i - (da + db) - (j * r : Nat))) (joinL ta tb).length = smI (fun m => conv (tat tb) (xat ta) 1 m tb.length) (fun m => xdiv 64 xs (i - (da + db) - (m * r : Nat))) (joinL ta tb).length := by
    rw [sm_congr (g := tat (joinL ta tb)) (G := fun j => sclI 64 (xdiv 64 xs (i - (da + db) - (j * r : Nat)))) _ (fun _ _ => rfl) (fun j _ => xat_div (by decide) hx _), sm_sclF, ← sm_sclH]
    exact sm_congr _ (fun j hj => join_val h1 h2 h3 (by omega)) (fun _ _ => rfl)
  rw [e1, hs]
  refine sm_congr _ (fun _ _ => rfl) (fun k hk => ?_)
  rw [hp k hk, conv_sm]
  refine sm_congr _ (fun _ _ => rfl) (fun j _ => ?_)
  congr 1
  rw [Nat.add_mul]
  omega
end Go.Proofs.Ytnphdnokedhhkaa.Fw
namespace Go.Proofs.Ytnphdnokedhhkaa.Fw
open Go Go.RowKit
theorem cuC2 (l : List (Nat × Nat)) : cutX (l.map celC) 0 (l.map celC).length = l.map celC := by
  rw [cutM, List.take_of_length_le (by rw [map_len]; exact Nat.le_refl _)]
theorem joined_toldG {P : Prog} {C : Caller} (hp : P.spec = specG) {r da db : Int} {ta tb : List (Nat × Nat)} (h1 : shortL ta) (h2 : shortL tb) :
    Con.holds P C (.spec 14 [.agg [.int .i64 r, .int .i64 da, .lst 1 (ta.map celC), .nils], .agg [.int .i64 r, .int .i64 db, .lst 1 (tb.map celC), .nils]] (joinA r da r db ta [] tb [] .nils)) :=
  spec_is (g := fun avs => den ⟨fnOf, specK, 70001⟩ 2 14 (avs.map nzA)) (by rw [hp]; rfl) (@join_both 70000 0 r da r db ta [] tb [] (by omega) h1 (by unfold shortL; exact Nat.zero_le _) h2 (by unfold shortL; exact Nat.zero_le _)).1
theorem points_toldG {P : Prog} {C : Caller} (hp : P.spec = specG) {us vs : List (Nat × Nat)} (hm : shortL us) (h : likeC us vs) :
    Con.holds P C (.spec 21 [.lst 1 (us.map celC), .lst 1 (vs.map celC)] (.v (.bool true))) := by
  unfold shortL at hm
  refine spec_is (g := fun avs => den ⟨fnOf, specK, 20000000000001⟩ 1 21 (avs.map nzA)) (by rw [hp]; rfl) ?_
  exact @points_like 20000000000000 0 us vs (by omega) hm h
theorem scl_zero {u : CI} (h : sclI 64 u = (0, 0)) : u = (0, 0) := by
  have h1 : 64 * u.1 = 0 := congrArg Prod.fst h
  have h2 : 64 * u.2 = 0 := congrArg Prod.snd h
  exact Prod.ext (by show u.1 = 0; omega) (by show u.2 = 0; omega)
theorem law_two {L n : Nat} {rate delay att rate2 delay2 att2 : Int} {ts es ts2 es2 ps : List Int} {odd odd2 : Nat} (m1 : ts.length ≤ 17592186044406) (m2 : es.length ≤ 17592186044406) (m3 : ts2.length ≤ 17592186044406) (m4 : es2.length ≤ 17592186044406) (m5 : ps.length ≤ 17592186044406) (hL : 5000 ≤ L) :
    den ⟨fnOf, specG, L+1⟩ (n+1) 9 [.agg [.int .i64 rate, .int .i64 delay, .lst 1 (ts.map celI), .lst 1 (es.map celI), .flt odd, .int .i64 att], .agg [.int .i64 rate2, .int .i64 delay2, .lst 1 (ts2.map celI), .lst 1 (es2.map celI), .flt odd2, .int .i64 att2], .lst 1 (ps.map celI)] = some (.v (.bool true)) := by
  obtain ⟨r, da, ta, ea, f1, hc1, hd1⟩ := @fit_toldG ⟨fnOf, specG, L+1⟩ (runF ⟨fnOf, specG, L+1⟩ n) rfl rate delay att ts es odd m1 m2
  obtain ⟨r2, db, tb, eb, f2, hc2, hd2⟩ := @fit_toldG ⟨fnOf, specG, L+1⟩ (runF ⟨fnOf, specG, L+1⟩ n) rfl rate2 delay2 att2 ts2 es2 odd2 m3 m4
  obtain ⟨zs, p1, zl, zp⟩ := @plain_toldG ⟨fnOf, specG, L+1⟩ (runF ⟨fnOf, specG, L+1⟩ n) rfl ps 1 32 100 64 100 (.inr ⟨rfl, rfl⟩) (by decide) rfl (by decide) m5
  have zp : ∀ j, j < zs.length → plC 64 2048 (zs.getD j (0, 0)) := zp
  have zr : rowF zs = true := rowF_plC (by decide) zp
  obtain ⟨r1, r1', q1, q1', t1, _⟩ := chkT_ok hc1
  obtain ⟨_, _, q2, q2', t2, _⟩ := chkT_ok hc2
  obtain ⟨ua0, ua, ua3, _⟩ := tapsF_is.1 t1
  obtain ⟨ub0, ub, ub3, _⟩ := tapsF_is.1 t2
  have ka : chkT r da ta [] = 0 := chkT_zero r1 r1' q1 q1' t1 (.inl rfl)
  have kb : chkT r db tb [] = 0 := chkT_zero r1 r1' q2 q2' t2 (.inl rfl)
  have sa : shortL ta := by unfold shortL; omega
  have sb : shortL tb := by unfold shortL; omega
  have hj := @joined_toldG ⟨fnOf, specG, L+1⟩ (runF ⟨fnOf, specG, L+1⟩ n) rfl r da db ta tb sa sb
  have leq : ∀ l : List (List AV), Con.holds ⟨fnOf, specG, L+1⟩ (runF ⟨fnOf, specG, L+1⟩ n) (.le (0 + l.length) l.length) := fun l => by show _ ≤ _; omega
  have hE : joinE r da r db ta [] tb [] = if tapsF (joinL ta tb) = true then 0 else 8 := by
    unfold joinE
    rw [if_neg (by simp [ka]), if_neg (by simp [kb]), if_neg (by simp; omega)]
  unfold joinA at hj
  cases tj : tapsF (joinL ta tb) with
  | false =>
    rw [tj, if_neg (by decide)] at hE
    rw [hE, if_neg (by decide)] at hj
    exact @twf_0 (L+1) n rate delay att rate2 delay2 att2 ts es ts2 es2 ps odd odd2 r da ta ea r2 db tb eb zs f1 f2 p1 (by rw [cuC2, cuC2]; exact hj) (leq _) (leq _)
  | true =>
    rw [tj, if_pos rfl] at hE
    rw [hE, if_pos rfl] at hj
    have kc : chkT r (da + db) (joinL ta tb) [] = 0 := chkT_zero r1 r1' (by omega) (by omega) tj (.inl rfl)
    have hz : (zs.map celC).length = zs.length := map_len
    have w1 : IntKind.wrap .i64 (300 + ((zs.map celC).length : Int)) = ((300 + zs.length : Nat) : Int) := by rw [hz, wrap_id (by omega)]; omega
    have qp := @pass_toldG ⟨fnOf, specG, L+1⟩ (runF ⟨fnOf, specG, L+1⟩ n) rfl r da ((300 + zs.length : Nat) : Int) ta [] zs [] .nils (.lst 1 (zs.map celC)) .nils rfl rfl rfl ka (by omega) (by omega) (by omega) (by decide) zr rowF_nil
    have qr := @pass_toldG ⟨fnOf, specG, L+1⟩ (runF ⟨fnOf, specG, L+1⟩ n) rfl r (da + db) ((300 + zs.length : Nat) : Int) (joinL ta tb) [] zs [] .nils (.lst 1 (zs.map celC)) .nils rfl rfl rfl kc (by omega) (by omega) (by omega) (by decide) zr rowF_nil
    have vp : ∀ i, i < 300 + zs.length → gridC (conv (tat ta) (xat zs) r.toNat ((i : Int) - da.toNat) ta.length) ((passP r da ((300 + zs.length : Nat) : Int) ta [] zs []).getD i (0, 0)) := fun i hi => by
      have := passP_val ka zr rowF_nil (nn := ((300 + zs.length : Nat) : Int)) (i := i) (by omega)
      rwa [outI_none] at this
    have vr : ∀ i, i < 300 + zs.length → gridC (conv (tat (joinL ta tb)) (xat zs) r.toNat ((i : Int) - (da + db).toNat) (joinL ta tb).length) ((passP r (da + db) ((300 + zs.length : Nat) : Int) (joinL ta tb) [] zs []).getD i (0, 0)) := fun i hi => by
      have := passP_val kc zr rowF_nil (nn := ((300 + zs.length : Nat) : Int)) (i := i) (by omega)
      rwa [outI_none] at this
    have lp : (passP r da ((300 + zs.length : Nat) : Int) ta [] zs []).length = 300 + zs.length := by rw [passP_len]; omega
    have lr : (passP r (da + db) ((300 + zs.length : Nat) : Int) (joinL ta tb) [] zs []).length = 300 + zs.length := by rw [passP_len]; omega
    generalize passP r da ((300 + zs.length : Nat) : Int) ta [] zs [] = pl at *
    generalize passP r (da + db) ((300 + zs.length : Nat) : Int) (joinL ta tb) [] zs [] = rl at *
    have hsc : ∀ t, conv (tat ta) (xat zs) r.toNat t ta.length = sclI 64 (conv (tat ta) (xdiv 64 zs) r.toNat t ta.length) := fun t => by
      rw [conv_sm, conv_sm, ← sm_sclF]
      exact sm_congr _ (fun _ _ => rfl) (fun j _ => xat_div (by decide) zp _)
    have six : ∀ i, i < 300 + zs.length → sixC (conv (tat ta) (xdiv 64 zs) r.toNat ((i : Int) - da.toNat) ta.length) (pl.getD i (0, 0)) := fun i hi => by
      have g := vp i hi
      rw [hsc] at g
      exact ⟨grid_six g.1, grid_six g.2⟩
    have xb : ∀ i, (xat zs i).1.natAbs ≤ 2048 ∧ (xat zs i).2.natAbs ≤ 2048 := fun i => by
      unfold xat
      by_cases c : 0 ≤ i ∧ i < zs.length
      · rw [if_pos c]
        obtain ⟨m, h1, h2, h3⟩ := zp i.toNat (by omega)
        rw [sixC_sx h1]
        exact ⟨h2, h3⟩
      · rw [if_neg c]; exact ⟨by decide, by decide⟩
    have pr : rowF pl = true := rowF_of fun i hi => by
      rw [lp] at hi
      refine ⟨_, six i hi, ?_, ?_⟩
      · have b := (conv_le (h := tat ta) (ap := r.toNat) (at' := (i : Int) - da.toNat) xb ta.length).1
        have s := Nat.mul_le_mul_right 2048 (tap_sum t1)
        rw [hsc] at b
        have b : (64 * (conv (tat ta) (xdiv 64 zs) r.toNat ((i : Int) - da.toNat) ta.length).1).natAbs ≤ sumA (tat ta) ta.length * 2048 := b
        omega
      · have b := (conv_le (h := tat ta) (ap := r.toNat) (at' := (i : Int) - da.toNat) xb ta.length).2
        have s := Nat.mul_le_mul_right 2048 (tap_sum t1)
        rw [hsc] at b
        have b : (64 * (conv (tat ta) (xdiv 64 zs) r.toNat ((i : Int) - da.toNat) ta.length).2).natAbs ≤ sumA (tat ta) ta.length * 2048 := b
        omega
    have qq := @pass_toldG ⟨fnOf, specG, L+1⟩ (runF ⟨fnOf, specG, L+1⟩ n) rfl r db ((300 + zs.length : Nat) : Int) tb [] pl [] .nils (.lst 1 (pl.map celC)) .nils rfl rfl rfl kb (by omega) (by omega) (by omega) (by decide) pr rowF_nil
    have vq : ∀ i, i < 300 + zs.length → gridC (conv (tat tb) (xat pl) r.toNat ((i : Int) - db.toNat) tb.length) ((passP r db ((300 + zs.length : Nat) : Int) tb [] pl []).getD i (0, 0)) := fun i hi => by
      have := passP_val kb pr rowF_nil (nn := ((300 + zs.length : Nat) : Int)) (i := i) (by omega)
      rwa [outI_none] at this
    have lq : (passP r db ((300 + zs.length : Nat) : Int) tb [] pl []).length = 300 + zs.length := by rw [passP_len]; omega
    generalize passP r db ((300 + zs.length : Nat) : Int) tb [] pl [] = ql at *
    have like : likeC ql rl := by
      refine ⟨by omega, fun i hi => ?_⟩
      rw [lq] at hi
      have g1 := vq i hi
      have g2 := vr i hi
      have e := @two_val ta tb zs 2048 r.toNat (i : Int) da db t1 t2 tj zp (xat pl) (fun k hk => by
        have hk0 : (0 : Int) ≤ ((k * r.toNat : Nat) : Int) := Int.natCast_nonneg _
        generalize ((k * r.toNat : Nat) : Int) = kr at hk0
        by_cases c : 0 ≤ (i : Int) - db - kr
        · obtain ⟨j, hj2⟩ : ∃ j : Nat, (i : Int) - db - kr = j := ⟨((i : Int) - db - kr).toNat, by omega⟩
          rw [hj2]
          have hj3 : j < 300 + zs.length := by omega
          have ex : xat pl (j : Int) = sxC (pl.getD j (0, 0)) := by
            unfold xat; rw [if_pos (by omega), Int.toNat_natCast]
          rw [ex, sixC_sx (six j hj3), show (da.toNat : Int) = da by omega]
        · rw [xat_neg (by omega)]
          refine (scl_zero ?_).symm
          rw [← hsc]
          exact conv_neg (by omega) _)
      rw [show ((i : Int) - (db.toNat : Int)) = (i : Int) - db by omega, e] at g1
      rw [show ((da + db).toNat : Int) = da + db by omega] at g2
      unfold alF
      rw [grid_eq g1.1 g2.1, grid_eq g1.2 g2.2, decide_eq_true rfl, decide_eq_true rfl]
      exact ⟨rfl, rfl⟩
    have sp := @points_toldG ⟨fnOf, specG, L+1⟩ (runF ⟨fnOf, specG, L+1⟩ n) rfl ql rl (by unfold shortL; omega) like
    have hrl : (rl.map celC).length = 300 + zs.length := by rw [map_len, lr]
    exact @twl_1 (L+1) n rate delay att rate2 delay2 att2 ts es ts2 es2 ps odd odd2 r da ta ea r2 db tb eb zs r (da + db) (joinL ta tb) 0 pl 0 ql 0 rl 0 true f1 f2 p1 (by rw [cuC2, cuC2]; exact hj) (leq _) (leq _) rfl
      (by rw [cuC2, cuC2, w1]; exact qp) (leq _) (by rw [cuC2, cuC2, w1]; exact qq) (leq _) (by rw [cuC2, cuC2, w1]; exact qr) (leq _) rfl rfl rfl (by rw [w1, hrl]; exact beqSame) (by rw [cuC2, cuC2]; exact sp) (leq _) (leq _)
end Go.Proofs.Ytnphdnokedhhkaa.Fw
