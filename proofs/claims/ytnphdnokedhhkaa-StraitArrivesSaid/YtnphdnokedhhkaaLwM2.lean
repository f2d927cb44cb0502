/- Arrive (the program's and the document's): paths, printed by a program of ours. | Arrive: the program's and the document's answer. | Arrive: the bursts' loops; what the program and the document answer. | Arrive: the program's and the document's answer, spoken for. | Check, plain, Rows spoken for with nil lists, too. | Arrive spoken for (nil lists, too); samples and bursts compared. -/
import Derived.Test.YtnphdnokedhhkaaFwY
import Derived.Test.YtnphdnokedhhkaaFwAbs
import Derived.Test.YtnphdnokedhhkaaFwW
import Derived.KernelRfl
import Derived.Test.YtnphdnokedhhkaaLwM1
set_option maxRecDepth 100000
set_option maxHeartbeats 4000000
set_option linter.unusedSimpArgs false
set_option linter.unusedVariables false
namespace Go.Proofs.Ytnphdnokedhhkaa.Fw
open Go Go.RowKit
abbrev HLwArAspecA (L n : Nat) : Con → Prop := Con.holds ⟨fnOf, specA, L⟩ (runF ⟨fnOf, specA, L⟩ n)
theorem hnLwArA {P : Prog} {C : Caller} : Holds P C [] := trivial
theorem hcLwArA {P : Prog} {C : Caller} {c : Con} {cs : List Con} (h : c.holds P C) (t : Holds P C cs) : Holds P C (c :: cs) := ⟨h, t⟩
theorem hbLwArA {P : Prog} {C : Caller} {x y : Bool} {cs : List Con} (h : x = y) (t : Holds P C cs) : Holds P C (.b x y :: cs) := ⟨h, t⟩

def celBu (b : (Int × Int) × (Nat × Nat) × Bool) : List AV := [.int .i64 b.1.1, .int .i64 b.1.2, .cpx b.2.1.1 b.2.1.2, .v (.bool b.2.2)]
def arV (ds us : List (Nat × Nat)) (bs : List ((Int × Int) × (Nat × Nat) × Bool)) (nn : Int) (lu i : Nat) : St := ⟨[(3, .lst 1 (ds.map celC)), (4, .lst 4 (bs.map celBu)), (5, .int .i64 nn), (14, .slc ⟨0,32,0⟩ [1,7] 1 0 lu false), (46, .lst 4 (bs.map celBu)), (47, .int .i64 (bs.map celBu).length), (48, .int .i64 i)], [(⟨0,32,0⟩, ⟨[1,7], us.map celC, 1, true⟩)], 0⟩
def adV (ds us : List (Nat × Nat)) (bs : List ((Int × Int) × (Nat × Nat) × Bool)) (nn : Int) (lu i : Nat) : St := ⟨[(3, .lst 1 (ds.map celC)), (4, .lst 4 (bs.map celBu)), (5, .int .i64 nn), (14, .slc ⟨0,28,0⟩ [1,7] 1 0 lu false), (16, .int .i64 i)], [(⟨0,28,0⟩, ⟨[1,7], us.map celC, 1, true⟩)], 0⟩
def arD (ds us : List (Nat × Nat)) (bs : List ((Int × Int) × (Nat × Nat) × Bool)) (nn : Int) (lu i : Nat) : St := ⟨[(4, .lst 4 (bs.map celBu)), (5, .int .i64 nn), (14, .slc ⟨0,32,0⟩ [1,7] 1 0 lu false), (61, .lst 1 (ds.map celC)), (62, .int .i64 (ds.map celC).length), (63, .int .i64 i)], [(⟨0,32,0⟩, ⟨[1,7], us.map celC, 1, true⟩)], 0⟩
def adD (ds us : List (Nat × Nat)) (bs : List ((Int × Int) × (Nat × Nat) × Bool)) (nn : Int) (lu i : Nat) : St := ⟨[(3, .lst 1 (ds.map celC)), (4, .lst 4 (bs.map celBu)), (5, .int .i64 nn), (14, .slc ⟨0,28,0⟩ [1,7] 1 0 lu false), (17, .int .i64 i)], [(⟨0,28,0⟩, ⟨[1,7], us.map celC, 1, true⟩)], 0⟩
def arO (us : List (Nat × Nat)) (os : List ((Nat × Nat) × Bool)) (bs : List ((Int × Int) × (Nat × Nat) × Bool)) (nn : Int) (lu lo i : Nat) : St := ⟨[(4, .lst 4 (bs.map celBu)), (5, .int .i64 nn), (20, .slc ⟨0,90,0⟩ [32] 2 0 lo true), (91, .slc ⟨0,32,0⟩ [1,7] 1 0 lu false), (92, .int .i64 lu), (93, .int .i64 i)], [(⟨0,32,0⟩, ⟨[1,7], us.map celC, 1, true⟩), (⟨0,90,0⟩, ⟨[32], os.map celS, 2, true⟩)], 0⟩
def adO (ds us : List (Nat × Nat)) (os : List ((Nat × Nat) × Bool)) (bs : List ((Int × Int) × (Nat × Nat) × Bool)) (nn : Int) (st : List Nat) (lu lo i : Nat) : St := ⟨[(3, .lst 1 (ds.map celC)), (4, .lst 4 (bs.map celBu)), (5, .int .i64 nn), (14, .slc ⟨0,28,0⟩ [1,7] 1 0 lu false), (18, .slc ⟨0,18,1000⟩ st 2 0 lo false), (19, .int .i64 i)], [(⟨0,18,1000⟩, ⟨st, os.map celS, 2, true⟩), (⟨0,28,0⟩, ⟨[1,7], us.map celC, 1, true⟩)], 0⟩
def arB (os : List ((Nat × Nat) × Bool)) (bs : List ((Int × Int) × (Nat × Nat) × Bool)) (nn : Int) (lo i : Nat) : St := ⟨[(5, .int .i64 nn), (20, .slc ⟨0,90,0⟩ [32] 2 0 lo true), (104, .lst 4 (bs.map celBu)), (105, .int .i64 (bs.map celBu).length), (106, .int .i64 i)], [(⟨0,90,0⟩, ⟨[32], os.map celS, 2, true⟩)], 0⟩
def adI (ds us : List (Nat × Nat)) (os : List ((Nat × Nat) × Bool)) (bs : List ((Int × Int) × (Nat × Nat) × Bool)) (nn : Int) (st τ : List Nat) (lu lo i : Nat) (v : (Nat × Nat) × Bool) (j : Nat) : St := ⟨[(3, .lst 1 (ds.map celC)), (4, .lst 4 (bs.map celBu)), (5, .int .i64 nn), (14, .slc ⟨0,28,0⟩ [1,7] 1 0 lu false), (18, .slc ⟨0,18,1000⟩ st 2 0 lo false), (19, .int .i64 i), (21, .ptr ⟨0,21,0⟩ τ 0 0), (22, .int .i64 j)], [(⟨0,18,1000⟩, ⟨st, os.map celS, 2, true⟩), (⟨0,28,0⟩, ⟨[1,7], us.map celC, 1, true⟩), (⟨0,21,0⟩, ⟨τ, [celS v], 2, true⟩)], 0⟩
def arI (os : List ((Nat × Nat) × Bool)) (bs : List ((Int × Int) × (Nat × Nat) × Bool)) (nn : Int) (τ σ : List Nat) (b : (Int × Int) × (Nat × Nat) × Bool) (v : (Nat × Nat) × Bool) (lo i j : Nat) : St := ⟨[(5, .int .i64 nn), (20, .slc ⟨0,90,0⟩ [32] 2 0 lo true), (24, .ptr ⟨0,24,0⟩ τ 0 0), (25, .ptr ⟨0,25,0⟩ σ 0 0), (104, .lst 4 (bs.map celBu)), (105, .int .i64 (bs.map celBu).length), (106, .int .i64 i), (117, .int .i64 b.1.2), (118, .int .i64 j)], [(⟨0,90,0⟩, ⟨[32], os.map celS, 2, true⟩), (⟨0,24,0⟩, ⟨τ, [celBu b], 4, true⟩), (⟨0,25,0⟩, ⟨σ, [celS v], 2, true⟩)], 0⟩
theorem arp_0 {L n : Nat} {rate delay nn : Int} {ts es xs vs ds : List (Nat × Nat)} {us u2 : List (Nat × Nat)} {lu lo i : Nat} {os o2 : List ((Nat × Nat) × Bool)} {st π : List Nat} {bs : List ((Int × Int) × (Nat × Nat) × Bool)} {i2 i3 i4 : Nat} {us32 : List (Nat × Nat)} {e32 : Int} (h0 : HLwArAspecA L n (.spec 19 [(.agg [(.v (.int .i64 (rate))), (.v (.int .i64 (delay))), (.lst 1 (List.map celC ts)), (.lst 1 (List.map celC es))]), (.lst 1 (List.map celC xs)), (.lst 1 (List.map celC vs)), (.v (.int .i64 (nn)))] (.tup [(.own 1 (List.map celC us32) true), (.v (.int .i64 (e32)))]))) (h1 : (e32 != 0) = true) : den ⟨fnOf, specA, L⟩ (n+1) 31 [.agg [.int .i64 rate, .int .i64 delay, .lst 1 (ts.map celC), .lst 1 (es.map celC)], .lst 1 (xs.map celC), .lst 1 (vs.map celC), .lst 1 (ds.map celC), .lst 4 (bs.map celBu), .int .i64 nn] = some (.tup [.nils, (.v (.int .i64 (e32)))]) :=
  denD_sound (q := [((some 32), (Dec.call (.tup [(.own 1 (List.map celC us32) true), (.v (.int .i64 (e32)))]))), ((some 36), (Dec.b true))]) (by kernel_rfl) (hcLwArA (c := (.st [0] [0])) rfl (hcLwArA h0 (hbLwArA h1 hnLwArA)))
theorem arp_1 {L n : Nat} {rate delay nn : Int} {ts es xs vs ds : List (Nat × Nat)} {us u2 : List (Nat × Nat)} {lu lo i : Nat} {os o2 : List ((Nat × Nat) × Bool)} {st π : List Nat} {bs : List ((Int × Int) × (Nat × Nat) × Bool)} {i2 i3 i4 : Nat} {us32 : List (Nat × Nat)} {e32 : Int} (h0 : HLwArAspecA L n (.spec 19 [(.agg [(.v (.int .i64 (rate))), (.v (.int .i64 (delay))), (.lst 1 (List.map celC ts)), (.lst 1 (List.map celC es))]), (.lst 1 (List.map celC xs)), (.lst 1 (List.map celC vs)), (.v (.int .i64 (nn)))] (.tup [(.own 1 (List.map celC us32) true), (.v (.int .i64 (e32)))]))) (h1 : (e32 != 0) = false) (h2 : (decide ((↑(List.map celC ds).length : Int) > 65536)) = true) : den ⟨fnOf, specA, L⟩ (n+1) 31 [.agg [.int .i64 rate, .int .i64 delay, .lst 1 (ts.map celC), .lst 1 (es.map celC)], .lst 1 (xs.map celC), .lst 1 (vs.map celC), .lst 1 (ds.map celC), .lst 4 (bs.map celBu), .int .i64 nn] = some (.tup [.nils, (.v (.int .i64 1))]) :=
  denD_sound (q := [((some 32), (Dec.call (.tup [(.own 1 (List.map celC us32) true), (.v (.int .i64 (e32)))]))), ((some 36), (Dec.b false)), ((some 41), (Dec.b true))]) (by kernel_rfl) (hcLwArA (c := (.st [0] [0])) rfl (hcLwArA h0 (hbLwArA h1 (hbLwArA h2 hnLwArA))))
theorem arp_2 {L n : Nat} {rate delay nn : Int} {ts es xs vs ds : List (Nat × Nat)} {us u2 : List (Nat × Nat)} {lu lo i : Nat} {os o2 : List ((Nat × Nat) × Bool)} {st π : List Nat} {bs : List ((Int × Int) × (Nat × Nat) × Bool)} {i2 i3 i4 : Nat} {us32 : List (Nat × Nat)} {e32 : Int} (h0 : HLwArAspecA L n (.spec 19 [(.agg [(.v (.int .i64 (rate))), (.v (.int .i64 (delay))), (.lst 1 (List.map celC ts)), (.lst 1 (List.map celC es))]), (.lst 1 (List.map celC xs)), (.lst 1 (List.map celC vs)), (.v (.int .i64 (nn)))] (.tup [(.own 1 (List.map celC us32) true), (.v (.int .i64 (e32)))]))) (h1 : (e32 != 0) = false) (h2 : (decide ((↑(List.map celC ds).length : Int) > 65536)) = false) (h3 : (decide ((↑(List.map celBu bs).length : Int) > 5000)) = true) : den ⟨fnOf, specA, L⟩ (n+1) 31 [.agg [.int .i64 rate, .int .i64 delay, .lst 1 (ts.map celC), .lst 1 (es.map celC)], .lst 1 (xs.map celC), .lst 1 (vs.map celC), .lst 1 (ds.map celC), .lst 4 (bs.map celBu), .int .i64 nn] = some (.tup [.nils, (.v (.int .i64 1))]) :=
  denD_sound (q := [((some 32), (Dec.call (.tup [(.own 1 (List.map celC us32) true), (.v (.int .i64 (e32)))]))), ((some 36), (Dec.b false)), ((some 41), (Dec.b false)), ((some 45), (Dec.b true))]) (by kernel_rfl) (hcLwArA (c := (.st [0] [0])) rfl (hcLwArA h0 (hbLwArA h1 (hbLwArA h2 (hbLwArA h3 hnLwArA)))))
theorem arp_3 {L n : Nat} {rate delay nn : Int} {ts es xs vs ds : List (Nat × Nat)} {us u2 : List (Nat × Nat)} {lu lo i : Nat} {os o2 : List ((Nat × Nat) × Bool)} {st π : List Nat} {bs : List ((Int × Int) × (Nat × Nat) × Bool)} {i2 i3 i4 : Nat} {us32 : List (Nat × Nat)} {e32 : Int} {m90 : Nat} (h0 : HLwArAspecA L n (.spec 19 [(.agg [(.v (.int .i64 (rate))), (.v (.int .i64 (delay))), (.lst 1 (List.map celC ts)), (.lst 1 (List.map celC es))]), (.lst 1 (List.map celC xs)), (.lst 1 (List.map celC vs)), (.v (.int .i64 (nn)))] (.tup [(.own 1 (List.map celC us32) true), (.v (.int .i64 (e32)))]))) (h1 : (e32 != 0) = false) (h2 : (decide ((↑(List.map celC ds).length : Int) > 65536)) = false) (h3 : (decide ((↑(List.map celBu bs).length : Int) > 5000)) = false) (h4 : HLwArAspecA L n (.loop 0 [3, 4, 5, 14, 46, 47, 48] m31b4 [26] (.mk [(3, (.lst 1 (List.map celC ds))), (4, (.lst 4 (List.map celBu bs))), (5, (.v (.int .i64 (nn)))), (14, (.slc (.mk 0 32 0) [1, 7] 1 0 (List.length (List.map celC us32)) false)), (46, (.lst 4 (List.map celBu bs))), (47, (.v (.int .i64 ((↑(List.map celBu bs).length : Int))))), (48, (.v (.int .i64 0)))] [((.mk 0 32 0), (.mk [1, 7] (List.map celC us32) 1 true))] 0) (.exit 0) (.mk [(3, (.lst 1 (List.map celC ds))), (4, (.lst 4 (List.map celBu bs))), (5, (.v (.int .i64 (nn)))), (14, (.slc (.mk 0 32 0) [1, 7] 1 0 (lu) false)), (46, (.lst 4 (List.map celBu bs))), (47, (.v (.int .i64 ((↑(List.map celBu bs).length : Int))))), (48, (.v (.int .i64 ((↑i : Int)))))] [((.mk 0 32 0), (.mk [1, 7] (List.map celC us) 1 true))] 0))) (h5 : HLwArAspecA L n (.loop 0 [4, 5, 14, 61, 62, 63] m31b3 [30] (.mk [(4, (.lst 4 (List.map celBu bs))), (5, (.v (.int .i64 (nn)))), (14, (.slc (.mk 0 32 0) [1, 7] 1 0 (lu) false)), (61, (.lst 1 (List.map celC ds))), (62, (.v (.int .i64 ((↑(List.map celC ds).length : Int))))), (63, (.v (.int .i64 0)))] [((.mk 0 32 0), (.mk [1, 7] (List.map celC us) 1 true))] 0) (.exit 2) (.mk [(4, (.lst 4 (List.map celBu bs))), (5, (.v (.int .i64 (nn)))), (14, (.slc (.mk 0 32 0) [1, 7] 1 0 (lu) false)), (61, (.lst 1 (List.map celC ds))), (62, (.v (.int .i64 ((↑(List.map celC ds).length : Int))))), (63, (.v (.int .i64 ((↑i2 : Int)))))] [((.mk 0 32 0), (.mk [1, 7] (List.map celC u2) 1 true))] 0))) (h6 : HLwArAspecA L n (.mk (m90) (m90) true (List.map celS (List.replicate m90 ((0, 0), false))) (nn) (nn) 24 [(AV.cpx 0 0), (.v (.bool false))])) (h7 : HLwArAspecA L n (.loop 0 [4, 5, 20, 91, 92, 93] m31b2 [37] (.mk [(4, (.lst 4 (List.map celBu bs))), (5, (.v (.int .i64 (nn)))), (20, (.slc (.mk 0 90 0) [32] 2 0 (m90) true)), (91, (.slc (.mk 0 32 0) [1, 7] 1 0 (lu) false)), (92, (.v (.int .i64 ((↑lu : Int))))), (93, (.v (.int .i64 0)))] [((.mk 0 32 0), (.mk [1, 7] (List.map celC u2) 1 true)), ((.mk 0 90 0), (.mk [32] (List.map celS (List.replicate m90 ((0, 0), false))) 2 true))] 0) (.exit 4) (.mk [(4, (.lst 4 (List.map celBu bs))), (5, (.v (.int .i64 (nn)))), (20, (.slc (.mk 0 90 0) [32] 2 0 (lo) true)), (91, (.slc (.mk 0 32 0) [1, 7] 1 0 (lu) false)), (92, (.v (.int .i64 ((↑lu : Int))))), (93, (.v (.int .i64 ((↑i3 : Int)))))] [((.mk 0 32 0), (.mk [1, 7] (List.map celC u2) 1 true)), ((.mk 0 90 0), (.mk [32] (List.map celS os) 2 true))] 0))) (h8 : HLwArAspecA L n (.loop 0 [5, 20, 104, 105, 106] m31b1 [41] (.mk [(5, (.v (.int .i64 (nn)))), (20, (.slc (.mk 0 90 0) [32] 2 0 (lo) true)), (104, (.lst 4 (List.map celBu bs))), (105, (.v (.int .i64 ((↑(List.map celBu bs).length : Int))))), (106, (.v (.int .i64 0)))] [((.mk 0 90 0), (.mk [32] (List.map celS os) 2 true))] 0) (.exit 6) (.mk [(5, (.v (.int .i64 (nn)))), (20, (.slc (.mk 0 90 0) [32] 2 0 (lo) true)), (104, (.lst 4 (List.map celBu bs))), (105, (.v (.int .i64 ((↑(List.map celBu bs).length : Int))))), (106, (.v (.int .i64 ((↑i4 : Int)))))] [((.mk 0 90 0), (.mk [32] (List.map celS o2) 2 true))] 0))) (h9 : HLwArAspecA L n (.le (lo) (List.length (List.map celS o2)))) : den ⟨fnOf, specA, L⟩ (n+1) 31 [.agg [.int .i64 rate, .int .i64 delay, .lst 1 (ts.map celC), .lst 1 (es.map celC)], .lst 1 (xs.map celC), .lst 1 (vs.map celC), .lst 1 (ds.map celC), .lst 4 (bs.map celBu), .int .i64 nn] = some (.tup [(.own 2 (List.take (lo) (List.map celS o2)) true), (.v (.int .i64 0))]) :=
  denD_sound (q := [((some 32), (Dec.call (.tup [(.own 1 (List.map celC us32) true), (.v (.int .i64 (e32)))]))), ((some 36), (Dec.b false)), ((some 41), (Dec.b false)), ((some 45), (Dec.b false)), ((some 200004), (Dec.loop (.exit 0) (.mk [(3, (.lst 1 (List.map celC ds))), (4, (.lst 4 (List.map celBu bs))), (5, (.v (.int .i64 (nn)))), (14, (.slc (.mk 0 32 0) [1, 7] 1 0 (lu) false)), (46, (.lst 4 (List.map celBu bs))), (47, (.v (.int .i64 ((↑(List.map celBu bs).length : Int))))), (48, (.v (.int .i64 ((↑i : Int)))))] [((.mk 0 32 0), (.mk [1, 7] (List.map celC us) 1 true))] 0))), ((some 200003), (Dec.loop (.exit 2) (.mk [(4, (.lst 4 (List.map celBu bs))), (5, (.v (.int .i64 (nn)))), (14, (.slc (.mk 0 32 0) [1, 7] 1 0 (lu) false)), (61, (.lst 1 (List.map celC ds))), (62, (.v (.int .i64 ((↑(List.map celC ds).length : Int))))), (63, (.v (.int .i64 ((↑i2 : Int)))))] [((.mk 0 32 0), (.mk [1, 7] (List.map celC u2) 1 true))] 0))), ((some 90), (Dec.mk (m90) (m90) true (List.map celS (List.replicate m90 ((0, 0), false))))), ((some 200002), (Dec.loop (.exit 4) (.mk [(4, (.lst 4 (List.map celBu bs))), (5, (.v (.int .i64 (nn)))), (20, (.slc (.mk 0 90 0) [32] 2 0 (lo) true)), (91, (.slc (.mk 0 32 0) [1, 7] 1 0 (lu) false)), (92, (.v (.int .i64 ((↑lu : Int))))), (93, (.v (.int .i64 ((↑i3 : Int)))))] [((.mk 0 32 0), (.mk [1, 7] (List.map celC u2) 1 true)), ((.mk 0 90 0), (.mk [32] (List.map celS os) 2 true))] 0))), ((some 200001), (Dec.loop (.exit 6) (.mk [(5, (.v (.int .i64 (nn)))), (20, (.slc (.mk 0 90 0) [32] 2 0 (lo) true)), (104, (.lst 4 (List.map celBu bs))), (105, (.v (.int .i64 ((↑(List.map celBu bs).length : Int))))), (106, (.v (.int .i64 ((↑i4 : Int)))))] [((.mk 0 90 0), (.mk [32] (List.map celS o2) 2 true))] 0)))]) (by kernel_rfl) (hcLwArA (c := (.st [0] [0])) rfl (hcLwArA h0 (hbLwArA h1 (hbLwArA h2 (hbLwArA h3 (hcLwArA h4 (hcLwArA h5 (hcLwArA h6 (hcLwArA h7 (hcLwArA h8 (hcLwArA (c := (.st [32] [32])) rfl (hcLwArA h9 hnLwArA))))))))))))
theorem ard_0 {L n : Nat} {rate delay nn : Int} {ts es xs vs ds : List (Nat × Nat)} {us u2 : List (Nat × Nat)} {lu lo i : Nat} {os o2 : List ((Nat × Nat) × Bool)} {st π : List Nat} {bs : List ((Int × Int) × (Nat × Nat) × Bool)} {i2 i3 i4 : Nat} {us28 : List (Nat × Nat)} {e28 : Int} (h0 : HLwArAspecA L n (.spec 20 [(.agg [(.v (.int .i64 (rate))), (.v (.int .i64 (delay))), (.lst 1 (List.map celC ts)), (.lst 1 (List.map celC es))]), (.lst 1 (List.map celC xs)), (.lst 1 (List.map celC vs)), (.v (.int .i64 (nn)))] (.tup [(.own 1 (List.map celC us28) true), (.v (.int .i64 (e28)))]))) (h1 : (e28 != 0) = true) : den ⟨fnOf, specA, L⟩ (n+1) 32 [.agg [.int .i64 rate, .int .i64 delay, .lst 1 (ts.map celC), .lst 1 (es.map celC)], .lst 1 (xs.map celC), .lst 1 (vs.map celC), .lst 1 (ds.map celC), .lst 4 (bs.map celBu), .int .i64 nn] = some (.tup [.nils, (.v (.int .i64 (e28)))]) :=
  denD_sound (q := [((some 28), (Dec.call (.tup [(.own 1 (List.map celC us28) true), (.v (.int .i64 (e28)))]))), ((some 32), (Dec.b true))]) (by kernel_rfl) (hcLwArA (c := (.st [0] [0])) rfl (hcLwArA h0 (hbLwArA h1 hnLwArA)))
theorem ard_1 {L n : Nat} {rate delay nn : Int} {ts es xs vs ds : List (Nat × Nat)} {us u2 : List (Nat × Nat)} {lu lo i : Nat} {os o2 : List ((Nat × Nat) × Bool)} {st π : List Nat} {bs : List ((Int × Int) × (Nat × Nat) × Bool)} {i2 i3 i4 : Nat} {us28 : List (Nat × Nat)} {e28 : Int} (h0 : HLwArAspecA L n (.spec 20 [(.agg [(.v (.int .i64 (rate))), (.v (.int .i64 (delay))), (.lst 1 (List.map celC ts)), (.lst 1 (List.map celC es))]), (.lst 1 (List.map celC xs)), (.lst 1 (List.map celC vs)), (.v (.int .i64 (nn)))] (.tup [(.own 1 (List.map celC us28) true), (.v (.int .i64 (e28)))]))) (h1 : (e28 != 0) = false) (h2 : (decide ((↑(List.map celC ds).length : Int) > 65536)) = true) : den ⟨fnOf, specA, L⟩ (n+1) 32 [.agg [.int .i64 rate, .int .i64 delay, .lst 1 (ts.map celC), .lst 1 (es.map celC)], .lst 1 (xs.map celC), .lst 1 (vs.map celC), .lst 1 (ds.map celC), .lst 4 (bs.map celBu), .int .i64 nn] = some (.tup [.nils, (.v (.int .i64 1))]) :=
  denD_sound (q := [((some 28), (Dec.call (.tup [(.own 1 (List.map celC us28) true), (.v (.int .i64 (e28)))]))), ((some 32), (Dec.b false)), ((some 37), (Dec.b true))]) (by kernel_rfl) (hcLwArA (c := (.st [0] [0])) rfl (hcLwArA h0 (hbLwArA h1 (hbLwArA h2 hnLwArA))))
theorem ard_2 {L n : Nat} {rate delay nn : Int} {ts es xs vs ds : List (Nat × Nat)} {us u2 : List (Nat × Nat)} {lu lo i : Nat} {os o2 : List ((Nat × Nat) × Bool)} {st π : List Nat} {bs : List ((Int × Int) × (Nat × Nat) × Bool)} {i2 i3 i4 : Nat} {us28 : List (Nat × Nat)} {e28 : Int} (h0 : HLwArAspecA L n (.spec 20 [(.agg [(.v (.int .i64 (rate))), (.v (.int .i64 (delay))), (.lst 1 (List.map celC ts)), (.lst 1 (List.map celC es))]), (.lst 1 (List.map celC xs)), (.lst 1 (List.map celC vs)), (.v (.int .i64 (nn)))] (.tup [(.own 1 (List.map celC us28) true), (.v (.int .i64 (e28)))]))) (h1 : (e28 != 0) = false) (h2 : (decide ((↑(List.map celC ds).length : Int) > 65536)) = false) (h3 : (decide ((↑(List.map celBu bs).length : Int) > 5000)) = true) : den ⟨fnOf, specA, L⟩ (n+1) 32 [.agg [.int .i64 rate, .int .i64 delay, .lst 1 (ts.map celC), .lst 1 (es.map celC)], .lst 1 (xs.map celC), .lst 1 (vs.map celC), .lst 1 (ds.map celC), .lst 4 (bs.map celBu), .int .i64 nn] = some (.tup [.nils, (.v (.int .i64 1))]) :=
  denD_sound (q := [((some 28), (Dec.call (.tup [(.own 1 (List.map celC us28) true), (.v (.int .i64 (e28)))]))), ((some 32), (Dec.b false)), ((some 37), (Dec.b false)), ((some 41), (Dec.b true))]) (by kernel_rfl) (hcLwArA (c := (.st [0] [0])) rfl (hcLwArA h0 (hbLwArA h1 (hbLwArA h2 (hbLwArA h3 hnLwArA)))))
theorem ard_3 {L n : Nat} {rate delay nn : Int} {ts es xs vs ds : List (Nat × Nat)} {us u2 : List (Nat × Nat)} {lu lo i : Nat} {os o2 : List ((Nat × Nat) × Bool)} {st π : List Nat} {bs : List ((Int × Int) × (Nat × Nat) × Bool)} {i2 i3 i4 : Nat} {us28 : List (Nat × Nat)} {e28 : Int} (h0 : HLwArAspecA L n (.spec 20 [(.agg [(.v (.int .i64 (rate))), (.v (.int .i64 (delay))), (.lst 1 (List.map celC ts)), (.lst 1 (List.map celC es))]), (.lst 1 (List.map celC xs)), (.lst 1 (List.map celC vs)), (.v (.int .i64 (nn)))] (.tup [(.own 1 (List.map celC us28) true), (.v (.int .i64 (e28)))]))) (h1 : (e28 != 0) = false) (h2 : (decide ((↑(List.map celC ds).length : Int) > 65536)) = false) (h3 : (decide ((↑(List.map celBu bs).length : Int) > 5000)) = false) (h4 : HLwArAspecA L n (.loop 0 [3, 4, 5, 14, 16] m32b3 [24] (.mk [(3, (.lst 1 (List.map celC ds))), (4, (.lst 4 (List.map celBu bs))), (5, (.v (.int .i64 (nn)))), (14, (.slc (.mk 0 28 0) [1, 7] 1 0 (List.length (List.map celC us28)) false)), (16, (.v (.int .i64 0)))] [((.mk 0 28 0), (.mk [1, 7] (List.map celC us28) 1 true))] 0) (.exit 0) (.mk [(3, (.lst 1 (List.map celC ds))), (4, (.lst 4 (List.map celBu bs))), (5, (.v (.int .i64 (nn)))), (14, (.slc (.mk 0 28 0) [1, 7] 1 0 (lu) false)), (16, (.v (.int .i64 ((↑i : Int)))))] [((.mk 0 28 0), (.mk [1, 7] (List.map celC us) 1 true))] 0))) (h5 : HLwArAspecA L n (.loop 0 [3, 4, 5, 14, 17] m32b2 [26] (.mk [(3, (.lst 1 (List.map celC ds))), (4, (.lst 4 (List.map celBu bs))), (5, (.v (.int .i64 (nn)))), (14, (.slc (.mk 0 28 0) [1, 7] 1 0 (lu) false)), (17, (.v (.int .i64 0)))] [((.mk 0 28 0), (.mk [1, 7] (List.map celC us) 1 true))] 0) (.exit 2) (.mk [(3, (.lst 1 (List.map celC ds))), (4, (.lst 4 (List.map celBu bs))), (5, (.v (.int .i64 (nn)))), (14, (.slc (.mk 0 28 0) [1, 7] 1 0 (lu) false)), (17, (.v (.int .i64 ((↑i2 : Int)))))] [((.mk 0 28 0), (.mk [1, 7] (List.map celC us) 1 true))] 0))) (h6 : HLwArAspecA L n (.loop 0 [3, 4, 5, 14, 18, 19] m32b1 [29] (.mk [(3, (.lst 1 (List.map celC ds))), (4, (.lst 4 (List.map celBu bs))), (5, (.v (.int .i64 (nn)))), (14, (.slc (.mk 0 28 0) [1, 7] 1 0 (lu) false)), (18, (.slc (.mk 0 18 1000) [29] 2 0 0 false)), (19, (.v (.int .i64 0)))] [((.mk 0 18 1000), (.mk [29] [] 2 true)), ((.mk 0 28 0), (.mk [1, 7] (List.map celC us) 1 true))] 0) (.exit 4) (.mk [(3, (.lst 1 (List.map celC ds))), (4, (.lst 4 (List.map celBu bs))), (5, (.v (.int .i64 (nn)))), (14, (.slc (.mk 0 28 0) [1, 7] 1 0 (lu) false)), (18, (.slc (.mk 0 18 1000) (st) 2 0 (lo) false)), (19, (.v (.int .i64 ((↑i3 : Int)))))] [((.mk 0 18 1000), (.mk (st) (List.map celS os) 2 true)), ((.mk 0 28 0), (.mk [1, 7] (List.map celC us) 1 true))] 0))) (h7 : HLwArAspecA L n (.le (lo) (List.length (List.map celS os)))) : den ⟨fnOf, specA, L⟩ (n+1) 32 [.agg [.int .i64 rate, .int .i64 delay, .lst 1 (ts.map celC), .lst 1 (es.map celC)], .lst 1 (xs.map celC), .lst 1 (vs.map celC), .lst 1 (ds.map celC), .lst 4 (bs.map celBu), .int .i64 nn] = some (.tup [(.own 2 (List.take (lo) (List.map celS os)) true), (.v (.int .i64 0))]) :=
  denD_sound (q := [((some 28), (Dec.call (.tup [(.own 1 (List.map celC us28) true), (.v (.int .i64 (e28)))]))), ((some 32), (Dec.b false)), ((some 37), (Dec.b false)), ((some 41), (Dec.b false)), ((some 200003), (Dec.loop (.exit 0) (.mk [(3, (.lst 1 (List.map celC ds))), (4, (.lst 4 (List.map celBu bs))), (5, (.v (.int .i64 (nn)))), (14, (.slc (.mk 0 28 0) [1, 7] 1 0 (lu) false)), (16, (.v (.int .i64 ((↑i : Int)))))] [((.mk 0 28 0), (.mk [1, 7] (List.map celC us) 1 true))] 0))), ((some 200002), (Dec.loop (.exit 2) (.mk [(3, (.lst 1 (List.map celC ds))), (4, (.lst 4 (List.map celBu bs))), (5, (.v (.int .i64 (nn)))), (14, (.slc (.mk 0 28 0) [1, 7] 1 0 (lu) false)), (17, (.v (.int .i64 ((↑i2 : Int)))))] [((.mk 0 28 0), (.mk [1, 7] (List.map celC us) 1 true))] 0))), ((some 200001), (Dec.loop (.exit 4) (.mk [(3, (.lst 1 (List.map celC ds))), (4, (.lst 4 (List.map celBu bs))), (5, (.v (.int .i64 (nn)))), (14, (.slc (.mk 0 28 0) [1, 7] 1 0 (lu) false)), (18, (.slc (.mk 0 18 1000) (st) 2 0 (lo) false)), (19, (.v (.int .i64 ((↑i3 : Int)))))] [((.mk 0 18 1000), (.mk (st) (List.map celS os) 2 true)), ((.mk 0 28 0), (.mk [1, 7] (List.map celC us) 1 true))] 0)))]) (by kernel_rfl) (hcLwArA (c := (.st [0] [0])) rfl (hcLwArA h0 (hbLwArA h1 (hbLwArA h2 (hbLwArA h3 (hcLwArA h4 (hcLwArA h5 (hcLwArA h6 (hcLwArA (c := (.st (st) (st))) rfl (hcLwArA h7 hnLwArA))))))))))
theorem aqp_3 {L n : Nat} {rate delay nn : Int} {ts es xs vs ds : List (Nat × Nat)} {us u2 : List (Nat × Nat)} {lu lo i : Nat} {os o2 : List ((Nat × Nat) × Bool)} {st π : List Nat} {bs : List ((Int × Int) × (Nat × Nat) × Bool)} {s : St} {v : AV} {us32 : List (Nat × Nat)} {e32 : Int} (h0 : HLwArAspecA L n (.spec 19 [(.agg [(.v (.int .i64 (rate))), (.v (.int .i64 (delay))), (.lst 1 (List.map celC ts)), (.lst 1 (List.map celC es))]), (.lst 1 (List.map celC xs)), (.lst 1 (List.map celC vs)), (.v (.int .i64 (nn)))] (.tup [(.own 1 (List.map celC us32) true), (.v (.int .i64 (e32)))]))) (h1 : (e32 != 0) = false) (h2 : (decide ((↑(List.map celC ds).length : Int) > 65536)) = false) (h3 : (decide ((↑(List.map celBu bs).length : Int) > 5000)) = false) (h4 : HLwArAspecA L n (.loop 0 [3, 4, 5, 14, 46, 47, 48] m31b4 [26] (.mk [(3, (.lst 1 (List.map celC ds))), (4, (.lst 4 (List.map celBu bs))), (5, (.v (.int .i64 (nn)))), (14, (.slc (.mk 0 32 0) [1, 7] 1 0 (List.length (List.map celC us32)) false)), (46, (.lst 4 (List.map celBu bs))), (47, (.v (.int .i64 ((↑(List.map celBu bs).length : Int))))), (48, (.v (.int .i64 0)))] [((.mk 0 32 0), (.mk [1, 7] (List.map celC us32) 1 true))] 0) .ret (s))) (hv : outS s m31.res = some v) : den ⟨fnOf, specA, L⟩ (n+1) 31 [.agg [.int .i64 rate, .int .i64 delay, .lst 1 (ts.map celC), .lst 1 (es.map celC)], .lst 1 (xs.map celC), .lst 1 (vs.map celC), .lst 1 (ds.map celC), .lst 4 (bs.map celBu), .int .i64 nn] = some v :=
  tailD_sound (q := [((some 32), (Dec.call (.tup [(.own 1 (List.map celC us32) true), (.v (.int .i64 (e32)))]))), ((some 36), (Dec.b false)), ((some 41), (Dec.b false)), ((some 45), (Dec.b false)), ((some 200004), (Dec.loop .ret (s)))]) (k := 27) (by kernel_rfl) rfl (hcLwArA (c := (.st [0] [0])) rfl (hcLwArA h0 (hbLwArA h1 (hbLwArA h2 (hbLwArA h3 (hcLwArA h4 hnLwArA)))))) hv
theorem aqd_3 {L n : Nat} {rate delay nn : Int} {ts es xs vs ds : List (Nat × Nat)} {us u2 : List (Nat × Nat)} {lu lo i : Nat} {os o2 : List ((Nat × Nat) × Bool)} {st π : List Nat} {bs : List ((Int × Int) × (Nat × Nat) × Bool)} {s : St} {v : AV} {us28 : List (Nat × Nat)} {e28 : Int} (h0 : HLwArAspecA L n (.spec 20 [(.agg [(.v (.int .i64 (rate))), (.v (.int .i64 (delay))), (.lst 1 (List.map celC ts)), (.lst 1 (List.map celC es))]), (.lst 1 (List.map celC xs)), (.lst 1 (List.map celC vs)), (.v (.int .i64 (nn)))] (.tup [(.own 1 (List.map celC us28) true), (.v (.int .i64 (e28)))]))) (h1 : (e28 != 0) = false) (h2 : (decide ((↑(List.map celC ds).length : Int) > 65536)) = false) (h3 : (decide ((↑(List.map celBu bs).length : Int) > 5000)) = false) (h4 : HLwArAspecA L n (.loop 0 [3, 4, 5, 14, 16] m32b3 [24] (.mk [(3, (.lst 1 (List.map celC ds))), (4, (.lst 4 (List.map celBu bs))), (5, (.v (.int .i64 (nn)))), (14, (.slc (.mk 0 28 0) [1, 7] 1 0 (List.length (List.map celC us28)) false)), (16, (.v (.int .i64 0)))] [((.mk 0 28 0), (.mk [1, 7] (List.map celC us28) 1 true))] 0) .ret (s))) (hv : outS s m32.res = some v) : den ⟨fnOf, specA, L⟩ (n+1) 32 [.agg [.int .i64 rate, .int .i64 delay, .lst 1 (ts.map celC), .lst 1 (es.map celC)], .lst 1 (xs.map celC), .lst 1 (vs.map celC), .lst 1 (ds.map celC), .lst 4 (bs.map celBu), .int .i64 nn] = some v :=
  tailD_sound (q := [((some 28), (Dec.call (.tup [(.own 1 (List.map celC us28) true), (.v (.int .i64 (e28)))]))), ((some 32), (Dec.b false)), ((some 37), (Dec.b false)), ((some 41), (Dec.b false)), ((some 200003), (Dec.loop .ret (s)))]) (k := 25) (by kernel_rfl) rfl (hcLwArA (c := (.st [0] [0])) rfl (hcLwArA h0 (hbLwArA h1 (hbLwArA h2 (hbLwArA h3 (hcLwArA h4 hnLwArA)))))) hv
theorem aup_3 {L n : Nat} {rate delay nn : Int} {ts es xs vs ds : List (Nat × Nat)} {us u2 : List (Nat × Nat)} {lu lo i : Nat} {os o2 : List ((Nat × Nat) × Bool)} {st π : List Nat} {bs : List ((Int × Int) × (Nat × Nat) × Bool)} {s : St} {v : AV} {us32 : List (Nat × Nat)} {e32 : Int} (h0 : HLwArAspecA L n (.spec 19 [(.agg [(.v (.int .i64 (rate))), (.v (.int .i64 (delay))), (.lst 1 (List.map celC ts)), (.lst 1 (List.map celC es))]), (.lst 1 (List.map celC xs)), (.lst 1 (List.map celC vs)), (.v (.int .i64 (nn)))] (.tup [(.own 1 (List.map celC us32) true), (.v (.int .i64 (e32)))]))) (h1 : (e32 != 0) = false) (h2 : (decide ((↑(List.map celC ds).length : Int) > 65536)) = false) (h3 : (decide ((↑(List.map celBu bs).length : Int) > 5000)) = false) (h4 : HLwArAspecA L n (.loop 0 [3, 4, 5, 14, 46, 47, 48] m31b4 [26] (.mk [(3, (.lst 1 (List.map celC ds))), (4, (.lst 4 (List.map celBu bs))), (5, (.v (.int .i64 (nn)))), (14, (.slc (.mk 0 32 0) [1, 7] 1 0 (List.length (List.map celC us32)) false)), (46, (.lst 4 (List.map celBu bs))), (47, (.v (.int .i64 ((↑(List.map celBu bs).length : Int))))), (48, (.v (.int .i64 0)))] [((.mk 0 32 0), (.mk [1, 7] (List.map celC us32) 1 true))] 0) (.exit 0) (.mk [(3, (.lst 1 (List.map celC ds))), (4, (.lst 4 (List.map celBu bs))), (5, (.v (.int .i64 (nn)))), (14, (.slc (.mk 0 32 0) [1, 7] 1 0 (lu) false)), (46, (.lst 4 (List.map celBu bs))), (47, (.v (.int .i64 ((↑(List.map celBu bs).length : Int))))), (48, (.v (.int .i64 ((↑i : Int)))))] [((.mk 0 32 0), (.mk [1, 7] (List.map celC us) 1 true))] 0))) (h5 : HLwArAspecA L n (.loop 0 [4, 5, 14, 61, 62, 63] m31b3 [30] (.mk [(4, (.lst 4 (List.map celBu bs))), (5, (.v (.int .i64 (nn)))), (14, (.slc (.mk 0 32 0) [1, 7] 1 0 (lu) false)), (61, (.lst 1 (List.map celC ds))), (62, (.v (.int .i64 ((↑(List.map celC ds).length : Int))))), (63, (.v (.int .i64 0)))] [((.mk 0 32 0), (.mk [1, 7] (List.map celC us) 1 true))] 0) .ret (s))) (hv : outS s m31.res = some v) : den ⟨fnOf, specA, L⟩ (n+1) 31 [.agg [.int .i64 rate, .int .i64 delay, .lst 1 (ts.map celC), .lst 1 (es.map celC)], .lst 1 (xs.map celC), .lst 1 (vs.map celC), .lst 1 (ds.map celC), .lst 4 (bs.map celBu), .int .i64 nn] = some v :=
  tailD_sound (q := [((some 32), (Dec.call (.tup [(.own 1 (List.map celC us32) true), (.v (.int .i64 (e32)))]))), ((some 36), (Dec.b false)), ((some 41), (Dec.b false)), ((some 45), (Dec.b false)), ((some 200004), (Dec.loop (.exit 0) (.mk [(3, (.lst 1 (List.map celC ds))), (4, (.lst 4 (List.map celBu bs))), (5, (.v (.int .i64 (nn)))), (14, (.slc (.mk 0 32 0) [1, 7] 1 0 (lu) false)), (46, (.lst 4 (List.map celBu bs))), (47, (.v (.int .i64 ((↑(List.map celBu bs).length : Int))))), (48, (.v (.int .i64 ((↑i : Int)))))] [((.mk 0 32 0), (.mk [1, 7] (List.map celC us) 1 true))] 0))), ((some 200003), (Dec.loop .ret (s)))]) (k := 31) (by kernel_rfl) rfl (hcLwArA (c := (.st [0] [0])) rfl (hcLwArA h0 (hbLwArA h1 (hbLwArA h2 (hbLwArA h3 (hcLwArA h4 (hcLwArA h5 hnLwArA))))))) hv
theorem aud_3 {L n : Nat} {rate delay nn : Int} {ts es xs vs ds : List (Nat × Nat)} {us u2 : List (Nat × Nat)} {lu lo i : Nat} {os o2 : List ((Nat × Nat) × Bool)} {st π : List Nat} {bs : List ((Int × Int) × (Nat × Nat) × Bool)} {s : St} {v : AV} {us28 : List (Nat × Nat)} {e28 : Int} (h0 : HLwArAspecA L n (.spec 20 [(.agg [(.v (.int .i64 (rate))), (.v (.int .i64 (delay))), (.lst 1 (List.map celC ts)), (.lst 1 (List.map celC es))]), (.lst 1 (List.map celC xs)), (.lst 1 (List.map celC vs)), (.v (.int .i64 (nn)))] (.tup [(.own 1 (List.map celC us28) true), (.v (.int .i64 (e28)))]))) (h1 : (e28 != 0) = false) (h2 : (decide ((↑(List.map celC ds).length : Int) > 65536)) = false) (h3 : (decide ((↑(List.map celBu bs).length : Int) > 5000)) = false) (h4 : HLwArAspecA L n (.loop 0 [3, 4, 5, 14, 16] m32b3 [24] (.mk [(3, (.lst 1 (List.map celC ds))), (4, (.lst 4 (List.map celBu bs))), (5, (.v (.int .i64 (nn)))), (14, (.slc (.mk 0 28 0) [1, 7] 1 0 (List.length (List.map celC us28)) false)), (16, (.v (.int .i64 0)))] [((.mk 0 28 0), (.mk [1, 7] (List.map celC us28) 1 true))] 0) (.exit 0) (.mk [(3, (.lst 1 (List.map celC ds))), (4, (.lst 4 (List.map celBu bs))), (5, (.v (.int .i64 (nn)))), (14, (.slc (.mk 0 28 0) [1, 7] 1 0 (lu) false)), (16, (.v (.int .i64 ((↑i : Int)))))] [((.mk 0 28 0), (.mk [1, 7] (List.map celC us) 1 true))] 0))) (h5 : HLwArAspecA L n (.loop 0 [3, 4, 5, 14, 17] m32b2 [26] (.mk [(3, (.lst 1 (List.map celC ds))), (4, (.lst 4 (List.map celBu bs))), (5, (.v (.int .i64 (nn)))), (14, (.slc (.mk 0 28 0) [1, 7] 1 0 (lu) false)), (17, (.v (.int .i64 0)))] [((.mk 0 28 0), (.mk [1, 7] (List.map celC us) 1 true))] 0) .ret (s))) (hv : outS s m32.res = some v) : den ⟨fnOf, specA, L⟩ (n+1) 32 [.agg [.int .i64 rate, .int .i64 delay, .lst 1 (ts.map celC), .lst 1 (es.map celC)], .lst 1 (xs.map celC), .lst 1 (vs.map celC), .lst 1 (ds.map celC), .lst 4 (bs.map celBu), .int .i64 nn] = some v :=
  tailD_sound (q := [((some 28), (Dec.call (.tup [(.own 1 (List.map celC us28) true), (.v (.int .i64 (e28)))]))), ((some 32), (Dec.b false)), ((some 37), (Dec.b false)), ((some 41), (Dec.b false)), ((some 200003), (Dec.loop (.exit 0) (.mk [(3, (.lst 1 (List.map celC ds))), (4, (.lst 4 (List.map celBu bs))), (5, (.v (.int .i64 (nn)))), (14, (.slc (.mk 0 28 0) [1, 7] 1 0 (lu) false)), (16, (.v (.int .i64 ((↑i : Int)))))] [((.mk 0 28 0), (.mk [1, 7] (List.map celC us) 1 true))] 0))), ((some 200002), (Dec.loop .ret (s)))]) (k := 27) (by kernel_rfl) rfl (hcLwArA (c := (.st [0] [0])) rfl (hcLwArA h0 (hbLwArA h1 (hbLwArA h2 (hbLwArA h3 (hcLwArA h4 (hcLwArA h5 hnLwArA))))))) hv
theorem arv_0 {L n : Nat} {rate delay nn : Int} {ts es xs vs ds : List (Nat × Nat)} {us u2 : List (Nat × Nat)} {lu lo i : Nat} {os o2 : List ((Nat × Nat) × Bool)} {st π : List Nat} {bs : List ((Int × Int) × (Nat × Nat) × Bool)} {x50 : (Int × Int) × (Nat × Nat) × Bool} (h0 : (decide ((↑i : Int) < (↑(List.map celBu bs).length : Int))) = true) (h1 : HLwArAspecA L n (.el (List.map celBu bs) (.v (.int .i64 ((↑i : Int)))) [(.v (.int .i64 (x50.fst.fst))), (.v (.int .i64 (x50.fst.snd))), (.cpx (x50.snd.fst.fst) (x50.snd.fst.snd)), (.v (.bool (x50.snd.snd)))])) (h2 : (decide (x50.fst.fst < 0)) = true) : seeZ 0 [3, 4, 5, 14, 46, 47, 48] m31.res (bodyOf ⟨fnOf, specA, L⟩ (runF ⟨fnOf, specA, L⟩ n) 0 m31b4 (i :: π) (arV ds us bs nn lu i : St)) = some (RO.out (.tup [.nils, (.v (.int .i64 1))])) :=
  rndZ_sound (q := [((some 49), (Dec.b true)), ((some 50), (Dec.el [(.v (.int .i64 (x50.fst.fst))), (.v (.int .i64 (x50.fst.snd))), (.cpx (x50.snd.fst.fst) (x50.snd.fst.snd)), (.v (.bool (x50.snd.snd)))])), ((some 55), (Dec.b true))]) (by kernel_rfl) (hbLwArA h0 (hcLwArA h1 (hcLwArA (c := (.st ([3, (i)] ++ (π)) ([3, (i)] ++ (π)))) rfl (hcLwArA (c := (.st ([3, (i)] ++ (π)) ([3, (i)] ++ (π)))) rfl (hbLwArA h2 hnLwArA)))))
theorem arv_1 {L n : Nat} {rate delay nn : Int} {ts es xs vs ds : List (Nat × Nat)} {us u2 : List (Nat × Nat)} {lu lo i : Nat} {os o2 : List ((Nat × Nat) × Bool)} {st π : List Nat} {bs : List ((Int × Int) × (Nat × Nat) × Bool)} {x50 : (Int × Int) × (Nat × Nat) × Bool} (h0 : (decide ((↑i : Int) < (↑(List.map celBu bs).length : Int))) = true) (h1 : HLwArAspecA L n (.el (List.map celBu bs) (.v (.int .i64 ((↑i : Int)))) [(.v (.int .i64 (x50.fst.fst))), (.v (.int .i64 (x50.fst.snd))), (.cpx (x50.snd.fst.fst) (x50.snd.fst.snd)), (.v (.bool (x50.snd.snd)))])) (h2 : (decide (x50.fst.fst < 0)) = false) (h3 : (decide (x50.fst.snd < 0)) = true) : seeZ 0 [3, 4, 5, 14, 46, 47, 48] m31.res (bodyOf ⟨fnOf, specA, L⟩ (runF ⟨fnOf, specA, L⟩ n) 0 m31b4 (i :: π) (arV ds us bs nn lu i : St)) = some (RO.out (.tup [.nils, (.v (.int .i64 1))])) :=
  rndZ_sound (q := [((some 49), (Dec.b true)), ((some 50), (Dec.el [(.v (.int .i64 (x50.fst.fst))), (.v (.int .i64 (x50.fst.snd))), (.cpx (x50.snd.fst.fst) (x50.snd.fst.snd)), (.v (.bool (x50.snd.snd)))])), ((some 55), (Dec.b false)), ((some 59), (Dec.b true))]) (by kernel_rfl) (hbLwArA h0 (hcLwArA h1 (hcLwArA (c := (.st ([3, (i)] ++ (π)) ([3, (i)] ++ (π)))) rfl (hcLwArA (c := (.st ([3, (i)] ++ (π)) ([3, (i)] ++ (π)))) rfl (hbLwArA h2 (hcLwArA (c := (.st ([3, (i)] ++ (π)) ([3, (i)] ++ (π)))) rfl (hbLwArA h3 hnLwArA)))))))
theorem arv_2 {L n : Nat} {rate delay nn : Int} {ts es xs vs ds : List (Nat × Nat)} {us u2 : List (Nat × Nat)} {lu lo i : Nat} {os o2 : List ((Nat × Nat) × Bool)} {st π : List Nat} {bs : List ((Int × Int) × (Nat × Nat) × Bool)} {x50 : (Int × Int) × (Nat × Nat) × Bool} (h0 : (decide ((↑i : Int) < (↑(List.map celBu bs).length : Int))) = true) (h1 : HLwArAspecA L n (.el (List.map celBu bs) (.v (.int .i64 ((↑i : Int)))) [(.v (.int .i64 (x50.fst.fst))), (.v (.int .i64 (x50.fst.snd))), (.cpx (x50.snd.fst.fst) (x50.snd.fst.snd)), (.v (.bool (x50.snd.snd)))])) (h2 : (decide (x50.fst.fst < 0)) = false) (h3 : (decide (x50.fst.snd < 0)) = false) : seeZ 0 [3, 4, 5, 14, 46, 47, 48] m31.res (bodyOf ⟨fnOf, specA, L⟩ (runF ⟨fnOf, specA, L⟩ n) 0 m31b4 (i :: π) (arV ds us bs nn lu i : St)) = some (RO.go .nrm (.mk [(3, (.lst 1 (List.map celC ds))), (4, (.lst 4 (List.map celBu bs))), (5, (.v (.int .i64 (nn)))), (14, (.slc (.mk 0 32 0) [1, 7] 1 0 (lu) false)), (46, (.lst 4 (List.map celBu bs))), (47, (.v (.int .i64 ((↑(List.map celBu bs).length : Int))))), (48, (.v (.int .i64 (IntKind.wrap .i64 ((↑i : Int) + 1)))))] [((.mk 0 32 0), (.mk [1, 7] (List.map celC us) 1 true))] 0)) :=
  rndZ_sound (q := [((some 49), (Dec.b true)), ((some 50), (Dec.el [(.v (.int .i64 (x50.fst.fst))), (.v (.int .i64 (x50.fst.snd))), (.cpx (x50.snd.fst.fst) (x50.snd.fst.snd)), (.v (.bool (x50.snd.snd)))])), ((some 55), (Dec.b false)), ((some 59), (Dec.b false))]) (by kernel_rfl) (hbLwArA h0 (hcLwArA h1 (hcLwArA (c := (.st ([3, (i)] ++ (π)) ([3, (i)] ++ (π)))) rfl (hcLwArA (c := (.st ([3, (i)] ++ (π)) ([3, (i)] ++ (π)))) rfl (hbLwArA h2 (hcLwArA (c := (.st ([3, (i)] ++ (π)) ([3, (i)] ++ (π)))) rfl (hbLwArA h3 hnLwArA)))))))
theorem arv_3 {L n : Nat} {rate delay nn : Int} {ts es xs vs ds : List (Nat × Nat)} {us u2 : List (Nat × Nat)} {lu lo i : Nat} {os o2 : List ((Nat × Nat) × Bool)} {st π : List Nat} {bs : List ((Int × Int) × (Nat × Nat) × Bool)} (h0 : (decide ((↑i : Int) < (↑(List.map celBu bs).length : Int))) = false) : seeZ 0 [3, 4, 5, 14, 46, 47, 48] m31.res (bodyOf ⟨fnOf, specA, L⟩ (runF ⟨fnOf, specA, L⟩ n) 0 m31b4 (i :: π) (arV ds us bs nn lu i : St)) = some (RO.go (.exit 0) (.mk [(3, (.lst 1 (List.map celC ds))), (4, (.lst 4 (List.map celBu bs))), (5, (.v (.int .i64 (nn)))), (14, (.slc (.mk 0 32 0) [1, 7] 1 0 (lu) false)), (46, (.lst 4 (List.map celBu bs))), (47, (.v (.int .i64 ((↑(List.map celBu bs).length : Int))))), (48, (.v (.int .i64 ((↑i : Int)))))] [((.mk 0 32 0), (.mk [1, 7] (List.map celC us) 1 true))] 0)) :=
  rndZ_sound (q := [((some 49), (Dec.b false))]) (by kernel_rfl) (hbLwArA h0 hnLwArA)
theorem adv_0 {L n : Nat} {rate delay nn : Int} {ts es xs vs ds : List (Nat × Nat)} {us u2 : List (Nat × Nat)} {lu lo i : Nat} {os o2 : List ((Nat × Nat) × Bool)} {st π : List Nat} {bs : List ((Int × Int) × (Nat × Nat) × Bool)} {x50 : (Int × Int) × (Nat × Nat) × Bool} (h0 : (decide ((↑i : Int) < (↑(List.map celBu bs).length : Int))) = true) (h1 : HLwArAspecA L n (.el (List.map celBu bs) (.v (.int .i64 ((↑i : Int)))) [(.v (.int .i64 (x50.fst.fst))), (.v (.int .i64 (x50.fst.snd))), (.cpx (x50.snd.fst.fst) (x50.snd.fst.snd)), (.v (.bool (x50.snd.snd)))])) (h2 : (decide (x50.fst.fst < 0)) = true) : seeZ 0 [3, 4, 5, 14, 16] m32.res (bodyOf ⟨fnOf, specA, L⟩ (runF ⟨fnOf, specA, L⟩ n) 0 m32b3 (i :: π) (adV ds us bs nn lu i : St)) = some (RO.out (.tup [.nils, (.v (.int .i64 1))])) :=
  rndZ_sound (q := [((some 45), (Dec.b true)), ((some 50), (Dec.el [(.v (.int .i64 (x50.fst.fst))), (.v (.int .i64 (x50.fst.snd))), (.cpx (x50.snd.fst.fst) (x50.snd.fst.snd)), (.v (.bool (x50.snd.snd)))])), ((some 54), (Dec.b true))]) (by kernel_rfl) (hbLwArA h0 (hcLwArA h1 (hbLwArA h2 hnLwArA)))
theorem adv_1 {L n : Nat} {rate delay nn : Int} {ts es xs vs ds : List (Nat × Nat)} {us u2 : List (Nat × Nat)} {lu lo i : Nat} {os o2 : List ((Nat × Nat) × Bool)} {st π : List Nat} {bs : List ((Int × Int) × (Nat × Nat) × Bool)} {x50 : (Int × Int) × (Nat × Nat) × Bool} {x57 : (Int × Int) × (Nat × Nat) × Bool} (h0 : (decide ((↑i : Int) < (↑(List.map celBu bs).length : Int))) = true) (h1 : HLwArAspecA L n (.el (List.map celBu bs) (.v (.int .i64 ((↑i : Int)))) [(.v (.int .i64 (x50.fst.fst))), (.v (.int .i64 (x50.fst.snd))), (.cpx (x50.snd.fst.fst) (x50.snd.fst.snd)), (.v (.bool (x50.snd.snd)))])) (h2 : (decide (x50.fst.fst < 0)) = false) (h3 : HLwArAspecA L n (.el (List.map celBu bs) (.v (.int .i64 ((↑i : Int)))) [(.v (.int .i64 (x57.fst.fst))), (.v (.int .i64 (x57.fst.snd))), (.cpx (x57.snd.fst.fst) (x57.snd.fst.snd)), (.v (.bool (x57.snd.snd)))])) (h4 : (decide (x57.fst.snd < 0)) = true) : seeZ 0 [3, 4, 5, 14, 16] m32.res (bodyOf ⟨fnOf, specA, L⟩ (runF ⟨fnOf, specA, L⟩ n) 0 m32b3 (i :: π) (adV ds us bs nn lu i : St)) = some (RO.out (.tup [.nils, (.v (.int .i64 1))])) :=
  rndZ_sound (q := [((some 45), (Dec.b true)), ((some 50), (Dec.el [(.v (.int .i64 (x50.fst.fst))), (.v (.int .i64 (x50.fst.snd))), (.cpx (x50.snd.fst.fst) (x50.snd.fst.snd)), (.v (.bool (x50.snd.snd)))])), ((some 54), (Dec.b false)), ((some 57), (Dec.el [(.v (.int .i64 (x57.fst.fst))), (.v (.int .i64 (x57.fst.snd))), (.cpx (x57.snd.fst.fst) (x57.snd.fst.snd)), (.v (.bool (x57.snd.snd)))])), ((some 61), (Dec.b true))]) (by kernel_rfl) (hbLwArA h0 (hcLwArA h1 (hbLwArA h2 (hcLwArA h3 (hbLwArA h4 hnLwArA)))))
theorem adv_2 {L n : Nat} {rate delay nn : Int} {ts es xs vs ds : List (Nat × Nat)} {us u2 : List (Nat × Nat)} {lu lo i : Nat} {os o2 : List ((Nat × Nat) × Bool)} {st π : List Nat} {bs : List ((Int × Int) × (Nat × Nat) × Bool)} {x50 : (Int × Int) × (Nat × Nat) × Bool} {x57 : (Int × Int) × (Nat × Nat) × Bool} (h0 : (decide ((↑i : Int) < (↑(List.map celBu bs).length : Int))) = true) (h1 : HLwArAspecA L n (.el (List.map celBu bs) (.v (.int .i64 ((↑i : Int)))) [(.v (.int .i64 (x50.fst.fst))), (.v (.int .i64 (x50.fst.snd))), (.cpx (x50.snd.fst.fst) (x50.snd.fst.snd)), (.v (.bool (x50.snd.snd)))])) (h2 : (decide (x50.fst.fst < 0)) = false) (h3 : HLwArAspecA L n (.el (List.map celBu bs) (.v (.int .i64 ((↑i : Int)))) [(.v (.int .i64 (x57.fst.fst))), (.v (.int .i64 (x57.fst.snd))), (.cpx (x57.snd.fst.fst) (x57.snd.fst.snd)), (.v (.bool (x57.snd.snd)))])) (h4 : (decide (x57.fst.snd < 0)) = false) : seeZ 0 [3, 4, 5, 14, 16] m32.res (bodyOf ⟨fnOf, specA, L⟩ (runF ⟨fnOf, specA, L⟩ n) 0 m32b3 (i :: π) (adV ds us bs nn lu i : St)) = some (RO.go .nrm (.mk [(3, (.lst 1 (List.map celC ds))), (4, (.lst 4 (List.map celBu bs))), (5, (.v (.int .i64 (nn)))), (14, (.slc (.mk 0 28 0) [1, 7] 1 0 (lu) false)), (16, (.v (.int .i64 (IntKind.wrap .i64 ((↑i : Int) + 1)))))] [((.mk 0 28 0), (.mk [1, 7] (List.map celC us) 1 true))] 0)) :=
  rndZ_sound (q := [((some 45), (Dec.b true)), ((some 50), (Dec.el [(.v (.int .i64 (x50.fst.fst))), (.v (.int .i64 (x50.fst.snd))), (.cpx (x50.snd.fst.fst) (x50.snd.fst.snd)), (.v (.bool (x50.snd.snd)))])), ((some 54), (Dec.b false)), ((some 57), (Dec.el [(.v (.int .i64 (x57.fst.fst))), (.v (.int .i64 (x57.fst.snd))), (.cpx (x57.snd.fst.fst) (x57.snd.fst.snd)), (.v (.bool (x57.snd.snd)))])), ((some 61), (Dec.b false))]) (by kernel_rfl) (hbLwArA h0 (hcLwArA h1 (hbLwArA h2 (hcLwArA h3 (hbLwArA h4 hnLwArA)))))
theorem adv_3 {L n : Nat} {rate delay nn : Int} {ts es xs vs ds : List (Nat × Nat)} {us u2 : List (Nat × Nat)} {lu lo i : Nat} {os o2 : List ((Nat × Nat) × Bool)} {st π : List Nat} {bs : List ((Int × Int) × (Nat × Nat) × Bool)} (h0 : (decide ((↑i : Int) < (↑(List.map celBu bs).length : Int))) = false) : seeZ 0 [3, 4, 5, 14, 16] m32.res (bodyOf ⟨fnOf, specA, L⟩ (runF ⟨fnOf, specA, L⟩ n) 0 m32b3 (i :: π) (adV ds us bs nn lu i : St)) = some (RO.go (.exit 0) (.mk [(3, (.lst 1 (List.map celC ds))), (4, (.lst 4 (List.map celBu bs))), (5, (.v (.int .i64 (nn)))), (14, (.slc (.mk 0 28 0) [1, 7] 1 0 (lu) false)), (16, (.v (.int .i64 ((↑i : Int)))))] [((.mk 0 28 0), (.mk [1, 7] (List.map celC us) 1 true))] 0)) :=
  rndZ_sound (q := [((some 45), (Dec.b false))]) (by kernel_rfl) (hbLwArA h0 hnLwArA)
theorem are_0 {L n : Nat} {rate delay nn : Int} {ts es xs vs ds : List (Nat × Nat)} {us u2 : List (Nat × Nat)} {lu lo i : Nat} {os o2 : List ((Nat × Nat) × Bool)} {st π : List Nat} {bs : List ((Int × Int) × (Nat × Nat) × Bool)} {x66 : Nat × Nat} (h0 : (decide ((↑i : Int) < (↑(List.map celC ds).length : Int))) = true) (h1 : HLwArAspecA L n (.el (List.map celC ds) (.v (.int .i64 ((↑i : Int)))) [(AV.cpx (x66.fst) (x66.snd))])) (h2 : (!onD x66.fst) = true) : seeZ 0 [4, 5, 14, 61, 62, 63] m31.res (bodyOf ⟨fnOf, specA, L⟩ (runF ⟨fnOf, specA, L⟩ n) 0 m31b3 (i :: π) (arD ds us bs nn lu i : St)) = some (RO.out (.tup [.nils, (.v (.int .i64 7))])) :=
  rndZ_sound (q := [((some 64), (Dec.b true)), ((some 66), (Dec.el [(AV.cpx (x66.fst) (x66.snd))])), ((some 72), (Dec.b true))]) (by kernel_rfl) (hbLwArA h0 (hcLwArA h1 (hbLwArA h2 hnLwArA)))
theorem are_1 {L n : Nat} {rate delay nn : Int} {ts es xs vs ds : List (Nat × Nat)} {us u2 : List (Nat × Nat)} {lu lo i : Nat} {os o2 : List ((Nat × Nat) × Bool)} {st π : List Nat} {bs : List ((Int × Int) × (Nat × Nat) × Bool)} {x66 : Nat × Nat} (h0 : (decide ((↑i : Int) < (↑(List.map celC ds).length : Int))) = true) (h1 : HLwArAspecA L n (.el (List.map celC ds) (.v (.int .i64 ((↑i : Int)))) [(AV.cpx (x66.fst) (x66.snd))])) (h2 : (!onD x66.fst) = false) (h3 : (!onD x66.snd) = true) : seeZ 0 [4, 5, 14, 61, 62, 63] m31.res (bodyOf ⟨fnOf, specA, L⟩ (runF ⟨fnOf, specA, L⟩ n) 0 m31b3 (i :: π) (arD ds us bs nn lu i : St)) = some (RO.out (.tup [.nils, (.v (.int .i64 7))])) :=
  rndZ_sound (q := [((some 64), (Dec.b true)), ((some 66), (Dec.el [(AV.cpx (x66.fst) (x66.snd))])), ((some 72), (Dec.b false)), ((some 77), (Dec.b true))]) (by kernel_rfl) (hbLwArA h0 (hcLwArA h1 (hbLwArA h2 (hbLwArA h3 hnLwArA))))
theorem are_2 {L n : Nat} {rate delay nn : Int} {ts es xs vs ds : List (Nat × Nat)} {us u2 : List (Nat × Nat)} {lu lo i : Nat} {os o2 : List ((Nat × Nat) × Bool)} {st π : List Nat} {bs : List ((Int × Int) × (Nat × Nat) × Bool)} {x66 : Nat × Nat} {k83 : Nat} {x84 : Nat × Nat} {k87 : Nat} {x0 : Nat × Nat} (h0 : (decide ((↑i : Int) < (↑(List.map celC ds).length : Int))) = true) (h1 : HLwArAspecA L n (.el (List.map celC ds) (.v (.int .i64 ((↑i : Int)))) [(AV.cpx (x66.fst) (x66.snd))])) (h2 : (!onD x66.fst) = false) (h3 : (!onD x66.snd) = false) (h4 : (decide ((↑i : Int) < nn)) = true) (h5 : HLwArAspecA L n (.ix (.v (.int .i64 ((↑i : Int)))) (lu) (k83))) (h6 : HLwArAspecA L n (.at (List.map celC us) (0 + k83) [(AV.cpx (x84.fst) (x84.snd))])) (h7 : HLwArAspecA L n (.ix (.v (.int .i64 ((↑i : Int)))) (lu) (k87))) (h8 : HLwArAspecA L n (.at (List.map celC us) (0 + k87) [(AV.cpx (x0.fst) (x0.snd))])) : seeZ 0 [4, 5, 14, 61, 62, 63] m31.res (bodyOf ⟨fnOf, specA, L⟩ (runF ⟨fnOf, specA, L⟩ n) 0 m31b3 (i :: π) (arD ds us bs nn lu i : St)) = some (RO.go .nrm (.mk [(4, (.lst 4 (List.map celBu bs))), (5, (.v (.int .i64 (nn)))), (14, (.slc (.mk 0 32 0) [1, 7] 1 0 (lu) false)), (61, (.lst 1 (List.map celC ds))), (62, (.v (.int .i64 ((↑(List.map celC ds).length : Int))))), (63, (.v (.int .i64 (IntKind.wrap .i64 ((↑i : Int) + 1)))))] [((.mk 0 32 0), (.mk [1, 7] (List.set (List.map celC us) (0 + k87) [(AV.cpx (fadd x84.fst x66.fst) (fadd x84.snd x66.snd))]) 1 true))] 0)) :=
  rndZ_sound (q := [((some 64), (Dec.b true)), ((some 66), (Dec.el [(AV.cpx (x66.fst) (x66.snd))])), ((some 72), (Dec.b false)), ((some 77), (Dec.b false)), ((some 80), (Dec.b true)), ((some 83), (Dec.ix (k83))), ((some 84), (Dec.el [(AV.cpx (x84.fst) (x84.snd))])), ((some 87), (Dec.ix (k87))), (none, (Dec.el [(AV.cpx (x0.fst) (x0.snd))]))]) (by kernel_rfl) (hbLwArA h0 (hcLwArA h1 (hbLwArA h2 (hbLwArA h3 (hbLwArA h4 (hcLwArA h5 (hcLwArA (c := (.st [1, 7] [1, 7])) rfl (hcLwArA h6 (hcLwArA h7 (hcLwArA (c := (.st [1, 7] [1, 7])) rfl (hcLwArA h8 hnLwArA)))))))))))
theorem are_3 {L n : Nat} {rate delay nn : Int} {ts es xs vs ds : List (Nat × Nat)} {us u2 : List (Nat × Nat)} {lu lo i : Nat} {os o2 : List ((Nat × Nat) × Bool)} {st π : List Nat} {bs : List ((Int × Int) × (Nat × Nat) × Bool)} {x66 : Nat × Nat} (h0 : (decide ((↑i : Int) < (↑(List.map celC ds).length : Int))) = true) (h1 : HLwArAspecA L n (.el (List.map celC ds) (.v (.int .i64 ((↑i : Int)))) [(AV.cpx (x66.fst) (x66.snd))])) (h2 : (!onD x66.fst) = false) (h3 : (!onD x66.snd) = false) (h4 : (decide ((↑i : Int) < nn)) = false) : seeZ 0 [4, 5, 14, 61, 62, 63] m31.res (bodyOf ⟨fnOf, specA, L⟩ (runF ⟨fnOf, specA, L⟩ n) 0 m31b3 (i :: π) (arD ds us bs nn lu i : St)) = some (RO.go .nrm (.mk [(4, (.lst 4 (List.map celBu bs))), (5, (.v (.int .i64 (nn)))), (14, (.slc (.mk 0 32 0) [1, 7] 1 0 (lu) false)), (61, (.lst 1 (List.map celC ds))), (62, (.v (.int .i64 ((↑(List.map celC ds).length : Int))))), (63, (.v (.int .i64 (IntKind.wrap .i64 ((↑i : Int) + 1)))))] [((.mk 0 32 0), (.mk [1, 7] (List.map celC us) 1 true))] 0)) :=
  rndZ_sound (q := [((some 64), (Dec.b true)), ((some 66), (Dec.el [(AV.cpx (x66.fst) (x66.snd))])), ((some 72), (Dec.b false)), ((some 77), (Dec.b false)), ((some 80), (Dec.b false))]) (by kernel_rfl) (hbLwArA h0 (hcLwArA h1 (hbLwArA h2 (hbLwArA h3 (hbLwArA h4 hnLwArA)))))
theorem are_4 {L n : Nat} {rate delay nn : Int} {ts es xs vs ds : List (Nat × Nat)} {us u2 : List (Nat × Nat)} {lu lo i : Nat} {os o2 : List ((Nat × Nat) × Bool)} {st π : List Nat} {bs : List ((Int × Int) × (Nat × Nat) × Bool)} (h0 : (decide ((↑i : Int) < (↑(List.map celC ds).length : Int))) = false) : seeZ 0 [4, 5, 14, 61, 62, 63] m31.res (bodyOf ⟨fnOf, specA, L⟩ (runF ⟨fnOf, specA, L⟩ n) 0 m31b3 (i :: π) (arD ds us bs nn lu i : St)) = some (RO.go (.exit 2) (.mk [(4, (.lst 4 (List.map celBu bs))), (5, (.v (.int .i64 (nn)))), (14, (.slc (.mk 0 32 0) [1, 7] 1 0 (lu) false)), (61, (.lst 1 (List.map celC ds))), (62, (.v (.int .i64 ((↑(List.map celC ds).length : Int))))), (63, (.v (.int .i64 ((↑i : Int)))))] [((.mk 0 32 0), (.mk [1, 7] (List.map celC us) 1 true))] 0)) :=
  rndZ_sound (q := [((some 64), (Dec.b false))]) (by kernel_rfl) (hbLwArA h0 hnLwArA)
theorem ade_0 {L n : Nat} {rate delay nn : Int} {ts es xs vs ds : List (Nat × Nat)} {us u2 : List (Nat × Nat)} {lu lo i : Nat} {os o2 : List ((Nat × Nat) × Bool)} {st π : List Nat} {bs : List ((Int × Int) × (Nat × Nat) × Bool)} {x70 : Nat × Nat} (h0 : (decide ((↑i : Int) < (↑(List.map celC ds).length : Int))) = true) (h1 : HLwArAspecA L n (.el (List.map celC ds) (.v (.int .i64 ((↑i : Int)))) [(AV.cpx (x70.fst) (x70.snd))])) (h2 : (!onD x70.fst) = true) : seeZ 0 [3, 4, 5, 14, 17] m32.res (bodyOf ⟨fnOf, specA, L⟩ (runF ⟨fnOf, specA, L⟩ n) 0 m32b2 (i :: π) (adD ds us bs nn lu i : St)) = some (RO.out (.tup [.nils, (.v (.int .i64 7))])) :=
  rndZ_sound (q := [((some 65), (Dec.b true)), ((some 70), (Dec.el [(AV.cpx (x70.fst) (x70.snd))])), ((some 75), (Dec.b true))]) (by kernel_rfl) (hbLwArA h0 (hcLwArA h1 (hbLwArA h2 hnLwArA)))
theorem ade_1 {L n : Nat} {rate delay nn : Int} {ts es xs vs ds : List (Nat × Nat)} {us u2 : List (Nat × Nat)} {lu lo i : Nat} {os o2 : List ((Nat × Nat) × Bool)} {st π : List Nat} {bs : List ((Int × Int) × (Nat × Nat) × Bool)} {x70 : Nat × Nat} {x78 : Nat × Nat} (h0 : (decide ((↑i : Int) < (↑(List.map celC ds).length : Int))) = true) (h1 : HLwArAspecA L n (.el (List.map celC ds) (.v (.int .i64 ((↑i : Int)))) [(AV.cpx (x70.fst) (x70.snd))])) (h2 : (!onD x70.fst) = false) (h3 : HLwArAspecA L n (.el (List.map celC ds) (.v (.int .i64 ((↑i : Int)))) [(AV.cpx (x78.fst) (x78.snd))])) (h4 : (!onD x78.snd) = true) : seeZ 0 [3, 4, 5, 14, 17] m32.res (bodyOf ⟨fnOf, specA, L⟩ (runF ⟨fnOf, specA, L⟩ n) 0 m32b2 (i :: π) (adD ds us bs nn lu i : St)) = some (RO.out (.tup [.nils, (.v (.int .i64 7))])) :=
  rndZ_sound (q := [((some 65), (Dec.b true)), ((some 70), (Dec.el [(AV.cpx (x70.fst) (x70.snd))])), ((some 75), (Dec.b false)), ((some 78), (Dec.el [(AV.cpx (x78.fst) (x78.snd))])), ((some 83), (Dec.b true))]) (by kernel_rfl) (hbLwArA h0 (hcLwArA h1 (hbLwArA h2 (hcLwArA h3 (hbLwArA h4 hnLwArA)))))
theorem ade_2 {L n : Nat} {rate delay nn : Int} {ts es xs vs ds : List (Nat × Nat)} {us u2 : List (Nat × Nat)} {lu lo i : Nat} {os o2 : List ((Nat × Nat) × Bool)} {st π : List Nat} {bs : List ((Int × Int) × (Nat × Nat) × Bool)} {x70 : Nat × Nat} {x78 : Nat × Nat} (h0 : (decide ((↑i : Int) < (↑(List.map celC ds).length : Int))) = true) (h1 : HLwArAspecA L n (.el (List.map celC ds) (.v (.int .i64 ((↑i : Int)))) [(AV.cpx (x70.fst) (x70.snd))])) (h2 : (!onD x70.fst) = false) (h3 : HLwArAspecA L n (.el (List.map celC ds) (.v (.int .i64 ((↑i : Int)))) [(AV.cpx (x78.fst) (x78.snd))])) (h4 : (!onD x78.snd) = false) : seeZ 0 [3, 4, 5, 14, 17] m32.res (bodyOf ⟨fnOf, specA, L⟩ (runF ⟨fnOf, specA, L⟩ n) 0 m32b2 (i :: π) (adD ds us bs nn lu i : St)) = some (RO.go .nrm (.mk [(3, (.lst 1 (List.map celC ds))), (4, (.lst 4 (List.map celBu bs))), (5, (.v (.int .i64 (nn)))), (14, (.slc (.mk 0 28 0) [1, 7] 1 0 (lu) false)), (17, (.v (.int .i64 (IntKind.wrap .i64 ((↑i : Int) + 1)))))] [((.mk 0 28 0), (.mk [1, 7] (List.map celC us) 1 true))] 0)) :=
  rndZ_sound (q := [((some 65), (Dec.b true)), ((some 70), (Dec.el [(AV.cpx (x70.fst) (x70.snd))])), ((some 75), (Dec.b false)), ((some 78), (Dec.el [(AV.cpx (x78.fst) (x78.snd))])), ((some 83), (Dec.b false))]) (by kernel_rfl) (hbLwArA h0 (hcLwArA h1 (hbLwArA h2 (hcLwArA h3 (hbLwArA h4 hnLwArA)))))
theorem ade_3 {L n : Nat} {rate delay nn : Int} {ts es xs vs ds : List (Nat × Nat)} {us u2 : List (Nat × Nat)} {lu lo i : Nat} {os o2 : List ((Nat × Nat) × Bool)} {st π : List Nat} {bs : List ((Int × Int) × (Nat × Nat) × Bool)} (h0 : (decide ((↑i : Int) < (↑(List.map celC ds).length : Int))) = false) : seeZ 0 [3, 4, 5, 14, 17] m32.res (bodyOf ⟨fnOf, specA, L⟩ (runF ⟨fnOf, specA, L⟩ n) 0 m32b2 (i :: π) (adD ds us bs nn lu i : St)) = some (RO.go (.exit 2) (.mk [(3, (.lst 1 (List.map celC ds))), (4, (.lst 4 (List.map celBu bs))), (5, (.v (.int .i64 (nn)))), (14, (.slc (.mk 0 28 0) [1, 7] 1 0 (lu) false)), (17, (.v (.int .i64 ((↑i : Int)))))] [((.mk 0 28 0), (.mk [1, 7] (List.map celC us) 1 true))] 0)) :=
  rndZ_sound (q := [((some 65), (Dec.b false))]) (by kernel_rfl) (hbLwArA h0 hnLwArA)
theorem aro_0 {L n : Nat} {rate delay nn : Int} {ts es xs vs ds : List (Nat × Nat)} {us u2 : List (Nat × Nat)} {lu lo i : Nat} {os o2 : List ((Nat × Nat) × Bool)} {st π : List Nat} {bs : List ((Int × Int) × (Nat × Nat) × Bool)} {k96 : Nat} {x97 : Nat × Nat} {k102 : Nat} {x0 : (Nat × Nat) × Bool} (h0 : (decide ((↑i : Int) < (↑lu : Int))) = true) (h1 : HLwArAspecA L n (.ix (.v (.int .i64 ((↑i : Int)))) (lu) (k96))) (h2 : HLwArAspecA L n (.at (List.map celC us) (0 + k96) [(AV.cpx (x97.fst) (x97.snd))])) (h3 : HLwArAspecA L n (.ix (.v (.int .i64 ((↑i : Int)))) (lo) (k102))) (h4 : HLwArAspecA L n (.at (List.map celS os) (0 + k102) [(AV.cpx (x0.fst.fst) (x0.fst.snd)), (.v (.bool (x0.snd)))])) : rnd 0 [4, 5, 20, 91, 92, 93] (bodyOf ⟨fnOf, specA, L⟩ (runF ⟨fnOf, specA, L⟩ n) 0 m31b2 (i :: π) (arO us os bs nn lu lo i : St)) = some (.nrm, (.mk [(4, (.lst 4 (List.map celBu bs))), (5, (.v (.int .i64 (nn)))), (20, (.slc (.mk 0 90 0) [32] 2 0 (lo) true)), (91, (.slc (.mk 0 32 0) [1, 7] 1 0 (lu) false)), (92, (.v (.int .i64 ((↑lu : Int))))), (93, (.v (.int .i64 (IntKind.wrap .i64 ((↑i : Int) + 1)))))] [((.mk 0 32 0), (.mk [1, 7] (List.map celC us) 1 true)), ((.mk 0 90 0), (.mk [32] (List.set (List.map celS os) (0 + k102) [(AV.cpx ((smp false (x97.fst, x97.snd)).fst.fst) ((smp false (x97.fst, x97.snd)).fst.snd)), (.v (.bool ((smp false (x97.fst, x97.snd)).snd)))]) 2 true))] 0)) :=
  rndD_sound (q := [((some 94), (Dec.b true)), ((some 96), (Dec.ix (k96))), ((some 97), (Dec.el [(AV.cpx (x97.fst) (x97.snd))])), ((some 102), (Dec.ix (k102))), (none, (Dec.el [(AV.cpx (x0.fst.fst) (x0.fst.snd)), (.v (.bool (x0.snd)))]))]) (by kernel_rfl) (hbLwArA h0 (hcLwArA h1 (hcLwArA (c := (.st [1, 7] [1, 7])) rfl (hcLwArA h2 (hcLwArA h3 (hcLwArA (c := (.st [32] [32])) rfl (hcLwArA h4 hnLwArA)))))))
theorem aro_1 {L n : Nat} {rate delay nn : Int} {ts es xs vs ds : List (Nat × Nat)} {us u2 : List (Nat × Nat)} {lu lo i : Nat} {os o2 : List ((Nat × Nat) × Bool)} {st π : List Nat} {bs : List ((Int × Int) × (Nat × Nat) × Bool)} (h0 : (decide ((↑i : Int) < (↑lu : Int))) = false) : rnd 0 [4, 5, 20, 91, 92, 93] (bodyOf ⟨fnOf, specA, L⟩ (runF ⟨fnOf, specA, L⟩ n) 0 m31b2 (i :: π) (arO us os bs nn lu lo i : St)) = some ((.exit 4), (.mk [(4, (.lst 4 (List.map celBu bs))), (5, (.v (.int .i64 (nn)))), (20, (.slc (.mk 0 90 0) [32] 2 0 (lo) true)), (91, (.slc (.mk 0 32 0) [1, 7] 1 0 (lu) false)), (92, (.v (.int .i64 ((↑lu : Int))))), (93, (.v (.int .i64 ((↑i : Int)))))] [((.mk 0 32 0), (.mk [1, 7] (List.map celC us) 1 true)), ((.mk 0 90 0), (.mk [32] (List.map celS os) 2 true))] 0)) :=
  rndD_sound (q := [((some 94), (Dec.b false))]) (by kernel_rfl) (hbLwArA h0 hnLwArA)
theorem ado_0 {L n : Nat} {rate delay nn : Int} {ts es xs vs ds : List (Nat × Nat)} {us u2 : List (Nat × Nat)} {lu lo i : Nat} {os o2 : List ((Nat × Nat) × Bool)} {st π : List Nat} {bs : List ((Int × Int) × (Nat × Nat) × Bool)} {τ : List Nat} {v : (Nat × Nat) × Bool} {j : Nat} {k91 : Nat} {x92 : Nat × Nat} {x101 : Nat × Nat} {x109 : Nat × Nat} (h0 : (decide ((↑i : Int) < nn)) = true) (h1 : HLwArAspecA L n (.ix (.v (.int .i64 ((↑i : Int)))) (lu) (k91))) (h2 : HLwArAspecA L n (.at (List.map celC us) (0 + k91) [(AV.cpx (x92.fst) (x92.snd))])) (h3 : (decide ((↑i : Int) < (↑(List.map celC ds).length : Int))) = true) (h4 : HLwArAspecA L n (.el (List.map celC ds) (.v (.int .i64 ((↑i : Int)))) [(AV.cpx (x101.fst) (x101.snd))])) (h5 : HLwArAspecA L n (.el (List.map celC ds) (.v (.int .i64 ((↑i : Int)))) [(AV.cpx (x109.fst) (x109.snd))])) (h6 : HLwArAspecA L n (.loop 0 [3, 4, 5, 14, 18, 19, 21, 22] m32b0 ([35, (i)] ++ (π)) (.mk [(3, (.lst 1 (List.map celC ds))), (4, (.lst 4 (List.map celBu bs))), (5, (.v (.int .i64 (nn)))), (14, (.slc (.mk 0 28 0) [1, 7] 1 0 (lu) false)), (18, (.slc (.mk 0 18 1000) (st) 2 0 (lo) false)), (19, (.v (.int .i64 ((↑i : Int))))), (21, (.ptr (.mk 0 21 0) ([32, (i)] ++ (π)) 0 0)), (22, (.v (.int .i64 0)))] [((.mk 0 18 1000), (.mk (st) (List.map celS os) 2 true)), ((.mk 0 28 0), (.mk [1, 7] (List.map celC us) 1 true)), ((.mk 0 21 0), (.mk ([32, (i)] ++ (π)) [[(AV.cpx ((smp true (fadd x92.fst x101.fst, fadd x92.snd x109.snd)).fst.fst) ((smp true (fadd x92.fst x101.fst, fadd x92.snd x109.snd)).fst.snd)), (.v (.bool ((smp true (fadd x92.fst x101.fst, fadd x92.snd x109.snd)).snd)))]] 2 true))] 0) (.exit 6) (.mk [(3, (.lst 1 (List.map celC ds))), (4, (.lst 4 (List.map celBu bs))), (5, (.v (.int .i64 (nn)))), (14, (.slc (.mk 0 28 0) [1, 7] 1 0 (lu) false)), (18, (.slc (.mk 0 18 1000) (st) 2 0 (lo) false)), (19, (.v (.int .i64 ((↑i : Int))))), (21, (.ptr (.mk 0 21 0) (τ) 0 0)), (22, (.v (.int .i64 ((↑j : Int)))))] [((.mk 0 18 1000), (.mk (st) (List.map celS os) 2 true)), ((.mk 0 28 0), (.mk [1, 7] (List.map celC us) 1 true)), ((.mk 0 21 0), (.mk (τ) [[(AV.cpx (v.fst.fst) (v.fst.snd)), (.v (.bool (v.snd)))]] 2 true))] 0))) (h7 : HLwArAspecA L n (.push (lo) 1 24 (List.map celS os))) : rnd 0 [3, 4, 5, 14, 18, 19] (bodyOf ⟨fnOf, specA, L⟩ (runF ⟨fnOf, specA, L⟩ n) 0 m32b1 (i :: π) (adO ds us os bs nn st lu lo i : St)) = some (.nrm, (.mk [(3, (.lst 1 (List.map celC ds))), (4, (.lst 4 (List.map celBu bs))), (5, (.v (.int .i64 (nn)))), (14, (.slc (.mk 0 28 0) [1, 7] 1 0 (lu) false)), (18, (.slc (.mk 0 18 1000) ([39, (i)] ++ (π)) 2 0 (lo + 1) false)), (19, (.v (.int .i64 (IntKind.wrap .i64 ((↑i : Int) + 1)))))] [((.mk 0 18 1000), (.mk ([39, (i)] ++ (π)) ((List.map celS os) ++ [[(AV.cpx (v.fst.fst) (v.fst.snd)), (.v (.bool (v.snd)))]]) 2 true)), ((.mk 0 28 0), (.mk [1, 7] (List.map celC us) 1 true))] 0)) :=
  rndD_sound (q := [((some 86), (Dec.b true)), ((some 91), (Dec.ix (k91))), ((some 92), (Dec.el [(AV.cpx (x92.fst) (x92.snd))])), ((some 96), (Dec.b true)), ((some 101), (Dec.el [(AV.cpx (x101.fst) (x101.snd))])), ((some 109), (Dec.el [(AV.cpx (x109.fst) (x109.snd))])), ((some 200000), (Dec.loop (.exit 6) (.mk [(3, (.lst 1 (List.map celC ds))), (4, (.lst 4 (List.map celBu bs))), (5, (.v (.int .i64 (nn)))), (14, (.slc (.mk 0 28 0) [1, 7] 1 0 (lu) false)), (18, (.slc (.mk 0 18 1000) (st) 2 0 (lo) false)), (19, (.v (.int .i64 ((↑i : Int))))), (21, (.ptr (.mk 0 21 0) (τ) 0 0)), (22, (.v (.int .i64 ((↑j : Int)))))] [((.mk 0 18 1000), (.mk (st) (List.map celS os) 2 true)), ((.mk 0 28 0), (.mk [1, 7] (List.map celC us) 1 true)), ((.mk 0 21 0), (.mk (τ) [[(AV.cpx (v.fst.fst) (v.fst.snd)), (.v (.bool (v.snd)))]] 2 true))] 0))), ((some 159), Dec.push)]) (by kernel_rfl) (hbLwArA h0 (hcLwArA h1 (hcLwArA (c := (.st [1, 7] [1, 7])) rfl (hcLwArA h2 (hbLwArA h3 (hcLwArA h4 (hcLwArA h5 (hcLwArA (c := (.st ([32, (i)] ++ (π)) ([32, (i)] ++ (π)))) rfl (hcLwArA h6 (hcLwArA (c := (.st (τ) (τ))) rfl (hcLwArA (c := (.st (st) (st))) rfl (hcLwArA h7 (hcLwArA (c := (.st ([38, (i)] ++ (π)) ([38, (i)] ++ (π)))) rfl hnLwArA)))))))))))))
theorem ado_1 {L n : Nat} {rate delay nn : Int} {ts es xs vs ds : List (Nat × Nat)} {us u2 : List (Nat × Nat)} {lu lo i : Nat} {os o2 : List ((Nat × Nat) × Bool)} {st π : List Nat} {bs : List ((Int × Int) × (Nat × Nat) × Bool)} {τ : List Nat} {v : (Nat × Nat) × Bool} {j : Nat} {k91 : Nat} {x92 : Nat × Nat} (h0 : (decide ((↑i : Int) < nn)) = true) (h1 : HLwArAspecA L n (.ix (.v (.int .i64 ((↑i : Int)))) (lu) (k91))) (h2 : HLwArAspecA L n (.at (List.map celC us) (0 + k91) [(AV.cpx (x92.fst) (x92.snd))])) (h3 : (decide ((↑i : Int) < (↑(List.map celC ds).length : Int))) = false) (h4 : HLwArAspecA L n (.loop 0 [3, 4, 5, 14, 18, 19, 21, 22] m32b0 ([17, (i)] ++ (π)) (.mk [(3, (.lst 1 (List.map celC ds))), (4, (.lst 4 (List.map celBu bs))), (5, (.v (.int .i64 (nn)))), (14, (.slc (.mk 0 28 0) [1, 7] 1 0 (lu) false)), (18, (.slc (.mk 0 18 1000) (st) 2 0 (lo) false)), (19, (.v (.int .i64 ((↑i : Int))))), (21, (.ptr (.mk 0 21 0) ([14, (i)] ++ (π)) 0 0)), (22, (.v (.int .i64 0)))] [((.mk 0 18 1000), (.mk (st) (List.map celS os) 2 true)), ((.mk 0 28 0), (.mk [1, 7] (List.map celC us) 1 true)), ((.mk 0 21 0), (.mk ([14, (i)] ++ (π)) [[(AV.cpx ((smp true (x92.fst, x92.snd)).fst.fst) ((smp true (x92.fst, x92.snd)).fst.snd)), (.v (.bool ((smp true (x92.fst, x92.snd)).snd)))]] 2 true))] 0) (.exit 6) (.mk [(3, (.lst 1 (List.map celC ds))), (4, (.lst 4 (List.map celBu bs))), (5, (.v (.int .i64 (nn)))), (14, (.slc (.mk 0 28 0) [1, 7] 1 0 (lu) false)), (18, (.slc (.mk 0 18 1000) (st) 2 0 (lo) false)), (19, (.v (.int .i64 ((↑i : Int))))), (21, (.ptr (.mk 0 21 0) (τ) 0 0)), (22, (.v (.int .i64 ((↑j : Int)))))] [((.mk 0 18 1000), (.mk (st) (List.map celS os) 2 true)), ((.mk 0 28 0), (.mk [1, 7] (List.map celC us) 1 true)), ((.mk 0 21 0), (.mk (τ) [[(AV.cpx (v.fst.fst) (v.fst.snd)), (.v (.bool (v.snd)))]] 2 true))] 0))) (h5 : HLwArAspecA L n (.push (lo) 1 24 (List.map celS os))) : rnd 0 [3, 4, 5, 14, 18, 19] (bodyOf ⟨fnOf, specA, L⟩ (runF ⟨fnOf, specA, L⟩ n) 0 m32b1 (i :: π) (adO ds us os bs nn st lu lo i : St)) = some (.nrm, (.mk [(3, (.lst 1 (List.map celC ds))), (4, (.lst 4 (List.map celBu bs))), (5, (.v (.int .i64 (nn)))), (14, (.slc (.mk 0 28 0) [1, 7] 1 0 (lu) false)), (18, (.slc (.mk 0 18 1000) ([21, (i)] ++ (π)) 2 0 (lo + 1) false)), (19, (.v (.int .i64 (IntKind.wrap .i64 ((↑i : Int) + 1)))))] [((.mk 0 18 1000), (.mk ([21, (i)] ++ (π)) ((List.map celS os) ++ [[(AV.cpx (v.fst.fst) (v.fst.snd)), (.v (.bool (v.snd)))]]) 2 true)), ((.mk 0 28 0), (.mk [1, 7] (List.map celC us) 1 true))] 0)) :=
  rndD_sound (q := [((some 86), (Dec.b true)), ((some 91), (Dec.ix (k91))), ((some 92), (Dec.el [(AV.cpx (x92.fst) (x92.snd))])), ((some 96), (Dec.b false)), ((some 200000), (Dec.loop (.exit 6) (.mk [(3, (.lst 1 (List.map celC ds))), (4, (.lst 4 (List.map celBu bs))), (5, (.v (.int .i64 (nn)))), (14, (.slc (.mk 0 28 0) [1, 7] 1 0 (lu) false)), (18, (.slc (.mk 0 18 1000) (st) 2 0 (lo) false)), (19, (.v (.int .i64 ((↑i : Int))))), (21, (.ptr (.mk 0 21 0) (τ) 0 0)), (22, (.v (.int .i64 ((↑j : Int)))))] [((.mk 0 18 1000), (.mk (st) (List.map celS os) 2 true)), ((.mk 0 28 0), (.mk [1, 7] (List.map celC us) 1 true)), ((.mk 0 21 0), (.mk (τ) [[(AV.cpx (v.fst.fst) (v.fst.snd)), (.v (.bool (v.snd)))]] 2 true))] 0))), ((some 159), Dec.push)]) (by kernel_rfl) (hbLwArA h0 (hcLwArA h1 (hcLwArA (c := (.st [1, 7] [1, 7])) rfl (hcLwArA h2 (hbLwArA h3 (hcLwArA (c := (.st ([14, (i)] ++ (π)) ([14, (i)] ++ (π)))) rfl (hcLwArA h4 (hcLwArA (c := (.st (τ) (τ))) rfl (hcLwArA (c := (.st (st) (st))) rfl (hcLwArA h5 (hcLwArA (c := (.st ([20, (i)] ++ (π)) ([20, (i)] ++ (π)))) rfl hnLwArA)))))))))))
theorem ado_2 {L n : Nat} {rate delay nn : Int} {ts es xs vs ds : List (Nat × Nat)} {us u2 : List (Nat × Nat)} {lu lo i : Nat} {os o2 : List ((Nat × Nat) × Bool)} {st π : List Nat} {bs : List ((Int × Int) × (Nat × Nat) × Bool)} {τ : List Nat} {v : (Nat × Nat) × Bool} {j : Nat} (h0 : (decide ((↑i : Int) < nn)) = false) : rnd 0 [3, 4, 5, 14, 18, 19] (bodyOf ⟨fnOf, specA, L⟩ (runF ⟨fnOf, specA, L⟩ n) 0 m32b1 (i :: π) (adO ds us os bs nn st lu lo i : St)) = some ((.exit 4), (.mk [(3, (.lst 1 (List.map celC ds))), (4, (.lst 4 (List.map celBu bs))), (5, (.v (.int .i64 (nn)))), (14, (.slc (.mk 0 28 0) [1, 7] 1 0 (lu) false)), (18, (.slc (.mk 0 18 1000) (st) 2 0 (lo) false)), (19, (.v (.int .i64 ((↑i : Int)))))] [((.mk 0 18 1000), (.mk (st) (List.map celS os) 2 true)), ((.mk 0 28 0), (.mk [1, 7] (List.map celC us) 1 true))] 0)) :=
  rndD_sound (q := [((some 86), (Dec.b false))]) (by kernel_rfl) (hbLwArA h0 hnLwArA)
theorem arb_0 {L n : Nat} {rate delay nn : Int} {ts es xs vs ds : List (Nat × Nat)} {us u2 : List (Nat × Nat)} {lu lo i : Nat} {os o2 : List ((Nat × Nat) × Bool)} {st π : List Nat} {bs : List ((Int × Int) × (Nat × Nat) × Bool)} {τ σ : List Nat} {b : (Int × Int) × (Nat × Nat) × Bool} {v : (Nat × Nat) × Bool} {j : Nat} {x108 : (Int × Int) × (Nat × Nat) × Bool} (h0 : (decide ((↑i : Int) < (↑(List.map celBu bs).length : Int))) = true) (h1 : HLwArAspecA L n (.el (List.map celBu bs) (.v (.int .i64 ((↑i : Int)))) [(.v (.int .i64 (x108.fst.fst))), (.v (.int .i64 (x108.fst.snd))), (.cpx (x108.snd.fst.fst) (x108.snd.fst.snd)), (.v (.bool (x108.snd.snd)))])) (h2 : (x108.snd.snd) = true) (h3 : HLwArAspecA L n (.loop 0 [5, 20, 24, 25, 104, 105, 106, 117, 118] m31b0 ([17, (i)] ++ (π)) (.mk [(5, (.v (.int .i64 (nn)))), (20, (.slc (.mk 0 90 0) [32] 2 0 (lo) true)), (24, (.ptr (.mk 0 24 0) ([3, (i)] ++ (π)) 0 0)), (25, (.ptr (.mk 0 25 0) ([8, (i)] ++ (π)) 0 0)), (104, (.lst 4 (List.map celBu bs))), (105, (.v (.int .i64 ((↑(List.map celBu bs).length : Int))))), (106, (.v (.int .i64 ((↑i : Int))))), (117, (.v (.int .i64 (x108.fst.snd)))), (118, (.v (.int .i64 0)))] [((.mk 0 90 0), (.mk [32] (List.map celS os) 2 true)), ((.mk 0 24 0), (.mk ([3, (i)] ++ (π)) [[(.v (.int .i64 (x108.fst.fst))), (.v (.int .i64 (x108.fst.snd))), (.cpx (x108.snd.fst.fst) (x108.snd.fst.snd)), (.v (.bool (x108.snd.snd)))]] 4 true)), ((.mk 0 25 0), (.mk ([8, (i)] ++ (π)) [[(AV.cpx 0 0), (.v (.bool true))]] 2 true))] 0) (.exit 8) (.mk [(5, (.v (.int .i64 (nn)))), (20, (.slc (.mk 0 90 0) [32] 2 0 (lo) true)), (24, (.ptr (.mk 0 24 0) (τ) 0 0)), (25, (.ptr (.mk 0 25 0) (σ) 0 0)), (104, (.lst 4 (List.map celBu bs))), (105, (.v (.int .i64 ((↑(List.map celBu bs).length : Int))))), (106, (.v (.int .i64 ((↑i : Int))))), (117, (.v (.int .i64 (b.fst.snd)))), (118, (.v (.int .i64 ((↑j : Int)))))] [((.mk 0 90 0), (.mk [32] (List.map celS o2) 2 true)), ((.mk 0 24 0), (.mk (τ) [[(.v (.int .i64 (b.fst.fst))), (.v (.int .i64 (b.fst.snd))), (.cpx (b.snd.fst.fst) (b.snd.fst.snd)), (.v (.bool (b.snd.snd)))]] 4 true)), ((.mk 0 25 0), (.mk (σ) [[(AV.cpx (v.fst.fst) (v.fst.snd)), (.v (.bool (v.snd)))]] 2 true))] 0))) : rnd 0 [5, 20, 104, 105, 106] (bodyOf ⟨fnOf, specA, L⟩ (runF ⟨fnOf, specA, L⟩ n) 0 m31b1 (i :: π) (arB os bs nn lo i : St)) = some (.nrm, (.mk [(5, (.v (.int .i64 (nn)))), (20, (.slc (.mk 0 90 0) [32] 2 0 (lo) true)), (104, (.lst 4 (List.map celBu bs))), (105, (.v (.int .i64 ((↑(List.map celBu bs).length : Int))))), (106, (.v (.int .i64 (IntKind.wrap .i64 ((↑i : Int) + 1)))))] [((.mk 0 90 0), (.mk [32] (List.map celS o2) 2 true))] 0)) :=
  rndD_sound (q := [((some 107), (Dec.b true)), ((some 108), (Dec.el [(.v (.int .i64 (x108.fst.fst))), (.v (.int .i64 (x108.fst.snd))), (.cpx (x108.snd.fst.fst) (x108.snd.fst.snd)), (.v (.bool (x108.snd.snd)))])), ((some 114), (Dec.b true)), ((some 200000), (Dec.loop (.exit 8) (.mk [(5, (.v (.int .i64 (nn)))), (20, (.slc (.mk 0 90 0) [32] 2 0 (lo) true)), (24, (.ptr (.mk 0 24 0) (τ) 0 0)), (25, (.ptr (.mk 0 25 0) (σ) 0 0)), (104, (.lst 4 (List.map celBu bs))), (105, (.v (.int .i64 ((↑(List.map celBu bs).length : Int))))), (106, (.v (.int .i64 ((↑i : Int))))), (117, (.v (.int .i64 (b.fst.snd)))), (118, (.v (.int .i64 ((↑j : Int)))))] [((.mk 0 90 0), (.mk [32] (List.map celS o2) 2 true)), ((.mk 0 24 0), (.mk (τ) [[(.v (.int .i64 (b.fst.fst))), (.v (.int .i64 (b.fst.snd))), (.cpx (b.snd.fst.fst) (b.snd.fst.snd)), (.v (.bool (b.snd.snd)))]] 4 true)), ((.mk 0 25 0), (.mk (σ) [[(AV.cpx (v.fst.fst) (v.fst.snd)), (.v (.bool (v.snd)))]] 2 true))] 0)))]) (by kernel_rfl) (hbLwArA h0 (hcLwArA h1 (hcLwArA (c := (.st ([3, (i)] ++ (π)) ([3, (i)] ++ (π)))) rfl (hcLwArA (c := (.st ([3, (i)] ++ (π)) ([3, (i)] ++ (π)))) rfl (hcLwArA (c := (.st ([8, (i)] ++ (π)) ([8, (i)] ++ (π)))) rfl (hbLwArA h2 (hcLwArA (c := (.st ([3, (i)] ++ (π)) ([3, (i)] ++ (π)))) rfl (hcLwArA (c := (.st ([8, (i)] ++ (π)) ([8, (i)] ++ (π)))) rfl (hcLwArA (c := (.st ([3, (i)] ++ (π)) ([3, (i)] ++ (π)))) rfl (hcLwArA h3 hnLwArA))))))))))
theorem arb_1 {L n : Nat} {rate delay nn : Int} {ts es xs vs ds : List (Nat × Nat)} {us u2 : List (Nat × Nat)} {lu lo i : Nat} {os o2 : List ((Nat × Nat) × Bool)} {st π : List Nat} {bs : List ((Int × Int) × (Nat × Nat) × Bool)} {τ σ : List Nat} {b : (Int × Int) × (Nat × Nat) × Bool} {v : (Nat × Nat) × Bool} {j : Nat} {x108 : (Int × Int) × (Nat × Nat) × Bool} (h0 : (decide ((↑i : Int) < (↑(List.map celBu bs).length : Int))) = true) (h1 : HLwArAspecA L n (.el (List.map celBu bs) (.v (.int .i64 ((↑i : Int)))) [(.v (.int .i64 (x108.fst.fst))), (.v (.int .i64 (x108.fst.snd))), (.cpx (x108.snd.fst.fst) (x108.snd.fst.snd)), (.v (.bool (x108.snd.snd)))])) (h2 : (x108.snd.snd) = false) (h3 : HLwArAspecA L n (.loop 0 [5, 20, 24, 25, 104, 105, 106, 117, 118] m31b0 ([15, (i)] ++ (π)) (.mk [(5, (.v (.int .i64 (nn)))), (20, (.slc (.mk 0 90 0) [32] 2 0 (lo) true)), (24, (.ptr (.mk 0 24 0) ([3, (i)] ++ (π)) 0 0)), (25, (.ptr (.mk 0 25 0) ([8, (i)] ++ (π)) 0 0)), (104, (.lst 4 (List.map celBu bs))), (105, (.v (.int .i64 ((↑(List.map celBu bs).length : Int))))), (106, (.v (.int .i64 ((↑i : Int))))), (117, (.v (.int .i64 (x108.fst.snd)))), (118, (.v (.int .i64 0)))] [((.mk 0 90 0), (.mk [32] (List.map celS os) 2 true)), ((.mk 0 24 0), (.mk ([3, (i)] ++ (π)) [[(.v (.int .i64 (x108.fst.fst))), (.v (.int .i64 (x108.fst.snd))), (.cpx (x108.snd.fst.fst) (x108.snd.fst.snd)), (.v (.bool (x108.snd.snd)))]] 4 true)), ((.mk 0 25 0), (.mk ([8, (i)] ++ (π)) [[(AV.cpx ((smp false (x108.snd.fst.fst, x108.snd.fst.snd)).fst.fst) ((smp false (x108.snd.fst.fst, x108.snd.fst.snd)).fst.snd)), (.v (.bool ((smp false (x108.snd.fst.fst, x108.snd.fst.snd)).snd)))]] 2 true))] 0) (.exit 8) (.mk [(5, (.v (.int .i64 (nn)))), (20, (.slc (.mk 0 90 0) [32] 2 0 (lo) true)), (24, (.ptr (.mk 0 24 0) (τ) 0 0)), (25, (.ptr (.mk 0 25 0) (σ) 0 0)), (104, (.lst 4 (List.map celBu bs))), (105, (.v (.int .i64 ((↑(List.map celBu bs).length : Int))))), (106, (.v (.int .i64 ((↑i : Int))))), (117, (.v (.int .i64 (b.fst.snd)))), (118, (.v (.int .i64 ((↑j : Int)))))] [((.mk 0 90 0), (.mk [32] (List.map celS o2) 2 true)), ((.mk 0 24 0), (.mk (τ) [[(.v (.int .i64 (b.fst.fst))), (.v (.int .i64 (b.fst.snd))), (.cpx (b.snd.fst.fst) (b.snd.fst.snd)), (.v (.bool (b.snd.snd)))]] 4 true)), ((.mk 0 25 0), (.mk (σ) [[(AV.cpx (v.fst.fst) (v.fst.snd)), (.v (.bool (v.snd)))]] 2 true))] 0))) : rnd 0 [5, 20, 104, 105, 106] (bodyOf ⟨fnOf, specA, L⟩ (runF ⟨fnOf, specA, L⟩ n) 0 m31b1 (i :: π) (arB os bs nn lo i : St)) = some (.nrm, (.mk [(5, (.v (.int .i64 (nn)))), (20, (.slc (.mk 0 90 0) [32] 2 0 (lo) true)), (104, (.lst 4 (List.map celBu bs))), (105, (.v (.int .i64 ((↑(List.map celBu bs).length : Int))))), (106, (.v (.int .i64 (IntKind.wrap .i64 ((↑i : Int) + 1)))))] [((.mk 0 90 0), (.mk [32] (List.map celS o2) 2 true))] 0)) :=
  rndD_sound (q := [((some 107), (Dec.b true)), ((some 108), (Dec.el [(.v (.int .i64 (x108.fst.fst))), (.v (.int .i64 (x108.fst.snd))), (.cpx (x108.snd.fst.fst) (x108.snd.fst.snd)), (.v (.bool (x108.snd.snd)))])), ((some 114), (Dec.b false)), ((some 200000), (Dec.loop (.exit 8) (.mk [(5, (.v (.int .i64 (nn)))), (20, (.slc (.mk 0 90 0) [32] 2 0 (lo) true)), (24, (.ptr (.mk 0 24 0) (τ) 0 0)), (25, (.ptr (.mk 0 25 0) (σ) 0 0)), (104, (.lst 4 (List.map celBu bs))), (105, (.v (.int .i64 ((↑(List.map celBu bs).length : Int))))), (106, (.v (.int .i64 ((↑i : Int))))), (117, (.v (.int .i64 (b.fst.snd)))), (118, (.v (.int .i64 ((↑j : Int)))))] [((.mk 0 90 0), (.mk [32] (List.map celS o2) 2 true)), ((.mk 0 24 0), (.mk (τ) [[(.v (.int .i64 (b.fst.fst))), (.v (.int .i64 (b.fst.snd))), (.cpx (b.snd.fst.fst) (b.snd.fst.snd)), (.v (.bool (b.snd.snd)))]] 4 true)), ((.mk 0 25 0), (.mk (σ) [[(AV.cpx (v.fst.fst) (v.fst.snd)), (.v (.bool (v.snd)))]] 2 true))] 0)))]) (by kernel_rfl) (hbLwArA h0 (hcLwArA h1 (hcLwArA (c := (.st ([3, (i)] ++ (π)) ([3, (i)] ++ (π)))) rfl (hcLwArA (c := (.st ([3, (i)] ++ (π)) ([3, (i)] ++ (π)))) rfl (hcLwArA (c := (.st ([8, (i)] ++ (π)) ([8, (i)] ++ (π)))) rfl (hbLwArA h2 (hcLwArA (c := (.st ([3, (i)] ++ (π)) ([3, (i)] ++ (π)))) rfl (hcLwArA (c := (.st ([3, (i)] ++ (π)) ([3, (i)] ++ (π)))) rfl (hcLwArA h3 hnLwArA)))))))))
theorem arb_2 {L n : Nat} {rate delay nn : Int} {ts es xs vs ds : List (Nat × Nat)} {us u2 : List (Nat × Nat)} {lu lo i : Nat} {os o2 : List ((Nat × Nat) × Bool)} {st π : List Nat} {bs : List ((Int × Int) × (Nat × Nat) × Bool)} {τ σ : List Nat} {b : (Int × Int) × (Nat × Nat) × Bool} {v : (Nat × Nat) × Bool} {j : Nat} (h0 : (decide ((↑i : Int) < (↑(List.map celBu bs).length : Int))) = false) : rnd 0 [5, 20, 104, 105, 106] (bodyOf ⟨fnOf, specA, L⟩ (runF ⟨fnOf, specA, L⟩ n) 0 m31b1 (i :: π) (arB os bs nn lo i : St)) = some ((.exit 6), (.mk [(5, (.v (.int .i64 (nn)))), (20, (.slc (.mk 0 90 0) [32] 2 0 (lo) true)), (104, (.lst 4 (List.map celBu bs))), (105, (.v (.int .i64 ((↑(List.map celBu bs).length : Int))))), (106, (.v (.int .i64 ((↑i : Int)))))] [((.mk 0 90 0), (.mk [32] (List.map celS os) 2 true))] 0)) :=
  rndD_sound (q := [((some 107), (Dec.b false))]) (by kernel_rfl) (hbLwArA h0 hnLwArA)
theorem arx_0 {L n : Nat} {rate delay nn : Int} {ts es xs vs ds : List (Nat × Nat)} {us u2 : List (Nat × Nat)} {lu lo i : Nat} {os o2 : List ((Nat × Nat) × Bool)} {st π : List Nat} {bs : List ((Int × Int) × (Nat × Nat) × Bool)} {τ σ : List Nat} {b : (Int × Int) × (Nat × Nat) × Bool} {v : (Nat × Nat) × Bool} {j : Nat} {x108 : (Int × Int) × (Nat × Nat) × Bool} (h0 : (decide ((↑i : Int) < (↑(List.map celBu bs).length : Int))) = true) (h1 : HLwArAspecA L n (.el (List.map celBu bs) (.v (.int .i64 ((↑i : Int)))) [(.v (.int .i64 (x108.fst.fst))), (.v (.int .i64 (x108.fst.snd))), (.cpx (x108.snd.fst.fst) (x108.snd.fst.snd)), (.v (.bool (x108.snd.snd)))])) (h2 : (x108.snd.snd) = true) (h3 : HLwArAspecA L n (.loop 0 [5, 20, 24, 25, 104, 105, 106, 117, 118] m31b0 ([17, (i)] ++ (π)) (.mk [(5, (.v (.int .i64 (nn)))), (20, (.slc (.mk 0 90 0) [32] 2 0 (lo) true)), (24, (.ptr (.mk 0 24 0) ([3, (i)] ++ (π)) 0 0)), (25, (.ptr (.mk 0 25 0) ([8, (i)] ++ (π)) 0 0)), (104, (.lst 4 (List.map celBu bs))), (105, (.v (.int .i64 ((↑(List.map celBu bs).length : Int))))), (106, (.v (.int .i64 ((↑i : Int))))), (117, (.v (.int .i64 (x108.fst.snd)))), (118, (.v (.int .i64 0)))] [((.mk 0 90 0), (.mk [32] (List.map celS os) 2 true)), ((.mk 0 24 0), (.mk ([3, (i)] ++ (π)) [[(.v (.int .i64 (x108.fst.fst))), (.v (.int .i64 (x108.fst.snd))), (.cpx (x108.snd.fst.fst) (x108.snd.fst.snd)), (.v (.bool (x108.snd.snd)))]] 4 true)), ((.mk 0 25 0), (.mk ([8, (i)] ++ (π)) [[(AV.cpx 0 0), (.v (.bool true))]] 2 true))] 0) (.exit 7) (.mk [(5, (.v (.int .i64 (nn)))), (20, (.slc (.mk 0 90 0) [32] 2 0 (lo) true)), (24, (.ptr (.mk 0 24 0) (τ) 0 0)), (25, (.ptr (.mk 0 25 0) (σ) 0 0)), (104, (.lst 4 (List.map celBu bs))), (105, (.v (.int .i64 ((↑(List.map celBu bs).length : Int))))), (106, (.v (.int .i64 ((↑i : Int))))), (117, (.v (.int .i64 (b.fst.snd)))), (118, (.v (.int .i64 ((↑j : Int)))))] [((.mk 0 90 0), (.mk [32] (List.map celS o2) 2 true)), ((.mk 0 24 0), (.mk (τ) [[(.v (.int .i64 (b.fst.fst))), (.v (.int .i64 (b.fst.snd))), (.cpx (b.snd.fst.fst) (b.snd.fst.snd)), (.v (.bool (b.snd.snd)))]] 4 true)), ((.mk 0 25 0), (.mk (σ) [[(AV.cpx (v.fst.fst) (v.fst.snd)), (.v (.bool (v.snd)))]] 2 true))] 0))) : rnd 0 [5, 20, 104, 105, 106] (bodyOf ⟨fnOf, specA, L⟩ (runF ⟨fnOf, specA, L⟩ n) 0 m31b1 (i :: π) (arB os bs nn lo i : St)) = some (.nrm, (.mk [(5, (.v (.int .i64 (nn)))), (20, (.slc (.mk 0 90 0) [32] 2 0 (lo) true)), (104, (.lst 4 (List.map celBu bs))), (105, (.v (.int .i64 ((↑(List.map celBu bs).length : Int))))), (106, (.v (.int .i64 (IntKind.wrap .i64 ((↑i : Int) + 1)))))] [((.mk 0 90 0), (.mk [32] (List.map celS o2) 2 true))] 0)) :=
  rndD_sound (q := [((some 107), (Dec.b true)), ((some 108), (Dec.el [(.v (.int .i64 (x108.fst.fst))), (.v (.int .i64 (x108.fst.snd))), (.cpx (x108.snd.fst.fst) (x108.snd.fst.snd)), (.v (.bool (x108.snd.snd)))])), ((some 114), (Dec.b true)), ((some 200000), (Dec.loop (.exit 7) (.mk [(5, (.v (.int .i64 (nn)))), (20, (.slc (.mk 0 90 0) [32] 2 0 (lo) true)), (24, (.ptr (.mk 0 24 0) (τ) 0 0)), (25, (.ptr (.mk 0 25 0) (σ) 0 0)), (104, (.lst 4 (List.map celBu bs))), (105, (.v (.int .i64 ((↑(List.map celBu bs).length : Int))))), (106, (.v (.int .i64 ((↑i : Int))))), (117, (.v (.int .i64 (b.fst.snd)))), (118, (.v (.int .i64 ((↑j : Int)))))] [((.mk 0 90 0), (.mk [32] (List.map celS o2) 2 true)), ((.mk 0 24 0), (.mk (τ) [[(.v (.int .i64 (b.fst.fst))), (.v (.int .i64 (b.fst.snd))), (.cpx (b.snd.fst.fst) (b.snd.fst.snd)), (.v (.bool (b.snd.snd)))]] 4 true)), ((.mk 0 25 0), (.mk (σ) [[(AV.cpx (v.fst.fst) (v.fst.snd)), (.v (.bool (v.snd)))]] 2 true))] 0)))]) (by kernel_rfl) (hbLwArA h0 (hcLwArA h1 (hcLwArA (c := (.st ([3, (i)] ++ (π)) ([3, (i)] ++ (π)))) rfl (hcLwArA (c := (.st ([3, (i)] ++ (π)) ([3, (i)] ++ (π)))) rfl (hcLwArA (c := (.st ([8, (i)] ++ (π)) ([8, (i)] ++ (π)))) rfl (hbLwArA h2 (hcLwArA (c := (.st ([3, (i)] ++ (π)) ([3, (i)] ++ (π)))) rfl (hcLwArA (c := (.st ([8, (i)] ++ (π)) ([8, (i)] ++ (π)))) rfl (hcLwArA (c := (.st ([3, (i)] ++ (π)) ([3, (i)] ++ (π)))) rfl (hcLwArA h3 hnLwArA))))))))))
theorem arx_1 {L n : Nat} {rate delay nn : Int} {ts es xs vs ds : List (Nat × Nat)} {us u2 : List (Nat × Nat)} {lu lo i : Nat} {os o2 : List ((Nat × Nat) × Bool)} {st π : List Nat} {bs : List ((Int × Int) × (Nat × Nat) × Bool)} {τ σ : List Nat} {b : (Int × Int) × (Nat × Nat) × Bool} {v : (Nat × Nat) × Bool} {j : Nat} {x108 : (Int × Int) × (Nat × Nat) × Bool} (h0 : (decide ((↑i : Int) < (↑(List.map celBu bs).length : Int))) = true) (h1 : HLwArAspecA L n (.el (List.map celBu bs) (.v (.int .i64 ((↑i : Int)))) [(.v (.int .i64 (x108.fst.fst))), (.v (.int .i64 (x108.fst.snd))), (.cpx (x108.snd.fst.fst) (x108.snd.fst.snd)), (.v (.bool (x108.snd.snd)))])) (h2 : (x108.snd.snd) = false) (h3 : HLwArAspecA L n (.loop 0 [5, 20, 24, 25, 104, 105, 106, 117, 118] m31b0 ([15, (i)] ++ (π)) (.mk [(5, (.v (.int .i64 (nn)))), (20, (.slc (.mk 0 90 0) [32] 2 0 (lo) true)), (24, (.ptr (.mk 0 24 0) ([3, (i)] ++ (π)) 0 0)), (25, (.ptr (.mk 0 25 0) ([8, (i)] ++ (π)) 0 0)), (104, (.lst 4 (List.map celBu bs))), (105, (.v (.int .i64 ((↑(List.map celBu bs).length : Int))))), (106, (.v (.int .i64 ((↑i : Int))))), (117, (.v (.int .i64 (x108.fst.snd)))), (118, (.v (.int .i64 0)))] [((.mk 0 90 0), (.mk [32] (List.map celS os) 2 true)), ((.mk 0 24 0), (.mk ([3, (i)] ++ (π)) [[(.v (.int .i64 (x108.fst.fst))), (.v (.int .i64 (x108.fst.snd))), (.cpx (x108.snd.fst.fst) (x108.snd.fst.snd)), (.v (.bool (x108.snd.snd)))]] 4 true)), ((.mk 0 25 0), (.mk ([8, (i)] ++ (π)) [[(AV.cpx ((smp false (x108.snd.fst.fst, x108.snd.fst.snd)).fst.fst) ((smp false (x108.snd.fst.fst, x108.snd.fst.snd)).fst.snd)), (.v (.bool ((smp false (x108.snd.fst.fst, x108.snd.fst.snd)).snd)))]] 2 true))] 0) (.exit 7) (.mk [(5, (.v (.int .i64 (nn)))), (20, (.slc (.mk 0 90 0) [32] 2 0 (lo) true)), (24, (.ptr (.mk 0 24 0) (τ) 0 0)), (25, (.ptr (.mk 0 25 0) (σ) 0 0)), (104, (.lst 4 (List.map celBu bs))), (105, (.v (.int .i64 ((↑(List.map celBu bs).length : Int))))), (106, (.v (.int .i64 ((↑i : Int))))), (117, (.v (.int .i64 (b.fst.snd)))), (118, (.v (.int .i64 ((↑j : Int)))))] [((.mk 0 90 0), (.mk [32] (List.map celS o2) 2 true)), ((.mk 0 24 0), (.mk (τ) [[(.v (.int .i64 (b.fst.fst))), (.v (.int .i64 (b.fst.snd))), (.cpx (b.snd.fst.fst) (b.snd.fst.snd)), (.v (.bool (b.snd.snd)))]] 4 true)), ((.mk 0 25 0), (.mk (σ) [[(AV.cpx (v.fst.fst) (v.fst.snd)), (.v (.bool (v.snd)))]] 2 true))] 0))) : rnd 0 [5, 20, 104, 105, 106] (bodyOf ⟨fnOf, specA, L⟩ (runF ⟨fnOf, specA, L⟩ n) 0 m31b1 (i :: π) (arB os bs nn lo i : St)) = some (.nrm, (.mk [(5, (.v (.int .i64 (nn)))), (20, (.slc (.mk 0 90 0) [32] 2 0 (lo) true)), (104, (.lst 4 (List.map celBu bs))), (105, (.v (.int .i64 ((↑(List.map celBu bs).length : Int))))), (106, (.v (.int .i64 (IntKind.wrap .i64 ((↑i : Int) + 1)))))] [((.mk 0 90 0), (.mk [32] (List.map celS o2) 2 true))] 0)) :=
  rndD_sound (q := [((some 107), (Dec.b true)), ((some 108), (Dec.el [(.v (.int .i64 (x108.fst.fst))), (.v (.int .i64 (x108.fst.snd))), (.cpx (x108.snd.fst.fst) (x108.snd.fst.snd)), (.v (.bool (x108.snd.snd)))])), ((some 114), (Dec.b false)), ((some 200000), (Dec.loop (.exit 7) (.mk [(5, (.v (.int .i64 (nn)))), (20, (.slc (.mk 0 90 0) [32] 2 0 (lo) true)), (24, (.ptr (.mk 0 24 0) (τ) 0 0)), (25, (.ptr (.mk 0 25 0) (σ) 0 0)), (104, (.lst 4 (List.map celBu bs))), (105, (.v (.int .i64 ((↑(List.map celBu bs).length : Int))))), (106, (.v (.int .i64 ((↑i : Int))))), (117, (.v (.int .i64 (b.fst.snd)))), (118, (.v (.int .i64 ((↑j : Int)))))] [((.mk 0 90 0), (.mk [32] (List.map celS o2) 2 true)), ((.mk 0 24 0), (.mk (τ) [[(.v (.int .i64 (b.fst.fst))), (.v (.int .i64 (b.fst.snd))), (.cpx (b.snd.fst.fst) (b.snd.fst.snd)), (.v (.bool (b.snd.snd)))]] 4 true)), ((.mk 0 25 0), (.mk (σ) [[(AV.cpx (v.fst.fst) (v.fst.snd)), (.v (.bool (v.snd)))]] 2 true))] 0)))]) (by kernel_rfl) (hbLwArA h0 (hcLwArA h1 (hcLwArA (c := (.st ([3, (i)] ++ (π)) ([3, (i)] ++ (π)))) rfl (hcLwArA (c := (.st ([3, (i)] ++ (π)) ([3, (i)] ++ (π)))) rfl (hcLwArA (c := (.st ([8, (i)] ++ (π)) ([8, (i)] ++ (π)))) rfl (hbLwArA h2 (hcLwArA (c := (.st ([3, (i)] ++ (π)) ([3, (i)] ++ (π)))) rfl (hcLwArA (c := (.st ([3, (i)] ++ (π)) ([3, (i)] ++ (π)))) rfl (hcLwArA h3 hnLwArA)))))))))
theorem adi_0 {L n : Nat} {rate delay nn : Int} {ts es xs vs ds : List (Nat × Nat)} {us u2 : List (Nat × Nat)} {lu lo i : Nat} {os o2 : List ((Nat × Nat) × Bool)} {st π : List Nat} {bs : List ((Int × Int) × (Nat × Nat) × Bool)} {τ : List Nat} {v : (Nat × Nat) × Bool} {j : Nat} {x125 : (Int × Int) × (Nat × Nat) × Bool} {x133 : (Int × Int) × (Nat × Nat) × Bool} {x139 : (Int × Int) × (Nat × Nat) × Bool} {x146 : (Int × Int) × (Nat × Nat) × Bool} {x152 : (Int × Int) × (Nat × Nat) × Bool} (h0 : (decide ((↑j : Int) < (↑(List.map celBu bs).length : Int))) = true) (h1 : HLwArAspecA L n (.el (List.map celBu bs) (.v (.int .i64 ((↑j : Int)))) [(.v (.int .i64 (x125.fst.fst))), (.v (.int .i64 (x125.fst.snd))), (.cpx (x125.snd.fst.fst) (x125.snd.fst.snd)), (.v (.bool (x125.snd.snd)))])) (h2 : (decide ((↑i : Int) ≥ x125.fst.fst)) = true) (h3 : HLwArAspecA L n (.el (List.map celBu bs) (.v (.int .i64 ((↑j : Int)))) [(.v (.int .i64 (x133.fst.fst))), (.v (.int .i64 (x133.fst.snd))), (.cpx (x133.snd.fst.fst) (x133.snd.fst.snd)), (.v (.bool (x133.snd.snd)))])) (h4 : HLwArAspecA L n (.el (List.map celBu bs) (.v (.int .i64 ((↑j : Int)))) [(.v (.int .i64 (x139.fst.fst))), (.v (.int .i64 (x139.fst.snd))), (.cpx (x139.snd.fst.fst) (x139.snd.fst.snd)), (.v (.bool (x139.snd.snd)))])) (h5 : (decide (IntKind.wrap .i64 ((↑i : Int) - x133.fst.fst) < x139.fst.snd)) = true) (h6 : HLwArAspecA L n (.el (List.map celBu bs) (.v (.int .i64 ((↑j : Int)))) [(.v (.int .i64 (x146.fst.fst))), (.v (.int .i64 (x146.fst.snd))), (.cpx (x146.snd.fst.fst) (x146.snd.fst.snd)), (.v (.bool (x146.snd.snd)))])) (h7 : HLwArAspecA L n (.el (List.map celBu bs) (.v (.int .i64 ((↑j : Int)))) [(.v (.int .i64 (x152.fst.fst))), (.v (.int .i64 (x152.fst.snd))), (.cpx (x152.snd.fst.fst) (x152.snd.fst.snd)), (.v (.bool (x152.snd.snd)))])) (h8 : (x152.snd.snd) = true) : rnd 0 [3, 4, 5, 14, 18, 19, 21, 22] (bodyOf ⟨fnOf, specA, L⟩ (runF ⟨fnOf, specA, L⟩ n) 0 m32b0 (j :: π) (adI ds us os bs nn st τ lu lo i v j : St)) = some (.nrm, (.mk [(3, (.lst 1 (List.map celC ds))), (4, (.lst 4 (List.map celBu bs))), (5, (.v (.int .i64 (nn)))), (14, (.slc (.mk 0 28 0) [1, 7] 1 0 (lu) false)), (18, (.slc (.mk 0 18 1000) (st) 2 0 (lo) false)), (19, (.v (.int .i64 ((↑i : Int))))), (21, (.ptr (.mk 0 21 0) (τ) 0 0)), (22, (.v (.int .i64 (IntKind.wrap .i64 ((↑j : Int) + 1)))))] [((.mk 0 18 1000), (.mk (st) (List.map celS os) 2 true)), ((.mk 0 28 0), (.mk [1, 7] (List.map celC us) 1 true)), ((.mk 0 21 0), (.mk (τ) [[(AV.cpx 0 0), (.v (.bool true))]] 2 true))] 0)) :=
  rndD_sound (q := [((some 119), (Dec.b true)), ((some 125), (Dec.el [(.v (.int .i64 (x125.fst.fst))), (.v (.int .i64 (x125.fst.snd))), (.cpx (x125.snd.fst.fst) (x125.snd.fst.snd)), (.v (.bool (x125.snd.snd)))])), ((some 129), (Dec.b true)), ((some 133), (Dec.el [(.v (.int .i64 (x133.fst.fst))), (.v (.int .i64 (x133.fst.snd))), (.cpx (x133.snd.fst.fst) (x133.snd.fst.snd)), (.v (.bool (x133.snd.snd)))])), ((some 139), (Dec.el [(.v (.int .i64 (x139.fst.fst))), (.v (.int .i64 (x139.fst.snd))), (.cpx (x139.snd.fst.fst) (x139.snd.fst.snd)), (.v (.bool (x139.snd.snd)))])), ((some 143), (Dec.b true)), ((some 146), (Dec.el [(.v (.int .i64 (x146.fst.fst))), (.v (.int .i64 (x146.fst.snd))), (.cpx (x146.snd.fst.fst) (x146.snd.fst.snd)), (.v (.bool (x146.snd.snd)))])), ((some 152), (Dec.el [(.v (.int .i64 (x152.fst.fst))), (.v (.int .i64 (x152.fst.snd))), (.cpx (x152.snd.fst.fst) (x152.snd.fst.snd)), (.v (.bool (x152.snd.snd)))])), ((some 154), (Dec.b true))]) (by kernel_rfl) (hbLwArA h0 (hcLwArA h1 (hbLwArA h2 (hcLwArA h3 (hcLwArA h4 (hbLwArA h5 (hcLwArA h6 (hcLwArA (c := (.st (τ) (τ))) rfl (hcLwArA h7 (hbLwArA h8 (hcLwArA (c := (.st (τ) (τ))) rfl hnLwArA)))))))))))
theorem adi_1 {L n : Nat} {rate delay nn : Int} {ts es xs vs ds : List (Nat × Nat)} {us u2 : List (Nat × Nat)} {lu lo i : Nat} {os o2 : List ((Nat × Nat) × Bool)} {st π : List Nat} {bs : List ((Int × Int) × (Nat × Nat) × Bool)} {τ : List Nat} {v : (Nat × Nat) × Bool} {j : Nat} {x125 : (Int × Int) × (Nat × Nat) × Bool} {x133 : (Int × Int) × (Nat × Nat) × Bool} {x139 : (Int × Int) × (Nat × Nat) × Bool} {x146 : (Int × Int) × (Nat × Nat) × Bool} {x152 : (Int × Int) × (Nat × Nat) × Bool} (h0 : (decide ((↑j : Int) < (↑(List.map celBu bs).length : Int))) = true) (h1 : HLwArAspecA L n (.el (List.map celBu bs) (.v (.int .i64 ((↑j : Int)))) [(.v (.int .i64 (x125.fst.fst))), (.v (.int .i64 (x125.fst.snd))), (.cpx (x125.snd.fst.fst) (x125.snd.fst.snd)), (.v (.bool (x125.snd.snd)))])) (h2 : (decide ((↑i : Int) ≥ x125.fst.fst)) = true) (h3 : HLwArAspecA L n (.el (List.map celBu bs) (.v (.int .i64 ((↑j : Int)))) [(.v (.int .i64 (x133.fst.fst))), (.v (.int .i64 (x133.fst.snd))), (.cpx (x133.snd.fst.fst) (x133.snd.fst.snd)), (.v (.bool (x133.snd.snd)))])) (h4 : HLwArAspecA L n (.el (List.map celBu bs) (.v (.int .i64 ((↑j : Int)))) [(.v (.int .i64 (x139.fst.fst))), (.v (.int .i64 (x139.fst.snd))), (.cpx (x139.snd.fst.fst) (x139.snd.fst.snd)), (.v (.bool (x139.snd.snd)))])) (h5 : (decide (IntKind.wrap .i64 ((↑i : Int) - x133.fst.fst) < x139.fst.snd)) = true) (h6 : HLwArAspecA L n (.el (List.map celBu bs) (.v (.int .i64 ((↑j : Int)))) [(.v (.int .i64 (x146.fst.fst))), (.v (.int .i64 (x146.fst.snd))), (.cpx (x146.snd.fst.fst) (x146.snd.fst.snd)), (.v (.bool (x146.snd.snd)))])) (h7 : HLwArAspecA L n (.el (List.map celBu bs) (.v (.int .i64 ((↑j : Int)))) [(.v (.int .i64 (x152.fst.fst))), (.v (.int .i64 (x152.fst.snd))), (.cpx (x152.snd.fst.fst) (x152.snd.fst.snd)), (.v (.bool (x152.snd.snd)))])) (h8 : (x152.snd.snd) = false) : rnd 0 [3, 4, 5, 14, 18, 19, 21, 22] (bodyOf ⟨fnOf, specA, L⟩ (runF ⟨fnOf, specA, L⟩ n) 0 m32b0 (j :: π) (adI ds us os bs nn st τ lu lo i v j : St)) = some (.nrm, (.mk [(3, (.lst 1 (List.map celC ds))), (4, (.lst 4 (List.map celBu bs))), (5, (.v (.int .i64 (nn)))), (14, (.slc (.mk 0 28 0) [1, 7] 1 0 (lu) false)), (18, (.slc (.mk 0 18 1000) (st) 2 0 (lo) false)), (19, (.v (.int .i64 ((↑i : Int))))), (21, (.ptr (.mk 0 21 0) (τ) 0 0)), (22, (.v (.int .i64 (IntKind.wrap .i64 ((↑j : Int) + 1)))))] [((.mk 0 18 1000), (.mk (st) (List.map celS os) 2 true)), ((.mk 0 28 0), (.mk [1, 7] (List.map celC us) 1 true)), ((.mk 0 21 0), (.mk (τ) [[(AV.cpx ((smp true (x146.snd.fst.fst, x146.snd.fst.snd)).fst.fst) ((smp true (x146.snd.fst.fst, x146.snd.fst.snd)).fst.snd)), (.v (.bool ((smp true (x146.snd.fst.fst, x146.snd.fst.snd)).snd)))]] 2 true))] 0)) :=
  rndD_sound (q := [((some 119), (Dec.b true)), ((some 125), (Dec.el [(.v (.int .i64 (x125.fst.fst))), (.v (.int .i64 (x125.fst.snd))), (.cpx (x125.snd.fst.fst) (x125.snd.fst.snd)), (.v (.bool (x125.snd.snd)))])), ((some 129), (Dec.b true)), ((some 133), (Dec.el [(.v (.int .i64 (x133.fst.fst))), (.v (.int .i64 (x133.fst.snd))), (.cpx (x133.snd.fst.fst) (x133.snd.fst.snd)), (.v (.bool (x133.snd.snd)))])), ((some 139), (Dec.el [(.v (.int .i64 (x139.fst.fst))), (.v (.int .i64 (x139.fst.snd))), (.cpx (x139.snd.fst.fst) (x139.snd.fst.snd)), (.v (.bool (x139.snd.snd)))])), ((some 143), (Dec.b true)), ((some 146), (Dec.el [(.v (.int .i64 (x146.fst.fst))), (.v (.int .i64 (x146.fst.snd))), (.cpx (x146.snd.fst.fst) (x146.snd.fst.snd)), (.v (.bool (x146.snd.snd)))])), ((some 152), (Dec.el [(.v (.int .i64 (x152.fst.fst))), (.v (.int .i64 (x152.fst.snd))), (.cpx (x152.snd.fst.fst) (x152.snd.fst.snd)), (.v (.bool (x152.snd.snd)))])), ((some 154), (Dec.b false))]) (by kernel_rfl) (hbLwArA h0 (hcLwArA h1 (hbLwArA h2 (hcLwArA h3 (hcLwArA h4 (hbLwArA h5 (hcLwArA h6 (hcLwArA (c := (.st (τ) (τ))) rfl (hcLwArA h7 (hbLwArA h8 hnLwArA))))))))))
theorem adi_2 {L n : Nat} {rate delay nn : Int} {ts es xs vs ds : List (Nat × Nat)} {us u2 : List (Nat × Nat)} {lu lo i : Nat} {os o2 : List ((Nat × Nat) × Bool)} {st π : List Nat} {bs : List ((Int × Int) × (Nat × Nat) × Bool)} {τ : List Nat} {v : (Nat × Nat) × Bool} {j : Nat} {x125 : (Int × Int) × (Nat × Nat) × Bool} {x133 : (Int × Int) × (Nat × Nat) × Bool} {x139 : (Int × Int) × (Nat × Nat) × Bool} (h0 : (decide ((↑j : Int) < (↑(List.map celBu bs).length : Int))) = true) (h1 : HLwArAspecA L n (.el (List.map celBu bs) (.v (.int .i64 ((↑j : Int)))) [(.v (.int .i64 (x125.fst.fst))), (.v (.int .i64 (x125.fst.snd))), (.cpx (x125.snd.fst.fst) (x125.snd.fst.snd)), (.v (.bool (x125.snd.snd)))])) (h2 : (decide ((↑i : Int) ≥ x125.fst.fst)) = true) (h3 : HLwArAspecA L n (.el (List.map celBu bs) (.v (.int .i64 ((↑j : Int)))) [(.v (.int .i64 (x133.fst.fst))), (.v (.int .i64 (x133.fst.snd))), (.cpx (x133.snd.fst.fst) (x133.snd.fst.snd)), (.v (.bool (x133.snd.snd)))])) (h4 : HLwArAspecA L n (.el (List.map celBu bs) (.v (.int .i64 ((↑j : Int)))) [(.v (.int .i64 (x139.fst.fst))), (.v (.int .i64 (x139.fst.snd))), (.cpx (x139.snd.fst.fst) (x139.snd.fst.snd)), (.v (.bool (x139.snd.snd)))])) (h5 : (decide (IntKind.wrap .i64 ((↑i : Int) - x133.fst.fst) < x139.fst.snd)) = false) : rnd 0 [3, 4, 5, 14, 18, 19, 21, 22] (bodyOf ⟨fnOf, specA, L⟩ (runF ⟨fnOf, specA, L⟩ n) 0 m32b0 (j :: π) (adI ds us os bs nn st τ lu lo i v j : St)) = some (.nrm, (.mk [(3, (.lst 1 (List.map celC ds))), (4, (.lst 4 (List.map celBu bs))), (5, (.v (.int .i64 (nn)))), (14, (.slc (.mk 0 28 0) [1, 7] 1 0 (lu) false)), (18, (.slc (.mk 0 18 1000) (st) 2 0 (lo) false)), (19, (.v (.int .i64 ((↑i : Int))))), (21, (.ptr (.mk 0 21 0) (τ) 0 0)), (22, (.v (.int .i64 (IntKind.wrap .i64 ((↑j : Int) + 1)))))] [((.mk 0 18 1000), (.mk (st) (List.map celS os) 2 true)), ((.mk 0 28 0), (.mk [1, 7] (List.map celC us) 1 true)), ((.mk 0 21 0), (.mk (τ) [[(AV.cpx (v.fst.fst) (v.fst.snd)), (.v (.bool (v.snd)))]] 2 true))] 0)) :=
  rndD_sound (q := [((some 119), (Dec.b true)), ((some 125), (Dec.el [(.v (.int .i64 (x125.fst.fst))), (.v (.int .i64 (x125.fst.snd))), (.cpx (x125.snd.fst.fst) (x125.snd.fst.snd)), (.v (.bool (x125.snd.snd)))])), ((some 129), (Dec.b true)), ((some 133), (Dec.el [(.v (.int .i64 (x133.fst.fst))), (.v (.int .i64 (x133.fst.snd))), (.cpx (x133.snd.fst.fst) (x133.snd.fst.snd)), (.v (.bool (x133.snd.snd)))])), ((some 139), (Dec.el [(.v (.int .i64 (x139.fst.fst))), (.v (.int .i64 (x139.fst.snd))), (.cpx (x139.snd.fst.fst) (x139.snd.fst.snd)), (.v (.bool (x139.snd.snd)))])), ((some 143), (Dec.b false))]) (by kernel_rfl) (hbLwArA h0 (hcLwArA h1 (hbLwArA h2 (hcLwArA h3 (hcLwArA h4 (hbLwArA h5 hnLwArA))))))
theorem adi_3 {L n : Nat} {rate delay nn : Int} {ts es xs vs ds : List (Nat × Nat)} {us u2 : List (Nat × Nat)} {lu lo i : Nat} {os o2 : List ((Nat × Nat) × Bool)} {st π : List Nat} {bs : List ((Int × Int) × (Nat × Nat) × Bool)} {τ : List Nat} {v : (Nat × Nat) × Bool} {j : Nat} {x125 : (Int × Int) × (Nat × Nat) × Bool} (h0 : (decide ((↑j : Int) < (↑(List.map celBu bs).length : Int))) = true) (h1 : HLwArAspecA L n (.el (List.map celBu bs) (.v (.int .i64 ((↑j : Int)))) [(.v (.int .i64 (x125.fst.fst))), (.v (.int .i64 (x125.fst.snd))), (.cpx (x125.snd.fst.fst) (x125.snd.fst.snd)), (.v (.bool (x125.snd.snd)))])) (h2 : (decide ((↑i : Int) ≥ x125.fst.fst)) = false) : rnd 0 [3, 4, 5, 14, 18, 19, 21, 22] (bodyOf ⟨fnOf, specA, L⟩ (runF ⟨fnOf, specA, L⟩ n) 0 m32b0 (j :: π) (adI ds us os bs nn st τ lu lo i v j : St)) = some (.nrm, (.mk [(3, (.lst 1 (List.map celC ds))), (4, (.lst 4 (List.map celBu bs))), (5, (.v (.int .i64 (nn)))), (14, (.slc (.mk 0 28 0) [1, 7] 1 0 (lu) false)), (18, (.slc (.mk 0 18 1000) (st) 2 0 (lo) false)), (19, (.v (.int .i64 ((↑i : Int))))), (21, (.ptr (.mk 0 21 0) (τ) 0 0)), (22, (.v (.int .i64 (IntKind.wrap .i64 ((↑j : Int) + 1)))))] [((.mk 0 18 1000), (.mk (st) (List.map celS os) 2 true)), ((.mk 0 28 0), (.mk [1, 7] (List.map celC us) 1 true)), ((.mk 0 21 0), (.mk (τ) [[(AV.cpx (v.fst.fst) (v.fst.snd)), (.v (.bool (v.snd)))]] 2 true))] 0)) :=
  rndD_sound (q := [((some 119), (Dec.b true)), ((some 125), (Dec.el [(.v (.int .i64 (x125.fst.fst))), (.v (.int .i64 (x125.fst.snd))), (.cpx (x125.snd.fst.fst) (x125.snd.fst.snd)), (.v (.bool (x125.snd.snd)))])), ((some 129), (Dec.b false))]) (by kernel_rfl) (hbLwArA h0 (hcLwArA h1 (hbLwArA h2 hnLwArA)))
theorem adi_4 {L n : Nat} {rate delay nn : Int} {ts es xs vs ds : List (Nat × Nat)} {us u2 : List (Nat × Nat)} {lu lo i : Nat} {os o2 : List ((Nat × Nat) × Bool)} {st π : List Nat} {bs : List ((Int × Int) × (Nat × Nat) × Bool)} {τ : List Nat} {v : (Nat × Nat) × Bool} {j : Nat} (h0 : (decide ((↑j : Int) < (↑(List.map celBu bs).length : Int))) = false) : rnd 0 [3, 4, 5, 14, 18, 19, 21, 22] (bodyOf ⟨fnOf, specA, L⟩ (runF ⟨fnOf, specA, L⟩ n) 0 m32b0 (j :: π) (adI ds us os bs nn st τ lu lo i v j : St)) = some ((.exit 6), (.mk [(3, (.lst 1 (List.map celC ds))), (4, (.lst 4 (List.map celBu bs))), (5, (.v (.int .i64 (nn)))), (14, (.slc (.mk 0 28 0) [1, 7] 1 0 (lu) false)), (18, (.slc (.mk 0 18 1000) (st) 2 0 (lo) false)), (19, (.v (.int .i64 ((↑i : Int))))), (21, (.ptr (.mk 0 21 0) (τ) 0 0)), (22, (.v (.int .i64 ((↑j : Int)))))] [((.mk 0 18 1000), (.mk (st) (List.map celS os) 2 true)), ((.mk 0 28 0), (.mk [1, 7] (List.map celC us) 1 true)), ((.mk 0 21 0), (.mk (τ) [[(AV.cpx (v.fst.fst) (v.fst.snd)), (.v (.bool (v.snd)))]] 2 true))] 0)) :=
  rndD_sound (q := [((some 119), (Dec.b false))]) (by kernel_rfl) (hbLwArA h0 hnLwArA)
theorem ari_0 {L n : Nat} {rate delay nn : Int} {ts es xs vs ds : List (Nat × Nat)} {us u2 : List (Nat × Nat)} {lu lo i : Nat} {os o2 : List ((Nat × Nat) × Bool)} {st π : List Nat} {bs : List ((Int × Int) × (Nat × Nat) × Bool)} {τ σ : List Nat} {b : (Int × Int) × (Nat × Nat) × Bool} {v : (Nat × Nat) × Bool} {j : Nat} (h0 : (decide ((↑j : Int) < b.fst.snd)) = true) (h1 : (decide (b.fst.fst ≥ IntKind.wrap .i64 (nn - (↑j : Int)))) = true) : rnd 0 [5, 20, 24, 25, 104, 105, 106, 117, 118] (bodyOf ⟨fnOf, specA, L⟩ (runF ⟨fnOf, specA, L⟩ n) 0 m31b0 (j :: π) (arI os bs nn τ σ b v lo i j : St)) = some ((.exit 7), (.mk [(5, (.v (.int .i64 (nn)))), (20, (.slc (.mk 0 90 0) [32] 2 0 (lo) true)), (24, (.ptr (.mk 0 24 0) (τ) 0 0)), (25, (.ptr (.mk 0 25 0) (σ) 0 0)), (104, (.lst 4 (List.map celBu bs))), (105, (.v (.int .i64 ((↑(List.map celBu bs).length : Int))))), (106, (.v (.int .i64 ((↑i : Int))))), (117, (.v (.int .i64 (b.fst.snd)))), (118, (.v (.int .i64 ((↑j : Int)))))] [((.mk 0 90 0), (.mk [32] (List.map celS os) 2 true)), ((.mk 0 24 0), (.mk (τ) [[(.v (.int .i64 (b.fst.fst))), (.v (.int .i64 (b.fst.snd))), (.cpx (b.snd.fst.fst) (b.snd.fst.snd)), (.v (.bool (b.snd.snd)))]] 4 true)), ((.mk 0 25 0), (.mk (σ) [[(AV.cpx (v.fst.fst) (v.fst.snd)), (.v (.bool (v.snd)))]] 2 true))] 0)) :=
  rndD_sound (q := [((some 119), (Dec.b true)), ((some 126), (Dec.b true))]) (by kernel_rfl) (hbLwArA h0 (hcLwArA (c := (.st (τ) (τ))) rfl (hbLwArA h1 hnLwArA)))
theorem ari_1 {L n : Nat} {rate delay nn : Int} {ts es xs vs ds : List (Nat × Nat)} {us u2 : List (Nat × Nat)} {lu lo i : Nat} {os o2 : List ((Nat × Nat) × Bool)} {st π : List Nat} {bs : List ((Int × Int) × (Nat × Nat) × Bool)} {τ σ : List Nat} {b : (Int × Int) × (Nat × Nat) × Bool} {v : (Nat × Nat) × Bool} {j : Nat} {k133 : Nat} {x0 : (Nat × Nat) × Bool} (h0 : (decide ((↑j : Int) < b.fst.snd)) = true) (h1 : (decide (b.fst.fst ≥ IntKind.wrap .i64 (nn - (↑j : Int)))) = false) (h2 : HLwArAspecA L n (.ix (.v (.int .i64 (IntKind.wrap .i64 (b.fst.fst + (↑j : Int))))) (lo) (k133))) (h3 : HLwArAspecA L n (.at (List.map celS os) (0 + k133) [(AV.cpx (x0.fst.fst) (x0.fst.snd)), (.v (.bool (x0.snd)))])) : rnd 0 [5, 20, 24, 25, 104, 105, 106, 117, 118] (bodyOf ⟨fnOf, specA, L⟩ (runF ⟨fnOf, specA, L⟩ n) 0 m31b0 (j :: π) (arI os bs nn τ σ b v lo i j : St)) = some (.nrm, (.mk [(5, (.v (.int .i64 (nn)))), (20, (.slc (.mk 0 90 0) [32] 2 0 (lo) true)), (24, (.ptr (.mk 0 24 0) (τ) 0 0)), (25, (.ptr (.mk 0 25 0) (σ) 0 0)), (104, (.lst 4 (List.map celBu bs))), (105, (.v (.int .i64 ((↑(List.map celBu bs).length : Int))))), (106, (.v (.int .i64 ((↑i : Int))))), (117, (.v (.int .i64 (b.fst.snd)))), (118, (.v (.int .i64 (IntKind.wrap .i64 ((↑j : Int) + 1)))))] [((.mk 0 90 0), (.mk [32] (List.set (List.map celS os) (0 + k133) [(AV.cpx (v.fst.fst) (v.fst.snd)), (.v (.bool (v.snd)))]) 2 true)), ((.mk 0 24 0), (.mk (τ) [[(.v (.int .i64 (b.fst.fst))), (.v (.int .i64 (b.fst.snd))), (.cpx (b.snd.fst.fst) (b.snd.fst.snd)), (.v (.bool (b.snd.snd)))]] 4 true)), ((.mk 0 25 0), (.mk (σ) [[(AV.cpx (v.fst.fst) (v.fst.snd)), (.v (.bool (v.snd)))]] 2 true))] 0)) :=
  rndD_sound (q := [((some 119), (Dec.b true)), ((some 126), (Dec.b false)), ((some 133), (Dec.ix (k133))), (none, (Dec.el [(AV.cpx (x0.fst.fst) (x0.fst.snd)), (.v (.bool (x0.snd)))]))]) (by kernel_rfl) (hbLwArA h0 (hcLwArA (c := (.st (τ) (τ))) rfl (hbLwArA h1 (hcLwArA (c := (.st (τ) (τ))) rfl (hcLwArA (c := (.st (σ) (σ))) rfl (hcLwArA h2 (hcLwArA (c := (.st [32] [32])) rfl (hcLwArA h3 hnLwArA))))))))
theorem ari_2 {L n : Nat} {rate delay nn : Int} {ts es xs vs ds : List (Nat × Nat)} {us u2 : List (Nat × Nat)} {lu lo i : Nat} {os o2 : List ((Nat × Nat) × Bool)} {st π : List Nat} {bs : List ((Int × Int) × (Nat × Nat) × Bool)} {τ σ : List Nat} {b : (Int × Int) × (Nat × Nat) × Bool} {v : (Nat × Nat) × Bool} {j : Nat} (h0 : (decide ((↑j : Int) < b.fst.snd)) = false) : rnd 0 [5, 20, 24, 25, 104, 105, 106, 117, 118] (bodyOf ⟨fnOf, specA, L⟩ (runF ⟨fnOf, specA, L⟩ n) 0 m31b0 (j :: π) (arI os bs nn τ σ b v lo i j : St)) = some ((.exit 8), (.mk [(5, (.v (.int .i64 (nn)))), (20, (.slc (.mk 0 90 0) [32] 2 0 (lo) true)), (24, (.ptr (.mk 0 24 0) (τ) 0 0)), (25, (.ptr (.mk 0 25 0) (σ) 0 0)), (104, (.lst 4 (List.map celBu bs))), (105, (.v (.int .i64 ((↑(List.map celBu bs).length : Int))))), (106, (.v (.int .i64 ((↑i : Int))))), (117, (.v (.int .i64 (b.fst.snd)))), (118, (.v (.int .i64 ((↑j : Int)))))] [((.mk 0 90 0), (.mk [32] (List.map celS os) 2 true)), ((.mk 0 24 0), (.mk (τ) [[(.v (.int .i64 (b.fst.fst))), (.v (.int .i64 (b.fst.snd))), (.cpx (b.snd.fst.fst) (b.snd.fst.snd)), (.v (.bool (b.snd.snd)))]] 4 true)), ((.mk 0 25 0), (.mk (σ) [[(AV.cpx (v.fst.fst) (v.fst.snd)), (.v (.bool (v.snd)))]] 2 true))] 0)) :=
  rndD_sound (q := [((some 119), (Dec.b false))]) (by kernel_rfl) (hbLwArA h0 hnLwArA)
end Go.Proofs.Ytnphdnokedhhkaa.Fw
namespace Go.Proofs.Ytnphdnokedhhkaa.Fw
open Go Go.RowKit
abbrev Bu := (Int × Int) × (Nat × Nat) × Bool
abbrev Smp := (Nat × Nat) × Bool
def bd : Bu := ((0, 0), (0, 0), false)
def sd : Smp := ((0, 0), false)
def okBu (b : Bu) : Bool := decide (0 ≤ b.1.1) && decide (0 ≤ b.1.2)
def okBs (bs : List Bu) : Bool := (List.range bs.length).all fun i => okBu (bs.getD i bd)
def okDi (z : Nat × Nat) : Bool := onD z.1 && onD z.2
def okDs (ds : List (Nat × Nat)) : Bool := (List.range ds.length).all fun i => okDi (ds.getD i (0, 0))
theorem okBs_is {bs : List Bu} : okBs bs = true ↔ ∀ i, i < bs.length → okBu (bs.getD i bd) = true := by
  unfold okBs; simp only [List.all_eq_true, List.mem_range]
theorem okDs_is {ds : List (Nat × Nat)} : okDs ds = true ↔ ∀ i, i < ds.length → okDi (ds.getD i (0, 0)) = true := by
  unfold okDs; simp only [List.all_eq_true, List.mem_range]
def arrE (rate delay nn : Int) (ts es xs vs ds : List (Nat × Nat)) (bs : List Bu) : Int :=
  if passE rate delay nn ts es xs vs ≠ 0 then passE rate delay nn ts es xs vs
  else if 65536 < ds.length ∨ 5000 < bs.length then 1
  else if okBs bs = true then (if okDs ds = true then 0 else 7) else 1
/-- a number of the row, disturbed -/
def disF (ds us : List (Nat × Nat)) (m : Nat) : Nat × Nat := if m < ds.length then addP (us.getD m (0, 0)) (ds.getD m (0, 0)) else us.getD m (0, 0)
/-- what a burst leaves -/
def buS (doc : Bool) (b : Bu) : Smp := if b.2.2 = true then ((0, 0), true) else smp doc b.2.1
def hit (b : Bu) (m : Nat) : Prop := b.1.1 ≤ (m : Int) ∧ (m : Int) - b.1.1 < b.1.2
instance (b : Bu) (m : Nat) : Decidable (hit b m) := by unfold hit; exact inferInstance
/-- a sample, torn by the first bursts -/
def torn (doc : Bool) (bs : List Bu) (m : Nat) (s : Smp) : Nat → Smp
  | 0 => s
  | k + 1 => if hit (bs.getD k bd) m then buS doc (bs.getD k bd) else torn doc bs m s k
def arrF (doc : Bool) (us ds : List (Nat × Nat)) (bs : List Bu) (m : Nat) : Smp := torn doc bs m (smp doc (disF ds us m)) bs.length
def arrP (rate delay nn : Int) (ts es xs vs ds : List (Nat × Nat)) (bs : List Bu) : List Smp := tab (arrF false (passP rate delay nn ts es xs vs) ds bs) nn.toNat
def arrD (rate delay nn : Int) (ts es xs vs ds : List (Nat × Nat)) (bs : List Bu) : List Smp := tab (arrF true (passD rate delay nn ts es xs vs) ds bs) nn.toNat
def arrA (e : Int) (l : List Smp) : AV := if e = 0 then .tup [.own 2 (l.map celS) true, .int .i64 0] else .tup [.nils, .int .i64 e]
theorem ix_atI {P : Prog} {C : Caller} {x : Int} {i m : Nat} (h : i < m) (e : x = i) : Con.holds P C (.ix (.int .i64 x) m i) := by rw [e]; exact ix_at h
theorem set_tab {α : Type} {f g : Nat → α} {m i : Nat} {z d : α} (hi : i < m) (hz : z = g i) (h : ∀ j, j < m → j ≠ i → f j = g j) : (tab f m).set i z = tab g m :=
  eq_tab (d := d) (by rw [List.length_set, tab_len]) fun j hj => by
    rw [getD_sets (by rw [tab_len]; exact hi)]
    split
    · rename_i e; subst e; exact hz
    · rename_i e; rw [tab_at hj]; exact h j hj (Ne.symm e)
theorem tab_eq {α : Type} {f g : Nat → α} {m : Nat} (h : ∀ j, j < m → f j = g j) : tab f m = tab g m := by
  unfold tab
  exact List.map_congr_left fun j hj => h j (List.mem_range.1 hj)
section
variable {L n : Nat} {nn : Int} {ds us : List (Nat × Nat)} {bs : List Bu} {lu : Nat}
theorem burP (hL : bs.length ≤ L) (hm : bs.length ≤ 5000) :
    (okBs bs = true → Con.holds ⟨fnOf, specA, L+1⟩ (runF ⟨fnOf, specA, L+1⟩ n) (.loop 0 [3, 4, 5, 14, 46, 47, 48] m31b4 [26] (arV ds us bs nn lu 0) (.exit 0) (arV ds us bs nn lu bs.length))) ∧
    (okBs bs = false → ∃ s, Con.holds ⟨fnOf, specA, L+1⟩ (runF ⟨fnOf, specA, L+1⟩ n) (.loop 0 [3, 4, 5, 14, 46, 47, 48] m31b4 [26] (arV ds us bs nn lu 0) .ret s) ∧ outS s m31.res = some (.tup [.nils, .int .i64 1])) := by
  have hl : (bs.map celBu).length = bs.length := map_len
  have hstep : ∀ k, k ≤ bs.length → (∀ i, i < k → okBu (bs.getD i bd) = true) → ∀ i, i < k →
      seeZ 0 [3, 4, 5, 14, 46, 47, 48] m31.res (bodyOf ⟨fnOf, specA, L+1⟩ (runF ⟨fnOf, specA, L+1⟩ n) 0 m31b4 (i :: [26]) (arV ds us bs nn lu i)) = some (.go .nrm (arV ds us bs nn lu (i + 1))) := fun k hk h i hi => by
    have h1 := h i hi
    unfold okBu at h1
    simp only [Bool.and_eq_true, decide_eq_true_eq] at h1
    have he := elD_map (P := ⟨fnOf, specA, L+1⟩) (C := runF ⟨fnOf, specA, L+1⟩ n) (f := celBu) (d := bd) (show i < bs.length by omega)
    have hd : decide ((i : Int) < ((bs.map celBu).length : Int)) = true := by rw [hl]; exact dLt (by omega)
    have := @arv_2 (L+1) n 0 0 nn [] [] [] [] ds us [] lu 0 i [] [] [] [26] bs (bs.getD i bd) hd he (dF (by omega)) (dF (by omega))
    rw [wrap_id (n := (i : Int) + 1) (by omega)] at this
    exact this
  constructor
  · intro h
    exact loopX (res := m31.res) (fun i => arV ds us bs nn lu i) bs.length rfl hL (hstep _ (Nat.le_refl _) (okBs_is.1 h)) (@arv_3 (L+1) n 0 0 nn [] [] [] [] ds us [] lu 0 bs.length [] [] [] [26] bs (by rw [hl]; exact dNlt)) (by simp)
  · intro h
    rcases firstI (fun i => okBu (bs.getD i bd)) bs.length with h2 | ⟨k, hk, h1, h2⟩
    · rw [okBs_is.2 h2] at h; cases h
    · have he := elD_map (P := ⟨fnOf, specA, L+1⟩) (C := runF ⟨fnOf, specA, L+1⟩ n) (f := celBu) (d := bd) hk
      have hd : decide ((k : Int) < ((bs.map celBu).length : Int)) = true := by rw [hl]; exact dLt (by omega)
      refine loopZ (fun i => arV ds us bs nn lu i) k rfl (by omega) (hstep k (by omega) h1) ?_
      unfold okBu at h2
      by_cases c : 0 ≤ (bs.getD k bd).1.1
      · have c2 : ¬ 0 ≤ (bs.getD k bd).1.2 := by
          intro c2; rw [decide_eq_true c, decide_eq_true c2] at h2; cases h2
        exact @arv_1 (L+1) n 0 0 nn [] [] [] [] ds us [] lu 0 k [] [] [] [26] bs (bs.getD k bd) hd he (dF (by omega)) (dT (by omega))
      · exact @arv_0 (L+1) n 0 0 nn [] [] [] [] ds us [] lu 0 k [] [] [] [26] bs (bs.getD k bd) hd he (dT (by omega))
theorem burD (hL : bs.length ≤ L) (hm : bs.length ≤ 5000) :
    (okBs bs = true → Con.holds ⟨fnOf, specA, L+1⟩ (runF ⟨fnOf, specA, L+1⟩ n) (.loop 0 [3, 4, 5, 14, 16] m32b3 [24] (adV ds us bs nn lu 0) (.exit 0) (adV ds us bs nn lu bs.length))) ∧
    (okBs bs = false → ∃ s, Con.holds ⟨fnOf, specA, L+1⟩ (runF ⟨fnOf, specA, L+1⟩ n) (.loop 0 [3, 4, 5, 14, 16] m32b3 [24] (adV ds us bs nn lu 0) .ret s) ∧ outS s m32.res = some (.tup [.nils, .int .i64 1])) := by
  have hl : (bs.map celBu).length = bs.length := map_len
  have hstep : ∀ k, k ≤ bs.length → (∀ i, i < k → okBu (bs.getD i bd) = true) → ∀ i, i < k →
      seeZ 0 [3, 4, 5, 14, 16] m32.res (bodyOf ⟨fnOf, specA, L+1⟩ (runF ⟨fnOf, specA, L+1⟩ n) 0 m32b3 (i :: [24]) (adV ds us bs nn lu i)) = some (.go .nrm (adV ds us bs nn lu (i + 1))) := fun k hk h i hi => by
    have h1 := h i hi
    unfold okBu at h1
    simp only [Bool.and_eq_true, decide_eq_true_eq] at h1
    have he := elD_map (P := ⟨fnOf, specA, L+1⟩) (C := runF ⟨fnOf, specA, L+1⟩ n) (f := celBu) (d := bd) (show i < bs.length by omega)
    have hd : decide ((i : Int) < ((bs.map celBu).length : Int)) = true := by rw [hl]; exact dLt (by omega)
    have := @adv_2 (L+1) n 0 0 nn [] [] [] [] ds us [] lu 0 i [] [] [] [24] bs (bs.getD i bd) (bs.getD i bd) hd he (dF (by omega)) he (dF (by omega))
    rw [wrap_id (n := (i : Int) + 1) (by omega)] at this
    exact this
  constructor
  · intro h
    exact loopX (res := m32.res) (fun i => adV ds us bs nn lu i) bs.length rfl hL (hstep _ (Nat.le_refl _) (okBs_is.1 h)) (@adv_3 (L+1) n 0 0 nn [] [] [] [] ds us [] lu 0 bs.length [] [] [] [24] bs (by rw [hl]; exact dNlt)) (by simp)
  · intro h
    rcases firstI (fun i => okBu (bs.getD i bd)) bs.length with h2 | ⟨k, hk, h1, h2⟩
    · rw [okBs_is.2 h2] at h; cases h
    · have he := elD_map (P := ⟨fnOf, specA, L+1⟩) (C := runF ⟨fnOf, specA, L+1⟩ n) (f := celBu) (d := bd) hk
      have hd : decide ((k : Int) < ((bs.map celBu).length : Int)) = true := by rw [hl]; exact dLt (by omega)
      refine loopZ (fun i => adV ds us bs nn lu i) k rfl (by omega) (hstep k (by omega) h1) ?_
      unfold okBu at h2
      by_cases c : 0 ≤ (bs.getD k bd).1.1
      · have c2 : ¬ 0 ≤ (bs.getD k bd).1.2 := by
          intro c2; rw [decide_eq_true c, decide_eq_true c2] at h2; cases h2
        exact @adv_1 (L+1) n 0 0 nn [] [] [] [] ds us [] lu 0 k [] [] [] [24] bs (bs.getD k bd) (bs.getD k bd) hd he (dF (by omega)) he (dT (by omega))
      · exact @adv_0 (L+1) n 0 0 nn [] [] [] [] ds us [] lu 0 k [] [] [] [24] bs (bs.getD k bd) hd he (dT (by omega))
def disT (ds us : List (Nat × Nat)) (N i : Nat) : List (Nat × Nat) := tab (fun m => if m < i then disF ds us m else us.getD m (0, 0)) N
theorem disT_at {N i m : Nat} (h : m < N) : (disT ds us N i).getD m (0, 0) = if m < i then disF ds us m else us.getD m (0, 0) := by
  unfold disT; rw [tab_at h]
theorem disT_len {N i : Nat} : (disT ds us N i).length = N := tab_len
theorem disT_zero {N : Nat} (h : us.length = N) : disT ds us N 0 = us := (eq_tab (d := (0, 0)) h fun j hj => by rw [if_neg (by omega)]).symm
theorem disT_all {N : Nat} : disT ds us N ds.length = tab (disF ds us) N := tab_eq fun j hj => by
  split
  · rfl
  · rename_i c; unfold disF; rw [if_neg c]
theorem disP (hL : ds.length ≤ L) (hm : ds.length ≤ 65536) {N : Nat} (hN : N ≤ 65536) (hu : us.length = N) :
    (okDs ds = true → Con.holds ⟨fnOf, specA, L+1⟩ (runF ⟨fnOf, specA, L+1⟩ n) (.loop 0 [4, 5, 14, 61, 62, 63] m31b3 [30] (arD ds us bs N N 0) (.exit 2) (arD ds (tab (disF ds us) N) bs N N ds.length))) ∧
    (okDs ds = false → ∃ s, Con.holds ⟨fnOf, specA, L+1⟩ (runF ⟨fnOf, specA, L+1⟩ n) (.loop 0 [4, 5, 14, 61, 62, 63] m31b3 [30] (arD ds us bs N N 0) .ret s) ∧ outS s m31.res = some (.tup [.nils, .int .i64 7])) := by
  have hl : (ds.map celC).length = ds.length := map_len
  have hstep : ∀ k, k ≤ ds.length → (∀ i, i < k → okDi (ds.getD i (0, 0)) = true) → ∀ i, i < k →
      seeZ 0 [4, 5, 14, 61, 62, 63] m31.res (bodyOf ⟨fnOf, specA, L+1⟩ (runF ⟨fnOf, specA, L+1⟩ n) 0 m31b3 (i :: [30]) (arD ds (disT ds us N i) bs N N i)) = some (.go .nrm (arD ds (disT ds us N (i + 1)) bs N N (i + 1))) := fun k hk h i hi => by
    have h1 := h i hi
    unfold okDi at h1
    rw [Bool.and_eq_true] at h1
    have he := elD_map (P := ⟨fnOf, specA, L+1⟩) (C := runF ⟨fnOf, specA, L+1⟩ n) (f := celC) (d := (0, 0)) (show i < ds.length by omega)
    have hd : decide ((i : Int) < ((ds.map celC).length : Int)) = true := by rw [hl]; exact dLt (by omega)
    by_cases c : i < N
    · have ha : Con.holds ⟨fnOf, specA, L+1⟩ (runF ⟨fnOf, specA, L+1⟩ n) (.at ((disT ds us N i).map celC) (0 + i) [.cpx ((disT ds us N i).getD i (0, 0)).1 ((disT ds us N i).getD i (0, 0)).2]) := by
        rw [Nat.zero_add]; exact atD_map (f := celC) (by rw [disT_len]; exact c)
      have := @are_2 (L+1) n 0 0 (N : Int) [] [] [] [] ds (disT ds us N i) [] N 0 i [] [] [] [30] bs (ds.getD i (0, 0)) i ((disT ds us N i).getD i (0, 0)) i ((disT ds us N i).getD i (0, 0)) hd he (by rw [h1.1]; rfl) (by rw [h1.2]; rfl) (dLt c) (ix_at c) ha (ix_at c) ha
      rw [wrap_id (n := (i : Int) + 1) (by omega)] at this
      rw [this]
      unfold arD
      have e : (disT ds us N i).set i (fadd ((disT ds us N i).getD i (0, 0)).1 (ds.getD i (0, 0)).1, fadd ((disT ds us N i).getD i (0, 0)).2 (ds.getD i (0, 0)).2) = disT ds us N (i + 1) := by
        rw [disT_at c, if_neg (by omega)]
        unfold disT
        refine set_tab (d := (0, 0)) c ?_ fun j hj hne => ?_
        · rw [if_pos (by omega)]; unfold disF; rw [if_pos (by omega)]; rfl
        · by_cases c2 : j < i
          · rw [if_pos c2, if_pos (by omega)]
          · rw [if_neg c2, if_neg (by omega)]
      rw [← e, ← map_set, Nat.zero_add]
      rfl
    · have := @are_3 (L+1) n 0 0 (N : Int) [] [] [] [] ds (disT ds us N i) [] N 0 i [] [] [] [30] bs (ds.getD i (0, 0)) hd he (by rw [h1.1]; rfl) (by rw [h1.2]; rfl) (dF (by omega))
      rw [wrap_id (n := (i : Int) + 1) (by omega)] at this
      rw [this]
      have e : disT ds us N i = disT ds us N (i + 1) := tab_eq fun j hj => by rw [if_pos (by omega), if_pos (by omega)]
      rw [← e]; rfl
  constructor
  · intro h
    have := loopX (P := ⟨fnOf, specA, L+1⟩) (C := runF ⟨fnOf, specA, L+1⟩ n) (d := 0) (π := [30]) (m := m31b3) (res := m31.res) (fun i => arD ds (disT ds us N i) bs N N i) ds.length rfl hL (hstep _ (Nat.le_refl _) (okDs_is.1 h)) (@are_4 (L+1) n 0 0 (N : Int) [] [] [] [] ds (disT ds us N ds.length) [] N 0 ds.length [] [] [] [30] bs (by rw [hl]; exact dNlt)) (by simp)
    rw [disT_zero hu] at this
    rw [← disT_all]
    exact this
  · intro h
    rcases firstI (fun i => okDi (ds.getD i (0, 0))) ds.length with h2 | ⟨k, hk, h1, h2⟩
    · rw [okDs_is.2 h2] at h; cases h
    · have he := elD_map (P := ⟨fnOf, specA, L+1⟩) (C := runF ⟨fnOf, specA, L+1⟩ n) (f := celC) (d := (0, 0)) hk
      have hd : decide ((k : Int) < ((ds.map celC).length : Int)) = true := by rw [hl]; exact dLt (by omega)
      have := loopZ (P := ⟨fnOf, specA, L+1⟩) (C := runF ⟨fnOf, specA, L+1⟩ n) (π := [30]) (m := m31b3) (res := m31.res) (v := .tup [.nils, .int .i64 7]) (fun i => arD ds (disT ds us N i) bs N N i) k rfl (by omega) (hstep k (by omega) h1) (by
        unfold okDi at h2
        cases c : onD (ds.getD k (0, 0)).1 with
        | false => exact @are_0 (L+1) n 0 0 (N : Int) [] [] [] [] ds (disT ds us N k) [] N 0 k [] [] [] [30] bs (ds.getD k (0, 0)) hd he (by rw [c]; rfl)
        | true =>
          rw [c, Bool.true_and] at h2
          exact @are_1 (L+1) n 0 0 (N : Int) [] [] [] [] ds (disT ds us N k) [] N 0 k [] [] [] [30] bs (ds.getD k (0, 0)) hd he (by rw [c]; rfl) (by rw [h2]; rfl))
      rw [disT_zero hu] at this
      exact this
theorem disD (hL : ds.length ≤ L) (hm : ds.length ≤ 65536) :
    (okDs ds = true → Con.holds ⟨fnOf, specA, L+1⟩ (runF ⟨fnOf, specA, L+1⟩ n) (.loop 0 [3, 4, 5, 14, 17] m32b2 [26] (adD ds us bs nn lu 0) (.exit 2) (adD ds us bs nn lu ds.length))) ∧
    (okDs ds = false → ∃ s, Con.holds ⟨fnOf, specA, L+1⟩ (runF ⟨fnOf, specA, L+1⟩ n) (.loop 0 [3, 4, 5, 14, 17] m32b2 [26] (adD ds us bs nn lu 0) .ret s) ∧ outS s m32.res = some (.tup [.nils, .int .i64 7])) := by
  have hl : (ds.map celC).length = ds.length := map_len
  have hstep : ∀ k, k ≤ ds.length → (∀ i, i < k → okDi (ds.getD i (0, 0)) = true) → ∀ i, i < k →
      seeZ 0 [3, 4, 5, 14, 17] m32.res (bodyOf ⟨fnOf, specA, L+1⟩ (runF ⟨fnOf, specA, L+1⟩ n) 0 m32b2 (i :: [26]) (adD ds us bs nn lu i)) = some (.go .nrm (adD ds us bs nn lu (i + 1))) := fun k hk h i hi => by
    have h1 := h i hi
    unfold okDi at h1
    rw [Bool.and_eq_true] at h1
    have he := elD_map (P := ⟨fnOf, specA, L+1⟩) (C := runF ⟨fnOf, specA, L+1⟩ n) (f := celC) (d := (0, 0)) (show i < ds.length by omega)
    have hd : decide ((i : Int) < ((ds.map celC).length : Int)) = true := by rw [hl]; exact dLt (by omega)
    have := @ade_2 (L+1) n 0 0 nn [] [] [] [] ds us [] lu 0 i [] [] [] [26] bs (ds.getD i (0, 0)) (ds.getD i (0, 0)) hd he (by rw [h1.1]; rfl) he (by rw [h1.2]; rfl)
    rw [wrap_id (n := (i : Int) + 1) (by omega)] at this
    exact this
  constructor
  · intro h
    exact loopX (res := m32.res) (fun i => adD ds us bs nn lu i) ds.length rfl hL (hstep _ (Nat.le_refl _) (okDs_is.1 h)) (@ade_3 (L+1) n 0 0 nn [] [] [] [] ds us [] lu 0 ds.length [] [] [] [26] bs (by rw [hl]; exact dNlt)) (by simp)
  · intro h
    rcases firstI (fun i => okDi (ds.getD i (0, 0))) ds.length with h2 | ⟨k, hk, h1, h2⟩
    · rw [okDs_is.2 h2] at h; cases h
    · have he := elD_map (P := ⟨fnOf, specA, L+1⟩) (C := runF ⟨fnOf, specA, L+1⟩ n) (f := celC) (d := (0, 0)) hk
      have hd : decide ((k : Int) < ((ds.map celC).length : Int)) = true := by rw [hl]; exact dLt (by omega)
      refine loopZ (fun i => adD ds us bs nn lu i) k rfl (by omega) (hstep k (by omega) h1) ?_
      unfold okDi at h2
      cases c : onD (ds.getD k (0, 0)).1 with
      | false => exact @ade_0 (L+1) n 0 0 nn [] [] [] [] ds us [] lu 0 k [] [] [] [26] bs (ds.getD k (0, 0)) hd he (by rw [c]; rfl)
      | true =>
        rw [c, Bool.true_and] at h2
        exact @ade_1 (L+1) n 0 0 nn [] [] [] [] ds us [] lu 0 k [] [] [] [26] bs (ds.getD k (0, 0)) (ds.getD k (0, 0)) hd he (by rw [c]; rfl) he (by rw [h2]; rfl)
/-- the samples made -/
theorem samP {N : Nat} (hN : N ≤ 65536) (hu : us.length = N) (hL : N ≤ L) :
    Con.holds ⟨fnOf, specA, L+1⟩ (runF ⟨fnOf, specA, L+1⟩ n) (.loop 0 [4, 5, 20, 91, 92, 93] m31b2 [37] (arO us (List.replicate N ((0, 0), false)) bs N N N 0) (.exit 4) (arO us (tab (fun m => smp false (us.getD m (0, 0))) N) bs N N N N)) := by
  have := loop0 (P := ⟨fnOf, specA, L+1⟩) (C := runF ⟨fnOf, specA, L+1⟩ n) (d := 0) (live := [4, 5, 20, 91, 92, 93]) (π := [37]) (m := m31b2) (fun i => arO us (tab (fun m => if m < i then smp false (us.getD m (0, 0)) else ((0, 0), false)) N) bs N N N i) N (x := .exit 4) (s' := arO us (tab (fun m => if m < N then smp false (us.getD m (0, 0)) else ((0, 0), false)) N) bs N N N N) rfl hL (fun i hi => by
    have a1 : Con.holds ⟨fnOf, specA, L+1⟩ (runF ⟨fnOf, specA, L+1⟩ n) (.at (us.map celC) (0 + i) [.cpx (us.getD i (0, 0)).1 (us.getD i (0, 0)).2]) := by
      rw [Nat.zero_add]; exact atD_map (f := celC) (by omega)
    have a2 : Con.holds ⟨fnOf, specA, L+1⟩ (runF ⟨fnOf, specA, L+1⟩ n) (.at ((tab (fun m => if m < i then smp false (us.getD m (0, 0)) else ((0, 0), false)) N).map celS) (0 + i) (celS ((tab (fun m => if m < i then smp false (us.getD m (0, 0)) else ((0, 0), false)) N).getD i sd))) := by
      rw [Nat.zero_add]; exact atD_map (f := celS) (by rw [tab_len]; exact hi)
    have := @aro_0 (L+1) n 0 0 (N : Int) [] [] [] [] [] us [] N N i (tab (fun m => if m < i then smp false (us.getD m (0, 0)) else ((0, 0), false)) N) [] [] [37] bs i (us.getD i (0, 0)) i _ (dLt hi) (ix_at hi) a1 (ix_at hi) a2
    rw [wrap_id (n := (i : Int) + 1) (by omega)] at this
    rw [this]
    unfold arO
    have e : (tab (fun m => if m < i then smp false (us.getD m (0, 0)) else ((0, 0), false)) N).set i (smp false (us.getD i (0, 0))) = tab (fun m => if m < i + 1 then smp false (us.getD m (0, 0)) else ((0, 0), false)) N :=
      set_tab (d := sd) hi (by rw [if_pos (by omega)]) fun j hj hne => by
        by_cases c2 : j < i
        · rw [if_pos c2, if_pos (by omega)]
        · rw [if_neg c2, if_neg (by omega)]
    rw [← e, ← map_set, Nat.zero_add]
    rfl) (@aro_1 (L+1) n 0 0 (N : Int) [] [] [] [] [] us [] N N N (tab (fun m => if m < N then smp false (us.getD m (0, 0)) else ((0, 0), false)) N) [] [] [37] bs dNlt) (by simp)
  have e0 : tab (fun m => if m < 0 then smp false (us.getD m (0, 0)) else ((0, 0), false)) N = List.replicate N ((0, 0), false) :=
    (eq_tab (d := sd) List.length_replicate fun j hj => by
      rw [if_neg (by omega), List.getD_eq_getElem?_getD, List.getElem?_replicate, if_pos hj]; rfl).symm
  have e1 : tab (fun m => if m < N then smp false (us.getD m (0, 0)) else ((0, 0), false)) N = tab (fun m => smp false (us.getD m (0, 0))) N := tab_eq fun j hj => if_pos hj
  rw [e0, e1] at this
  exact this
end
end Go.Proofs.Ytnphdnokedhhkaa.Fw
namespace Go.Proofs.Ytnphdnokedhhkaa.Fw
open Go Go.RowKit
section
variable {L n : Nat} {nn : Int} {ds us : List (Nat × Nat)} {bs : List Bu} {lu : Nat}
/-- one place of the document's, torn -/
theorem torD {os : List Smp} {st τ π : List Nat} {lo i : Nat} {v0 : Smp} (hb : okBs bs = true) (hm : bs.length ≤ 5000) (hi : i ≤ 65536) (hL : bs.length ≤ L) :
    Con.holds ⟨fnOf, specA, L+1⟩ (runF ⟨fnOf, specA, L+1⟩ n) (.loop 0 [3, 4, 5, 14, 18, 19, 21, 22] m32b0 π (adI ds us os bs nn st τ lu lo i v0 0) (.exit 6) (adI ds us os bs nn st τ lu lo i (torn true bs i v0 bs.length) bs.length)) := by
  have hl : (bs.map celBu).length = bs.length := map_len
  refine loop0 (fun j => adI ds us os bs nn st τ lu lo i (torn true bs i v0 j) j) bs.length rfl hL (fun j hj => ?_) (@adi_4 (L+1) n 0 0 nn [] [] [] [] ds us [] lu lo i os [] st π bs τ (torn true bs i v0 bs.length) bs.length (by rw [hl]; exact dNlt)) (by simp)
  have he := elD_map (P := ⟨fnOf, specA, L+1⟩) (C := runF ⟨fnOf, specA, L+1⟩ n) (f := celBu) (d := bd) hj
  have hd : decide ((j : Int) < ((bs.map celBu).length : Int)) = true := by rw [hl]; exact dLt hj
  have ho := okBs_is.1 hb j hj
  have et : torn true bs i v0 (j + 1) = if hit (bs.getD j bd) i then buS true (bs.getD j bd) else torn true bs i v0 j := rfl
  simp only [et]
  generalize bs.getD j bd = b at *
  unfold okBu at ho
  simp only [Bool.and_eq_true, decide_eq_true_eq] at ho
  have ew : IntKind.wrap .i64 ((j : Int) + 1) = ((j + 1 : Nat) : Int) := wrapUp (m := 5000) (by omega) (by omega)
  by_cases c1 : (i : Int) ≥ b.1.1
  · have wi : IntKind.wrap .i64 ((i : Int) - b.1.1) = (i : Int) - b.1.1 := wrap_id (by omega)
    by_cases c2 : (i : Int) - b.1.1 < b.1.2
    · rw [if_pos ⟨c1, c2⟩]
      cases c3 : b.2.2 with
      | true =>
        have eb : buS true b = ((0, 0), true) := if_pos c3
        rw [eb]
        have := @adi_0 (L+1) n 0 0 nn [] [] [] [] ds us [] lu lo i os [] st π bs τ (torn true bs i v0 j) j b b b b b hd he (dT c1) he he (by rw [wi]; exact dT c2) he he c3
        rw [ew] at this
        exact this
      | false =>
        have eb : buS true b = smp true b.2.1 := if_neg (by rw [c3]; decide)
        rw [eb]
        have := @adi_1 (L+1) n 0 0 nn [] [] [] [] ds us [] lu lo i os [] st π bs τ (torn true bs i v0 j) j b b b b b hd he (dT c1) he he (by rw [wi]; exact dT c2) he he c3
        rw [ew] at this
        exact this
    · rw [if_neg (fun h => c2 h.2)]
      have := @adi_2 (L+1) n 0 0 nn [] [] [] [] ds us [] lu lo i os [] st π bs τ (torn true bs i v0 j) j b b b hd he (dT c1) he he (by rw [wi]; exact dF c2)
      rw [ew] at this
      exact this
  · rw [if_neg (fun h => c1 h.1)]
    have := @adi_3 (L+1) n 0 0 nn [] [] [] [] ds us [] lu lo i os [] st π bs τ (torn true bs i v0 j) j b hd he (dF c1)
    rw [ew] at this
    exact this
/-- the document's samples, place by place -/
theorem outD {N : Nat} (hb : okBs bs = true) (hm : bs.length ≤ 5000) (hN : N ≤ 65536) (hu : us.length = N) (hd : ds.length ≤ 65536) (hL : 70000 ≤ L) :
    ∃ st, Con.holds ⟨fnOf, specA, L+1⟩ (runF ⟨fnOf, specA, L+1⟩ n) (.loop 0 [3, 4, 5, 14, 18, 19] m32b1 [29] (adO ds us [] bs N [29] N 0 0) (.exit 4) (adO ds us (tab (arrF true us ds bs) N) bs N st N N N)) := by
  have hl : (ds.map celC).length = ds.length := map_len
  obtain ⟨s', g1, st, rfl⟩ := loopJ (P := ⟨fnOf, specA, L+1⟩) (C := runF ⟨fnOf, specA, L+1⟩ n) (L := L) (d := 0) (live := [3, 4, 5, 14, 18, 19]) (π := [29]) (m := m32b1) (A := adO ds us [] bs N [29] N 0 0)
    (fun i s => ∃ st, s = adO ds us (tab (arrF true us ds bs) i) bs N st N i i) (fun s => ∃ st, s = adO ds us (tab (arrF true us ds bs) N) bs N st N N N) N (x := .exit 4) (by simp) rfl (by omega) ⟨[29], rfl⟩
    (fun i s hi hs => by
      obtain ⟨st, rfl⟩ := hs
      have ha : Con.holds ⟨fnOf, specA, L+1⟩ (runF ⟨fnOf, specA, L+1⟩ n) (.at (us.map celC) (0 + i) [.cpx (us.getD i (0, 0)).1 (us.getD i (0, 0)).2]) := by
        rw [Nat.zero_add]; exact atD_map (f := celC) (by omega)
      have hp : Con.holds ⟨fnOf, specA, L+1⟩ (runF ⟨fnOf, specA, L+1⟩ n) (.push i 1 24 ((tab (arrF true us ds bs) i).map celS)) := push_ok (by rw [map_len, tab_len]) (by simp only [most]; omega)
      have eu : (tab (arrF true us ds bs) (i + 1)).map celS = (tab (arrF true us ds bs) i).map celS ++ [celS (arrF true us ds bs i)] := by rw [tab_up, List.map_append]; rfl
      by_cases c : i < ds.length
      · have he := elD_map (P := ⟨fnOf, specA, L+1⟩) (C := runF ⟨fnOf, specA, L+1⟩ n) (f := celC) (d := (0, 0)) c
        have ef : arrF true us ds bs i = torn true bs i (smp true (addP (us.getD i (0, 0)) (ds.getD i (0, 0)))) bs.length := by unfold arrF disF; rw [if_pos c]
        have hlo := @torD L n (N : Int) ds us bs N (tab (arrF true us ds bs) i) st ([32, i] ++ [29]) ([35, i] ++ [29]) i i (smp true (addP (us.getD i (0, 0)) (ds.getD i (0, 0)))) hb hm (by omega) (by omega)
        rw [← ef] at hlo
        have := @ado_0 (L+1) n 0 0 (N : Int) [] [] [] [] ds us [] N i i (tab (arrF true us ds bs) i) [] st [29] bs ([32, i] ++ [29]) (arrF true us ds bs i) bs.length i (us.getD i (0, 0)) (ds.getD i (0, 0)) (ds.getD i (0, 0)) (dLt hi) (ix_at hi) ha (by rw [hl]; exact dLt c) he he hlo hp
        rw [wrap_id (n := (i : Int) + 1) (by omega)] at this
        refine ⟨_, this, [39, i] ++ [29], ?_⟩
        unfold adO
        rw [eu]
        rfl
      · have ef : arrF true us ds bs i = torn true bs i (smp true (us.getD i (0, 0))) bs.length := by unfold arrF disF; rw [if_neg c]
        have hlo := @torD L n (N : Int) ds us bs N (tab (arrF true us ds bs) i) st ([14, i] ++ [29]) ([17, i] ++ [29]) i i (smp true (us.getD i (0, 0))) hb hm (by omega) (by omega)
        rw [← ef] at hlo
        have := @ado_1 (L+1) n 0 0 (N : Int) [] [] [] [] ds us [] N i i (tab (arrF true us ds bs) i) [] st [29] bs ([14, i] ++ [29]) (arrF true us ds bs i) bs.length i (us.getD i (0, 0)) (dLt hi) (ix_at hi) ha (by rw [hl]; exact dF (by omega)) hlo hp
        rw [wrap_id (n := (i : Int) + 1) (by omega)] at this
        refine ⟨_, this, [21, i] ++ [29], ?_⟩
        unfold adO
        rw [eu]
        rfl)
    (fun s hs => by
      obtain ⟨st, rfl⟩ := hs
      exact ⟨_, @ado_2 (L+1) n 0 0 (N : Int) [] [] [] [] ds us [] N N N (tab (arrF true us ds bs) N) [] st [29] bs [] sd 0 dNlt, st, rfl⟩)
  exact ⟨st, g1⟩
/-- one burst of the program's -/
theorem tearP {os : List Smp} {τ σ π : List Nat} {b : Bu} {v : Smp} {i N : Nat} (hb : okBu b = true) (hN : N ≤ 65536) (ho : os.length = N) (hL : 70000 ≤ L) : ∃ K : Nat,
    Con.holds ⟨fnOf, specA, L+1⟩ (runF ⟨fnOf, specA, L+1⟩ n) (.loop 0 [5, 20, 24, 25, 104, 105, 106, 117, 118] m31b0 π (arI os bs N τ σ b v N i 0) (.exit 8) (arI (tab (fun m => if hit b m then v else os.getD m sd) N) bs N τ σ b v N i K)) ∨
    Con.holds ⟨fnOf, specA, L+1⟩ (runF ⟨fnOf, specA, L+1⟩ n) (.loop 0 [5, 20, 24, 25, 104, 105, 106, 117, 118] m31b0 π (arI os bs N τ σ b v N i 0) (.exit 7) (arI (tab (fun m => if hit b m then v else os.getD m sd) N) bs N τ σ b v N i K)) := by
  unfold okBu at hb
  simp only [Bool.and_eq_true, decide_eq_true_eq] at hb
  obtain ⟨b1, b2⟩ := hb
  obtain ⟨⟨at', nb⟩, z⟩ := b
  obtain ⟨at', rfl⟩ : ∃ a : Nat, at' = (a : Int) := ⟨at'.toNat, by simp only at b1; omega⟩
  obtain ⟨nb, rfl⟩ : ∃ a : Nat, nb = (a : Int) := ⟨nb.toNat, by simp only at b2; omega⟩
  clear b1 b2
  have hstep : ∀ j, j < min nb (N - at') → rnd 0 [5, 20, 24, 25, 104, 105, 106, 117, 118] (bodyOf ⟨fnOf, specA, L+1⟩ (runF ⟨fnOf, specA, L+1⟩ n) 0 m31b0 (j :: π) (arI (tab (fun m => if at' ≤ m ∧ m < at' + j then v else os.getD m sd) N) bs N τ σ (((at' : Int), (nb : Int)), z) v N i j)) =
      some (.nrm, arI (tab (fun m => if at' ≤ m ∧ m < at' + (j + 1) then v else os.getD m sd) N) bs N τ σ (((at' : Int), (nb : Int)), z) v N i (j + 1)) := fun j hj => by
    have ha : Con.holds ⟨fnOf, specA, L+1⟩ (runF ⟨fnOf, specA, L+1⟩ n) (.at ((tab (fun m => if at' ≤ m ∧ m < at' + j then v else os.getD m sd) N).map celS) (0 + (at' + j)) (celS ((tab (fun m => if at' ≤ m ∧ m < at' + j then v else os.getD m sd) N).getD (at' + j) sd))) := by
      rw [Nat.zero_add]; exact atD_map (f := celS) (by rw [tab_len]; omega)
    have w1 : IntKind.wrap .i64 ((N : Int) - (j : Int)) = (N : Int) - j := wrap_id (by omega)
    have w2 : IntKind.wrap .i64 ((at' : Int) + (j : Int)) = ((at' + j : Nat) : Int) := by rw [wrap_id (by omega)]; omega
    have := @ari_1 (L+1) n 0 0 (N : Int) [] [] [] [] [] [] [] 0 N i (tab (fun m => if at' ≤ m ∧ m < at' + j then v else os.getD m sd) N) [] [] π bs τ σ (((at' : Int), (nb : Int)), z) v j (at' + j) _ (dT (by show (j : Int) < (nb : Int); omega)) (by rw [w1]; exact dF (by show ¬ ((at' : Int) ≥ _); omega)) (ix_atI (i := at' + j) (by omega) w2) ha
    rw [wrap_id (n := (j : Int) + 1) (by omega)] at this
    rw [this]
    unfold arI
    have e : (tab (fun m => if at' ≤ m ∧ m < at' + j then v else os.getD m sd) N).set (at' + j) v = tab (fun m => if at' ≤ m ∧ m < at' + (j + 1) then v else os.getD m sd) N :=
      set_tab (d := sd) (by omega) (by rw [if_pos ⟨by omega, by omega⟩]) fun k hk hne => by
        by_cases c2 : at' ≤ k ∧ k < at' + j
        · rw [if_pos c2, if_pos ⟨by omega, by omega⟩]
        · rw [if_neg c2, if_neg (by omega)]
    rw [← e, ← map_set, Nat.zero_add]
    rfl
  have e0 : tab (fun m => if at' ≤ m ∧ m < at' + 0 then v else os.getD m sd) N = os := (eq_tab (d := sd) ho fun k hk => by rw [if_neg (by omega)]).symm
  have e1 : tab (fun m => if at' ≤ m ∧ m < at' + min nb (N - at') then v else os.getD m sd) N = tab (fun m => if hit (((at' : Int), (nb : Int)), z) m then v else os.getD m sd) N := tab_eq fun k hk => by
    have h : (at' ≤ k ∧ k < at' + min nb (N - at')) ↔ hit (((at' : Int), (nb : Int)), z) k := by
      show _ ↔ (at' : Int) ≤ (k : Int) ∧ (k : Int) - (at' : Int) < (nb : Int)
      omega
    by_cases c : at' ≤ k ∧ k < at' + min nb (N - at')
    · rw [if_pos c, if_pos (h.1 c)]
    · rw [if_neg c, if_neg (fun h2 => c (h.2 h2))]
  refine ⟨min nb (N - at'), ?_⟩
  by_cases c : nb ≤ N - at'
  · left
    have := loop0 (P := ⟨fnOf, specA, L+1⟩) (C := runF ⟨fnOf, specA, L+1⟩ n) (d := 0) (live := [5, 20, 24, 25, 104, 105, 106, 117, 118]) (π := π) (m := m31b0) (fun j => arI (tab (fun m => if at' ≤ m ∧ m < at' + j then v else os.getD m sd) N) bs N τ σ (((at' : Int), (nb : Int)), z) v N i j) (min nb (N - at')) (x := .exit 8) (s' := arI (tab (fun m => if at' ≤ m ∧ m < at' + min nb (N - at') then v else os.getD m sd) N) bs N τ σ (((at' : Int), (nb : Int)), z) v N i (min nb (N - at'))) rfl (by omega) hstep
      (@ari_2 (L+1) n 0 0 (N : Int) [] [] [] [] [] [] [] 0 N i _ [] [] π bs τ σ (((at' : Int), (nb : Int)), z) v (min nb (N - at')) (dF (by show ¬ ((_ : Int) < (nb : Int)); omega))) (by simp)
    rw [e0, e1] at this
    exact this
  · right
    have w1 : IntKind.wrap .i64 ((N : Int) - ((min nb (N - at') : Nat) : Int)) = (N : Int) - ((min nb (N - at') : Nat) : Int) := wrap_id (by omega)
    have := loop0 (P := ⟨fnOf, specA, L+1⟩) (C := runF ⟨fnOf, specA, L+1⟩ n) (d := 0) (live := [5, 20, 24, 25, 104, 105, 106, 117, 118]) (π := π) (m := m31b0) (fun j => arI (tab (fun m => if at' ≤ m ∧ m < at' + j then v else os.getD m sd) N) bs N τ σ (((at' : Int), (nb : Int)), z) v N i j) (min nb (N - at')) (x := .exit 7) (s' := arI (tab (fun m => if at' ≤ m ∧ m < at' + min nb (N - at') then v else os.getD m sd) N) bs N τ σ (((at' : Int), (nb : Int)), z) v N i (min nb (N - at'))) rfl (by omega) hstep
      (@ari_0 (L+1) n 0 0 (N : Int) [] [] [] [] [] [] [] 0 N i _ [] [] π bs τ σ (((at' : Int), (nb : Int)), z) v (min nb (N - at')) (dT (by show (_ : Int) < (nb : Int); omega)) (by rw [w1]; exact dT (by show (at' : Int) ≥ _; omega))) (by simp)
    rw [e0, e1] at this
    exact this
/-- all bursts of the program's -/
theorem bursP {N : Nat} {s0 : Nat → Smp} (hb : okBs bs = true) (hm : bs.length ≤ 5000) (hN : N ≤ 65536) (hL : 70000 ≤ L) :
    Con.holds ⟨fnOf, specA, L+1⟩ (runF ⟨fnOf, specA, L+1⟩ n) (.loop 0 [5, 20, 104, 105, 106] m31b1 [41] (arB (tab s0 N) bs N N 0) (.exit 6) (arB (tab (fun m => torn false bs m (s0 m) bs.length) N) bs N N bs.length)) := by
  have hl : (bs.map celBu).length = bs.length := map_len
  refine loop0 (fun k => arB (tab (fun m => torn false bs m (s0 m) k) N) bs N N k) bs.length rfl (by omega) (fun k hk => ?_) (@arb_2 (L+1) n 0 0 (N : Int) [] [] [] [] [] [] [] 0 N bs.length (tab (fun m => torn false bs m (s0 m) bs.length) N) [] [] [41] bs [] [] bd sd 0 (by rw [hl]; exact dNlt)) (by simp)
  have he := elD_map (P := ⟨fnOf, specA, L+1⟩) (C := runF ⟨fnOf, specA, L+1⟩ n) (f := celBu) (d := bd) hk
  have hd : decide ((k : Int) < ((bs.map celBu).length : Int)) = true := by rw [hl]; exact dLt hk
  have ho := okBs_is.1 hb k hk
  have ew : IntKind.wrap .i64 ((k : Int) + 1) = ((k + 1 : Nat) : Int) := wrapUp (m := 5000) (by omega) (by omega)
  have et : tab (fun m => if hit (bs.getD k bd) m then buS false (bs.getD k bd) else (tab (fun m => torn false bs m (s0 m) k) N).getD m sd) N = tab (fun m => torn false bs m (s0 m) (k + 1)) N := tab_eq fun j hj => by rw [tab_at hj]; rfl
  generalize bs.getD k bd = b at *
  cases c3 : b.2.2 with
  | true =>
    have eb : buS false b = ((0, 0), true) := if_pos c3
    obtain ⟨K, h | h⟩ := @tearP L n bs (tab (fun m => torn false bs m (s0 m) k) N) ([3, k] ++ [41]) ([8, k] ++ [41]) ([17, k] ++ [41]) b ((0, 0), true) k N ho hN tab_len hL
    · rw [← eb, et, eb] at h
      have := @arb_0 (L+1) n 0 0 (N : Int) [] [] [] [] [] [] [] 0 N k (tab (fun m => torn false bs m (s0 m) k) N) (tab (fun m => torn false bs m (s0 m) (k + 1)) N) [] [41] bs ([3, k] ++ [41]) ([8, k] ++ [41]) b ((0, 0), true) K b hd he c3 h
      rw [ew] at this
      exact this
    · rw [← eb, et, eb] at h
      have := @arx_0 (L+1) n 0 0 (N : Int) [] [] [] [] [] [] [] 0 N k (tab (fun m => torn false bs m (s0 m) k) N) (tab (fun m => torn false bs m (s0 m) (k + 1)) N) [] [41] bs ([3, k] ++ [41]) ([8, k] ++ [41]) b ((0, 0), true) K b hd he c3 h
      rw [ew] at this
      exact this
  | false =>
    have eb : buS false b = smp false b.2.1 := if_neg (by rw [c3]; decide)
    rw [eb] at et
    obtain ⟨K, h | h⟩ := @tearP L n bs (tab (fun m => torn false bs m (s0 m) k) N) ([3, k] ++ [41]) ([8, k] ++ [41]) ([15, k] ++ [41]) b (smp false b.2.1) k N ho hN tab_len hL
    · rw [et] at h
      have := @arb_1 (L+1) n 0 0 (N : Int) [] [] [] [] [] [] [] 0 N k (tab (fun m => torn false bs m (s0 m) k) N) (tab (fun m => torn false bs m (s0 m) (k + 1)) N) [] [41] bs ([3, k] ++ [41]) ([8, k] ++ [41]) b (smp false b.2.1) K b hd he c3 h
      rw [ew] at this
      exact this
    · rw [et] at h
      have := @arx_1 (L+1) n 0 0 (N : Int) [] [] [] [] [] [] [] 0 N k (tab (fun m => torn false bs m (s0 m) k) N) (tab (fun m => torn false bs m (s0 m) (k + 1)) N) [] [41] bs ([3, k] ++ [41]) ([8, k] ++ [41]) b (smp false b.2.1) K b hd he c3 h
      rw [ew] at this
      exact this
end
end Go.Proofs.Ytnphdnokedhhkaa.Fw
namespace Go.Proofs.Ytnphdnokedhhkaa.Fw
open Go Go.RowKit
section
variable {L n : Nat} {rate delay nn : Int} {ts es xs vs ds : List (Nat × Nat)} {bs : List Bu}
theorem arr_prog (hL : 70000 ≤ L) (m1 : shortL ts) (m2 : shortL es) (m3 : shortL xs) (m4 : shortL vs) :
    den ⟨fnOf, specA, L+1⟩ (n+1) 31 [.agg [.int .i64 rate, .int .i64 delay, .lst 1 (ts.map celC), .lst 1 (es.map celC)], .lst 1 (xs.map celC), .lst 1 (vs.map celC), .lst 1 (ds.map celC), .lst 4 (bs.map celBu), .int .i64 nn] = some (arrA (arrE rate delay nn ts es xs vs ds bs) (arrP rate delay nn ts es xs vs ds bs)) := by
  have hld : (ds.map celC).length = ds.length := map_len
  have hlb : (bs.map celBu).length = bs.length := map_len
  have p1 := spec_is (P := ⟨fnOf, specA, L+1⟩) (C := runF ⟨fnOf, specA, L+1⟩ n) (f := 19) (g := pasSem false) rfl (pasSem_at false (rate := rate) (delay := delay) (nn := nn) m1 m2 m3 m4)
  unfold pasQ at p1
  unfold arrA
  by_cases a1 : passE rate delay nn ts es xs vs = 0
  case neg =>
    have e : arrE rate delay nn ts es xs vs ds bs = passE rate delay nn ts es xs vs := if_pos a1
    rw [e, if_neg a1]
    exact @arp_0 (L+1) n rate delay nn ts es xs vs ds [] [] 0 0 0 [] [] [] [] bs 0 0 0 _ _ p1 (by simpa using a1)
  have hE : arrE rate delay nn ts es xs vs ds bs = if 65536 < ds.length ∨ 5000 < bs.length then 1 else if okBs bs = true then (if okDs ds = true then 0 else 7) else 1 := if_neg (by simp [a1])
  have n1 : (passE rate delay nn ts es xs vs != 0) = false := by rw [a1]; rfl
  obtain ⟨hpl, hdl, hnn, _⟩ := pass_same a1
  have hW : (passP rate delay nn ts es xs vs).length = nn.toNat := hpl
  rw [if_pos a1] at p1
  have p1 : Con.holds ⟨fnOf, specA, L+1⟩ (runF ⟨fnOf, specA, L+1⟩ n) (.spec 19 [.agg [.int .i64 rate, .int .i64 delay, .lst 1 (ts.map celC), .lst 1 (es.map celC)], .lst 1 (xs.map celC), .lst 1 (vs.map celC), .int .i64 nn] (.tup [.own 1 ((passP rate delay nn ts es xs vs).map celC) true, .int .i64 (passE rate delay nn ts es xs vs)])) := p1
  have hR : arrP rate delay nn ts es xs vs ds bs = tab (arrF false (passP rate delay nn ts es xs vs) ds bs) nn.toNat := rfl
  have hn0 : 0 ≤ nn := by
    rcases Int.lt_or_le nn 0 with h | h
    · exfalso
      unfold passE at a1
      split at a1
      · rename_i c; exact c a1
      · rw [if_pos (.inl h)] at a1; cases a1
    · exact h
  rw [hR]
  generalize passP rate delay nn ts es xs vs = us at *
  have hus : (us.map celC).length = nn.toNat := by rw [← hW]; exact map_len
  obtain ⟨N, rfl⟩ : ∃ N : Nat, nn = N := ⟨nn.toNat, by omega⟩
  rw [Int.toNat_natCast] at *
  by_cases a2 : 65536 < ds.length
  · rw [hE.trans (if_pos (.inl a2)), if_neg (by decide)]
    exact @arp_1 (L+1) n rate delay N ts es xs vs ds [] [] 0 0 0 [] [] [] [] bs 0 0 0 _ _ p1 n1 (by rw [hld]; exact dT (by omega))
  have n2 : decide (((ds.map celC).length : Int) > 65536) = false := by rw [hld]; exact dF (by omega)
  by_cases a3 : 5000 < bs.length
  · rw [hE.trans (if_pos (.inr a3)), if_neg (by decide)]
    exact @arp_2 (L+1) n rate delay N ts es xs vs ds [] [] 0 0 0 [] [] [] [] bs 0 0 0 _ _ p1 n1 n2 (by rw [hlb]; exact dT (by omega))
  have n3 : decide (((bs.map celBu).length : Int) > 5000) = false := by rw [hlb]; exact dF (by omega)
  have hE2 := hE.trans (if_neg (by omega))
  obtain ⟨v1, v2⟩ := @burP L n (N : Int) ds us bs N (by omega) (by omega)
  cases b1 : okBs bs with
  | false =>
    obtain ⟨s, q1, q2⟩ := v2 b1
    have e : arrE rate delay (N : Int) ts es xs vs ds bs = 1 := by rw [hE2, b1]; rfl
    rw [e, if_neg (by decide)]
    exact @aqp_3 (L+1) n rate delay N ts es xs vs ds [] [] 0 0 0 [] [] [] [] bs s _ us _ p1 n1 n2 n3 (by rw [hus]; exact q1) q2
  | true =>
  have v1 := v1 b1
  obtain ⟨w1, w2⟩ := @disP L n ds us bs (by omega) (by omega) N (by omega) hW
  cases b2 : okDs ds with
  | false =>
    obtain ⟨s, q1, q2⟩ := w2 b2
    have e : arrE rate delay (N : Int) ts es xs vs ds bs = 7 := by rw [hE2, b1, b2]; rfl
    rw [e, if_neg (by decide)]
    exact @aup_3 (L+1) n rate delay N ts es xs vs ds us [] N 0 bs.length [] [] [] [] bs s _ us _ p1 n1 n2 n3 (by rw [hus]; exact v1) q1 q2
  | true =>
    have w1 := w1 b2
    have e : arrE rate delay (N : Int) ts es xs vs ds bs = 0 := by rw [hE2, b1, b2]; rfl
    rw [e, if_pos rfl]
    have hz : (tab (disF ds us) N).length = N := tab_len
    have s1 := @samP L n (tab (disF ds us) N) bs N (by omega) hz (by omega)
    have et : tab (fun m => smp false ((tab (disF ds us) N).getD m (0, 0))) N = tab (fun m => smp false (disF ds us m)) N := tab_eq fun j hj => by rw [tab_at hj]
    rw [et] at s1
    have t1 := @bursP L n bs N (fun m => smp false (disF ds us m)) b1 (by omega) (by omega) hL
    have hmk : Con.holds ⟨fnOf, specA, L+1⟩ (runF ⟨fnOf, specA, L+1⟩ n) (.mk N N true ((List.replicate N ((0, 0), false)).map celS) (N : Int) (N : Int) 24 [.cpx 0 0, .v (.bool false)]) := mk_ok (f := celS) rfl (by simp only [most]; omega) (by simp only [most]; omega)
    have hfin : tab (fun m => torn false bs m (smp false (disF ds us m)) bs.length) N = tab (arrF false us ds bs) N := rfl
    rw [hfin] at t1
    have hlen : ((tab (arrF false us ds bs) N).map celS).length = N := by rw [map_len, tab_len]
    have hle : Con.holds ⟨fnOf, specA, L+1⟩ (runF ⟨fnOf, specA, L+1⟩ n) (.le N (List.length ((tab (arrF false us ds bs) N).map celS))) := by show _ ≤ _; rw [hlen]; exact Nat.le_refl _
    have key := @arp_3 (L+1) n rate delay N ts es xs vs ds us (tab (disF ds us) N) N N bs.length (tab (fun m => smp false (disF ds us m)) N) (tab (arrF false us ds bs) N) [] [] bs ds.length N bs.length us _ N p1 n1 n2 n3 (by rw [hus]; exact v1) w1 hmk s1 t1 hle
    rw [key, tkMap tab_len.symm]
theorem arr_doc (hL : 70000 ≤ L) (m1 : shortL ts) (m2 : shortL es) (m3 : shortL xs) (m4 : shortL vs) :
    den ⟨fnOf, specA, L+1⟩ (n+1) 32 [.agg [.int .i64 rate, .int .i64 delay, .lst 1 (ts.map celC), .lst 1 (es.map celC)], .lst 1 (xs.map celC), .lst 1 (vs.map celC), .lst 1 (ds.map celC), .lst 4 (bs.map celBu), .int .i64 nn] = some (arrA (arrE rate delay nn ts es xs vs ds bs) (arrD rate delay nn ts es xs vs ds bs)) := by
  have hld : (ds.map celC).length = ds.length := map_len
  have hlb : (bs.map celBu).length = bs.length := map_len
  have p1 := spec_is (P := ⟨fnOf, specA, L+1⟩) (C := runF ⟨fnOf, specA, L+1⟩ n) (f := 20) (g := pasSem true) rfl (pasSem_at true (rate := rate) (delay := delay) (nn := nn) m1 m2 m3 m4)
  unfold pasQ at p1
  unfold arrA
  by_cases a1 : passE rate delay nn ts es xs vs = 0
  case neg =>
    have e : arrE rate delay nn ts es xs vs ds bs = passE rate delay nn ts es xs vs := if_pos a1
    rw [e, if_neg a1]
    exact @ard_0 (L+1) n rate delay nn ts es xs vs ds [] [] 0 0 0 [] [] [] [] bs 0 0 0 _ _ p1 (by simpa using a1)
  have hE : arrE rate delay nn ts es xs vs ds bs = if 65536 < ds.length ∨ 5000 < bs.length then 1 else if okBs bs = true then (if okDs ds = true then 0 else 7) else 1 := if_neg (by simp [a1])
  have n1 : (passE rate delay nn ts es xs vs != 0) = false := by rw [a1]; rfl
  obtain ⟨hpl, hdl, hnn, _⟩ := pass_same a1
  have hW : (passD rate delay nn ts es xs vs).length = nn.toNat := hdl
  rw [if_pos a1] at p1
  have p1 : Con.holds ⟨fnOf, specA, L+1⟩ (runF ⟨fnOf, specA, L+1⟩ n) (.spec 20 [.agg [.int .i64 rate, .int .i64 delay, .lst 1 (ts.map celC), .lst 1 (es.map celC)], .lst 1 (xs.map celC), .lst 1 (vs.map celC), .int .i64 nn] (.tup [.own 1 ((passD rate delay nn ts es xs vs).map celC) true, .int .i64 (passE rate delay nn ts es xs vs)])) := p1
  have hR : arrD rate delay nn ts es xs vs ds bs = tab (arrF true (passD rate delay nn ts es xs vs) ds bs) nn.toNat := rfl
  have hn0 : 0 ≤ nn := by
    rcases Int.lt_or_le nn 0 with h | h
    · exfalso
      unfold passE at a1
      split at a1
      · rename_i c; exact c a1
      · rw [if_pos (.inl h)] at a1; cases a1
    · exact h
  rw [hR]
  generalize passD rate delay nn ts es xs vs = us at *
  have hus : (us.map celC).length = nn.toNat := by rw [← hW]; exact map_len
  obtain ⟨N, rfl⟩ : ∃ N : Nat, nn = N := ⟨nn.toNat, by omega⟩
  rw [Int.toNat_natCast] at *
  by_cases a2 : 65536 < ds.length
  · rw [hE.trans (if_pos (.inl a2)), if_neg (by decide)]
    exact @ard_1 (L+1) n rate delay N ts es xs vs ds [] [] 0 0 0 [] [] [] [] bs 0 0 0 _ _ p1 n1 (by rw [hld]; exact dT (by omega))
  have n2 : decide (((ds.map celC).length : Int) > 65536) = false := by rw [hld]; exact dF (by omega)
  by_cases a3 : 5000 < bs.length
  · rw [hE.trans (if_pos (.inr a3)), if_neg (by decide)]
    exact @ard_2 (L+1) n rate delay N ts es xs vs ds [] [] 0 0 0 [] [] [] [] bs 0 0 0 _ _ p1 n1 n2 (by rw [hlb]; exact dT (by omega))
  have n3 : decide (((bs.map celBu).length : Int) > 5000) = false := by rw [hlb]; exact dF (by omega)
  have hE2 := hE.trans (if_neg (by omega))
  obtain ⟨v1, v2⟩ := @burD L n (N : Int) ds us bs N (by omega) (by omega)
  cases b1 : okBs bs with
  | false =>
    obtain ⟨s, q1, q2⟩ := v2 b1
    have e : arrE rate delay (N : Int) ts es xs vs ds bs = 1 := by rw [hE2, b1]; rfl
    rw [e, if_neg (by decide)]
    exact @aqd_3 (L+1) n rate delay N ts es xs vs ds [] [] 0 0 0 [] [] [] [] bs s _ us _ p1 n1 n2 n3 (by rw [hus]; exact q1) q2
  | true =>
  have v1 := v1 b1
  obtain ⟨w1, w2⟩ := @disD L n (N : Int) ds us bs N (by omega) (by omega)
  cases b2 : okDs ds with
  | false =>
    obtain ⟨s, q1, q2⟩ := w2 b2
    have e : arrE rate delay (N : Int) ts es xs vs ds bs = 7 := by rw [hE2, b1, b2]; rfl
    rw [e, if_neg (by decide)]
    exact @aud_3 (L+1) n rate delay N ts es xs vs ds us [] N 0 bs.length [] [] [] [] bs s _ us _ p1 n1 n2 n3 (by rw [hus]; exact v1) q1 q2
  | true =>
    have w1 := w1 b2
    have e : arrE rate delay (N : Int) ts es xs vs ds bs = 0 := by rw [hE2, b1, b2]; rfl
    rw [e, if_pos rfl]
    obtain ⟨st, t1⟩ := @outD L n ds us bs N b1 (by omega) (by omega) hW (by omega) hL
    have hlen : ((tab (arrF true us ds bs) N).map celS).length = N := by rw [map_len, tab_len]
    have hle : Con.holds ⟨fnOf, specA, L+1⟩ (runF ⟨fnOf, specA, L+1⟩ n) (.le N (List.length ((tab (arrF true us ds bs) N).map celS))) := by show _ ≤ _; rw [hlen]; exact Nat.le_refl _
    have key := @ard_3 (L+1) n rate delay N ts es xs vs ds us [] N N bs.length (tab (arrF true us ds bs) N) [] st [] bs ds.length N 0 us _ p1 n1 n2 n3 (by rw [hus]; exact v1) w1 t1 hle
    rw [key, tkMap tab_len.symm]
end
end Go.Proofs.Ytnphdnokedhhkaa.Fw
namespace Go.Proofs.Ytnphdnokedhhkaa.Fw
open Go Go.RowKit
def nz1 : AV → AV
  | .nils => .lst 1 []
  | x => x
def nzA : AV → AV
  | .agg cs => .agg (cs.map nz1)
  | x => nz1 x
theorem wi_nz1 (x : AV) : Wi1 x (nz1 x) := by
  unfold nz1
  split
  · exact .inr ⟨rfl, 1, rfl⟩
  · exact .refl _
theorem all_nz1 : ∀ cs : List AV, All2 Wi1 cs (cs.map nz1)
  | [] => trivial
  | x :: r => ⟨wi_nz1 x, all_nz1 r⟩
theorem wi_nzA (x : AV) : WiA x (nzA x) := by
  unfold nzA
  split
  · exact .inl ⟨_, _, rfl, rfl, all_nz1 _⟩
  · exact .inr (wi_nz1 _)
end Go.Proofs.Ytnphdnokedhhkaa.Fw
namespace Go.Proofs.Ytnphdnokedhhkaa.Fw
open Go Go.RowKit
def arrQ (e : Int) (l : List Smp) : AV := .tup [.own 2 ((if e = 0 then l else []).map celS) true, .int .i64 e]
theorem arr_wk (e : Int) (l : List Smp) : WkT (arrA e l) (arrQ e l) := by
  unfold arrA arrQ
  by_cases h : e = 0
  · rw [if_pos h, if_pos h, h]; exact WkT.refl _
  · rw [if_neg h, if_neg h]
    exact .inl ⟨_, _, rfl, rfl, ⟨.inr (.inr ⟨rfl, 2, true, rfl⟩), .inr (.inl rfl), trivial⟩⟩
def unBu : List AV → Option Bu
  | [.v (.int .i64 a), .v (.int .i64 m), .cpx x y, .v (.bool c)] => some ((a, m), (x, y), c)
  | _ => none
theorem unBu_is (e : List AV) (x : Bu) (h : unBu e = some x) : e = celBu x := by
  unfold unBu at h
  split at h
  · cases h; rfl
  · cases h
theorem unBu_L (xs : List Bu) : unL unBu (xs.map celBu) = some xs := unL_enc (enc := celBu) (fun _ => rfl) xs
def nz4 : AV → AV
  | .nils => .lst 4 []
  | x => x
theorem wi_nz4 (x : AV) : WiA x (nz4 x) := by
  unfold nz4
  split
  · exact .inr (.inr ⟨rfl, 4, rfl⟩)
  · exact .refl _
def nzR : List AV → List AV
  | [a, b, c, d, e, f] => [nzA a, nzA b, nzA c, nzA d, nz4 e, f]
  | l => l
theorem wi_nzR (avs : List AV) : All2 WiA avs (nzR avs) := by
  unfold nzR
  split
  · exact ⟨wi_nzA _, wi_nzA _, wi_nzA _, wi_nzA _, wi_nz4 _, .refl _, trivial⟩
  · exact all2_refl WiA.refl _
def arrSem (doc : Bool) : List AV → Option AV
  | [.agg [.v (.int .i64 rate), .v (.int .i64 delay), .lst 1 e1, .lst 1 e2], .lst 1 e3, .lst 1 e4, .lst 1 e5, .lst 4 e6, .v (.int .i64 nn)] =>
    (unL unC e1).bind fun ts => (unL unC e2).bind fun es => (unL unC e3).bind fun xs => (unL unC e4).bind fun vs => (unL unC e5).bind fun ds => (unL unBu e6).bind fun bs =>
      if shortL ts ∧ shortL es ∧ shortL xs ∧ shortL vs then some (arrQ (arrE rate delay nn ts es xs vs ds bs) (if doc then arrD rate delay nn ts es xs vs ds bs else arrP rate delay nn ts es xs vs ds bs)) else none
  | _ => none
theorem arrSem_is {doc : Bool} {avs : List AV} {r : AV} (h : arrSem doc avs = some r) : ∃ rate delay nn ts es xs vs ds bs, avs = [.agg [.int .i64 rate, .int .i64 delay, .lst 1 (ts.map celC), .lst 1 (es.map celC)], .lst 1 (xs.map celC), .lst 1 (vs.map celC), .lst 1 (ds.map celC), .lst 4 (bs.map celBu), .int .i64 nn] ∧
    shortL ts ∧ shortL es ∧ shortL xs ∧ shortL vs ∧ r = arrQ (arrE rate delay nn ts es xs vs ds bs) (if doc then arrD rate delay nn ts es xs vs ds bs else arrP rate delay nn ts es xs vs ds bs) := by
  unfold arrSem at h
  split at h
  · rename_i rate delay e1 e2 e3 e4 e5 e6 nn
    rw [Option.bind_eq_some_iff] at h
    obtain ⟨ts, h1, h⟩ := h
    rw [Option.bind_eq_some_iff] at h
    obtain ⟨es, h2, h⟩ := h
    rw [Option.bind_eq_some_iff] at h
    obtain ⟨xs, h3, h⟩ := h
    rw [Option.bind_eq_some_iff] at h
    obtain ⟨vs, h4, h⟩ := h
    rw [Option.bind_eq_some_iff] at h
    obtain ⟨ds, h5, h⟩ := h
    rw [Option.bind_eq_some_iff] at h
    obtain ⟨bs, h6, h⟩ := h
    split at h
    · rename_i hm
      cases h
      have g1 := unL_inv (enc := celC) unC_is h1
      have g2 := unL_inv (enc := celC) unC_is h2
      have g3 := unL_inv (enc := celC) unC_is h3
      have g4 := unL_inv (enc := celC) unC_is h4
      have g5 := unL_inv (enc := celC) unC_is h5
      have g6 := unL_inv (enc := celBu) unBu_is h6
      subst g1; subst g2; subst g3; subst g4; subst g5; subst g6
      exact ⟨rate, delay, nn, ts, es, xs, vs, ds, bs, rfl, hm.1, hm.2.1, hm.2.2.1, hm.2.2.2, rfl⟩
    · cases h
  · cases h
theorem arrSem_at (doc : Bool) {rate delay nn : Int} {ts es xs vs ds : List (Nat × Nat)} {bs : List Bu} (h1 : shortL ts) (h2 : shortL es) (h3 : shortL xs) (h4 : shortL vs) : arrSem doc [.agg [.int .i64 rate, .int .i64 delay, .lst 1 (ts.map celC), .lst 1 (es.map celC)], .lst 1 (xs.map celC), .lst 1 (vs.map celC), .lst 1 (ds.map celC), .lst 4 (bs.map celBu), .int .i64 nn] =
    some (arrQ (arrE rate delay nn ts es xs vs ds bs) (if doc then arrD rate delay nn ts es xs vs ds bs else arrP rate delay nn ts es xs vs ds bs)) := by
  simp only [arrSem, unC_L, unBu_L, Option.bind_some, if_pos (And.intro h1 (And.intro h2 (And.intro h3 h4)))]
def newB : FuncId → Option (List AV → Option AV)
  | 31 => some (fun avs => arrSem false (nzR avs))
  | 32 => some (fun avs => arrSem true (nzR avs))
  | 33 => some (fun avs => den ⟨fnOf, specK, 20000000000001⟩ 1 33 avs)
  | 30 => some (fun avs => den ⟨fnOf, specK, 20000000000001⟩ 1 30 avs)
  | _ => none
def newB1 : FuncId → Option (List AV → Option AV)
  | 31 => some (fun avs => arrSem false (nzR avs))
  | 32 => some (fun avs => arrSem true (nzR avs))
  | _ => none
def newB2 : FuncId → Option (List AV → Option AV)
  | 33 => some (fun avs => den ⟨fnOf, specK, 20000000000001⟩ 1 33 avs)
  | 30 => some (fun avs => den ⟨fnOf, specK, 20000000000001⟩ 1 30 avs)
  | _ => none
theorem spec_b1 : SpecOk Try.prog ⟨fnOf, fun f => match newB1 f with | some g => some g | none => specA f, 0⟩ :=
  spec_adds spec_a (fun L => fnsOk _ _) follows newB1 fun f g h => by
    unfold newB1 at h
    split at h
    · cases h
      refine ⟨⟨_, Try.func31, ne_of_beq_false (by kernel_rfl), by kernel_rfl⟩, fun avs r h => ?_⟩
      have hw := wi_nzR avs
      obtain ⟨rate, delay, nn, ts, es, xs, vs, ds, bs, he, h1, h2, h3, h4, rfl⟩ := arrSem_is h
      rw [he] at hw
      exact ⟨_, _, _, _, hw, @arr_prog 70000 0 rate delay nn ts es xs vs ds bs (Nat.le_refl _) h1 h2 h3 h4, arr_wk _ _⟩
    · cases h
      refine ⟨⟨_, Try.func32, ne_of_beq_false (by kernel_rfl), by kernel_rfl⟩, fun avs r h => ?_⟩
      have hw := wi_nzR avs
      obtain ⟨rate, delay, nn, ts, es, xs, vs, ds, bs, he, h1, h2, h3, h4, rfl⟩ := arrSem_is h
      rw [he] at hw
      exact ⟨_, _, _, _, hw, @arr_doc 70000 0 rate delay nn ts es xs vs ds bs (Nat.le_refl _) h1 h2 h3 h4, arr_wk _ _⟩
    · cases h
theorem spec_b2 : SpecOk Try.prog ⟨fnOf, fun f => match newB2 f with | some g => some g | none => specK f, 0⟩ :=
  spec_adds spec_k (fun L => fnsOk _ _) follows newB2 fun f g h => by
    unfold newB2 at h
    split at h
    · cases h
      exact ⟨⟨_, Try.func33, ne_of_beq_false (by kernel_rfl), by kernel_rfl⟩, fun avs r h => toldZ (P := ⟨fnOf, specK, 0⟩) h (WkT.refl _)⟩
    · cases h
      exact ⟨⟨_, Try.func30, ne_of_beq_false (by kernel_rfl), by kernel_rfl⟩, fun avs r h => toldZ (P := ⟨fnOf, specK, 0⟩) h (WkT.refl _)⟩
    · cases h
def specB : FuncId → Option (List AV → Option AV) := fun f => match newB f with | some g => some g | none => specA f
theorem spec_b : SpecOk Try.prog ⟨fnOf, specB, 0⟩ := by
  intro f g h
  have h : (match newB f with | some g => some g | none => specA f) = some g := h
  unfold newB at h
  split at h
  · rename_i g' hq
    split at hq
    · cases hq; cases h; exact spec_b1 31 _ rfl
    · cases hq; cases h; exact spec_b1 32 _ rfl
    · cases hq; cases h; exact spec_b2 33 _ rfl
    · cases hq; cases h; exact spec_b2 30 _ rfl
    · cases hq
  · exact spec_a f g h
theorem spec_bL (L : Nat) : SpecOk Try.prog ⟨fnOf, specB, L⟩ := fun f g h => spec_b f g h
theorem arr_told {P : Prog} {C : Caller} (doc : Bool) {f : FuncId} (hp : P.spec f = some (fun avs => arrSem doc (nzR avs))) {rate delay nn : Int} {ts es xs vs ds : List (Nat × Nat)} {bs : List Bu} (h1 : shortL ts) (h2 : shortL es) (h3 : shortL xs) (h4 : shortL vs) :
    Con.holds P C (.spec f [.agg [.int .i64 rate, .int .i64 delay, .lst 1 (ts.map celC), .lst 1 (es.map celC)], .lst 1 (xs.map celC), .lst 1 (vs.map celC), .lst 1 (ds.map celC), .lst 4 (bs.map celBu), .int .i64 nn]
      (arrQ (arrE rate delay nn ts es xs vs ds bs) (if doc then arrD rate delay nn ts es xs vs ds bs else arrP rate delay nn ts es xs vs ds bs))) :=
  spec_is hp (arrSem_at doc h1 h2 h3 h4)
end Go.Proofs.Ytnphdnokedhhkaa.Fw
