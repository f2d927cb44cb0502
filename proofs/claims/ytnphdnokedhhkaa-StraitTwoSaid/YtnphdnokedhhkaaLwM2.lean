/- Arrive (the program's and the document's): paths, printed by a program of ours. | Arrive: the program's and the document's answer. | Arrive: the bursts' loops; what the program and the document answer. | Arrive: the program's and the document's answer, spoken for. | Check, plain, Rows spoken for with nil lists, too. | Arrive spoken for (nil lists, too); samples and bursts compared. | What comes through a strait, as whole numbers: a sum over the taps; no program in sight. | Taps' sums and what comes through, bounded; no program in sight. | turned numbers: taps turned by quarters are taps. | turned (the program's and the document's): paths, printed by a program of ours. | turned spoken for, the program's and the document's. | First (the program's and the document's), Turned, Halved, changed: paths, printed by a program of ours. | First: the program's and the document's answer. | what Turned and Halved do to each tap, spoken for. | slices.Clone of an empty list, nil or not, by hand (whether it is nil is not the evaluator's to say). | Turned, Halved, changed, Clone: paths, printed by a program of ours. | Turned and Halved: the program's and the document's answer. | works() of chapter 10, spoken for. -/
import Derived.Test.YtnphdnokedhhkaaFwY
import Derived.Test.YtnphdnokedhhkaaFwAbs
import Derived.Test.YtnphdnokedhhkaaFwW
import Derived.KernelRfl
import Derived.Shelf.RegionOpenPlain
import Derived.WalkKit
import Derived.Deep.LoopGhost
import Derived.Lib.Walk
import Derived.Lib.SliceRun
import Derived.Test.YtnphdnokedhhkaaLwM1
set_option maxRecDepth 100000
set_option maxHeartbeats 4000000
set_option linter.unusedSimpArgs false
set_option linter.unusedVariables false
set_option exponentiation.threshold 4000
namespace Go.Proofs.Ytnphdnokedhhkaa.Fw
open Go Go.RowKit
abbrev HLwArAspecA (L n : Nat) : Con → Prop := Con.holds ⟨fnOf, specA, L⟩ (runF ⟨fnOf, specA, L⟩ n)
theorem hnLwArA {P : Prog} {C : Caller} : Holds P C [] := trivial
theorem hcLwArA {P : Prog} {C : Caller} {c : Con} {cs : List Con} (h : c.holds P C) (t : Holds P C cs) : Holds P C (c :: cs) := ⟨h, t⟩
theorem hbLwArA {P : Prog} {C : Caller} {x y : Bool} {cs : List Con} (h : x = y) (t : Holds P C cs) : Holds P C (.b x y :: cs) := ⟨h, t⟩

def celBu (b : (Int × Int) × (Nat × Nat) × Bool) : List AV := [.int .i64 b.1.1, .int .i64 b.1.2, .cpx b.2.1.1 b.2.1.2, .v (.bool b.2.2)]
def arV (ds us : List (Nat × Nat)) (bs : List ((Int × Int) × (Nat × Nat) × Bool)) (nn : Int) (lu i : Nat) : St := ⟨[(3, .lst 1 (ds.map celC)), (4, .lst 4 (bs.map celBu)), (5, .int .i64 nn), (14, .slc ⟨0,32,0⟩ [1,7] 1 0 lu false), (46, .lst 4 (bs.map celBu)), (47, .int .i64 (bs.map celBu).length), (48, .int .i64 i)], [(⟨0,32,0⟩, ⟨[1,7], us.map celC, 1, true⟩)], 0⟩
def adV (ds us : List (Nat × Nat)) (bs : List ((Int × Int) × (Nat × Nat) × Bool)) (nn : Int) (lu i : Nat) : St := ⟨[(3, .lst 1 (ds.map celC)), (4, .lst 4 (bs.map celBu)), (5, .int .i64 nn), (14, .slc ⟨0,28,0⟩ [1,7] 1 0 lu false), (16, .int .i64 i)], [(⟨0,28,0⟩, ⟨[1,7], us.map celC, 1, true⟩)], 0⟩
def arD (ds us : List (Nat × Nat)) (bs : List ((Int × Int) × (Nat × Nat) × Bool)) (nn : Int) (lu i : Nat) : St := ⟨[(4, .lst 4 (bs.map celBu)), (5, .int .i64 nn), (14, .slc ⟨0,32,0⟩ [1,7] 1 0 lu false), (61, .lst 1 (ds.map celC)), (62, .int .i64 (ds.map celC).length), (63, .int .i64 i)], [(⟨0,32,0⟩, ⟨[1,7], us.map celC, 1, true⟩)], 0⟩
def adD (ds us : List (Nat × Nat)) (bs : List ((Int × Int) × (Nat × Nat) × Bool)) (nn : Int) (lu i : Nat) : St := ⟨[(3, .lst 1 (ds.map celC)), (4, .lst 4 (bs.map celBu)), (5, .int .i64 nn), (14, .slc ⟨0,28,0⟩ [1,7] 1 0 lu false), (17, .int .i64 i)], [(⟨0,28,0⟩, ⟨[1,7], us.map celC, 1, true⟩)], 0⟩
def arO (us : List (Nat × Nat)) (os : List ((Nat × Nat) × Bool)) (bs : List ((Int × Int) × (Nat × Nat) × Bool)) (nn : Int) (lu lo i : Nat) : St := ⟨[(4, .lst 4 (bs.map celBu)), (5, .int .i64 nn), (20, .slc ⟨0,90,0⟩ [32] 2 0 lo true), (91, .slc ⟨0,32,0⟩ [1,7] 1 0 lu false), (92, .int .i64 lu), (93, .int .i64 i)], [(⟨0,32,0⟩, ⟨[1,7], us.map celC, 1, true⟩), (⟨0,90,0⟩, ⟨[32], os.map celS, 2, true⟩)], 0⟩
def adO (ds us : List (Nat × Nat)) (os : List ((Nat × Nat) × Bool)) (bs : List ((Int × Int) × (Nat × Nat) × Bool)) (nn : Int) (st : List Nat) (lu lo i : Nat) : St := ⟨[(3, .lst 1 (ds.map celC)), (4, .lst 4 (bs.map celBu)), (5, .int .i64 nn), (14, .slc ⟨0,28,0⟩ [1,7] 1 0 lu false), (18, .slc ⟨0,18,1000⟩ st 2 0 lo false), (19, .int .i64 i)], [(⟨0,18,1000⟩, ⟨st, os.map celS, 2, true⟩), (⟨0,28,0⟩, ⟨[1,7], us.map celC, 1, true⟩)], 0⟩
def arB (os : List ((Nat × Nat) × Bool)) (bs : List ((Int × Int) × (Nat × Nat) × Bool)) (nn : Int) (lo i : Nat) : St := ⟨[(5, .int .i64 nn), (20, .slc ⟨0,90,0⟩ [32] 2 0 lo true), (104, .lst 4 (bs.map celBu)), (105, .int .i64 (bs.map celBu).length), (106, .int .i64 i)], [(⟨0,90,0⟩, ⟨[32], os.map celS, 2, true⟩)], 0⟩
def adI (ds us : List (Nat × Nat)) (os : List ((Nat × Nat) × Bool)) (bs : List ((Int × Int) × (Nat × Nat) × Bool)) (nn : Int) (st τ : List Nat) (lu lo i : Nat) (v : (Nat × Nat) × Bool) (j : Nat) : St := ⟨[(3, .lst 1 (ds.map celC)), (4, .lst 4 (bs.map celBu)), (5, .int .i64 nn), (14, .slc ⟨0,28,0⟩ [1,7] 1 0 lu false), (18, .slc ⟨0,18,1000⟩ st 2 0 lo false), (19, .int .i64 i), (21, .ptr ⟨0,21,0⟩ τ 0 0), (22, .int .i64 j)], [(⟨0,18,1000⟩, ⟨st, os.map celS, 2, true⟩), (⟨0,28,0⟩, ⟨[1,7], us.map celC, 1, true⟩), (⟨0,21,0⟩, ⟨τ, [celS v], 2, true⟩)], 0⟩
def arI (os : List ((Nat × Nat) × Bool)) (bs : List ((Int × Int) × (Nat × Nat) × Bool)) (nn : Int) (τ σ : List Nat) (b : (Int × Int) × (Nat × Nat) × Bool) (v : (Nat × Nat) × Bool) (lo i j : Nat) : St := ⟨[(5, .int .i64 nn), (20, .slc ⟨0,90,0⟩ [32] 2 0 lo true), (24, .ptr ⟨0,24,0⟩ τ 0 0), (25, .ptr ⟨0,25,0⟩ σ 0 0), (104, .lst 4 (bs.map celBu)), (105, .int .i64 (bs.map celBu).length), (106, .int .i64 i), (117, .int .i64 b.1.2), (118, .int .i64 j)], [(⟨0,90,0⟩, ⟨[32], os.map celS, 2, true⟩), (⟨0,24,0⟩, ⟨τ, [celBu b], 4, true⟩), (⟨0,25,0⟩, ⟨σ, [celS v], 2, true⟩)], 0⟩
theorem arp_0 {L n : Nat} {rate delay nn : Int} {ts es xs vs ds : List (Nat × Nat)} {us u2 : List (Nat × Nat)} {lu lo i : Nat} {os o2 : List ((Nat × Nat) × Bool)} {st π : List Nat} {bs : List ((Int × Int) × (Nat × Nat) × Bool)} {i2 i3 i4 : Nat} {us32 : List (Nat × Nat)} {e32 : Int} (h0 : HLwArAspecA L n (.spec 19 [(.agg [(.v (.int .i64 (rate))), (.v (.int .i64 (delay))), (.lst 1 (List.map celC ts)), (.lst 1 (List.map celC es))]), (.lst 1 (List.map celC xs)), (.lst 1 (List.map celC vs)), (.v (.int .i64 (nn)))] (.tup [(.own 1 (List.map celC us32) true), (.v (.int .i64 (e32)))]))) (h1 : (e32 != 0) = true) : den ⟨fnOf, specA, L⟩ (n+1) 31 [.agg [.int .i64 rate, .int .i64 delay, .lst 1 (ts.map celC), .lst 1 (es.map celC)], .lst 1 (xs.map celC), .lst 1 (vs.map celC), .lst 1 (ds.map celC), .lst 4 (bs.map celBu), .int .i64 nn] = some (.tup [.nils, (.v (.int .i64 (e32)))]) :=
  denD_sound (q := [((some 32), (Dec.call (.tup [(.own 1 (List.map celC us32) true), (.v (.int .i64 (e32)))]))), ((some 36), (Dec.b true))]) (by kernel_rfl) (hcLwArA (c := (.st [0] [0])) rfl (hcLwArA h0 (hbLwArA h1 hnLwArA)))
theorem arp_1 {L n : Nat} {rate delay nn : Int} {ts es xs vs ds : List (Nat × Nat)} {us u2 : List (Nat × Nat)} {lu lo i : Nat} {os o2 : List ((Nat × Nat) × Bool)} {st π : List Nat} {bs : List ((Int × Int) × (Nat × Nat) × Bool)} {i2 i3 i4 : Nat} {us32 : List (Nat × Nat)} {e32 : Int} (h0 : HLwArAspecA L n (.spec 19 [(.agg [(.v (.int .i64 (rate))), (.v (.int .i64 (delay))), (.lst 1 (List.map celC ts)), (.lst 1 (List.map celC es))]), (.lst 1 (List.map celC xs)), (.lst 1 (List.map celC vs)), (.v (.int .i64 (nn)))] (.tup [(.own 1 (List.map celC us32) true), (.v (.int .i64 (e32)))]))) (h1 : (e32 != 0) = false) (h2 : (decide ((↑(List.map celC ds).length : Int) > 65536)) = true) : den ⟨fnOf, specA, L⟩ (n+1) 31 [.agg [.int .i64 rate, .int .i64 delay, .lst 1 (ts.map celC), .lst 1 (es.map celC)], .lst 1 (xs.map celC), .lst 1 (vs.map celC), .lst 1 (ds.map celC), .lst 4 (bs.map celBu), .int .i64 nn] = some (.tup [.nils, (.v (.int .i64 1))]) :=
  denD_sound (q := [((some 32), (Dec.call (.tup [(.own 1 (List.map celC us32) true), (.v (.int .i64 (e32)))]))), ((some 36), (Dec.b false)), ((some 41), (Dec.b true))]) (by kernel_rfl) (hcLwArA (c := (.st [0] [0])) rfl (hcLwArA h0 (hbLwArA h1 (hbLwArA h2 hnLwArA))))
theorem arp_2 {L n : Nat} {rate delay nn : Int} {ts es xs vs ds : List (Nat × Nat)} {us u2 : List (Nat × Nat)} {lu lo i : Nat} {os o2 : List ((Nat × Nat) × Bool)} {st π : List Nat} {bs : List ((Int × Int) × (Nat × Nat) × Bool)} {i2 i3 i4 : Nat} {us32 : List (Nat × Nat)} {e32 : Int} (h0 : HLwArAspecA L n (.spec 19 [(.agg [(.v (.int .i64 (rate))), (.v (.int .i64 (delay))), (.lst 1 (List.map celC ts)), (.lst 1 (List.map celC es))]), (.lst 1 (List.map celC xs)), (.lst 1 (List.map celC vs)), (.v (.int .i64 (nn)))] (.tup [(.own 1 (List.map celC us32) true), (.v (.int .i64 (e32)))]))) (h1 : (e32 != 0) = false) (h2 : (decide ((↑(List.map celC ds).length : Int) > 65536)) = false) (h3 : (decide ((↑(List.map celBu bs).length : Int) > 5000)) = true) : den ⟨fnOf, specA, L⟩ (n+1) 31 [.agg [.int .i64 rate, .int .i64 delay, .lst 1 (ts.map celC), .lst 1 (es.map celC)], .lst 1 (xs.map celC), .lst 1 (vs.map celC), .lst 1 (ds.map celC), .lst 4 (bs.map celBu), .int .i64 nn] = some (.tup [.nils, (.v (.int .i64 1))]) :=
  denD_sound (q := [((some 32), (Dec.call (.tup [(.own 1 (List.map celC us32) true), (.v (.int .i64 (e32)))]))), ((some 36), (Dec.b false)), ((some 41), (Dec.b false)), ((some 45), (Dec.b true))]) (by kernel_rfl) (hcLwArA (c := (.st [0] [0])) rfl (hcLwArA h0 (hbLwArA h1 (hbLwArA h2 (hbLwArA h3 hnLwArA)))))
theorem arp_3 {L n : Nat} {rate delay nn : Int} {ts es xs vs ds : List (Nat × Nat)} {us u2 : List (Nat × Nat)} {lu lo i : Nat} {os o2 : List ((Nat × Nat) × Bool)} {st π : List Nat} {bs : List ((Int × Int) × (Nat × Nat) × Bool)} {i2 i3 i4 : Nat} {us32 : List (Nat × Nat)} {e32 : Int} {m90 : Nat} (h0 : HLwArAspecA L n (.spec 19 [(.agg [(.v (.int .i64 (rate))), (.v (.int .i64 (delay))), (.lst 1 (List.map celC ts)), (.lst 1 (List.map celC es))]), (.lst 1 (List.map celC xs)), (.lst 1 (List.map celC vs)), (.v (.int .i64 (nn)))] (.tup [(.own 1 (List.map celC us32) true), (.v (.int .i64 (e32)))]))) (h1 : (e32 != 0) = false) (h2 : (decide ((↑(List.map celC ds).length : Int) > 65536)) = false) (h3 : (decide ((↑(List.map celBu bs).length : Int) > 5000)) = false) (h4 : HLwArAspecA L n (.loop 0 [3, 4, 5, 14, 46, 47, 48] m31b4 [26] (.mk [(3, (.lst 1 (List.map celC ds))), (4, (.lst 4 (List.map celBu bs))), (5, (.v (.int .i64 (nn)))), (14, (.slc (.mk 0 32 0) [1, 7] 1 0 (List.length (List.map celC us32)) false)), (46, (.lst 4 (List.map celBu bs))), (47, (.v (.int .i64 ((↑(List.map celBu bs).length : Int))))), (48, (.v (.int .i64 0)))] [((.mk 0 32 0), (.mk [1, 7] (List.map celC us32) 1 true))] 0) (.exit 0) (.mk [(3, (.lst 1 (List.map celC ds))), (4, (.lst 4 (List.map celBu bs))), (5, (.v (.int .i64 (nn)))), (14, (.slc (.mk 0 32 0) [1, 7] 1 0 (lu) false)), (46, (.lst 4 (List.map celBu bs))), (47, (.v (.int .i64 ((↑(List.map celBu bs).length : Int))))), (48, (.v (.int .i64 ((↑i : Int)))))] [((.mk 0 32 0), (.mk [1, 7] (List.map celC us) 1 true))] 0))) (h5 : HLwArAspecA L n (.loop 0 [4, 5, 14, 61, 62, 63] m31b3 [30] (.mk [(4, (.lst 4 (List.map celBu bs))), (5, (.v (.int .i64 (nn)))), (14, (.slc (.mk 0 32 0) [1, 7] 1 0 (lu) false)), (61, (.lst 1 (List.map celC ds))), (62, (.v (.int .i64 ((↑(List.map celC ds).length : Int))))), (63, (.v (.int .i64 0)))] [((.mk 0 32 0), (.mk [1, 7] (List.map celC us) 1 true))] 0) (.exit 2) (.mk [(4, (.lst 4 (List.map celBu bs))), (5, (.v (.int .i64 (nn)))), (14, (.slc (.mk 0 32 0) [1, 7] 1 0 (lu) false)), (61, (.lst 1 (List.map celC ds))), (62, (.v (.int .i64 ((↑(List.map celC ds).length : Int))))), (63, (.v (.int .i64 ((↑i2 : Int)))))] [((.mk 0 32 0), (.mk [1, 7] (List.map celC u2) 1 true))] 0))) (h6 : HLwArAspecA L n (.mk (m90) (m90) true (List.map celS (List.replicate m90 ((0, 0), false))) (nn) (nn) 24 [(AV.cpx 0 0), (.v (.bool false))])) (h7 : HLwArAspecA L n (.loop 0 [4, 5, 20, 91, 92, 93] m31b2 [37] (.mk [(4, (.lst 4 (List.map celBu bs))), (5, (.v (.int .i64 (nn)))), (20, (.slc (.mk 0 90 0) [32] 2 0 (m90) true)), (91, (.slc (.mk 0 32 0) [1, 7] 1 0 (lu) false)), (92, (.v (.int .i64 ((↑lu : Int))))), (93, (.v (.int .i64 0)))] [((.mk 0 32 0), (.mk [1, 7] (List.map celC u2) 1 true)), ((.mk 0 90 0), (.mk [32] (List.map celS (List.replicate m90 ((0, 0), false))) 2 true))] 0) (.exit 4) (.mk [(4, (.lst 4 (List.map celBu bs))), (5, (.v (.int .i64 (nn)))), (20, (.slc (.mk 0 90 0) [32] 2 0 (lo) true)), (91, (.slc (.mk 0 32 0) [1, 7] 1 0 (lu) false)), (92, (.v (.int .i64 ((↑lu : Int))))), (93, (.v (.int .i64 ((↑i3 : Int)))))] [((.mk 0 32 0), (.mk [1, 7] (List.map celC u2) 1 true)), ((.mk 0 90 0), (.mk [32] (List.map celS os) 2 true))] 0))) (h8 : HLwArAspecA L n (.loop 0 [5, 20, 104, 105, 106] m31b1 [41] (.mk [(5, (.v (.int .i64 (nn)))), (20, (.slc (.mk 0 90 0) [32] 2 0 (lo) true)), (104, (.lst 4 (List.map celBu bs))), (105, (.v (.int .i64 ((↑(List.map celBu bs).length : Int))))), (106, (.v (.int .i64 0)))] [((.mk 0 90 0), (.mk [32] (List.map celS os) 2 true))] 0) (.exit 6) (.mk [(5, (.v (.int .i64 (nn)))), (20, (.slc (.mk 0 90 0) [32] 2 0 (lo) true)), (104, (.lst 4 (List.map celBu bs))), (105, (.v (.int .i64 ((↑(List.map celBu bs).length : Int))))), (106, (.v (.int .i64 ((↑i4 : Int)))))] [((.mk 0 90 0), (.mk [32] (List.map celS o2) 2 true))] 0))) (h9 : HLwArAspecA L n (.le (lo) (List.length (List.map celS o2)))) : den ⟨fnOf, specA, L⟩ (n+1) 31 [.agg [.int .i64 rate, .int .i64 delay, .lst 1 (ts.map celC), .lst 1 (es.map celC)], .lst 1 (xs.map celC), .lst 1 (vs.map celC), .lst 1 (ds.map celC), .lst 4 (bs.map celBu), .int .i64 nn] = some (.tup [(.own 2 (List.take (lo) (List.map celS o2)) true), (.v (.int .i64 0))]) :=
  denD_sound (q := [((some 32), (Dec.call (.tup [(.own 1 (List.map celC us32) true), (.v (.int .i64 (e32)))]))), ((some 36), (Dec.b false)), ((some 41), (Dec.b false)), ((some 45), (Dec.b false)), ((some 200004), (Dec.loop (.exit 0) (.mk [(3, (.lst 1 (List.map celC ds))), (4, (.lst 4 (List.map celBu bs))), (5, (.v (.int .i64 (nn)))), (14, (.slc (.mk 0 32 0) [1, 7] 1 0 (lu) false)), (46, (.lst 4 (List.map celBu bs))), (47, (.v (.int .i64 ((↑(List.map celBu bs).length : Int))))), (48, (.v (.int .i64 ((↑i : Int)))))] [((.mk 0 32 0), (.mk [1, 7] (List.map celC us) 1 true))] 0))), ((some 200003), (Dec.loop (.exit 2) (.mk [(4, (.lst 4 (List.map celBu bs))), (5, (.v (.int .i64 (nn)))), (14, (.slc (.mk 0 32 0) [1, 7] 1 0 (lu) false)), (61, (.lst 1 (List.map celC ds))), (62, (.v (.int .i64 ((↑(List.map celC ds).length : Int))))), (63, (.v (.int .i64 ((↑i2 : Int)))))] [((.mk 0 32 0), (.mk [1, 7] (List.map celC u2) 1 true))] 0))), ((some 90), (Dec.mk (m90) (m90) true (List.map celS (List.replicate m90 ((0, 0), false))))), ((some 200002), (Dec.loop (.exit 4) (.mk [(4, (.lst 4 (List.map celBu bs))), (5, (.v (.int .i64 (nn)))), (20, (.slc (.mk 0 90 0) [32] 2 0 (lo) true)), (91, (.slc (.mk 0 32 0) [1, 7] 1 0 (lu) false)), (92, (.v (.int .i64 ((↑lu : Int))))), (93, (.v (.int .i64 ((↑i3 : Int)))))] [((.mk 0 32 0), (.mk [1, 7] (List.map celC u2) 1 true)), ((.mk 0 90 0), (.mk [32] (List.map celS os) 2 true))] 0))), ((some 200001), (Dec.loop (.exit 6) (.mk [(5, (.v (.int .i64 (nn)))), (20, (.slc (.mk 0 90 0) [32] 2 0 (lo) true)), (104, (.lst 4 (List.map celBu bs))), (105, (.v (.int .i64 ((↑(List.map celBu bs).length : Int))))), (106, (.v (.int .i64 ((↑i4 : Int)))))] [((.mk 0 90 0), (.mk [32] (List.map celS o2) 2 true))] 0)))]) (by kernel_rfl) (hcLwArA (c := (.st [0] [0])) rfl (hcLwArA h0 (hbLwArA h1 (hbLwArA h2 (hbLwArA h3 (hcLwArA h4 (hcLwArA h5 (hcLwArA h6 (hcLwArA h7 (hcLwArA h8 (hcLwArA (c := (.st [32] [32])) rfl (hcLwArA h9 hnLwArA))))))))))))
theorem ard_0 {L n : Nat} {rate delay nn : Int} {ts es xs vs ds : List (Nat × Nat)} {us u2 : List (Nat × Nat)} {lu lo i : Nat} {os o2 : List ((Nat × Nat) × Bool)} {st π : List Nat} {bs : List ((Int × Int) × (Nat × Nat) × Bool)} {i2 i3 i4 : Nat} {us28 : List (Nat × Nat)} {e28 : Int} (h0 : HLwArAspecA L n (.spec 20 [(.agg [(.v (.int .i64 (rate))), (.v (.int .i64 (delay))), (.lst 1 (List.map celC ts)), (.lst 1 (List.map celC es))]), (.lst 1 (List.map celC xs)), (.lst 1 (List.map celC vs)), (.v (.int .i64 (nn)))] (.tup [(.own 1 (List.map celC us28) true), (.v (.int .i64 (e28)))]))) (h1 : (e28 != 0) = true) : den ⟨fnOf, specA, L⟩ (n+1) 32 [.agg [.int .i64 rate, .int .i64 delay, .lst 1 (ts.map celC), .lst 1 (es.map celC)], .lst 1 (xs.map celC), .lst 1 (vs.map celC), .lst 1 (ds.map celC), .lst 4 (bs.map celBu), .int .i64 nn] = some (.tup [.nils, (.v (.int .i64 (e28)))]) :=
  denD_sound (q := [((some 28), (Dec.call (.tup [(.own 1 (List.map celC us28) true), (.v (.int .i64 (e28)))]))), ((some 32), (Dec.b true))]) (by kernel_rfl) (hcLwArA (c := (.st [0] [0])) rfl (hcLwArA h0 (hbLwArA h1 hnLwArA)))
theorem ard_1 {L n : Nat} {rate delay nn : Int} {ts es xs vs ds : List (Nat × Nat)} {us u2 : List (Nat × Nat)} {lu lo i : Nat} {os o2 : List ((Nat × Nat) × Bool)} {st π : List Nat} {bs : List ((Int × Int) × (Nat × Nat) × Bool)} {i2 i3 i4 : Nat} {us28 : List (Nat × Nat)} {e28 : Int} (h0 : HLwArAspecA L n (.spec 20 [(.agg [(.v (.int .i64 (rate))), (.v (.int .i64 (delay))), (.lst 1 (List.map celC ts)), (.lst 1 (List.map celC es))]), (.lst 1 (List.map celC xs)), (.lst 1 (List.map celC vs)), (.v (.int .i64 (nn)))] (.tup [(.own 1 (List.map celC us28) true), (.v (.int .i64 (e28)))]))) (h1 : (e28 != 0) = false) (h2 : (decide ((↑(List.map celC ds).length : Int) > 65536)) = true) : den ⟨fnOf, specA, L⟩ (n+1) 32 [.agg [.int .i64 rate, .int .i64 delay, .lst 1 (ts.map celC), .lst 1 (es.map celC)], .lst 1 (xs.map celC), .lst 1 (vs.map celC), .lst 1 (ds.map celC), .lst 4 (bs.map celBu), .int .i64 nn] = some (.tup [.nils, (.v (.int .i64 1))]) :=
  denD_sound (q := [((some 28), (Dec.call (.tup [(.own 1 (List.map celC us28) true), (.v (.int .i64 (e28)))]))), ((some 32), (Dec.b false)), ((some 37), (Dec.b true))]) (by kernel_rfl) (hcLwArA (c := (.st [0] [0])) rfl (hcLwArA h0 (hbLwArA h1 (hbLwArA h2 hnLwArA))))
theorem ard_2 {L n : Nat} {rate delay nn : Int} {ts es xs vs ds : List (Nat × Nat)} {us u2 : List (Nat × Nat)} {lu lo i : Nat} {os o2 : List ((Nat × Nat) × Bool)} {st π : List Nat} {bs : List ((Int × Int) × (Nat × Nat) × Bool)} {i2 i3 i4 : Nat} {us28 : List (Nat × Nat)} {e28 : Int} (h0 : HLwArAspecA L n (.spec 20 [(.agg [(.v (.int .i64 (rate))), (.v (.int .i64 (delay))), (.lst 1 (List.map celC ts)), (.lst 1 (List.map celC es))]), (.lst 1 (List.map celC xs)), (.lst 1 (List.map celC vs)), (.v (.int .i64 (nn)))] (.tup [(.own 1 (List.map celC us28) true), (.v (.int .i64 (e28)))]))) (h1 : (e28 != 0) = false) (h2 : (decide ((↑(List.map celC ds).length : Int) > 65536)) = false) (h3 : (decide ((↑(List.map celBu bs).length : Int) > 5000)) = true) : den ⟨fnOf, specA, L⟩ (n+1) 32 [.agg [.int .i64 rate, .int .i64 delay, .lst 1 (ts.map celC), .lst 1 (es.map celC)], .lst 1 (xs.map celC), .lst 1 (vs.map celC), .lst 1 (ds.map celC), .lst 4 (bs.map celBu), .int .i64 nn] = some (.tup [.nils, (.v (.int .i64 1))]) :=
  denD_sound (q := [((some 28), (Dec.call (.tup [(.own 1 (List.map celC us28) true), (.v (.int .i64 (e28)))]))), ((some 32), (Dec.b false)), ((some 37), (Dec.b false)), ((some 41), (Dec.b true))]) (by kernel_rfl) (hcLwArA (c := (.st [0] [0])) rfl (hcLwArA h0 (hbLwArA h1 (hbLwArA h2 (hbLwArA h3 hnLwArA)))))
theorem ard_3 {L n : Nat} {rate delay nn : Int} {ts es xs vs ds : List (Nat × Nat)} {us u2 : List (Nat × Nat)} {lu lo i : Nat} {os o2 : List ((Nat × Nat) × Bool)} {st π : List Nat} {bs : List ((Int × Int) × (Nat × Nat) × Bool)} {i2 i3 i4 : Nat} {us28 : List (Nat × Nat)} {e28 : Int} (h0 : HLwArAspecA L n (.spec 20 [(.agg [(.v (.int .i64 (rate))), (.v (.int .i64 (delay))), (.lst 1 (List.map celC ts)), (.lst 1 (List.map celC es))]), (.lst 1 (List.map celC xs)), (.lst 1 (List.map celC vs)), (.v (.int .i64 (nn)))] (.tup [(.own 1 (List.map celC us28) true), (.v (.int .i64 (e28)))]))) (h1 : (e28 != 0) = false) (h2 : (decide ((↑(List.map celC ds).length : Int) > 65536)) = false) (h3 : (decide ((↑(List.map celBu bs).length : Int) > 5000)) = false) (h4 : HLwArAspecA L n (.loop 0 [3, 4, 5, 14, 16] m32b3 [24] (.mk [(3, (.lst 1 (List.map celC ds))), (4, (.lst 4 (List.map celBu bs))), (5, (.v (.int .i64 (nn)))), (14, (.slc (.mk 0 28 0) [1, 7] 1 0 (List.length (List.map celC us28)) false)), (16, (.v (.int .i64 0)))] [((.mk 0 28 0), (.mk [1, 7] (List.map celC us28) 1 true))] 0) (.exit 0) (.mk [(3, (.lst 1 (List.map celC ds))), (4, (.lst 4 (List.map celBu bs))), (5, (.v (.int .i64 (nn)))), (14, (.slc (.mk 0 28 0) [1, 7] 1 0 (lu) false)), (16, (.v (.int .i64 ((↑i : Int)))))] [((.mk 0 28 0), (.mk [1, 7] (List.map celC us) 1 true))] 0))) (h5 : HLwArAspecA L n (.loop 0 [3, 4, 5, 14, 17] m32b2 [26] (.mk [(3, (.lst 1 (List.map celC ds))), (4, (.lst 4 (List.map celBu bs))), (5, (.v (.int .i64 (nn)))), (14, (.slc (.mk 0 28 0) [1, 7] 1 0 (lu) false)), (17, (.v (.int .i64 0)))] [((.mk 0 28 0), (.mk [1, 7] (List.map celC us) 1 true))] 0) (.exit 2) (.mk [(3, (.lst 1 (List.map celC ds))), (4, (.lst 4 (List.map celBu bs))), (5, (.v (.int .i64 (nn)))), (14, (.slc (.mk 0 28 0) [1, 7] 1 0 (lu) false)), (17, (.v (.int .i64 ((↑i2 : Int)))))] [((.mk 0 28 0), (.mk [1, 7] (List.map celC us) 1 true))] 0))) (h6 : HLwArAspecA L n (.loop 0 [3, 4, 5, 14, 18, 19] m32b1 [29] (.mk [(3, (.lst 1 (List.map celC ds))), (4, (.lst 4 (List.map celBu bs))), (5, (.v (.int .i64 (nn)))), (14, (.slc (.mk 0 28 0) [1, 7] 1 0 (lu) false)), (18, (.slc (.mk 0 18 1000) [29] 2 0 0 false)), (19, (.v (.int .i64 0)))] [((.mk 0 18 1000), (.mk [29] [] 2 true)), ((.mk 0 28 0), (.mk [1, 7] (List.map celC us) 1 true))] 0) (.exit 4) (.mk [(3, (.lst 1 (List.map celC ds))), (4, (.lst 4 (List.map celBu bs))), (5, (.v (.int .i64 (nn)))), (14, (.slc (.mk 0 28 0) [1, 7] 1 0 (lu) false)), (18, (.slc (.mk 0 18 1000) (st) 2 0 (lo) false)), (19, (.v (.int .i64 ((↑i3 : Int)))))] [((.mk 0 18 1000), (.mk (st) (List.map celS os) 2 true)), ((.mk 0 28 0), (.mk [1, 7] (List.map celC us) 1 true))] 0))) (h7 : HLwArAspecA L n (.le (lo) (List.length (List.map celS os)))) : den ⟨fnOf, specA, L⟩ (n+1) 32 [.agg [.int .i64 rate, .int .i64 delay, .lst 1 (ts.map celC), .lst 1 (es.map celC)], .lst 1 (xs.map celC), .lst 1 (vs.map celC), .lst 1 (ds.map celC), .lst 4 (bs.map celBu), .int .i64 nn] = some (.tup [(.own 2 (List.take (lo) (List.map celS os)) true), (.v (.int .i64 0))]) :=
  denD_sound (q := [((some 28), (Dec.call (.tup [(.own 1 (List.map celC us28) true), (.v (.int .i64 (e28)))]))), ((some 32), (Dec.b false)), ((some 37), (Dec.b false)), ((some 41), (Dec.b false)), ((some 200003), (Dec.loop (.exit 0) (.mk [(3, (.lst 1 (List.map celC ds))), (4, (.lst 4 (List.map celBu bs))), (5, (.v (.int .i64 (nn)))), (14, (.slc (.mk 0 28 0) [1, 7] 1 0 (lu) false)), (16, (.v (.int .i64 ((↑i : Int)))))] [((.mk 0 28 0), (.mk [1, 7] (List.map celC us) 1 true))] 0))), ((some 200002), (Dec.loop (.exit 2) (.mk [(3, (.lst 1 (List.map celC ds))), (4, (.lst 4 (List.map celBu bs))), (5, (.v (.int .i64 (nn)))), (14, (.slc (.mk 0 28 0) [1, 7] 1 0 (lu) false)), (17, (.v (.int .i64 ((↑i2 : Int)))))] [((.mk 0 28 0), (.mk [1, 7] (List.map celC us) 1 true))] 0))), ((some 200001), (Dec.loop (.exit 4) (.mk [(3, (.lst 1 (List.map celC ds))), (4, (.lst 4 (List.map celBu bs))), (5, (.v (.int .i64 (nn)))), (14, (.slc (.mk 0 28 0) [1, 7] 1 0 (lu) false)), (18, (.slc (.mk 0 18 1000) (st) 2 0 (lo) false)), (19, (.v (.int .i64 ((↑i3 : Int)))))] [((.mk 0 18 1000), (.mk (st) (List.map celS os) 2 true)), ((.mk 0 28 0), (.mk [1, 7] (List.map celC us) 1 true))] 0)))]) (by kernel_rfl) (hcLwArA (c := (.st [0] [0])) rfl (hcLwArA h0 (hbLwArA h1 (hbLwArA h2 (hbLwArA h3 (hcLwArA h4 (hcLwArA h5 (hcLwArA h6 (hcLwArA (c := (.st (st) (st))) rfl (hcLwArA h7 hnLwArA))))))))))
theorem aqp_3 {L n : Nat} {rate delay nn : Int} {ts es xs vs ds : List (Nat × Nat)} {us u2 : List (Nat × Nat)} {lu lo i : Nat} {os o2 : List ((Nat × Nat) × Bool)} {st π : List Nat} {bs : List ((Int × Int) × (Nat × Nat) × Bool)} {s : St} {v : AV} {us32 : List (Nat × Nat)} {e32 : Int} (h0 : HLwArAspecA L n (.spec 19 [(.agg [(.v (.int .i64 (rate))), (.v (.int .i64 (delay))), (.lst 1 (List.map celC ts)), (.lst 1 (List.map celC es))]), (.lst 1 (List.map celC xs)), (.lst 1 (List.map celC vs)), (.v (.int .i64 (nn)))] (.tup [(.own 1 (List.map celC us32) true), (.v (.int .i64 (e32)))]))) (h1 : (e32 != 0) = false) (h2 : (decide ((↑(List.map celC ds).length : Int) > 65536)) = false) (h3 : (decide ((↑(List.map celBu bs).length : Int) > 5000)) = false) (h4 : HLwArAspecA L n (.loop 0 [3, 4, 5, 14, 46, 47, 48] m31b4 [26] (.mk [(3, (.lst 1 (List.map celC ds))), (4, (.lst 4 (List.map celBu bs))), (5, (.v (.int .i64 (nn)))), (14, (.slc (.mk 0 32 0) [1, 7] 1 0 (List.length (List.map celC us32)) false)), (46, (.lst 4 (List.map celBu bs))), (47, (.v (.int .i64 ((↑(List.map celBu bs).length : Int))))), (48, (.v (.int .i64 0)))] [((.mk 0 32 0), (.mk [1, 7] (List.map celC us32) 1 true))] 0) .ret (s))) (hv : outS s m31.res = some v) : den ⟨fnOf, specA, L⟩ (n+1) 31 [.agg [.int .i64 rate, .int .i64 delay, .lst 1 (ts.map celC), .lst 1 (es.map celC)], .lst 1 (xs.map celC), .lst 1 (vs.map celC), .lst 1 (ds.map celC), .lst 4 (bs.map celBu), .int .i64 nn] = some v :=
  tailD_sound (q := [((some 32), (Dec.call (.tup [(.own 1 (List.map celC us32) true), (.v (.int .i64 (e32)))]))), ((some 36), (Dec.b false)), ((some 41), (Dec.b false)), ((some 45), (Dec.b false)), ((some 200004), (Dec.loop .ret (s)))]) (k := 27) (by kernel_rfl) rfl (hcLwArA (c := (.st [0] [0])) rfl (hcLwArA h0 (hbLwArA h1 (hbLwArA h2 (hbLwArA h3 (hcLwArA h4 hnLwArA)))))) hv
theorem aqd_3 {L n : Nat} {rate delay nn : Int} {ts es xs vs ds : List (Nat × Nat)} {us u2 : List (Nat × Nat)} {lu lo i : Nat} {os o2 : List ((Nat × Nat) × Bool)} {st π : List Nat} {bs : List ((Int × Int) × (Nat × Nat) × Bool)} {s : St} {v : AV} {us28 : List (Nat × Nat)} {e28 : Int} (h0 : HLwArAspecA L n (.spec 20 [(.agg [(.v (.int .i64 (rate))), (.v (.int .i64 (delay))), (.lst 1 (List.map celC ts)), (.lst 1 (List.map celC es))]), (.lst 1 (List.map celC xs)), (.lst 1 (List.map celC vs)), (.v (.int .i64 (nn)))] (.tup [(.own 1 (List.map celC us28) true), (.v (.int .i64 (e28)))]))) (h1 : (e28 != 0) = false) (h2 : (decide ((↑(List.map celC ds).length : Int) > 65536)) = false) (h3 : (decide ((↑(List.map celBu bs).length : Int) > 5000)) = false) (h4 : HLwArAspecA L n (.loop 0 [3, 4, 5, 14, 16] m32b3 [24] (.mk [(3, (.lst 1 (List.map celC ds))), (4, (.lst 4 (List.map celBu bs))), (5, (.v (.int .i64 (nn)))), (14, (.slc (.mk 0 28 0) [1, 7] 1 0 (List.length (List.map celC us28)) false)), (16, (.v (.int .i64 0)))] [((.mk 0 28 0), (.mk [1, 7] (List.map celC us28) 1 true))] 0) .ret (s))) (hv : outS s m32.res = some v) : den ⟨fnOf, specA, L⟩ (n+1) 32 [.agg [.int .i64 rate, .int .i64 delay, .lst 1 (ts.map celC), .lst 1 (es.map celC)], .lst 1 (xs.map celC), .lst 1 (vs.map celC), .lst 1 (ds.map celC), .lst 4 (bs.map celBu), .int .i64 nn] = some v :=
  tailD_sound (q := [((some 28), (Dec.call (.tup [(.own 1 (List.map celC us28) true), (.v (.int .i64 (e28)))]))), ((some 32), (Dec.b false)), ((some 37), (Dec.b false)), ((some 41), (Dec.b false)), ((some 200003), (Dec.loop .ret (s)))]) (k := 25) (by kernel_rfl) rfl (hcLwArA (c := (.st [0] [0])) rfl (hcLwArA h0 (hbLwArA h1 (hbLwArA h2 (hbLwArA h3 (hcLwArA h4 hnLwArA)))))) hv
theorem aup_3 {L n : Nat} {rate delay nn : Int} {ts es xs vs ds : List (Nat × Nat)} {us u2 : List (Nat × Nat)} {lu lo i : Nat} {os o2 : List ((Nat × Nat) × Bool)} {st π : List Nat} {bs : List ((Int × Int) × (Nat × Nat) × Bool)} {s : St} {v : AV} {us32 : List (Nat × Nat)} {e32 : Int} (h0 : HLwArAspecA L n (.spec 19 [(.agg [(.v (.int .i64 (rate))), (.v (.int .i64 (delay))), (.lst 1 (List.map celC ts)), (.lst 1 (List.map celC es))]), (.lst 1 (List.map celC xs)), (.lst 1 (List.map celC vs)), (.v (.int .i64 (nn)))] (.tup [(.own 1 (List.map celC us32) true), (.v (.int .i64 (e32)))]))) (h1 : (e32 != 0) = false) (h2 : (decide ((↑(List.map celC ds).length : Int) > 65536)) = false) (h3 : (decide ((↑(List.map celBu bs).length : Int) > 5000)) = false) (h4 : HLwArAspecA L n (.loop 0 [3, 4, 5, 14, 46, 47, 48] m31b4 [26] (.mk [(3, (.lst 1 (List.map celC ds))), (4, (.lst 4 (List.map celBu bs))), (5, (.v (.int .i64 (nn)))), (14, (.slc (.mk 0 32 0) [1, 7] 1 0 (List.length (List.map celC us32)) false)), (46, (.lst 4 (List.map celBu bs))), (47, (.v (.int .i64 ((↑(List.map celBu bs).length : Int))))), (48, (.v (.int .i64 0)))] [((.mk 0 32 0), (.mk [1, 7] (List.map celC us32) 1 true))] 0) (.exit 0) (.mk [(3, (.lst 1 (List.map celC ds))), (4, (.lst 4 (List.map celBu bs))), (5, (.v (.int .i64 (nn)))), (14, (.slc (.mk 0 32 0) [1, 7] 1 0 (lu) false)), (46, (.lst 4 (List.map celBu bs))), (47, (.v (.int .i64 ((↑(List.map celBu bs).length : Int))))), (48, (.v (.int .i64 ((↑i : Int)))))] [((.mk 0 32 0), (.mk [1, 7] (List.map celC us) 1 true))] 0))) (h5 : HLwArAspecA L n (.loop 0 [4, 5, 14, 61, 62, 63] m31b3 [30] (.mk [(4, (.lst 4 (List.map celBu bs))), (5, (.v (.int .i64 (nn)))), (14, (.slc (.mk 0 32 0) [1, 7] 1 0 (lu) false)), (61, (.lst 1 (List.map celC ds))), (62, (.v (.int .i64 ((↑(List.map celC ds).length : Int))))), (63, (.v (.int .i64 0)))] [((.mk 0 32 0), (.mk [1, 7] (List.map celC us) 1 true))] 0) .ret (s))) (hv : outS s m31.res = some v) : den ⟨fnOf, specA, L⟩ (n+1) 31 [.agg [.int .i64 rate, .int .i64 delay, .lst 1 (ts.map celC), .lst 1 (es.map celC)], .lst 1 (xs.map celC), .lst 1 (vs.map celC), .lst 1 (ds.map celC), .lst 4 (bs.map celBu), .int .i64 nn] = some v :=
  tailD_sound (q := [((some 32), (Dec.call (.tup [(.own 1 (List.map celC us32) true), (.v (.int .i64 (e32)))]))), ((some 36), (Dec.b false)), ((some 41), (Dec.b false)), ((some 45), (Dec.b false)), ((some 200004), (Dec.loop (.exit 0) (.mk [(3, (.lst 1 (List.map celC ds))), (4, (.lst 4 (List.map celBu bs))), (5, (.v (.int .i64 (nn)))), (14, (.slc (.mk 0 32 0) [1, 7] 1 0 (lu) false)), (46, (.lst 4 (List.map celBu bs))), (47, (.v (.int .i64 ((↑(List.map celBu bs).length : Int))))), (48, (.v (.int .i64 ((↑i : Int)))))] [((.mk 0 32 0), (.mk [1, 7] (List.map celC us) 1 true))] 0))), ((some 200003), (Dec.loop .ret (s)))]) (k := 31) (by kernel_rfl) rfl (hcLwArA (c := (.st [0] [0])) rfl (hcLwArA h0 (hbLwArA h1 (hbLwArA h2 (hbLwArA h3 (hcLwArA h4 (hcLwArA h5 hnLwArA))))))) hv
theorem aud_3 {L n : Nat} {rate delay nn : Int} {ts es xs vs ds : List (Nat × Nat)} {us u2 : List (Nat × Nat)} {lu lo i : Nat} {os o2 : List ((Nat × Nat) × Bool)} {st π : List Nat} {bs : List ((Int × Int) × (Nat × Nat) × Bool)} {s : St} {v : AV} {us28 : List (Nat × Nat)} {e28 : Int} (h0 : HLwArAspecA L n (.spec 20 [(.agg [(.v (.int .i64 (rate))), (.v (.int .i64 (delay))), (.lst 1 (List.map celC ts)), (.lst 1 (List.map celC es))]), (.lst 1 (List.map celC xs)), (.lst 1 (List.map celC vs)), (.v (.int .i64 (nn)))] (.tup [(.own 1 (List.map celC us28) true), (.v (.int .i64 (e28)))]))) (h1 : (e28 != 0) = false) (h2 : (decide ((↑(List.map celC ds).length : Int) > 65536)) = false) (h3 : (decide ((↑(List.map celBu bs).length : Int) > 5000)) = false) (h4 : HLwArAspecA L n (.loop 0 [3, 4, 5, 14, 16] m32b3 [24] (.mk [(3, (.lst 1 (List.map celC ds))), (4, (.lst 4 (List.map celBu bs))), (5, (.v (.int .i64 (nn)))), (14, (.slc (.mk 0 28 0) [1, 7] 1 0 (List.length (List.map celC us28)) false)), (16, (.v (.int .i64 0)))] [((.mk 0 28 0), (.mk [1, 7] (List.map celC us28) 1 true))] 0) (.exit 0) (.mk [(3, (.lst 1 (List.map celC ds))), (4, (.lst 4 (List.map celBu bs))), (5, (.v (.int .i64 (nn)))), (14, (.slc (.mk 0 28 0) [1, 7] 1 0 (lu) false)), (16, (.v (.int .i64 ((↑i : Int)))))] [((.mk 0 28 0), (.mk [1, 7] (List.map celC us) 1 true))] 0))) (h5 : HLwArAspecA L n (.loop 0 [3, 4, 5, 14, 17] m32b2 [26] (.mk [(3, (.lst 1 (List.map celC ds))), (4, (.lst 4 (List.map celBu bs))), (5, (.v (.int .i64 (nn)))), (14, (.slc (.mk 0 28 0) [1, 7] 1 0 (lu) false)), (17, (.v (.int .i64 0)))] [((.mk 0 28 0), (.mk [1, 7] (List.map celC us) 1 true))] 0) .ret (s))) (hv : outS s m32.res = some v) : den ⟨fnOf, specA, L⟩ (n+1) 32 [.agg [.int .i64 rate, .int .i64 delay, .lst 1 (ts.map celC), .lst 1 (es.map celC)], .lst 1 (xs.map celC), .lst 1 (vs.map celC), .lst 1 (ds.map celC), .lst 4 (bs.map celBu), .int .i64 nn] = some v :=
  tailD_sound (q := [((some 28), (Dec.call (.tup [(.own 1 (List.map celC us28) true), (.v (.int .i64 (e28)))]))), ((some 32), (Dec.b false)), ((some 37), (Dec.b false)), ((some 41), (Dec.b false)), ((some 200003), (Dec.loop (.exit 0) (.mk [(3, (.lst 1 (List.map celC ds))), (4, (.lst 4 (List.map celBu bs))), (5, (.v (.int .i64 (nn)))), (14, (.slc (.mk 0 28 0) [1, 7] 1 0 (lu) false)), (16, (.v (.int .i64 ((↑i : Int)))))] [((.mk 0 28 0), (.mk [1, 7] (List.map celC us) 1 true))] 0))), ((some 200002), (Dec.loop .ret (s)))]) (k := 27) (by kernel_rfl) rfl (hcLwArA (c := (.st [0] [0])) rfl (hcLwArA h0 (hbLwArA h1 (hbLwArA h2 (hbLwArA h3 (hcLwArA h4 (hcLwArA h5 hnLwArA))))))) hv
theorem arv_0 {L n : Nat} {rate delay nn : Int} {ts es xs vs ds : List (Nat × Nat)} {us u2 : List (Nat × Nat)} {lu lo i : Nat} {os o2 : List ((Nat × Nat) × Bool)} {st π : List Nat} {bs : List ((Int × Int) × (Nat × Nat) × Bool)} {x50 : (Int × Int) × (Nat × Nat) × Bool} (h0 : (decide ((↑i : Int) < (↑(List.map celBu bs).length : Int))) = true) (h1 : HLwArAspecA L n (.el (List.map celBu bs) (.v (.int .i64 ((↑i : Int)))) [(.v (.int .i64 (x50.fst.fst))), (.v (.int .i64 (x50.fst.snd))), (.cpx (x50.snd.fst.fst) (x50.snd.fst.snd)), (.v (.bool (x50.snd.snd)))])) (h2 : (decide (x50.fst.fst < 0)) = true) : seeZ 0 [3, 4, 5, 14, 46, 47, 48] m31.res (bodyOf ⟨fnOf, specA, L⟩ (runF ⟨fnOf, specA, L⟩ n) 0 m31b4 (i :: π) (arV ds us bs nn lu i : St)) = some (RO.out (.tup [.nils, (.v (.int .i64 1))])) :=
  rndZ_sound (q := [((some 49), (Dec.b true)), ((some 50), (Dec.el [(.v (.int .i64 (x50.fst.fst))), (.v (.int .i64 (x50.fst.snd))), (.cpx (x50.snd.fst.fst) (x50.snd.fst.snd)), (.v (.bool (x50.snd.snd)))])), ((some 55), (Dec.b true))]) (by kernel_rfl) (hbLwArA h0 (hcLwArA h1 (hcLwArA (c := (.st ([3, (i)] ++ (π)) ([3, (i)] ++ (π)))) rfl (hcLwArA (c := (.st ([3, (i)] ++ (π)) ([3, (i)] ++ (π)))) rfl (hbLwArA h2 hnLwArA)))))
theorem arv_1 {L n : Nat} {rate delay nn : Int} {ts es xs vs ds : List (Nat × Nat)} {us u2 : List (Nat × Nat)} {lu lo i : Nat} {os o2 : List ((Nat × Nat) × Bool)} {st π : List Nat} {bs : List ((Int × Int) × (Nat × Nat) × Bool)} {x50 : (Int × Int) × (Nat × Nat) × Bool} (h0 : (decide ((↑i : Int) < (↑(List.map celBu bs).length : Int))) = true) (h1 : HLwArAspecA L n (.el (List.map celBu bs) (.v (.int .i64 ((↑i : Int)))) [(.v (.int .i64 (x50.fst.fst))), (.v (.int .i64 (x50.fst.snd))), (.cpx (x50.snd.fst.fst) (x50.snd.fst.snd)), (.v (.bool (x50.snd.snd)))])) (h2 : (decide (x50.fst.fst < 0)) = false) (h3 : (decide (x50.fst.snd < 0)) = true) : seeZ 0 [3, 4, 5, 14, 46, 47, 48] m31.res (bodyOf ⟨fnOf, specA, L⟩ (runF ⟨fnOf, specA, L⟩ n) 0 m31b4 (i :: π) (arV ds us bs nn lu i : St)) = some (RO.out (.tup [.nils, (.v (.int .i64 1))])) :=
  rndZ_sound (q := [((some 49), (Dec.b true)), ((some 50), (Dec.el [(.v (.int .i64 (x50.fst.fst))), (.v (.int .i64 (x50.fst.snd))), (.cpx (x50.snd.fst.fst) (x50.snd.fst.snd)), (.v (.bool (x50.snd.snd)))])), ((some 55), (Dec.b false)), ((some 59), (Dec.b true))]) (by kernel_rfl) (hbLwArA h0 (hcLwArA h1 (hcLwArA (c := (.st ([3, (i)] ++ (π)) ([3, (i)] ++ (π)))) rfl (hcLwArA (c := (.st ([3, (i)] ++ (π)) ([3, (i)] ++ (π)))) rfl (hbLwArA h2 (hcLwArA (c := (.st ([3, (i)] ++ (π)) ([3, (i)] ++ (π)))) rfl (hbLwArA h3 hnLwArA)))))))
theorem arv_2 {L n : Nat} {rate delay nn : Int} {ts es xs vs ds : List (Nat × Nat)} {us u2 : List (Nat × Nat)} {lu lo i : Nat} {os o2 : List ((Nat × Nat) × Bool)} {st π : List Nat} {bs : List ((Int × Int) × (Nat × Nat) × Bool)} {x50 : (Int × Int) × (Nat × Nat) × Bool} (h0 : (decide ((↑i : Int) < (↑(List.map celBu bs).length : Int))) = true) (h1 : HLwArAspecA L n (.el (List.map celBu bs) (.v (.int .i64 ((↑i : Int)))) [(.v (.int .i64 (x50.fst.fst))), (.v (.int .i64 (x50.fst.snd))), (.cpx (x50.snd.fst.fst) (x50.snd.fst.snd)), (.v (.bool (x50.snd.snd)))])) (h2 : (decide (x50.fst.fst < 0)) = false) (h3 : (decide (x50.fst.snd < 0)) = false) : seeZ 0 [3, 4, 5, 14, 46, 47, 48] m31.res (bodyOf ⟨fnOf, specA, L⟩ (runF ⟨fnOf, specA, L⟩ n) 0 m31b4 (i :: π) (arV ds us bs nn lu i : St)) = some (RO.go .nrm (.mk [(3, (.lst 1 (List.map celC ds))), (4, (.lst 4 (List.map celBu bs))), (5, (.v (.int .i64 (nn)))), (14, (.slc (.mk 0 32 0) [1, 7] 1 0 (lu) false)), (46, (.lst 4 (List.map celBu bs))), (47, (.v (.int .i64 ((↑(List.map celBu bs).length : Int))))), (48, (.v (.int .i64 (IntKind.wrap .i64 ((↑i : Int) + 1)))))] [((.mk 0 32 0), (.mk [1, 7] (List.map celC us) 1 true))] 0)) :=
  rndZ_sound (q := [((some 49), (Dec.b true)), ((some 50), (Dec.el [(.v (.int .i64 (x50.fst.fst))), (.v (.int .i64 (x50.fst.snd))), (.cpx (x50.snd.fst.fst) (x50.snd.fst.snd)), (.v (.bool (x50.snd.snd)))])), ((some 55), (Dec.b false)), ((some 59), (Dec.b false))]) (by kernel_rfl) (hbLwArA h0 (hcLwArA h1 (hcLwArA (c := (.st ([3, (i)] ++ (π)) ([3, (i)] ++ (π)))) rfl (hcLwArA (c := (.st ([3, (i)] ++ (π)) ([3, (i)] ++ (π)))) rfl (hbLwArA h2 (hcLwArA (c := (.st ([3, (i)] ++ (π)) ([3, (i)] ++ (π)))) rfl (hbLwArA h3 hnLwArA)))))))
theorem arv_3 {L n : Nat} {rate delay nn : Int} {ts es xs vs ds : List (Nat × Nat)} {us u2 : List (Nat × Nat)} {lu lo i : Nat} {os o2 : List ((Nat × Nat) × Bool)} {st π : List Nat} {bs : List ((Int × Int) × (Nat × Nat) × Bool)} (h0 : (decide ((↑i : Int) < (↑(List.map celBu bs).length : Int))) = false) : seeZ 0 [3, 4, 5, 14, 46, 47, 48] m31.res (bodyOf ⟨fnOf, specA, L⟩ (runF ⟨fnOf, specA, L⟩ n) 0 m31b4 (i :: π) (arV ds us bs nn lu i : St)) = some (RO.go (.exit 0) (.mk [(3, (.lst 1 (List.map celC ds))), (4, (.lst 4 (List.map celBu bs))), (5, (.v (.int .i64 (nn)))), (14, (.slc (.mk 0 32 0) [1, 7] 1 0 (lu) false)), (46, (.lst 4 (List.map celBu bs))), (47, (.v (.int .i64 ((↑(List.map celBu bs).length : Int))))), (48, (.v (.int .i64 ((↑i : Int)))))] [((.mk 0 32 0), (.mk [1, 7] (List.map celC us) 1 true))] 0)) :=
  rndZ_sound (q := [((some 49), (Dec.b false))]) (by kernel_rfl) (hbLwArA h0 hnLwArA)
theorem adv_0 {L n : Nat} {rate delay nn : Int} {ts es xs vs ds : List (Nat × Nat)} {us u2 : List (Nat × Nat)} {lu lo i : Nat} {os o2 : List ((Nat × Nat) × Bool)} {st π : List Nat} {bs : List ((Int × Int) × (Nat × Nat) × Bool)} {x50 : (Int × Int) × (Nat × Nat) × Bool} (h0 : (decide ((↑i : Int) < (↑(List.map celBu bs).length : Int))) = true) (h1 : HLwArAspecA L n (.el (List.map celBu bs) (.v (.int .i64 ((↑i : Int)))) [(.v (.int .i64 (x50.fst.fst))), (.v (.int .i64 (x50.fst.snd))), (.cpx (x50.snd.fst.fst) (x50.snd.fst.snd)), (.v (.bool (x50.snd.snd)))])) (h2 : (decide (x50.fst.fst < 0)) = true) : seeZ 0 [3, 4, 5, 14, 16] m32.res (bodyOf ⟨fnOf, specA, L⟩ (runF ⟨fnOf, specA, L⟩ n) 0 m32b3 (i :: π) (adV ds us bs nn lu i : St)) = some (RO.out (.tup [.nils, (.v (.int .i64 1))])) :=
  rndZ_sound (q := [((some 45), (Dec.b true)), ((some 50), (Dec.el [(.v (.int .i64 (x50.fst.fst))), (.v (.int .i64 (x50.fst.snd))), (.cpx (x50.snd.fst.fst) (x50.snd.fst.snd)), (.v (.bool (x50.snd.snd)))])), ((some 54), (Dec.b true))]) (by kernel_rfl) (hbLwArA h0 (hcLwArA h1 (hbLwArA h2 hnLwArA)))
theorem adv_1 {L n : Nat} {rate delay nn : Int} {ts es xs vs ds : List (Nat × Nat)} {us u2 : List (Nat × Nat)} {lu lo i : Nat} {os o2 : List ((Nat × Nat) × Bool)} {st π : List Nat} {bs : List ((Int × Int) × (Nat × Nat) × Bool)} {x50 : (Int × Int) × (Nat × Nat) × Bool} {x57 : (Int × Int) × (Nat × Nat) × Bool} (h0 : (decide ((↑i : Int) < (↑(List.map celBu bs).length : Int))) = true) (h1 : HLwArAspecA L n (.el (List.map celBu bs) (.v (.int .i64 ((↑i : Int)))) [(.v (.int .i64 (x50.fst.fst))), (.v (.int .i64 (x50.fst.snd))), (.cpx (x50.snd.fst.fst) (x50.snd.fst.snd)), (.v (.bool (x50.snd.snd)))])) (h2 : (decide (x50.fst.fst < 0)) = false) (h3 : HLwArAspecA L n (.el (List.map celBu bs) (.v (.int .i64 ((↑i : Int)))) [(.v (.int .i64 (x57.fst.fst))), (.v (.int .i64 (x57.fst.snd))), (.cpx (x57.snd.fst.fst) (x57.snd.fst.snd)), (.v (.bool (x57.snd.snd)))])) (h4 : (decide (x57.fst.snd < 0)) = true) : seeZ 0 [3, 4, 5, 14, 16] m32.res (bodyOf ⟨fnOf, specA, L⟩ (runF ⟨fnOf, specA, L⟩ n) 0 m32b3 (i :: π) (adV ds us bs nn lu i : St)) = some (RO.out (.tup [.nils, (.v (.int .i64 1))])) :=
  rndZ_sound (q := [((some 45), (Dec.b true)), ((some 50), (Dec.el [(.v (.int .i64 (x50.fst.fst))), (.v (.int .i64 (x50.fst.snd))), (.cpx (x50.snd.fst.fst) (x50.snd.fst.snd)), (.v (.bool (x50.snd.snd)))])), ((some 54), (Dec.b false)), ((some 57), (Dec.el [(.v (.int .i64 (x57.fst.fst))), (.v (.int .i64 (x57.fst.snd))), (.cpx (x57.snd.fst.fst) (x57.snd.fst.snd)), (.v (.bool (x57.snd.snd)))])), ((some 61), (Dec.b true))]) (by kernel_rfl) (hbLwArA h0 (hcLwArA h1 (hbLwArA h2 (hcLwArA h3 (hbLwArA h4 hnLwArA)))))
theorem adv_2 {L n : Nat} {rate delay nn : Int} {ts es xs vs ds : List (Nat × Nat)} {us u2 : List (Nat × Nat)} {lu lo i : Nat} {os o2 : List ((Nat × Nat) × Bool)} {st π : List Nat} {bs : List ((Int × Int) × (Nat × Nat) × Bool)} {x50 : (Int × Int) × (Nat × Nat) × Bool} {x57 : (Int × Int) × (Nat × Nat) × Bool} (h0 : (decide ((↑i : Int) < (↑(List.map celBu bs).length : Int))) = true) (h1 : HLwArAspecA L n (.el (List.map celBu bs) (.v (.int .i64 ((↑i : Int)))) [(.v (.int .i64 (x50.fst.fst))), (.v (.int .i64 (x50.fst.snd))), (.cpx (x50.snd.fst.fst) (x50.snd.fst.snd)), (.v (.bool (x50.snd.snd)))])) (h2 : (decide (x50.fst.fst < 0)) = false) (h3 : HLwArAspecA L n (.el (List.map celBu bs) (.v (.int .i64 ((↑i : Int)))) [(.v (.int .i64 (x57.fst.fst))), (.v (.int .i64 (x57.fst.snd))), (.cpx (x57.snd.fst.fst) (x57.snd.fst.snd)), (.v (.bool (x57.snd.snd)))])) (h4 : (decide (x57.fst.snd < 0)) = false) : seeZ 0 [3, 4, 5, 14, 16] m32.res (bodyOf ⟨fnOf, specA, L⟩ (runF ⟨fnOf, specA, L⟩ n) 0 m32b3 (i :: π) (adV ds us bs nn lu i : St)) = some (RO.go .nrm (.mk [(3, (.lst 1 (List.map celC ds))), (4, (.lst 4 (List.map celBu bs))), (5, (.v (.int .i64 (nn)))), (14, (.slc (.mk 0 28 0) [1, 7] 1 0 (lu) false)), (16, (.v (.int .i64 (IntKind.wrap .i64 ((↑i : Int) + 1)))))] [((.mk 0 28 0), (.mk [1, 7] (List.map celC us) 1 true))] 0)) :=
  rndZ_sound (q := [((some 45), (Dec.b true)), ((some 50), (Dec.el [(.v (.int .i64 (x50.fst.fst))), (.v (.int .i64 (x50.fst.snd))), (.cpx (x50.snd.fst.fst) (x50.snd.fst.snd)), (.v (.bool (x50.snd.snd)))])), ((some 54), (Dec.b false)), ((some 57), (Dec.el [(.v (.int .i64 (x57.fst.fst))), (.v (.int .i64 (x57.fst.snd))), (.cpx (x57.snd.fst.fst) (x57.snd.fst.snd)), (.v (.bool (x57.snd.snd)))])), ((some 61), (Dec.b false))]) (by kernel_rfl) (hbLwArA h0 (hcLwArA h1 (hbLwArA h2 (hcLwArA h3 (hbLwArA h4 hnLwArA)))))
theorem adv_3 {L n : Nat} {rate delay nn : Int} {ts es xs vs ds : List (Nat × Nat)} {us u2 : List (Nat × Nat)} {lu lo i : Nat} {os o2 : List ((Nat × Nat) × Bool)} {st π : List Nat} {bs : List ((Int × Int) × (Nat × Nat) × Bool)} (h0 : (decide ((↑i : Int) < (↑(List.map celBu bs).length : Int))) = false) : seeZ 0 [3, 4, 5, 14, 16] m32.res (bodyOf ⟨fnOf, specA, L⟩ (runF ⟨fnOf, specA, L⟩ n) 0 m32b3 (i :: π) (adV ds us bs nn lu i : St)) = some (RO.go (.exit 0) (.mk [(3, (.lst 1 (List.map celC ds))), (4, (.lst 4 (List.map celBu bs))), (5, (.v (.int .i64 (nn)))), (14, (.slc (.mk 0 28 0) [1, 7] 1 0 (lu) false)), (16, (.v (.int .i64 ((↑i : Int)))))] [((.mk 0 28 0), (.mk [1, 7] (List.map celC us) 1 true))] 0)) :=
  rndZ_sound (q := [((some 45), (Dec.b false))]) (by kernel_rfl) (hbLwArA h0 hnLwArA)
theorem are_0 {L n : Nat} {rate delay nn : Int} {ts es xs vs ds : List (Nat × Nat)} {us u2 : List (Nat × Nat)} {lu lo i : Nat} {os o2 : List ((Nat × Nat) × Bool)} {st π : List Nat} {bs : List ((Int × Int) × (Nat × Nat) × Bool)} {x66 : Nat × Nat} (h0 : (decide ((↑i : Int) < (↑(List.map celC ds).length : Int))) = true) (h1 : HLwArAspecA L n (.el (List.map celC ds) (.v (.int .i64 ((↑i : Int)))) [(AV.cpx (x66.fst) (x66.snd))])) (h2 : (!onD x66.fst) = true) : seeZ 0 [4, 5, 14, 61, 62, 63] m31.res (bodyOf ⟨fnOf, specA, L⟩ (runF ⟨fnOf, specA, L⟩ n) 0 m31b3 (i :: π) (arD ds us bs nn lu i : St)) = some (RO.out (.tup [.nils, (.v (.int .i64 7))])) :=
  rndZ_sound (q := [((some 64), (Dec.b true)), ((some 66), (Dec.el [(AV.cpx (x66.fst) (x66.snd))])), ((some 72), (Dec.b true))]) (by kernel_rfl) (hbLwArA h0 (hcLwArA h1 (hbLwArA h2 hnLwArA)))
theorem are_1 {L n : Nat} {rate delay nn : Int} {ts es xs vs ds : List (Nat × Nat)} {us u2 : List (Nat × Nat)} {lu lo i : Nat} {os o2 : List ((Nat × Nat) × Bool)} {st π : List Nat} {bs : List ((Int × Int) × (Nat × Nat) × Bool)} {x66 : Nat × Nat} (h0 : (decide ((↑i : Int) < (↑(List.map celC ds).length : Int))) = true) (h1 : HLwArAspecA L n (.el (List.map celC ds) (.v (.int .i64 ((↑i : Int)))) [(AV.cpx (x66.fst) (x66.snd))])) (h2 : (!onD x66.fst) = false) (h3 : (!onD x66.snd) = true) : seeZ 0 [4, 5, 14, 61, 62, 63] m31.res (bodyOf ⟨fnOf, specA, L⟩ (runF ⟨fnOf, specA, L⟩ n) 0 m31b3 (i :: π) (arD ds us bs nn lu i : St)) = some (RO.out (.tup [.nils, (.v (.int .i64 7))])) :=
  rndZ_sound (q := [((some 64), (Dec.b true)), ((some 66), (Dec.el [(AV.cpx (x66.fst) (x66.snd))])), ((some 72), (Dec.b false)), ((some 77), (Dec.b true))]) (by kernel_rfl) (hbLwArA h0 (hcLwArA h1 (hbLwArA h2 (hbLwArA h3 hnLwArA))))
theorem are_2 {L n : Nat} {rate delay nn : Int} {ts es xs vs ds : List (Nat × Nat)} {us u2 : List (Nat × Nat)} {lu lo i : Nat} {os o2 : List ((Nat × Nat) × Bool)} {st π : List Nat} {bs : List ((Int × Int) × (Nat × Nat) × Bool)} {x66 : Nat × Nat} {k83 : Nat} {x84 : Nat × Nat} {k87 : Nat} {x0 : Nat × Nat} (h0 : (decide ((↑i : Int) < (↑(List.map celC ds).length : Int))) = true) (h1 : HLwArAspecA L n (.el (List.map celC ds) (.v (.int .i64 ((↑i : Int)))) [(AV.cpx (x66.fst) (x66.snd))])) (h2 : (!onD x66.fst) = false) (h3 : (!onD x66.snd) = false) (h4 : (decide ((↑i : Int) < nn)) = true) (h5 : HLwArAspecA L n (.ix (.v (.int .i64 ((↑i : Int)))) (lu) (k83))) (h6 : HLwArAspecA L n (.at (List.map celC us) (0 + k83) [(AV.cpx (x84.fst) (x84.snd))])) (h7 : HLwArAspecA L n (.ix (.v (.int .i64 ((↑i : Int)))) (lu) (k87))) (h8 : HLwArAspecA L n (.at (List.map celC us) (0 + k87) [(AV.cpx (x0.fst) (x0.snd))])) : seeZ 0 [4, 5, 14, 61, 62, 63] m31.res (bodyOf ⟨fnOf, specA, L⟩ (runF ⟨fnOf, specA, L⟩ n) 0 m31b3 (i :: π) (arD ds us bs nn lu i : St)) = some (RO.go .nrm (.mk [(4, (.lst 4 (List.map celBu bs))), (5, (.v (.int .i64 (nn)))), (14, (.slc (.mk 0 32 0) [1, 7] 1 0 (lu) false)), (61, (.lst 1 (List.map celC ds))), (62, (.v (.int .i64 ((↑(List.map celC ds).length : Int))))), (63, (.v (.int .i64 (IntKind.wrap .i64 ((↑i : Int) + 1)))))] [((.mk 0 32 0), (.mk [1, 7] (List.set (List.map celC us) (0 + k87) [(AV.cpx (fadd x84.fst x66.fst) (fadd x84.snd x66.snd))]) 1 true))] 0)) :=
  rndZ_sound (q := [((some 64), (Dec.b true)), ((some 66), (Dec.el [(AV.cpx (x66.fst) (x66.snd))])), ((some 72), (Dec.b false)), ((some 77), (Dec.b false)), ((some 80), (Dec.b true)), ((some 83), (Dec.ix (k83))), ((some 84), (Dec.el [(AV.cpx (x84.fst) (x84.snd))])), ((some 87), (Dec.ix (k87))), (none, (Dec.el [(AV.cpx (x0.fst) (x0.snd))]))]) (by kernel_rfl) (hbLwArA h0 (hcLwArA h1 (hbLwArA h2 (hbLwArA h3 (hbLwArA h4 (hcLwArA h5 (hcLwArA (c := (.st [1, 7] [1, 7])) rfl (hcLwArA h6 (hcLwArA h7 (hcLwArA (c := (.st [1, 7] [1, 7])) rfl (hcLwArA h8 hnLwArA)))))))))))
theorem are_3 {L n : Nat} {rate delay nn : Int} {ts es xs vs ds : List (Nat × Nat)} {us u2 : List (Nat × Nat)} {lu lo i : Nat} {os o2 : List ((Nat × Nat) × Bool)} {st π : List Nat} {bs : List ((Int × Int) × (Nat × Nat) × Bool)} {x66 : Nat × Nat} (h0 : (decide ((↑i : Int) < (↑(List.map celC ds).length : Int))) = true) (h1 : HLwArAspecA L n (.el (List.map celC ds) (.v (.int .i64 ((↑i : Int)))) [(AV.cpx (x66.fst) (x66.snd))])) (h2 : (!onD x66.fst) = false) (h3 : (!onD x66.snd) = false) (h4 : (decide ((↑i : Int) < nn)) = false) : seeZ 0 [4, 5, 14, 61, 62, 63] m31.res (bodyOf ⟨fnOf, specA, L⟩ (runF ⟨fnOf, specA, L⟩ n) 0 m31b3 (i :: π) (arD ds us bs nn lu i : St)) = some (RO.go .nrm (.mk [(4, (.lst 4 (List.map celBu bs))), (5, (.v (.int .i64 (nn)))), (14, (.slc (.mk 0 32 0) [1, 7] 1 0 (lu) false)), (61, (.lst 1 (List.map celC ds))), (62, (.v (.int .i64 ((↑(List.map celC ds).length : Int))))), (63, (.v (.int .i64 (IntKind.wrap .i64 ((↑i : Int) + 1)))))] [((.mk 0 32 0), (.mk [1, 7] (List.map celC us) 1 true))] 0)) :=
  rndZ_sound (q := [((some 64), (Dec.b true)), ((some 66), (Dec.el [(AV.cpx (x66.fst) (x66.snd))])), ((some 72), (Dec.b false)), ((some 77), (Dec.b false)), ((some 80), (Dec.b false))]) (by kernel_rfl) (hbLwArA h0 (hcLwArA h1 (hbLwArA h2 (hbLwArA h3 (hbLwArA h4 hnLwArA)))))
theorem are_4 {L n : Nat} {rate delay nn : Int} {ts es xs vs ds : List (Nat × Nat)} {us u2 : List (Nat × Nat)} {lu lo i : Nat} {os o2 : List ((Nat × Nat) × Bool)} {st π : List Nat} {bs : List ((Int × Int) × (Nat × Nat) × Bool)} (h0 : (decide ((↑i : Int) < (↑(List.map celC ds).length : Int))) = false) : seeZ 0 [4, 5, 14, 61, 62, 63] m31.res (bodyOf ⟨fnOf, specA, L⟩ (runF ⟨fnOf, specA, L⟩ n) 0 m31b3 (i :: π) (arD ds us bs nn lu i : St)) = some (RO.go (.exit 2) (.mk [(4, (.lst 4 (List.map celBu bs))), (5, (.v (.int .i64 (nn)))), (14, (.slc (.mk 0 32 0) [1, 7] 1 0 (lu) false)), (61, (.lst 1 (List.map celC ds))), (62, (.v (.int .i64 ((↑(List.map celC ds).length : Int))))), (63, (.v (.int .i64 ((↑i : Int)))))] [((.mk 0 32 0), (.mk [1, 7] (List.map celC us) 1 true))] 0)) :=
  rndZ_sound (q := [((some 64), (Dec.b false))]) (by kernel_rfl) (hbLwArA h0 hnLwArA)
theorem ade_0 {L n : Nat} {rate delay nn : Int} {ts es xs vs ds : List (Nat × Nat)} {us u2 : List (Nat × Nat)} {lu lo i : Nat} {os o2 : List ((Nat × Nat) × Bool)} {st π : List Nat} {bs : List ((Int × Int) × (Nat × Nat) × Bool)} {x70 : Nat × Nat} (h0 : (decide ((↑i : Int) < (↑(List.map celC ds).length : Int))) = true) (h1 : HLwArAspecA L n (.el (List.map celC ds) (.v (.int .i64 ((↑i : Int)))) [(AV.cpx (x70.fst) (x70.snd))])) (h2 : (!onD x70.fst) = true) : seeZ 0 [3, 4, 5, 14, 17] m32.res (bodyOf ⟨fnOf, specA, L⟩ (runF ⟨fnOf, specA, L⟩ n) 0 m32b2 (i :: π) (adD ds us bs nn lu i : St)) = some (RO.out (.tup [.nils, (.v (.int .i64 7))])) :=
  rndZ_sound (q := [((some 65), (Dec.b true)), ((some 70), (Dec.el [(AV.cpx (x70.fst) (x70.snd))])), ((some 75), (Dec.b true))]) (by kernel_rfl) (hbLwArA h0 (hcLwArA h1 (hbLwArA h2 hnLwArA)))
theorem ade_1 {L n : Nat} {rate delay nn : Int} {ts es xs vs ds : List (Nat × Nat)} {us u2 : List (Nat × Nat)} {lu lo i : Nat} {os o2 : List ((Nat × Nat) × Bool)} {st π : List Nat} {bs : List ((Int × Int) × (Nat × Nat) × Bool)} {x70 : Nat × Nat} {x78 : Nat × Nat} (h0 : (decide ((↑i : Int) < (↑(List.map celC ds).length : Int))) = true) (h1 : HLwArAspecA L n (.el (List.map celC ds) (.v (.int .i64 ((↑i : Int)))) [(AV.cpx (x70.fst) (x70.snd))])) (h2 : (!onD x70.fst) = false) (h3 : HLwArAspecA L n (.el (List.map celC ds) (.v (.int .i64 ((↑i : Int)))) [(AV.cpx (x78.fst) (x78.snd))])) (h4 : (!onD x78.snd) = true) : seeZ 0 [3, 4, 5, 14, 17] m32.res (bodyOf ⟨fnOf, specA, L⟩ (runF ⟨fnOf, specA, L⟩ n) 0 m32b2 (i :: π) (adD ds us bs nn lu i : St)) = some (RO.out (.tup [.nils, (.v (.int .i64 7))])) :=
  rndZ_sound (q := [((some 65), (Dec.b true)), ((some 70), (Dec.el [(AV.cpx (x70.fst) (x70.snd))])), ((some 75), (Dec.b false)), ((some 78), (Dec.el [(AV.cpx (x78.fst) (x78.snd))])), ((some 83), (Dec.b true))]) (by kernel_rfl) (hbLwArA h0 (hcLwArA h1 (hbLwArA h2 (hcLwArA h3 (hbLwArA h4 hnLwArA)))))
theorem ade_2 {L n : Nat} {rate delay nn : Int} {ts es xs vs ds : List (Nat × Nat)} {us u2 : List (Nat × Nat)} {lu lo i : Nat} {os o2 : List ((Nat × Nat) × Bool)} {st π : List Nat} {bs : List ((Int × Int) × (Nat × Nat) × Bool)} {x70 : Nat × Nat} {x78 : Nat × Nat} (h0 : (decide ((↑i : Int) < (↑(List.map celC ds).length : Int))) = true) (h1 : HLwArAspecA L n (.el (List.map celC ds) (.v (.int .i64 ((↑i : Int)))) [(AV.cpx (x70.fst) (x70.snd))])) (h2 : (!onD x70.fst) = false) (h3 : HLwArAspecA L n (.el (List.map celC ds) (.v (.int .i64 ((↑i : Int)))) [(AV.cpx (x78.fst) (x78.snd))])) (h4 : (!onD x78.snd) = false) : seeZ 0 [3, 4, 5, 14, 17] m32.res (bodyOf ⟨fnOf, specA, L⟩ (runF ⟨fnOf, specA, L⟩ n) 0 m32b2 (i :: π) (adD ds us bs nn lu i : St)) = some (RO.go .nrm (.mk [(3, (.lst 1 (List.map celC ds))), (4, (.lst 4 (List.map celBu bs))), (5, (.v (.int .i64 (nn)))), (14, (.slc (.mk 0 28 0) [1, 7] 1 0 (lu) false)), (17, (.v (.int .i64 (IntKind.wrap .i64 ((↑i : Int) + 1)))))] [((.mk 0 28 0), (.mk [1, 7] (List.map celC us) 1 true))] 0)) :=
  rndZ_sound (q := [((some 65), (Dec.b true)), ((some 70), (Dec.el [(AV.cpx (x70.fst) (x70.snd))])), ((some 75), (Dec.b false)), ((some 78), (Dec.el [(AV.cpx (x78.fst) (x78.snd))])), ((some 83), (Dec.b false))]) (by kernel_rfl) (hbLwArA h0 (hcLwArA h1 (hbLwArA h2 (hcLwArA h3 (hbLwArA h4 hnLwArA)))))
theorem ade_3 {L n : Nat} {rate delay nn : Int} {ts es xs vs ds : List (Nat × Nat)} {us u2 : List (Nat × Nat)} {lu lo i : Nat} {os o2 : List ((Nat × Nat) × Bool)} {st π : List Nat} {bs : List ((Int × Int) × (Nat × Nat) × Bool)} (h0 : (decide ((↑i : Int) < (↑(List.map celC ds).length : Int))) = false) : seeZ 0 [3, 4, 5, 14, 17] m32.res (bodyOf ⟨fnOf, specA, L⟩ (runF ⟨fnOf, specA, L⟩ n) 0 m32b2 (i :: π) (adD ds us bs nn lu i : St)) = some (RO.go (.exit 2) (.mk [(3, (.lst 1 (List.map celC ds))), (4, (.lst 4 (List.map celBu bs))), (5, (.v (.int .i64 (nn)))), (14, (.slc (.mk 0 28 0) [1, 7] 1 0 (lu) false)), (17, (.v (.int .i64 ((↑i : Int)))))] [((.mk 0 28 0), (.mk [1, 7] (List.map celC us) 1 true))] 0)) :=
  rndZ_sound (q := [((some 65), (Dec.b false))]) (by kernel_rfl) (hbLwArA h0 hnLwArA)
theorem aro_0 {L n : Nat} {rate delay nn : Int} {ts es xs vs ds : List (Nat × Nat)} {us u2 : List (Nat × Nat)} {lu lo i : Nat} {os o2 : List ((Nat × Nat) × Bool)} {st π : List Nat} {bs : List ((Int × Int) × (Nat × Nat) × Bool)} {k96 : Nat} {x97 : Nat × Nat} {k102 : Nat} {x0 : (Nat × Nat) × Bool} (h0 : (decide ((↑i : Int) < (↑lu : Int))) = true) (h1 : HLwArAspecA L n (.ix (.v (.int .i64 ((↑i : Int)))) (lu) (k96))) (h2 : HLwArAspecA L n (.at (List.map celC us) (0 + k96) [(AV.cpx (x97.fst) (x97.snd))])) (h3 : HLwArAspecA L n (.ix (.v (.int .i64 ((↑i : Int)))) (lo) (k102))) (h4 : HLwArAspecA L n (.at (List.map celS os) (0 + k102) [(AV.cpx (x0.fst.fst) (x0.fst.snd)), (.v (.bool (x0.snd)))])) : rnd 0 [4, 5, 20, 91, 92, 93] (bodyOf ⟨fnOf, specA, L⟩ (runF ⟨fnOf, specA, L⟩ n) 0 m31b2 (i :: π) (arO us os bs nn lu lo i : St)) = some (.nrm, (.mk [(4, (.lst 4 (List.map celBu bs))), (5, (.v (.int .i64 (nn)))), (20, (.slc (.mk 0 90 0) [32] 2 0 (lo) true)), (91, (.slc (.mk 0 32 0) [1, 7] 1 0 (lu) false)), (92, (.v (.int .i64 ((↑lu : Int))))), (93, (.v (.int .i64 (IntKind.wrap .i64 ((↑i : Int) + 1)))))] [((.mk 0 32 0), (.mk [1, 7] (List.map celC us) 1 true)), ((.mk 0 90 0), (.mk [32] (List.set (List.map celS os) (0 + k102) [(AV.cpx ((smp false (x97.fst, x97.snd)).fst.fst) ((smp false (x97.fst, x97.snd)).fst.snd)), (.v (.bool ((smp false (x97.fst, x97.snd)).snd)))]) 2 true))] 0)) :=
  rndD_sound (q := [((some 94), (Dec.b true)), ((some 96), (Dec.ix (k96))), ((some 97), (Dec.el [(AV.cpx (x97.fst) (x97.snd))])), ((some 102), (Dec.ix (k102))), (none, (Dec.el [(AV.cpx (x0.fst.fst) (x0.fst.snd)), (.v (.bool (x0.snd)))]))]) (by kernel_rfl) (hbLwArA h0 (hcLwArA h1 (hcLwArA (c := (.st [1, 7] [1, 7])) rfl (hcLwArA h2 (hcLwArA h3 (hcLwArA (c := (.st [32] [32])) rfl (hcLwArA h4 hnLwArA)))))))
theorem aro_1 {L n : Nat} {rate delay nn : Int} {ts es xs vs ds : List (Nat × Nat)} {us u2 : List (Nat × Nat)} {lu lo i : Nat} {os o2 : List ((Nat × Nat) × Bool)} {st π : List Nat} {bs : List ((Int × Int) × (Nat × Nat) × Bool)} (h0 : (decide ((↑i : Int) < (↑lu : Int))) = false) : rnd 0 [4, 5, 20, 91, 92, 93] (bodyOf ⟨fnOf, specA, L⟩ (runF ⟨fnOf, specA, L⟩ n) 0 m31b2 (i :: π) (arO us os bs nn lu lo i : St)) = some ((.exit 4), (.mk [(4, (.lst 4 (List.map celBu bs))), (5, (.v (.int .i64 (nn)))), (20, (.slc (.mk 0 90 0) [32] 2 0 (lo) true)), (91, (.slc (.mk 0 32 0) [1, 7] 1 0 (lu) false)), (92, (.v (.int .i64 ((↑lu : Int))))), (93, (.v (.int .i64 ((↑i : Int)))))] [((.mk 0 32 0), (.mk [1, 7] (List.map celC us) 1 true)), ((.mk 0 90 0), (.mk [32] (List.map celS os) 2 true))] 0)) :=
  rndD_sound (q := [((some 94), (Dec.b false))]) (by kernel_rfl) (hbLwArA h0 hnLwArA)
theorem ado_0 {L n : Nat} {rate delay nn : Int} {ts es xs vs ds : List (Nat × Nat)} {us u2 : List (Nat × Nat)} {lu lo i : Nat} {os o2 : List ((Nat × Nat) × Bool)} {st π : List Nat} {bs : List ((Int × Int) × (Nat × Nat) × Bool)} {τ : List Nat} {v : (Nat × Nat) × Bool} {j : Nat} {k91 : Nat} {x92 : Nat × Nat} {x101 : Nat × Nat} {x109 : Nat × Nat} (h0 : (decide ((↑i : Int) < nn)) = true) (h1 : HLwArAspecA L n (.ix (.v (.int .i64 ((↑i : Int)))) (lu) (k91))) (h2 : HLwArAspecA L n (.at (List.map celC us) (0 + k91) [(AV.cpx (x92.fst) (x92.snd))])) (h3 : (decide ((↑i : Int) < (↑(List.map celC ds).length : Int))) = true) (h4 : HLwArAspecA L n (.el (List.map celC ds) (.v (.int .i64 ((↑i : Int)))) [(AV.cpx (x101.fst) (x101.snd))])) (h5 : HLwArAspecA L n (.el (List.map celC ds) (.v (.int .i64 ((↑i : Int)))) [(AV.cpx (x109.fst) (x109.snd))])) (h6 : HLwArAspecA L n (.loop 0 [3, 4, 5, 14, 18, 19, 21, 22] m32b0 ([35, (i)] ++ (π)) (.mk [(3, (.lst 1 (List.map celC ds))), (4, (.lst 4 (List.map celBu bs))), (5, (.v (.int .i64 (nn)))), (14, (.slc (.mk 0 28 0) [1, 7] 1 0 (lu) false)), (18, (.slc (.mk 0 18 1000) (st) 2 0 (lo) false)), (19, (.v (.int .i64 ((↑i : Int))))), (21, (.ptr (.mk 0 21 0) ([32, (i)] ++ (π)) 0 0)), (22, (.v (.int .i64 0)))] [((.mk 0 18 1000), (.mk (st) (List.map celS os) 2 true)), ((.mk 0 28 0), (.mk [1, 7] (List.map celC us) 1 true)), ((.mk 0 21 0), (.mk ([32, (i)] ++ (π)) [[(AV.cpx ((smp true (fadd x92.fst x101.fst, fadd x92.snd x109.snd)).fst.fst) ((smp true (fadd x92.fst x101.fst, fadd x92.snd x109.snd)).fst.snd)), (.v (.bool ((smp true (fadd x92.fst x101.fst, fadd x92.snd x109.snd)).snd)))]] 2 true))] 0) (.exit 6) (.mk [(3, (.lst 1 (List.map celC ds))), (4, (.lst 4 (List.map celBu bs))), (5, (.v (.int .i64 (nn)))), (14, (.slc (.mk 0 28 0) [1, 7] 1 0 (lu) false)), (18, (.slc (.mk 0 18 1000) (st) 2 0 (lo) false)), (19, (.v (.int .i64 ((↑i : Int))))), (21, (.ptr (.mk 0 21 0) (τ) 0 0)), (22, (.v (.int .i64 ((↑j : Int)))))] [((.mk 0 18 1000), (.mk (st) (List.map celS os) 2 true)), ((.mk 0 28 0), (.mk [1, 7] (List.map celC us) 1 true)), ((.mk 0 21 0), (.mk (τ) [[(AV.cpx (v.fst.fst) (v.fst.snd)), (.v (.bool (v.snd)))]] 2 true))] 0))) (h7 : HLwArAspecA L n (.push (lo) 1 24 (List.map celS os))) : rnd 0 [3, 4, 5, 14, 18, 19] (bodyOf ⟨fnOf, specA, L⟩ (runF ⟨fnOf, specA, L⟩ n) 0 m32b1 (i :: π) (adO ds us os bs nn st lu lo i : St)) = some (.nrm, (.mk [(3, (.lst 1 (List.map celC ds))), (4, (.lst 4 (List.map celBu bs))), (5, (.v (.int .i64 (nn)))), (14, (.slc (.mk 0 28 0) [1, 7] 1 0 (lu) false)), (18, (.slc (.mk 0 18 1000) ([39, (i)] ++ (π)) 2 0 (lo + 1) false)), (19, (.v (.int .i64 (IntKind.wrap .i64 ((↑i : Int) + 1)))))] [((.mk 0 18 1000), (.mk ([39, (i)] ++ (π)) ((List.map celS os) ++ [[(AV.cpx (v.fst.fst) (v.fst.snd)), (.v (.bool (v.snd)))]]) 2 true)), ((.mk 0 28 0), (.mk [1, 7] (List.map celC us) 1 true))] 0)) :=
  rndD_sound (q := [((some 86), (Dec.b true)), ((some 91), (Dec.ix (k91))), ((some 92), (Dec.el [(AV.cpx (x92.fst) (x92.snd))])), ((some 96), (Dec.b true)), ((some 101), (Dec.el [(AV.cpx (x101.fst) (x101.snd))])), ((some 109), (Dec.el [(AV.cpx (x109.fst) (x109.snd))])), ((some 200000), (Dec.loop (.exit 6) (.mk [(3, (.lst 1 (List.map celC ds))), (4, (.lst 4 (List.map celBu bs))), (5, (.v (.int .i64 (nn)))), (14, (.slc (.mk 0 28 0) [1, 7] 1 0 (lu) false)), (18, (.slc (.mk 0 18 1000) (st) 2 0 (lo) false)), (19, (.v (.int .i64 ((↑i : Int))))), (21, (.ptr (.mk 0 21 0) (τ) 0 0)), (22, (.v (.int .i64 ((↑j : Int)))))] [((.mk 0 18 1000), (.mk (st) (List.map celS os) 2 true)), ((.mk 0 28 0), (.mk [1, 7] (List.map celC us) 1 true)), ((.mk 0 21 0), (.mk (τ) [[(AV.cpx (v.fst.fst) (v.fst.snd)), (.v (.bool (v.snd)))]] 2 true))] 0))), ((some 159), Dec.push)]) (by kernel_rfl) (hbLwArA h0 (hcLwArA h1 (hcLwArA (c := (.st [1, 7] [1, 7])) rfl (hcLwArA h2 (hbLwArA h3 (hcLwArA h4 (hcLwArA h5 (hcLwArA (c := (.st ([32, (i)] ++ (π)) ([32, (i)] ++ (π)))) rfl (hcLwArA h6 (hcLwArA (c := (.st (τ) (τ))) rfl (hcLwArA (c := (.st (st) (st))) rfl (hcLwArA h7 (hcLwArA (c := (.st ([38, (i)] ++ (π)) ([38, (i)] ++ (π)))) rfl hnLwArA)))))))))))))
theorem ado_1 {L n : Nat} {rate delay nn : Int} {ts es xs vs ds : List (Nat × Nat)} {us u2 : List (Nat × Nat)} {lu lo i : Nat} {os o2 : List ((Nat × Nat) × Bool)} {st π : List Nat} {bs : List ((Int × Int) × (Nat × Nat) × Bool)} {τ : List Nat} {v : (Nat × Nat) × Bool} {j : Nat} {k91 : Nat} {x92 : Nat × Nat} (h0 : (decide ((↑i : Int) < nn)) = true) (h1 : HLwArAspecA L n (.ix (.v (.int .i64 ((↑i : Int)))) (lu) (k91))) (h2 : HLwArAspecA L n (.at (List.map celC us) (0 + k91) [(AV.cpx (x92.fst) (x92.snd))])) (h3 : (decide ((↑i : Int) < (↑(List.map celC ds).length : Int))) = false) (h4 : HLwArAspecA L n (.loop 0 [3, 4, 5, 14, 18, 19, 21, 22] m32b0 ([17, (i)] ++ (π)) (.mk [(3, (.lst 1 (List.map celC ds))), (4, (.lst 4 (List.map celBu bs))), (5, (.v (.int .i64 (nn)))), (14, (.slc (.mk 0 28 0) [1, 7] 1 0 (lu) false)), (18, (.slc (.mk 0 18 1000) (st) 2 0 (lo) false)), (19, (.v (.int .i64 ((↑i : Int))))), (21, (.ptr (.mk 0 21 0) ([14, (i)] ++ (π)) 0 0)), (22, (.v (.int .i64 0)))] [((.mk 0 18 1000), (.mk (st) (List.map celS os) 2 true)), ((.mk 0 28 0), (.mk [1, 7] (List.map celC us) 1 true)), ((.mk 0 21 0), (.mk ([14, (i)] ++ (π)) [[(AV.cpx ((smp true (x92.fst, x92.snd)).fst.fst) ((smp true (x92.fst, x92.snd)).fst.snd)), (.v (.bool ((smp true (x92.fst, x92.snd)).snd)))]] 2 true))] 0) (.exit 6) (.mk [(3, (.lst 1 (List.map celC ds))), (4, (.lst 4 (List.map celBu bs))), (5, (.v (.int .i64 (nn)))), (14, (.slc (.mk 0 28 0) [1, 7] 1 0 (lu) false)), (18, (.slc (.mk 0 18 1000) (st) 2 0 (lo) false)), (19, (.v (.int .i64 ((↑i : Int))))), (21, (.ptr (.mk 0 21 0) (τ) 0 0)), (22, (.v (.int .i64 ((↑j : Int)))))] [((.mk 0 18 1000), (.mk (st) (List.map celS os) 2 true)), ((.mk 0 28 0), (.mk [1, 7] (List.map celC us) 1 true)), ((.mk 0 21 0), (.mk (τ) [[(AV.cpx (v.fst.fst) (v.fst.snd)), (.v (.bool (v.snd)))]] 2 true))] 0))) (h5 : HLwArAspecA L n (.push (lo) 1 24 (List.map celS os))) : rnd 0 [3, 4, 5, 14, 18, 19] (bodyOf ⟨fnOf, specA, L⟩ (runF ⟨fnOf, specA, L⟩ n) 0 m32b1 (i :: π) (adO ds us os bs nn st lu lo i : St)) = some (.nrm, (.mk [(3, (.lst 1 (List.map celC ds))), (4, (.lst 4 (List.map celBu bs))), (5, (.v (.int .i64 (nn)))), (14, (.slc (.mk 0 28 0) [1, 7] 1 0 (lu) false)), (18, (.slc (.mk 0 18 1000) ([21, (i)] ++ (π)) 2 0 (lo + 1) false)), (19, (.v (.int .i64 (IntKind.wrap .i64 ((↑i : Int) + 1)))))] [((.mk 0 18 1000), (.mk ([21, (i)] ++ (π)) ((List.map celS os) ++ [[(AV.cpx (v.fst.fst) (v.fst.snd)), (.v (.bool (v.snd)))]]) 2 true)), ((.mk 0 28 0), (.mk [1, 7] (List.map celC us) 1 true))] 0)) :=
  rndD_sound (q := [((some 86), (Dec.b true)), ((some 91), (Dec.ix (k91))), ((some 92), (Dec.el [(AV.cpx (x92.fst) (x92.snd))])), ((some 96), (Dec.b false)), ((some 200000), (Dec.loop (.exit 6) (.mk [(3, (.lst 1 (List.map celC ds))), (4, (.lst 4 (List.map celBu bs))), (5, (.v (.int .i64 (nn)))), (14, (.slc (.mk 0 28 0) [1, 7] 1 0 (lu) false)), (18, (.slc (.mk 0 18 1000) (st) 2 0 (lo) false)), (19, (.v (.int .i64 ((↑i : Int))))), (21, (.ptr (.mk 0 21 0) (τ) 0 0)), (22, (.v (.int .i64 ((↑j : Int)))))] [((.mk 0 18 1000), (.mk (st) (List.map celS os) 2 true)), ((.mk 0 28 0), (.mk [1, 7] (List.map celC us) 1 true)), ((.mk 0 21 0), (.mk (τ) [[(AV.cpx (v.fst.fst) (v.fst.snd)), (.v (.bool (v.snd)))]] 2 true))] 0))), ((some 159), Dec.push)]) (by kernel_rfl) (hbLwArA h0 (hcLwArA h1 (hcLwArA (c := (.st [1, 7] [1, 7])) rfl (hcLwArA h2 (hbLwArA h3 (hcLwArA (c := (.st ([14, (i)] ++ (π)) ([14, (i)] ++ (π)))) rfl (hcLwArA h4 (hcLwArA (c := (.st (τ) (τ))) rfl (hcLwArA (c := (.st (st) (st))) rfl (hcLwArA h5 (hcLwArA (c := (.st ([20, (i)] ++ (π)) ([20, (i)] ++ (π)))) rfl hnLwArA)))))))))))
theorem ado_2 {L n : Nat} {rate delay nn : Int} {ts es xs vs ds : List (Nat × Nat)} {us u2 : List (Nat × Nat)} {lu lo i : Nat} {os o2 : List ((Nat × Nat) × Bool)} {st π : List Nat} {bs : List ((Int × Int) × (Nat × Nat) × Bool)} {τ : List Nat} {v : (Nat × Nat) × Bool} {j : Nat} (h0 : (decide ((↑i : Int) < nn)) = false) : rnd 0 [3, 4, 5, 14, 18, 19] (bodyOf ⟨fnOf, specA, L⟩ (runF ⟨fnOf, specA, L⟩ n) 0 m32b1 (i :: π) (adO ds us os bs nn st lu lo i : St)) = some ((.exit 4), (.mk [(3, (.lst 1 (List.map celC ds))), (4, (.lst 4 (List.map celBu bs))), (5, (.v (.int .i64 (nn)))), (14, (.slc (.mk 0 28 0) [1, 7] 1 0 (lu) false)), (18, (.slc (.mk 0 18 1000) (st) 2 0 (lo) false)), (19, (.v (.int .i64 ((↑i : Int)))))] [((.mk 0 18 1000), (.mk (st) (List.map celS os) 2 true)), ((.mk 0 28 0), (.mk [1, 7] (List.map celC us) 1 true))] 0)) :=
  rndD_sound (q := [((some 86), (Dec.b false))]) (by kernel_rfl) (hbLwArA h0 hnLwArA)
theorem arb_0 {L n : Nat} {rate delay nn : Int} {ts es xs vs ds : List (Nat × Nat)} {us u2 : List (Nat × Nat)} {lu lo i : Nat} {os o2 : List ((Nat × Nat) × Bool)} {st π : List Nat} {bs : List ((Int × Int) × (Nat × Nat) × Bool)} {τ σ : List Nat} {b : (Int × Int) × (Nat × Nat) × Bool} {v : (Nat × Nat) × Bool} {j : Nat} {x108 : (Int × Int) × (Nat × Nat) × Bool} (h0 : (decide ((↑i : Int) < (↑(List.map celBu bs).length : Int))) = true) (h1 : HLwArAspecA L n (.el (List.map celBu bs) (.v (.int .i64 ((↑i : Int)))) [(.v (.int .i64 (x108.fst.fst))), (.v (.int .i64 (x108.fst.snd))), (.cpx (x108.snd.fst.fst) (x108.snd.fst.snd)), (.v (.bool (x108.snd.snd)))])) (h2 : (x108.snd.snd) = true) (h3 : HLwArAspecA L n (.loop 0 [5, 20, 24, 25, 104, 105, 106, 117, 118] m31b0 ([17, (i)] ++ (π)) (.mk [(5, (.v (.int .i64 (nn)))), (20, (.slc (.mk 0 90 0) [32] 2 0 (lo) true)), (24, (.ptr (.mk 0 24 0) ([3, (i)] ++ (π)) 0 0)), (25, (.ptr (.mk 0 25 0) ([8, (i)] ++ (π)) 0 0)), (104, (.lst 4 (List.map celBu bs))), (105, (.v (.int .i64 ((↑(List.map celBu bs).length : Int))))), (106, (.v (.int .i64 ((↑i : Int))))), (117, (.v (.int .i64 (x108.fst.snd)))), (118, (.v (.int .i64 0)))] [((.mk 0 90 0), (.mk [32] (List.map celS os) 2 true)), ((.mk 0 24 0), (.mk ([3, (i)] ++ (π)) [[(.v (.int .i64 (x108.fst.fst))), (.v (.int .i64 (x108.fst.snd))), (.cpx (x108.snd.fst.fst) (x108.snd.fst.snd)), (.v (.bool (x108.snd.snd)))]] 4 true)), ((.mk 0 25 0), (.mk ([8, (i)] ++ (π)) [[(AV.cpx 0 0), (.v (.bool true))]] 2 true))] 0) (.exit 8) (.mk [(5, (.v (.int .i64 (nn)))), (20, (.slc (.mk 0 90 0) [32] 2 0 (lo) true)), (24, (.ptr (.mk 0 24 0) (τ) 0 0)), (25, (.ptr (.mk 0 25 0) (σ) 0 0)), (104, (.lst 4 (List.map celBu bs))), (105, (.v (.int .i64 ((↑(List.map celBu bs).length : Int))))), (106, (.v (.int .i64 ((↑i : Int))))), (117, (.v (.int .i64 (b.fst.snd)))), (118, (.v (.int .i64 ((↑j : Int)))))] [((.mk 0 90 0), (.mk [32] (List.map celS o2) 2 true)), ((.mk 0 24 0), (.mk (τ) [[(.v (.int .i64 (b.fst.fst))), (.v (.int .i64 (b.fst.snd))), (.cpx (b.snd.fst.fst) (b.snd.fst.snd)), (.v (.bool (b.snd.snd)))]] 4 true)), ((.mk 0 25 0), (.mk (σ) [[(AV.cpx (v.fst.fst) (v.fst.snd)), (.v (.bool (v.snd)))]] 2 true))] 0))) : rnd 0 [5, 20, 104, 105, 106] (bodyOf ⟨fnOf, specA, L⟩ (runF ⟨fnOf, specA, L⟩ n) 0 m31b1 (i :: π) (arB os bs nn lo i : St)) = some (.nrm, (.mk [(5, (.v (.int .i64 (nn)))), (20, (.slc (.mk 0 90 0) [32] 2 0 (lo) true)), (104, (.lst 4 (List.map celBu bs))), (105, (.v (.int .i64 ((↑(List.map celBu bs).length : Int))))), (106, (.v (.int .i64 (IntKind.wrap .i64 ((↑i : Int) + 1)))))] [((.mk 0 90 0), (.mk [32] (List.map celS o2) 2 true))] 0)) :=
  rndD_sound (q := [((some 107), (Dec.b true)), ((some 108), (Dec.el [(.v (.int .i64 (x108.fst.fst))), (.v (.int .i64 (x108.fst.snd))), (.cpx (x108.snd.fst.fst) (x108.snd.fst.snd)), (.v (.bool (x108.snd.snd)))])), ((some 114), (Dec.b true)), ((some 200000), (Dec.loop (.exit 8) (.mk [(5, (.v (.int .i64 (nn)))), (20, (.slc (.mk 0 90 0) [32] 2 0 (lo) true)), (24, (.ptr (.mk 0 24 0) (τ) 0 0)), (25, (.ptr (.mk 0 25 0) (σ) 0 0)), (104, (.lst 4 (List.map celBu bs))), (105, (.v (.int .i64 ((↑(List.map celBu bs).length : Int))))), (106, (.v (.int .i64 ((↑i : Int))))), (117, (.v (.int .i64 (b.fst.snd)))), (118, (.v (.int .i64 ((↑j : Int)))))] [((.mk 0 90 0), (.mk [32] (List.map celS o2) 2 true)), ((.mk 0 24 0), (.mk (τ) [[(.v (.int .i64 (b.fst.fst))), (.v (.int .i64 (b.fst.snd))), (.cpx (b.snd.fst.fst) (b.snd.fst.snd)), (.v (.bool (b.snd.snd)))]] 4 true)), ((.mk 0 25 0), (.mk (σ) [[(AV.cpx (v.fst.fst) (v.fst.snd)), (.v (.bool (v.snd)))]] 2 true))] 0)))]) (by kernel_rfl) (hbLwArA h0 (hcLwArA h1 (hcLwArA (c := (.st ([3, (i)] ++ (π)) ([3, (i)] ++ (π)))) rfl (hcLwArA (c := (.st ([3, (i)] ++ (π)) ([3, (i)] ++ (π)))) rfl (hcLwArA (c := (.st ([8, (i)] ++ (π)) ([8, (i)] ++ (π)))) rfl (hbLwArA h2 (hcLwArA (c := (.st ([3, (i)] ++ (π)) ([3, (i)] ++ (π)))) rfl (hcLwArA (c := (.st ([8, (i)] ++ (π)) ([8, (i)] ++ (π)))) rfl (hcLwArA (c := (.st ([3, (i)] ++ (π)) ([3, (i)] ++ (π)))) rfl (hcLwArA h3 hnLwArA))))))))))
theorem arb_1 {L n : Nat} {rate delay nn : Int} {ts es xs vs ds : List (Nat × Nat)} {us u2 : List (Nat × Nat)} {lu lo i : Nat} {os o2 : List ((Nat × Nat) × Bool)} {st π : List Nat} {bs : List ((Int × Int) × (Nat × Nat) × Bool)} {τ σ : List Nat} {b : (Int × Int) × (Nat × Nat) × Bool} {v : (Nat × Nat) × Bool} {j : Nat} {x108 : (Int × Int) × (Nat × Nat) × Bool} (h0 : (decide ((↑i : Int) < (↑(List.map celBu bs).length : Int))) = true) (h1 : HLwArAspecA L n (.el (List.map celBu bs) (.v (.int .i64 ((↑i : Int)))) [(.v (.int .i64 (x108.fst.fst))), (.v (.int .i64 (x108.fst.snd))), (.cpx (x108.snd.fst.fst) (x108.snd.fst.snd)), (.v (.bool (x108.snd.snd)))])) (h2 : (x108.snd.snd) = false) (h3 : HLwArAspecA L n (.loop 0 [5, 20, 24, 25, 104, 105, 106, 117, 118] m31b0 ([15, (i)] ++ (π)) (.mk [(5, (.v (.int .i64 (nn)))), (20, (.slc (.mk 0 90 0) [32] 2 0 (lo) true)), (24, (.ptr (.mk 0 24 0) ([3, (i)] ++ (π)) 0 0)), (25, (.ptr (.mk 0 25 0) ([8, (i)] ++ (π)) 0 0)), (104, (.lst 4 (List.map celBu bs))), (105, (.v (.int .i64 ((↑(List.map celBu bs).length : Int))))), (106, (.v (.int .i64 ((↑i : Int))))), (117, (.v (.int .i64 (x108.fst.snd)))), (118, (.v (.int .i64 0)))] [((.mk 0 90 0), (.mk [32] (List.map celS os) 2 true)), ((.mk 0 24 0), (.mk ([3, (i)] ++ (π)) [[(.v (.int .i64 (x108.fst.fst))), (.v (.int .i64 (x108.fst.snd))), (.cpx (x108.snd.fst.fst) (x108.snd.fst.snd)), (.v (.bool (x108.snd.snd)))]] 4 true)), ((.mk 0 25 0), (.mk ([8, (i)] ++ (π)) [[(AV.cpx ((smp false (x108.snd.fst.fst, x108.snd.fst.snd)).fst.fst) ((smp false (x108.snd.fst.fst, x108.snd.fst.snd)).fst.snd)), (.v (.bool ((smp false (x108.snd.fst.fst, x108.snd.fst.snd)).snd)))]] 2 true))] 0) (.exit 8) (.mk [(5, (.v (.int .i64 (nn)))), (20, (.slc (.mk 0 90 0) [32] 2 0 (lo) true)), (24, (.ptr (.mk 0 24 0) (τ) 0 0)), (25, (.ptr (.mk 0 25 0) (σ) 0 0)), (104, (.lst 4 (List.map celBu bs))), (105, (.v (.int .i64 ((↑(List.map celBu bs).length : Int))))), (106, (.v (.int .i64 ((↑i : Int))))), (117, (.v (.int .i64 (b.fst.snd)))), (118, (.v (.int .i64 ((↑j : Int)))))] [((.mk 0 90 0), (.mk [32] (List.map celS o2) 2 true)), ((.mk 0 24 0), (.mk (τ) [[(.v (.int .i64 (b.fst.fst))), (.v (.int .i64 (b.fst.snd))), (.cpx (b.snd.fst.fst) (b.snd.fst.snd)), (.v (.bool (b.snd.snd)))]] 4 true)), ((.mk 0 25 0), (.mk (σ) [[(AV.cpx (v.fst.fst) (v.fst.snd)), (.v (.bool (v.snd)))]] 2 true))] 0))) : rnd 0 [5, 20, 104, 105, 106] (bodyOf ⟨fnOf, specA, L⟩ (runF ⟨fnOf, specA, L⟩ n) 0 m31b1 (i :: π) (arB os bs nn lo i : St)) = some (.nrm, (.mk [(5, (.v (.int .i64 (nn)))), (20, (.slc (.mk 0 90 0) [32] 2 0 (lo) true)), (104, (.lst 4 (List.map celBu bs))), (105, (.v (.int .i64 ((↑(List.map celBu bs).length : Int))))), (106, (.v (.int .i64 (IntKind.wrap .i64 ((↑i : Int) + 1)))))] [((.mk 0 90 0), (.mk [32] (List.map celS o2) 2 true))] 0)) :=
  rndD_sound (q := [((some 107), (Dec.b true)), ((some 108), (Dec.el [(.v (.int .i64 (x108.fst.fst))), (.v (.int .i64 (x108.fst.snd))), (.cpx (x108.snd.fst.fst) (x108.snd.fst.snd)), (.v (.bool (x108.snd.snd)))])), ((some 114), (Dec.b false)), ((some 200000), (Dec.loop (.exit 8) (.mk [(5, (.v (.int .i64 (nn)))), (20, (.slc (.mk 0 90 0) [32] 2 0 (lo) true)), (24, (.ptr (.mk 0 24 0) (τ) 0 0)), (25, (.ptr (.mk 0 25 0) (σ) 0 0)), (104, (.lst 4 (List.map celBu bs))), (105, (.v (.int .i64 ((↑(List.map celBu bs).length : Int))))), (106, (.v (.int .i64 ((↑i : Int))))), (117, (.v (.int .i64 (b.fst.snd)))), (118, (.v (.int .i64 ((↑j : Int)))))] [((.mk 0 90 0), (.mk [32] (List.map celS o2) 2 true)), ((.mk 0 24 0), (.mk (τ) [[(.v (.int .i64 (b.fst.fst))), (.v (.int .i64 (b.fst.snd))), (.cpx (b.snd.fst.fst) (b.snd.fst.snd)), (.v (.bool (b.snd.snd)))]] 4 true)), ((.mk 0 25 0), (.mk (σ) [[(AV.cpx (v.fst.fst) (v.fst.snd)), (.v (.bool (v.snd)))]] 2 true))] 0)))]) (by kernel_rfl) (hbLwArA h0 (hcLwArA h1 (hcLwArA (c := (.st ([3, (i)] ++ (π)) ([3, (i)] ++ (π)))) rfl (hcLwArA (c := (.st ([3, (i)] ++ (π)) ([3, (i)] ++ (π)))) rfl (hcLwArA (c := (.st ([8, (i)] ++ (π)) ([8, (i)] ++ (π)))) rfl (hbLwArA h2 (hcLwArA (c := (.st ([3, (i)] ++ (π)) ([3, (i)] ++ (π)))) rfl (hcLwArA (c := (.st ([3, (i)] ++ (π)) ([3, (i)] ++ (π)))) rfl (hcLwArA h3 hnLwArA)))))))))
theorem arb_2 {L n : Nat} {rate delay nn : Int} {ts es xs vs ds : List (Nat × Nat)} {us u2 : List (Nat × Nat)} {lu lo i : Nat} {os o2 : List ((Nat × Nat) × Bool)} {st π : List Nat} {bs : List ((Int × Int) × (Nat × Nat) × Bool)} {τ σ : List Nat} {b : (Int × Int) × (Nat × Nat) × Bool} {v : (Nat × Nat) × Bool} {j : Nat} (h0 : (decide ((↑i : Int) < (↑(List.map celBu bs).length : Int))) = false) : rnd 0 [5, 20, 104, 105, 106] (bodyOf ⟨fnOf, specA, L⟩ (runF ⟨fnOf, specA, L⟩ n) 0 m31b1 (i :: π) (arB os bs nn lo i : St)) = some ((.exit 6), (.mk [(5, (.v (.int .i64 (nn)))), (20, (.slc (.mk 0 90 0) [32] 2 0 (lo) true)), (104, (.lst 4 (List.map celBu bs))), (105, (.v (.int .i64 ((↑(List.map celBu bs).length : Int))))), (106, (.v (.int .i64 ((↑i : Int)))))] [((.mk 0 90 0), (.mk [32] (List.map celS os) 2 true))] 0)) :=
  rndD_sound (q := [((some 107), (Dec.b false))]) (by kernel_rfl) (hbLwArA h0 hnLwArA)
theorem arx_0 {L n : Nat} {rate delay nn : Int} {ts es xs vs ds : List (Nat × Nat)} {us u2 : List (Nat × Nat)} {lu lo i : Nat} {os o2 : List ((Nat × Nat) × Bool)} {st π : List Nat} {bs : List ((Int × Int) × (Nat × Nat) × Bool)} {τ σ : List Nat} {b : (Int × Int) × (Nat × Nat) × Bool} {v : (Nat × Nat) × Bool} {j : Nat} {x108 : (Int × Int) × (Nat × Nat) × Bool} (h0 : (decide ((↑i : Int) < (↑(List.map celBu bs).length : Int))) = true) (h1 : HLwArAspecA L n (.el (List.map celBu bs) (.v (.int .i64 ((↑i : Int)))) [(.v (.int .i64 (x108.fst.fst))), (.v (.int .i64 (x108.fst.snd))), (.cpx (x108.snd.fst.fst) (x108.snd.fst.snd)), (.v (.bool (x108.snd.snd)))])) (h2 : (x108.snd.snd) = true) (h3 : HLwArAspecA L n (.loop 0 [5, 20, 24, 25, 104, 105, 106, 117, 118] m31b0 ([17, (i)] ++ (π)) (.mk [(5, (.v (.int .i64 (nn)))), (20, (.slc (.mk 0 90 0) [32] 2 0 (lo) true)), (24, (.ptr (.mk 0 24 0) ([3, (i)] ++ (π)) 0 0)), (25, (.ptr (.mk 0 25 0) ([8, (i)] ++ (π)) 0 0)), (104, (.lst 4 (List.map celBu bs))), (105, (.v (.int .i64 ((↑(List.map celBu bs).length : Int))))), (106, (.v (.int .i64 ((↑i : Int))))), (117, (.v (.int .i64 (x108.fst.snd)))), (118, (.v (.int .i64 0)))] [((.mk 0 90 0), (.mk [32] (List.map celS os) 2 true)), ((.mk 0 24 0), (.mk ([3, (i)] ++ (π)) [[(.v (.int .i64 (x108.fst.fst))), (.v (.int .i64 (x108.fst.snd))), (.cpx (x108.snd.fst.fst) (x108.snd.fst.snd)), (.v (.bool (x108.snd.snd)))]] 4 true)), ((.mk 0 25 0), (.mk ([8, (i)] ++ (π)) [[(AV.cpx 0 0), (.v (.bool true))]] 2 true))] 0) (.exit 7) (.mk [(5, (.v (.int .i64 (nn)))), (20, (.slc (.mk 0 90 0) [32] 2 0 (lo) true)), (24, (.ptr (.mk 0 24 0) (τ) 0 0)), (25, (.ptr (.mk 0 25 0) (σ) 0 0)), (104, (.lst 4 (List.map celBu bs))), (105, (.v (.int .i64 ((↑(List.map celBu bs).length : Int))))), (106, (.v (.int .i64 ((↑i : Int))))), (117, (.v (.int .i64 (b.fst.snd)))), (118, (.v (.int .i64 ((↑j : Int)))))] [((.mk 0 90 0), (.mk [32] (List.map celS o2) 2 true)), ((.mk 0 24 0), (.mk (τ) [[(.v (.int .i64 (b.fst.fst))), (.v (.int .i64 (b.fst.snd))), (.cpx (b.snd.fst.fst) (b.snd.fst.snd)), (.v (.bool (b.snd.snd)))]] 4 true)), ((.mk 0 25 0), (.mk (σ) [[(AV.cpx (v.fst.fst) (v.fst.snd)), (.v (.bool (v.snd)))]] 2 true))] 0))) : rnd 0 [5, 20, 104, 105, 106] (bodyOf ⟨fnOf, specA, L⟩ (runF ⟨fnOf, specA, L⟩ n) 0 m31b1 (i :: π) (arB os bs nn lo i : St)) = some (.nrm, (.mk [(5, (.v (.int .i64 (nn)))), (20, (.slc (.mk 0 90 0) [32] 2 0 (lo) true)), (104, (.lst 4 (List.map celBu bs))), (105, (.v (.int .i64 ((↑(List.map celBu bs).length : Int))))), (106, (.v (.int .i64 (IntKind.wrap .i64 ((↑i : Int) + 1)))))] [((.mk 0 90 0), (.mk [32] (List.map celS o2) 2 true))] 0)) :=
  rndD_sound (q := [((some 107), (Dec.b true)), ((some 108), (Dec.el [(.v (.int .i64 (x108.fst.fst))), (.v (.int .i64 (x108.fst.snd))), (.cpx (x108.snd.fst.fst) (x108.snd.fst.snd)), (.v (.bool (x108.snd.snd)))])), ((some 114), (Dec.b true)), ((some 200000), (Dec.loop (.exit 7) (.mk [(5, (.v (.int .i64 (nn)))), (20, (.slc (.mk 0 90 0) [32] 2 0 (lo) true)), (24, (.ptr (.mk 0 24 0) (τ) 0 0)), (25, (.ptr (.mk 0 25 0) (σ) 0 0)), (104, (.lst 4 (List.map celBu bs))), (105, (.v (.int .i64 ((↑(List.map celBu bs).length : Int))))), (106, (.v (.int .i64 ((↑i : Int))))), (117, (.v (.int .i64 (b.fst.snd)))), (118, (.v (.int .i64 ((↑j : Int)))))] [((.mk 0 90 0), (.mk [32] (List.map celS o2) 2 true)), ((.mk 0 24 0), (.mk (τ) [[(.v (.int .i64 (b.fst.fst))), (.v (.int .i64 (b.fst.snd))), (.cpx (b.snd.fst.fst) (b.snd.fst.snd)), (.v (.bool (b.snd.snd)))]] 4 true)), ((.mk 0 25 0), (.mk (σ) [[(AV.cpx (v.fst.fst) (v.fst.snd)), (.v (.bool (v.snd)))]] 2 true))] 0)))]) (by kernel_rfl) (hbLwArA h0 (hcLwArA h1 (hcLwArA (c := (.st ([3, (i)] ++ (π)) ([3, (i)] ++ (π)))) rfl (hcLwArA (c := (.st ([3, (i)] ++ (π)) ([3, (i)] ++ (π)))) rfl (hcLwArA (c := (.st ([8, (i)] ++ (π)) ([8, (i)] ++ (π)))) rfl (hbLwArA h2 (hcLwArA (c := (.st ([3, (i)] ++ (π)) ([3, (i)] ++ (π)))) rfl (hcLwArA (c := (.st ([8, (i)] ++ (π)) ([8, (i)] ++ (π)))) rfl (hcLwArA (c := (.st ([3, (i)] ++ (π)) ([3, (i)] ++ (π)))) rfl (hcLwArA h3 hnLwArA))))))))))
theorem arx_1 {L n : Nat} {rate delay nn : Int} {ts es xs vs ds : List (Nat × Nat)} {us u2 : List (Nat × Nat)} {lu lo i : Nat} {os o2 : List ((Nat × Nat) × Bool)} {st π : List Nat} {bs : List ((Int × Int) × (Nat × Nat) × Bool)} {τ σ : List Nat} {b : (Int × Int) × (Nat × Nat) × Bool} {v : (Nat × Nat) × Bool} {j : Nat} {x108 : (Int × Int) × (Nat × Nat) × Bool} (h0 : (decide ((↑i : Int) < (↑(List.map celBu bs).length : Int))) = true) (h1 : HLwArAspecA L n (.el (List.map celBu bs) (.v (.int .i64 ((↑i : Int)))) [(.v (.int .i64 (x108.fst.fst))), (.v (.int .i64 (x108.fst.snd))), (.cpx (x108.snd.fst.fst) (x108.snd.fst.snd)), (.v (.bool (x108.snd.snd)))])) (h2 : (x108.snd.snd) = false) (h3 : HLwArAspecA L n (.loop 0 [5, 20, 24, 25, 104, 105, 106, 117, 118] m31b0 ([15, (i)] ++ (π)) (.mk [(5, (.v (.int .i64 (nn)))), (20, (.slc (.mk 0 90 0) [32] 2 0 (lo) true)), (24, (.ptr (.mk 0 24 0) ([3, (i)] ++ (π)) 0 0)), (25, (.ptr (.mk 0 25 0) ([8, (i)] ++ (π)) 0 0)), (104, (.lst 4 (List.map celBu bs))), (105, (.v (.int .i64 ((↑(List.map celBu bs).length : Int))))), (106, (.v (.int .i64 ((↑i : Int))))), (117, (.v (.int .i64 (x108.fst.snd)))), (118, (.v (.int .i64 0)))] [((.mk 0 90 0), (.mk [32] (List.map celS os) 2 true)), ((.mk 0 24 0), (.mk ([3, (i)] ++ (π)) [[(.v (.int .i64 (x108.fst.fst))), (.v (.int .i64 (x108.fst.snd))), (.cpx (x108.snd.fst.fst) (x108.snd.fst.snd)), (.v (.bool (x108.snd.snd)))]] 4 true)), ((.mk 0 25 0), (.mk ([8, (i)] ++ (π)) [[(AV.cpx ((smp false (x108.snd.fst.fst, x108.snd.fst.snd)).fst.fst) ((smp false (x108.snd.fst.fst, x108.snd.fst.snd)).fst.snd)), (.v (.bool ((smp false (x108.snd.fst.fst, x108.snd.fst.snd)).snd)))]] 2 true))] 0) (.exit 7) (.mk [(5, (.v (.int .i64 (nn)))), (20, (.slc (.mk 0 90 0) [32] 2 0 (lo) true)), (24, (.ptr (.mk 0 24 0) (τ) 0 0)), (25, (.ptr (.mk 0 25 0) (σ) 0 0)), (104, (.lst 4 (List.map celBu bs))), (105, (.v (.int .i64 ((↑(List.map celBu bs).length : Int))))), (106, (.v (.int .i64 ((↑i : Int))))), (117, (.v (.int .i64 (b.fst.snd)))), (118, (.v (.int .i64 ((↑j : Int)))))] [((.mk 0 90 0), (.mk [32] (List.map celS o2) 2 true)), ((.mk 0 24 0), (.mk (τ) [[(.v (.int .i64 (b.fst.fst))), (.v (.int .i64 (b.fst.snd))), (.cpx (b.snd.fst.fst) (b.snd.fst.snd)), (.v (.bool (b.snd.snd)))]] 4 true)), ((.mk 0 25 0), (.mk (σ) [[(AV.cpx (v.fst.fst) (v.fst.snd)), (.v (.bool (v.snd)))]] 2 true))] 0))) : rnd 0 [5, 20, 104, 105, 106] (bodyOf ⟨fnOf, specA, L⟩ (runF ⟨fnOf, specA, L⟩ n) 0 m31b1 (i :: π) (arB os bs nn lo i : St)) = some (.nrm, (.mk [(5, (.v (.int .i64 (nn)))), (20, (.slc (.mk 0 90 0) [32] 2 0 (lo) true)), (104, (.lst 4 (List.map celBu bs))), (105, (.v (.int .i64 ((↑(List.map celBu bs).length : Int))))), (106, (.v (.int .i64 (IntKind.wrap .i64 ((↑i : Int) + 1)))))] [((.mk 0 90 0), (.mk [32] (List.map celS o2) 2 true))] 0)) :=
  rndD_sound (q := [((some 107), (Dec.b true)), ((some 108), (Dec.el [(.v (.int .i64 (x108.fst.fst))), (.v (.int .i64 (x108.fst.snd))), (.cpx (x108.snd.fst.fst) (x108.snd.fst.snd)), (.v (.bool (x108.snd.snd)))])), ((some 114), (Dec.b false)), ((some 200000), (Dec.loop (.exit 7) (.mk [(5, (.v (.int .i64 (nn)))), (20, (.slc (.mk 0 90 0) [32] 2 0 (lo) true)), (24, (.ptr (.mk 0 24 0) (τ) 0 0)), (25, (.ptr (.mk 0 25 0) (σ) 0 0)), (104, (.lst 4 (List.map celBu bs))), (105, (.v (.int .i64 ((↑(List.map celBu bs).length : Int))))), (106, (.v (.int .i64 ((↑i : Int))))), (117, (.v (.int .i64 (b.fst.snd)))), (118, (.v (.int .i64 ((↑j : Int)))))] [((.mk 0 90 0), (.mk [32] (List.map celS o2) 2 true)), ((.mk 0 24 0), (.mk (τ) [[(.v (.int .i64 (b.fst.fst))), (.v (.int .i64 (b.fst.snd))), (.cpx (b.snd.fst.fst) (b.snd.fst.snd)), (.v (.bool (b.snd.snd)))]] 4 true)), ((.mk 0 25 0), (.mk (σ) [[(AV.cpx (v.fst.fst) (v.fst.snd)), (.v (.bool (v.snd)))]] 2 true))] 0)))]) (by kernel_rfl) (hbLwArA h0 (hcLwArA h1 (hcLwArA (c := (.st ([3, (i)] ++ (π)) ([3, (i)] ++ (π)))) rfl (hcLwArA (c := (.st ([3, (i)] ++ (π)) ([3, (i)] ++ (π)))) rfl (hcLwArA (c := (.st ([8, (i)] ++ (π)) ([8, (i)] ++ (π)))) rfl (hbLwArA h2 (hcLwArA (c := (.st ([3, (i)] ++ (π)) ([3, (i)] ++ (π)))) rfl (hcLwArA (c := (.st ([3, (i)] ++ (π)) ([3, (i)] ++ (π)))) rfl (hcLwArA h3 hnLwArA)))))))))
theorem adi_0 {L n : Nat} {rate delay nn : Int} {ts es xs vs ds : List (Nat × Nat)} {us u2 : List (Nat × Nat)} {lu lo i : Nat} {os o2 : List ((Nat × Nat) × Bool)} {st π : List Nat} {bs : List ((Int × Int) × (Nat × Nat) × Bool)} {τ : List Nat} {v : (Nat × Nat) × Bool} {j : Nat} {x125 : (Int × Int) × (Nat × Nat) × Bool} {x133 : (Int × Int) × (Nat × Nat) × Bool} {x139 : (Int × Int) × (Nat × Nat) × Bool} {x146 : (Int × Int) × (Nat × Nat) × Bool} {x152 : (Int × Int) × (Nat × Nat) × Bool} (h0 : (decide ((↑j : Int) < (↑(List.map celBu bs).length : Int))) = true) (h1 : HLwArAspecA L n (.el (List.map celBu bs) (.v (.int .i64 ((↑j : Int)))) [(.v (.int .i64 (x125.fst.fst))), (.v (.int .i64 (x125.fst.snd))), (.cpx (x125.snd.fst.fst) (x125.snd.fst.snd)), (.v (.bool (x125.snd.snd)))])) (h2 : (decide ((↑i : Int) ≥ x125.fst.fst)) = true) (h3 : HLwArAspecA L n (.el (List.map celBu bs) (.v (.int .i64 ((↑j : Int)))) [(.v (.int .i64 (x133.fst.fst))), (.v (.int .i64 (x133.fst.snd))), (.cpx (x133.snd.fst.fst) (x133.snd.fst.snd)), (.v (.bool (x133.snd.snd)))])) (h4 : HLwArAspecA L n (.el (List.map celBu bs) (.v (.int .i64 ((↑j : Int)))) [(.v (.int .i64 (x139.fst.fst))), (.v (.int .i64 (x139.fst.snd))), (.cpx (x139.snd.fst.fst) (x139.snd.fst.snd)), (.v (.bool (x139.snd.snd)))])) (h5 : (decide (IntKind.wrap .i64 ((↑i : Int) - x133.fst.fst) < x139.fst.snd)) = true) (h6 : HLwArAspecA L n (.el (List.map celBu bs) (.v (.int .i64 ((↑j : Int)))) [(.v (.int .i64 (x146.fst.fst))), (.v (.int .i64 (x146.fst.snd))), (.cpx (x146.snd.fst.fst) (x146.snd.fst.snd)), (.v (.bool (x146.snd.snd)))])) (h7 : HLwArAspecA L n (.el (List.map celBu bs) (.v (.int .i64 ((↑j : Int)))) [(.v (.int .i64 (x152.fst.fst))), (.v (.int .i64 (x152.fst.snd))), (.cpx (x152.snd.fst.fst) (x152.snd.fst.snd)), (.v (.bool (x152.snd.snd)))])) (h8 : (x152.snd.snd) = true) : rnd 0 [3, 4, 5, 14, 18, 19, 21, 22] (bodyOf ⟨fnOf, specA, L⟩ (runF ⟨fnOf, specA, L⟩ n) 0 m32b0 (j :: π) (adI ds us os bs nn st τ lu lo i v j : St)) = some (.nrm, (.mk [(3, (.lst 1 (List.map celC ds))), (4, (.lst 4 (List.map celBu bs))), (5, (.v (.int .i64 (nn)))), (14, (.slc (.mk 0 28 0) [1, 7] 1 0 (lu) false)), (18, (.slc (.mk 0 18 1000) (st) 2 0 (lo) false)), (19, (.v (.int .i64 ((↑i : Int))))), (21, (.ptr (.mk 0 21 0) (τ) 0 0)), (22, (.v (.int .i64 (IntKind.wrap .i64 ((↑j : Int) + 1)))))] [((.mk 0 18 1000), (.mk (st) (List.map celS os) 2 true)), ((.mk 0 28 0), (.mk [1, 7] (List.map celC us) 1 true)), ((.mk 0 21 0), (.mk (τ) [[(AV.cpx 0 0), (.v (.bool true))]] 2 true))] 0)) :=
  rndD_sound (q := [((some 119), (Dec.b true)), ((some 125), (Dec.el [(.v (.int .i64 (x125.fst.fst))), (.v (.int .i64 (x125.fst.snd))), (.cpx (x125.snd.fst.fst) (x125.snd.fst.snd)), (.v (.bool (x125.snd.snd)))])), ((some 129), (Dec.b true)), ((some 133), (Dec.el [(.v (.int .i64 (x133.fst.fst))), (.v (.int .i64 (x133.fst.snd))), (.cpx (x133.snd.fst.fst) (x133.snd.fst.snd)), (.v (.bool (x133.snd.snd)))])), ((some 139), (Dec.el [(.v (.int .i64 (x139.fst.fst))), (.v (.int .i64 (x139.fst.snd))), (.cpx (x139.snd.fst.fst) (x139.snd.fst.snd)), (.v (.bool (x139.snd.snd)))])), ((some 143), (Dec.b true)), ((some 146), (Dec.el [(.v (.int .i64 (x146.fst.fst))), (.v (.int .i64 (x146.fst.snd))), (.cpx (x146.snd.fst.fst) (x146.snd.fst.snd)), (.v (.bool (x146.snd.snd)))])), ((some 152), (Dec.el [(.v (.int .i64 (x152.fst.fst))), (.v (.int .i64 (x152.fst.snd))), (.cpx (x152.snd.fst.fst) (x152.snd.fst.snd)), (.v (.bool (x152.snd.snd)))])), ((some 154), (Dec.b true))]) (by kernel_rfl) (hbLwArA h0 (hcLwArA h1 (hbLwArA h2 (hcLwArA h3 (hcLwArA h4 (hbLwArA h5 (hcLwArA h6 (hcLwArA (c := (.st (τ) (τ))) rfl (hcLwArA h7 (hbLwArA h8 (hcLwArA (c := (.st (τ) (τ))) rfl hnLwArA)))))))))))
theorem adi_1 {L n : Nat} {rate delay nn : Int} {ts es xs vs ds : List (Nat × Nat)} {us u2 : List (Nat × Nat)} {lu lo i : Nat} {os o2 : List ((Nat × Nat) × Bool)} {st π : List Nat} {bs : List ((Int × Int) × (Nat × Nat) × Bool)} {τ : List Nat} {v : (Nat × Nat) × Bool} {j : Nat} {x125 : (Int × Int) × (Nat × Nat) × Bool} {x133 : (Int × Int) × (Nat × Nat) × Bool} {x139 : (Int × Int) × (Nat × Nat) × Bool} {x146 : (Int × Int) × (Nat × Nat) × Bool} {x152 : (Int × Int) × (Nat × Nat) × Bool} (h0 : (decide ((↑j : Int) < (↑(List.map celBu bs).length : Int))) = true) (h1 : HLwArAspecA L n (.el (List.map celBu bs) (.v (.int .i64 ((↑j : Int)))) [(.v (.int .i64 (x125.fst.fst))), (.v (.int .i64 (x125.fst.snd))), (.cpx (x125.snd.fst.fst) (x125.snd.fst.snd)), (.v (.bool (x125.snd.snd)))])) (h2 : (decide ((↑i : Int) ≥ x125.fst.fst)) = true) (h3 : HLwArAspecA L n (.el (List.map celBu bs) (.v (.int .i64 ((↑j : Int)))) [(.v (.int .i64 (x133.fst.fst))), (.v (.int .i64 (x133.fst.snd))), (.cpx (x133.snd.fst.fst) (x133.snd.fst.snd)), (.v (.bool (x133.snd.snd)))])) (h4 : HLwArAspecA L n (.el (List.map celBu bs) (.v (.int .i64 ((↑j : Int)))) [(.v (.int .i64 (x139.fst.fst))), (.v (.int .i64 (x139.fst.snd))), (.cpx (x139.snd.fst.fst) (x139.snd.fst.snd)), (.v (.bool (x139.snd.snd)))])) (h5 : (decide (IntKind.wrap .i64 ((↑i : Int) - x133.fst.fst) < x139.fst.snd)) = true) (h6 : HLwArAspecA L n (.el (List.map celBu bs) (.v (.int .i64 ((↑j : Int)))) [(.v (.int .i64 (x146.fst.fst))), (.v (.int .i64 (x146.fst.snd))), (.cpx (x146.snd.fst.fst) (x146.snd.fst.snd)), (.v (.bool (x146.snd.snd)))])) (h7 : HLwArAspecA L n (.el (List.map celBu bs) (.v (.int .i64 ((↑j : Int)))) [(.v (.int .i64 (x152.fst.fst))), (.v (.int .i64 (x152.fst.snd))), (.cpx (x152.snd.fst.fst) (x152.snd.fst.snd)), (.v (.bool (x152.snd.snd)))])) (h8 : (x152.snd.snd) = false) : rnd 0 [3, 4, 5, 14, 18, 19, 21, 22] (bodyOf ⟨fnOf, specA, L⟩ (runF ⟨fnOf, specA, L⟩ n) 0 m32b0 (j :: π) (adI ds us os bs nn st τ lu lo i v j : St)) = some (.nrm, (.mk [(3, (.lst 1 (List.map celC ds))), (4, (.lst 4 (List.map celBu bs))), (5, (.v (.int .i64 (nn)))), (14, (.slc (.mk 0 28 0) [1, 7] 1 0 (lu) false)), (18, (.slc (.mk 0 18 1000) (st) 2 0 (lo) false)), (19, (.v (.int .i64 ((↑i : Int))))), (21, (.ptr (.mk 0 21 0) (τ) 0 0)), (22, (.v (.int .i64 (IntKind.wrap .i64 ((↑j : Int) + 1)))))] [((.mk 0 18 1000), (.mk (st) (List.map celS os) 2 true)), ((.mk 0 28 0), (.mk [1, 7] (List.map celC us) 1 true)), ((.mk 0 21 0), (.mk (τ) [[(AV.cpx ((smp true (x146.snd.fst.fst, x146.snd.fst.snd)).fst.fst) ((smp true (x146.snd.fst.fst, x146.snd.fst.snd)).fst.snd)), (.v (.bool ((smp true (x146.snd.fst.fst, x146.snd.fst.snd)).snd)))]] 2 true))] 0)) :=
  rndD_sound (q := [((some 119), (Dec.b true)), ((some 125), (Dec.el [(.v (.int .i64 (x125.fst.fst))), (.v (.int .i64 (x125.fst.snd))), (.cpx (x125.snd.fst.fst) (x125.snd.fst.snd)), (.v (.bool (x125.snd.snd)))])), ((some 129), (Dec.b true)), ((some 133), (Dec.el [(.v (.int .i64 (x133.fst.fst))), (.v (.int .i64 (x133.fst.snd))), (.cpx (x133.snd.fst.fst) (x133.snd.fst.snd)), (.v (.bool (x133.snd.snd)))])), ((some 139), (Dec.el [(.v (.int .i64 (x139.fst.fst))), (.v (.int .i64 (x139.fst.snd))), (.cpx (x139.snd.fst.fst) (x139.snd.fst.snd)), (.v (.bool (x139.snd.snd)))])), ((some 143), (Dec.b true)), ((some 146), (Dec.el [(.v (.int .i64 (x146.fst.fst))), (.v (.int .i64 (x146.fst.snd))), (.cpx (x146.snd.fst.fst) (x146.snd.fst.snd)), (.v (.bool (x146.snd.snd)))])), ((some 152), (Dec.el [(.v (.int .i64 (x152.fst.fst))), (.v (.int .i64 (x152.fst.snd))), (.cpx (x152.snd.fst.fst) (x152.snd.fst.snd)), (.v (.bool (x152.snd.snd)))])), ((some 154), (Dec.b false))]) (by kernel_rfl) (hbLwArA h0 (hcLwArA h1 (hbLwArA h2 (hcLwArA h3 (hcLwArA h4 (hbLwArA h5 (hcLwArA h6 (hcLwArA (c := (.st (τ) (τ))) rfl (hcLwArA h7 (hbLwArA h8 hnLwArA))))))))))
theorem adi_2 {L n : Nat} {rate delay nn : Int} {ts es xs vs ds : List (Nat × Nat)} {us u2 : List (Nat × Nat)} {lu lo i : Nat} {os o2 : List ((Nat × Nat) × Bool)} {st π : List Nat} {bs : List ((Int × Int) × (Nat × Nat) × Bool)} {τ : List Nat} {v : (Nat × Nat) × Bool} {j : Nat} {x125 : (Int × Int) × (Nat × Nat) × Bool} {x133 : (Int × Int) × (Nat × Nat) × Bool} {x139 : (Int × Int) × (Nat × Nat) × Bool} (h0 : (decide ((↑j : Int) < (↑(List.map celBu bs).length : Int))) = true) (h1 : HLwArAspecA L n (.el (List.map celBu bs) (.v (.int .i64 ((↑j : Int)))) [(.v (.int .i64 (x125.fst.fst))), (.v (.int .i64 (x125.fst.snd))), (.cpx (x125.snd.fst.fst) (x125.snd.fst.snd)), (.v (.bool (x125.snd.snd)))])) (h2 : (decide ((↑i : Int) ≥ x125.fst.fst)) = true) (h3 : HLwArAspecA L n (.el (List.map celBu bs) (.v (.int .i64 ((↑j : Int)))) [(.v (.int .i64 (x133.fst.fst))), (.v (.int .i64 (x133.fst.snd))), (.cpx (x133.snd.fst.fst) (x133.snd.fst.snd)), (.v (.bool (x133.snd.snd)))])) (h4 : HLwArAspecA L n (.el (List.map celBu bs) (.v (.int .i64 ((↑j : Int)))) [(.v (.int .i64 (x139.fst.fst))), (.v (.int .i64 (x139.fst.snd))), (.cpx (x139.snd.fst.fst) (x139.snd.fst.snd)), (.v (.bool (x139.snd.snd)))])) (h5 : (decide (IntKind.wrap .i64 ((↑i : Int) - x133.fst.fst) < x139.fst.snd)) = false) : rnd 0 [3, 4, 5, 14, 18, 19, 21, 22] (bodyOf ⟨fnOf, specA, L⟩ (runF ⟨fnOf, specA, L⟩ n) 0 m32b0 (j :: π) (adI ds us os bs nn st τ lu lo i v j : St)) = some (.nrm, (.mk [(3, (.lst 1 (List.map celC ds))), (4, (.lst 4 (List.map celBu bs))), (5, (.v (.int .i64 (nn)))), (14, (.slc (.mk 0 28 0) [1, 7] 1 0 (lu) false)), (18, (.slc (.mk 0 18 1000) (st) 2 0 (lo) false)), (19, (.v (.int .i64 ((↑i : Int))))), (21, (.ptr (.mk 0 21 0) (τ) 0 0)), (22, (.v (.int .i64 (IntKind.wrap .i64 ((↑j : Int) + 1)))))] [((.mk 0 18 1000), (.mk (st) (List.map celS os) 2 true)), ((.mk 0 28 0), (.mk [1, 7] (List.map celC us) 1 true)), ((.mk 0 21 0), (.mk (τ) [[(AV.cpx (v.fst.fst) (v.fst.snd)), (.v (.bool (v.snd)))]] 2 true))] 0)) :=
  rndD_sound (q := [((some 119), (Dec.b true)), ((some 125), (Dec.el [(.v (.int .i64 (x125.fst.fst))), (.v (.int .i64 (x125.fst.snd))), (.cpx (x125.snd.fst.fst) (x125.snd.fst.snd)), (.v (.bool (x125.snd.snd)))])), ((some 129), (Dec.b true)), ((some 133), (Dec.el [(.v (.int .i64 (x133.fst.fst))), (.v (.int .i64 (x133.fst.snd))), (.cpx (x133.snd.fst.fst) (x133.snd.fst.snd)), (.v (.bool (x133.snd.snd)))])), ((some 139), (Dec.el [(.v (.int .i64 (x139.fst.fst))), (.v (.int .i64 (x139.fst.snd))), (.cpx (x139.snd.fst.fst) (x139.snd.fst.snd)), (.v (.bool (x139.snd.snd)))])), ((some 143), (Dec.b false))]) (by kernel_rfl) (hbLwArA h0 (hcLwArA h1 (hbLwArA h2 (hcLwArA h3 (hcLwArA h4 (hbLwArA h5 hnLwArA))))))
theorem adi_3 {L n : Nat} {rate delay nn : Int} {ts es xs vs ds : List (Nat × Nat)} {us u2 : List (Nat × Nat)} {lu lo i : Nat} {os o2 : List ((Nat × Nat) × Bool)} {st π : List Nat} {bs : List ((Int × Int) × (Nat × Nat) × Bool)} {τ : List Nat} {v : (Nat × Nat) × Bool} {j : Nat} {x125 : (Int × Int) × (Nat × Nat) × Bool} (h0 : (decide ((↑j : Int) < (↑(List.map celBu bs).length : Int))) = true) (h1 : HLwArAspecA L n (.el (List.map celBu bs) (.v (.int .i64 ((↑j : Int)))) [(.v (.int .i64 (x125.fst.fst))), (.v (.int .i64 (x125.fst.snd))), (.cpx (x125.snd.fst.fst) (x125.snd.fst.snd)), (.v (.bool (x125.snd.snd)))])) (h2 : (decide ((↑i : Int) ≥ x125.fst.fst)) = false) : rnd 0 [3, 4, 5, 14, 18, 19, 21, 22] (bodyOf ⟨fnOf, specA, L⟩ (runF ⟨fnOf, specA, L⟩ n) 0 m32b0 (j :: π) (adI ds us os bs nn st τ lu lo i v j : St)) = some (.nrm, (.mk [(3, (.lst 1 (List.map celC ds))), (4, (.lst 4 (List.map celBu bs))), (5, (.v (.int .i64 (nn)))), (14, (.slc (.mk 0 28 0) [1, 7] 1 0 (lu) false)), (18, (.slc (.mk 0 18 1000) (st) 2 0 (lo) false)), (19, (.v (.int .i64 ((↑i : Int))))), (21, (.ptr (.mk 0 21 0) (τ) 0 0)), (22, (.v (.int .i64 (IntKind.wrap .i64 ((↑j : Int) + 1)))))] [((.mk 0 18 1000), (.mk (st) (List.map celS os) 2 true)), ((.mk 0 28 0), (.mk [1, 7] (List.map celC us) 1 true)), ((.mk 0 21 0), (.mk (τ) [[(AV.cpx (v.fst.fst) (v.fst.snd)), (.v (.bool (v.snd)))]] 2 true))] 0)) :=
  rndD_sound (q := [((some 119), (Dec.b true)), ((some 125), (Dec.el [(.v (.int .i64 (x125.fst.fst))), (.v (.int .i64 (x125.fst.snd))), (.cpx (x125.snd.fst.fst) (x125.snd.fst.snd)), (.v (.bool (x125.snd.snd)))])), ((some 129), (Dec.b false))]) (by kernel_rfl) (hbLwArA h0 (hcLwArA h1 (hbLwArA h2 hnLwArA)))
theorem adi_4 {L n : Nat} {rate delay nn : Int} {ts es xs vs ds : List (Nat × Nat)} {us u2 : List (Nat × Nat)} {lu lo i : Nat} {os o2 : List ((Nat × Nat) × Bool)} {st π : List Nat} {bs : List ((Int × Int) × (Nat × Nat) × Bool)} {τ : List Nat} {v : (Nat × Nat) × Bool} {j : Nat} (h0 : (decide ((↑j : Int) < (↑(List.map celBu bs).length : Int))) = false) : rnd 0 [3, 4, 5, 14, 18, 19, 21, 22] (bodyOf ⟨fnOf, specA, L⟩ (runF ⟨fnOf, specA, L⟩ n) 0 m32b0 (j :: π) (adI ds us os bs nn st τ lu lo i v j : St)) = some ((.exit 6), (.mk [(3, (.lst 1 (List.map celC ds))), (4, (.lst 4 (List.map celBu bs))), (5, (.v (.int .i64 (nn)))), (14, (.slc (.mk 0 28 0) [1, 7] 1 0 (lu) false)), (18, (.slc (.mk 0 18 1000) (st) 2 0 (lo) false)), (19, (.v (.int .i64 ((↑i : Int))))), (21, (.ptr (.mk 0 21 0) (τ) 0 0)), (22, (.v (.int .i64 ((↑j : Int)))))] [((.mk 0 18 1000), (.mk (st) (List.map celS os) 2 true)), ((.mk 0 28 0), (.mk [1, 7] (List.map celC us) 1 true)), ((.mk 0 21 0), (.mk (τ) [[(AV.cpx (v.fst.fst) (v.fst.snd)), (.v (.bool (v.snd)))]] 2 true))] 0)) :=
  rndD_sound (q := [((some 119), (Dec.b false))]) (by kernel_rfl) (hbLwArA h0 hnLwArA)
theorem ari_0 {L n : Nat} {rate delay nn : Int} {ts es xs vs ds : List (Nat × Nat)} {us u2 : List (Nat × Nat)} {lu lo i : Nat} {os o2 : List ((Nat × Nat) × Bool)} {st π : List Nat} {bs : List ((Int × Int) × (Nat × Nat) × Bool)} {τ σ : List Nat} {b : (Int × Int) × (Nat × Nat) × Bool} {v : (Nat × Nat) × Bool} {j : Nat} (h0 : (decide ((↑j : Int) < b.fst.snd)) = true) (h1 : (decide (b.fst.fst ≥ IntKind.wrap .i64 (nn - (↑j : Int)))) = true) : rnd 0 [5, 20, 24, 25, 104, 105, 106, 117, 118] (bodyOf ⟨fnOf, specA, L⟩ (runF ⟨fnOf, specA, L⟩ n) 0 m31b0 (j :: π) (arI os bs nn τ σ b v lo i j : St)) = some ((.exit 7), (.mk [(5, (.v (.int .i64 (nn)))), (20, (.slc (.mk 0 90 0) [32] 2 0 (lo) true)), (24, (.ptr (.mk 0 24 0) (τ) 0 0)), (25, (.ptr (.mk 0 25 0) (σ) 0 0)), (104, (.lst 4 (List.map celBu bs))), (105, (.v (.int .i64 ((↑(List.map celBu bs).length : Int))))), (106, (.v (.int .i64 ((↑i : Int))))), (117, (.v (.int .i64 (b.fst.snd)))), (118, (.v (.int .i64 ((↑j : Int)))))] [((.mk 0 90 0), (.mk [32] (List.map celS os) 2 true)), ((.mk 0 24 0), (.mk (τ) [[(.v (.int .i64 (b.fst.fst))), (.v (.int .i64 (b.fst.snd))), (.cpx (b.snd.fst.fst) (b.snd.fst.snd)), (.v (.bool (b.snd.snd)))]] 4 true)), ((.mk 0 25 0), (.mk (σ) [[(AV.cpx (v.fst.fst) (v.fst.snd)), (.v (.bool (v.snd)))]] 2 true))] 0)) :=
  rndD_sound (q := [((some 119), (Dec.b true)), ((some 126), (Dec.b true))]) (by kernel_rfl) (hbLwArA h0 (hcLwArA (c := (.st (τ) (τ))) rfl (hbLwArA h1 hnLwArA)))
theorem ari_1 {L n : Nat} {rate delay nn : Int} {ts es xs vs ds : List (Nat × Nat)} {us u2 : List (Nat × Nat)} {lu lo i : Nat} {os o2 : List ((Nat × Nat) × Bool)} {st π : List Nat} {bs : List ((Int × Int) × (Nat × Nat) × Bool)} {τ σ : List Nat} {b : (Int × Int) × (Nat × Nat) × Bool} {v : (Nat × Nat) × Bool} {j : Nat} {k133 : Nat} {x0 : (Nat × Nat) × Bool} (h0 : (decide ((↑j : Int) < b.fst.snd)) = true) (h1 : (decide (b.fst.fst ≥ IntKind.wrap .i64 (nn - (↑j : Int)))) = false) (h2 : HLwArAspecA L n (.ix (.v (.int .i64 (IntKind.wrap .i64 (b.fst.fst + (↑j : Int))))) (lo) (k133))) (h3 : HLwArAspecA L n (.at (List.map celS os) (0 + k133) [(AV.cpx (x0.fst.fst) (x0.fst.snd)), (.v (.bool (x0.snd)))])) : rnd 0 [5, 20, 24, 25, 104, 105, 106, 117, 118] (bodyOf ⟨fnOf, specA, L⟩ (runF ⟨fnOf, specA, L⟩ n) 0 m31b0 (j :: π) (arI os bs nn τ σ b v lo i j : St)) = some (.nrm, (.mk [(5, (.v (.int .i64 (nn)))), (20, (.slc (.mk 0 90 0) [32] 2 0 (lo) true)), (24, (.ptr (.mk 0 24 0) (τ) 0 0)), (25, (.ptr (.mk 0 25 0) (σ) 0 0)), (104, (.lst 4 (List.map celBu bs))), (105, (.v (.int .i64 ((↑(List.map celBu bs).length : Int))))), (106, (.v (.int .i64 ((↑i : Int))))), (117, (.v (.int .i64 (b.fst.snd)))), (118, (.v (.int .i64 (IntKind.wrap .i64 ((↑j : Int) + 1)))))] [((.mk 0 90 0), (.mk [32] (List.set (List.map celS os) (0 + k133) [(AV.cpx (v.fst.fst) (v.fst.snd)), (.v (.bool (v.snd)))]) 2 true)), ((.mk 0 24 0), (.mk (τ) [[(.v (.int .i64 (b.fst.fst))), (.v (.int .i64 (b.fst.snd))), (.cpx (b.snd.fst.fst) (b.snd.fst.snd)), (.v (.bool (b.snd.snd)))]] 4 true)), ((.mk 0 25 0), (.mk (σ) [[(AV.cpx (v.fst.fst) (v.fst.snd)), (.v (.bool (v.snd)))]] 2 true))] 0)) :=
  rndD_sound (q := [((some 119), (Dec.b true)), ((some 126), (Dec.b false)), ((some 133), (Dec.ix (k133))), (none, (Dec.el [(AV.cpx (x0.fst.fst) (x0.fst.snd)), (.v (.bool (x0.snd)))]))]) (by kernel_rfl) (hbLwArA h0 (hcLwArA (c := (.st (τ) (τ))) rfl (hbLwArA h1 (hcLwArA (c := (.st (τ) (τ))) rfl (hcLwArA (c := (.st (σ) (σ))) rfl (hcLwArA h2 (hcLwArA (c := (.st [32] [32])) rfl (hcLwArA h3 hnLwArA))))))))
theorem ari_2 {L n : Nat} {rate delay nn : Int} {ts es xs vs ds : List (Nat × Nat)} {us u2 : List (Nat × Nat)} {lu lo i : Nat} {os o2 : List ((Nat × Nat) × Bool)} {st π : List Nat} {bs : List ((Int × Int) × (Nat × Nat) × Bool)} {τ σ : List Nat} {b : (Int × Int) × (Nat × Nat) × Bool} {v : (Nat × Nat) × Bool} {j : Nat} (h0 : (decide ((↑j : Int) < b.fst.snd)) = false) : rnd 0 [5, 20, 24, 25, 104, 105, 106, 117, 118] (bodyOf ⟨fnOf, specA, L⟩ (runF ⟨fnOf, specA, L⟩ n) 0 m31b0 (j :: π) (arI os bs nn τ σ b v lo i j : St)) = some ((.exit 8), (.mk [(5, (.v (.int .i64 (nn)))), (20, (.slc (.mk 0 90 0) [32] 2 0 (lo) true)), (24, (.ptr (.mk 0 24 0) (τ) 0 0)), (25, (.ptr (.mk 0 25 0) (σ) 0 0)), (104, (.lst 4 (List.map celBu bs))), (105, (.v (.int .i64 ((↑(List.map celBu bs).length : Int))))), (106, (.v (.int .i64 ((↑i : Int))))), (117, (.v (.int .i64 (b.fst.snd)))), (118, (.v (.int .i64 ((↑j : Int)))))] [((.mk 0 90 0), (.mk [32] (List.map celS os) 2 true)), ((.mk 0 24 0), (.mk (τ) [[(.v (.int .i64 (b.fst.fst))), (.v (.int .i64 (b.fst.snd))), (.cpx (b.snd.fst.fst) (b.snd.fst.snd)), (.v (.bool (b.snd.snd)))]] 4 true)), ((.mk 0 25 0), (.mk (σ) [[(AV.cpx (v.fst.fst) (v.fst.snd)), (.v (.bool (v.snd)))]] 2 true))] 0)) :=
  rndD_sound (q := [((some 119), (Dec.b false))]) (by kernel_rfl) (hbLwArA h0 hnLwArA)
end Go.Proofs.Ytnphdnokedhhkaa.Fw
namespace Go.Proofs.Ytnphdnokedhhkaa.Fw
open Go Go.RowKit
abbrev Bu := (Int × Int) × (Nat × Nat) × Bool
abbrev Smp := (Nat × Nat) × Bool
def bd : Bu := ((0, 0), (0, 0), false)
def sd : Smp := ((0, 0), false)
def okBu (b : Bu) : Bool := decide (0 ≤ b.1.1) && decide (0 ≤ b.1.2)
def okBs (bs : List Bu) : Bool := (List.range bs.length).all fun i => okBu (bs.getD i bd)
def okDi (z : Nat × Nat) : Bool := onD z.1 && onD z.2
def okDs (ds : List (Nat × Nat)) : Bool := (List.range ds.length).all fun i => okDi (ds.getD i (0, 0))
theorem okBs_is {bs : List Bu} : okBs bs = true ↔ ∀ i, i < bs.length → okBu (bs.getD i bd) = true := by
  unfold okBs; simp only [List.all_eq_true, List.mem_range]
theorem okDs_is {ds : List (Nat × Nat)} : okDs ds = true ↔ ∀ i, i < ds.length → okDi (ds.getD i (0, 0)) = true := by
  unfold okDs; simp only [List.all_eq_true, List.mem_range]
def arrE (rate delay nn : Int) (ts es xs vs ds : List (Nat × Nat)) (bs : List Bu) : Int :=
  if passE rate delay nn ts es xs vs ≠ 0 then passE rate delay nn ts es xs vs
  else if 65536 < ds.length ∨ 5000 < bs.length then 1
  else if okBs bs = true then (if okDs ds = true then 0 else 7) else 1
/-- a number of the row, disturbed -/
def disF (ds us : List (Nat × Nat)) (m : Nat) : Nat × Nat := if m < ds.length then addP (us.getD m (0, 0)) (ds.getD m (0, 0)) else us.getD m (0, 0)
/-- what a burst leaves -/
def buS (doc : Bool) (b : Bu) : Smp := if b.2.2 = true then ((0, 0), true) else smp doc b.2.1
def hit (b : Bu) (m : Nat) : Prop := b.1.1 ≤ (m : Int) ∧ (m : Int) - b.1.1 < b.1.2
instance (b : Bu) (m : Nat) : Decidable (hit b m) := by unfold hit; exact inferInstance
/-- a sample, torn by the first bursts -/
def torn (doc : Bool) (bs : List Bu) (m : Nat) (s : Smp) : Nat → Smp
  | 0 => s
  | k + 1 => if hit (bs.getD k bd) m then buS doc (bs.getD k bd) else torn doc bs m s k
def arrF (doc : Bool) (us ds : List (Nat × Nat)) (bs : List Bu) (m : Nat) : Smp := torn doc bs m (smp doc (disF ds us m)) bs.length
def arrP (rate delay nn : Int) (ts es xs vs ds : List (Nat × Nat)) (bs : List Bu) : List Smp := tab (arrF false (passP rate delay nn ts es xs vs) ds bs) nn.toNat
def arrD (rate delay nn : Int) (ts es xs vs ds : List (Nat × Nat)) (bs : List Bu) : List Smp := tab (arrF true (passD rate delay nn ts es xs vs) ds bs) nn.toNat
def arrA (e : Int) (l : List Smp) : AV := if e = 0 then .tup [.own 2 (l.map celS) true, .int .i64 0] else .tup [.nils, .int .i64 e]
theorem ix_atI {P : Prog} {C : Caller} {x : Int} {i m : Nat} (h : i < m) (e : x = i) : Con.holds P C (.ix (.int .i64 x) m i) := by rw [e]; exact ix_at h
theorem set_tab {α : Type} {f g : Nat → α} {m i : Nat} {z d : α} (hi : i < m) (hz : z = g i) (h : ∀ j, j < m → j ≠ i → f j = g j) : (tab f m).set i z = tab g m :=
  eq_tab (d := d) (by rw [List.length_set, tab_len]) fun j hj => by
    rw [getD_sets (by rw [tab_len]; exact hi)]
    split
    · rename_i e; subst e; exact hz
    · rename_i e; rw [tab_at hj]; exact h j hj (Ne.symm e)
theorem tab_eq {α : Type} {f g : Nat → α} {m : Nat} (h : ∀ j, j < m → f j = g j) : tab f m = tab g m := by
  unfold tab
  exact List.map_congr_left fun j hj => h j (List.mem_range.1 hj)
section
variable {L n : Nat} {nn : Int} {ds us : List (Nat × Nat)} {bs : List Bu} {lu : Nat}
theorem burP (hL : bs.length ≤ L) (hm : bs.length ≤ 5000) :
    (okBs bs = true → Con.holds ⟨fnOf, specA, L+1⟩ (runF ⟨fnOf, specA, L+1⟩ n) (.loop 0 [3, 4, 5, 14, 46, 47, 48] m31b4 [26] (arV ds us bs nn lu 0) (.exit 0) (arV ds us bs nn lu bs.length))) ∧
    (okBs bs = false → ∃ s, Con.holds ⟨fnOf, specA, L+1⟩ (runF ⟨fnOf, specA, L+1⟩ n) (.loop 0 [3, 4, 5, 14, 46, 47, 48] m31b4 [26] (arV ds us bs nn lu 0) .ret s) ∧ outS s m31.res = some (.tup [.nils, .int .i64 1])) := by
  have hl : (bs.map celBu).length = bs.length := map_len
  have hstep : ∀ k, k ≤ bs.length → (∀ i, i < k → okBu (bs.getD i bd) = true) → ∀ i, i < k →
      seeZ 0 [3, 4, 5, 14, 46, 47, 48] m31.res (bodyOf ⟨fnOf, specA, L+1⟩ (runF ⟨fnOf, specA, L+1⟩ n) 0 m31b4 (i :: [26]) (arV ds us bs nn lu i)) = some (.go .nrm (arV ds us bs nn lu (i + 1))) := fun k hk h i hi => by
    have h1 := h i hi
    unfold okBu at h1
    simp only [Bool.and_eq_true, decide_eq_true_eq] at h1
    have he := elD_map (P := ⟨fnOf, specA, L+1⟩) (C := runF ⟨fnOf, specA, L+1⟩ n) (f := celBu) (d := bd) (show i < bs.length by omega)
    have hd : decide ((i : Int) < ((bs.map celBu).length : Int)) = true := by rw [hl]; exact dLt (by omega)
    have := @arv_2 (L+1) n 0 0 nn [] [] [] [] ds us [] lu 0 i [] [] [] [26] bs (bs.getD i bd) hd he (dF (by omega)) (dF (by omega))
    rw [wrap_id (n := (i : Int) + 1) (by omega)] at this
    exact this
  constructor
  · intro h
    exact loopX (res := m31.res) (fun i => arV ds us bs nn lu i) bs.length rfl hL (hstep _ (Nat.le_refl _) (okBs_is.1 h)) (@arv_3 (L+1) n 0 0 nn [] [] [] [] ds us [] lu 0 bs.length [] [] [] [26] bs (by rw [hl]; exact dNlt)) (by simp)
  · intro h
    rcases firstI (fun i => okBu (bs.getD i bd)) bs.length with h2 | ⟨k, hk, h1, h2⟩
    · rw [okBs_is.2 h2] at h; cases h
    · have he := elD_map (P := ⟨fnOf, specA, L+1⟩) (C := runF ⟨fnOf, specA, L+1⟩ n) (f := celBu) (d := bd) hk
      have hd : decide ((k : Int) < ((bs.map celBu).length : Int)) = true := by rw [hl]; exact dLt (by omega)
      refine loopZ (fun i => arV ds us bs nn lu i) k rfl (by omega) (hstep k (by omega) h1) ?_
      unfold okBu at h2
      by_cases c : 0 ≤ (bs.getD k bd).1.1
      · have c2 : ¬ 0 ≤ (bs.getD k bd).1.2 := by
          intro c2; rw [decide_eq_true c, decide_eq_true c2] at h2; cases h2
        exact @arv_1 (L+1) n 0 0 nn [] [] [] [] ds us [] lu 0 k [] [] [] [26] bs (bs.getD k bd) hd he (dF (by omega)) (dT (by omega))
      · exact @arv_0 (L+1) n 0 0 nn [] [] [] [] ds us [] lu 0 k [] [] [] [26] bs (bs.getD k bd) hd he (dT (by omega))
theorem burD (hL : bs.length ≤ L) (hm : bs.length ≤ 5000) :
    (okBs bs = true → Con.holds ⟨fnOf, specA, L+1⟩ (runF ⟨fnOf, specA, L+1⟩ n) (.loop 0 [3, 4, 5, 14, 16] m32b3 [24] (adV ds us bs nn lu 0) (.exit 0) (adV ds us bs nn lu bs.length))) ∧
    (okBs bs = false → ∃ s, Con.holds ⟨fnOf, specA, L+1⟩ (runF ⟨fnOf, specA, L+1⟩ n) (.loop 0 [3, 4, 5, 14, 16] m32b3 [24] (adV ds us bs nn lu 0) .ret s) ∧ outS s m32.res = some (.tup [.nils, .int .i64 1])) := by
  have hl : (bs.map celBu).length = bs.length := map_len
  have hstep : ∀ k, k ≤ bs.length → (∀ i, i < k → okBu (bs.getD i bd) = true) → ∀ i, i < k →
      seeZ 0 [3, 4, 5, 14, 16] m32.res (bodyOf ⟨fnOf, specA, L+1⟩ (runF ⟨fnOf, specA, L+1⟩ n) 0 m32b3 (i :: [24]) (adV ds us bs nn lu i)) = some (.go .nrm (adV ds us bs nn lu (i + 1))) := fun k hk h i hi => by
    have h1 := h i hi
    unfold okBu at h1
    simp only [Bool.and_eq_true, decide_eq_true_eq] at h1
    have he := elD_map (P := ⟨fnOf, specA, L+1⟩) (C := runF ⟨fnOf, specA, L+1⟩ n) (f := celBu) (d := bd) (show i < bs.length by omega)
    have hd : decide ((i : Int) < ((bs.map celBu).length : Int)) = true := by rw [hl]; exact dLt (by omega)
    have := @adv_2 (L+1) n 0 0 nn [] [] [] [] ds us [] lu 0 i [] [] [] [24] bs (bs.getD i bd) (bs.getD i bd) hd he (dF (by omega)) he (dF (by omega))
    rw [wrap_id (n := (i : Int) + 1) (by omega)] at this
    exact this
  constructor
  · intro h
    exact loopX (res := m32.res) (fun i => adV ds us bs nn lu i) bs.length rfl hL (hstep _ (Nat.le_refl _) (okBs_is.1 h)) (@adv_3 (L+1) n 0 0 nn [] [] [] [] ds us [] lu 0 bs.length [] [] [] [24] bs (by rw [hl]; exact dNlt)) (by simp)
  · intro h
    rcases firstI (fun i => okBu (bs.getD i bd)) bs.length with h2 | ⟨k, hk, h1, h2⟩
    · rw [okBs_is.2 h2] at h; cases h
    · have he := elD_map (P := ⟨fnOf, specA, L+1⟩) (C := runF ⟨fnOf, specA, L+1⟩ n) (f := celBu) (d := bd) hk
      have hd : decide ((k : Int) < ((bs.map celBu).length : Int)) = true := by rw [hl]; exact dLt (by omega)
      refine loopZ (fun i => adV ds us bs nn lu i) k rfl (by omega) (hstep k (by omega) h1) ?_
      unfold okBu at h2
      by_cases c : 0 ≤ (bs.getD k bd).1.1
      · have c2 : ¬ 0 ≤ (bs.getD k bd).1.2 := by
          intro c2; rw [decide_eq_true c, decide_eq_true c2] at h2; cases h2
        exact @adv_1 (L+1) n 0 0 nn [] [] [] [] ds us [] lu 0 k [] [] [] [24] bs (bs.getD k bd) (bs.getD k bd) hd he (dF (by omega)) he (dT (by omega))
      · exact @adv_0 (L+1) n 0 0 nn [] [] [] [] ds us [] lu 0 k [] [] [] [24] bs (bs.getD k bd) hd he (dT (by omega))
def disT (ds us : List (Nat × Nat)) (N i : Nat) : List (Nat × Nat) := tab (fun m => if m < i then disF ds us m else us.getD m (0, 0)) N
theorem disT_at {N i m : Nat} (h : m < N) : (disT ds us N i).getD m (0, 0) = if m < i then disF ds us m else us.getD m (0, 0) := by
  unfold disT; rw [tab_at h]
theorem disT_len {N i : Nat} : (disT ds us N i).length = N := tab_len
theorem disT_zero {N : Nat} (h : us.length = N) : disT ds us N 0 = us := (eq_tab (d := (0, 0)) h fun j hj => by rw [if_neg (by omega)]).symm
theorem disT_all {N : Nat} : disT ds us N ds.length = tab (disF ds us) N := tab_eq fun j hj => by
  split
  · rfl
  · rename_i c; unfold disF; rw [if_neg c]
theorem disP (hL : ds.length ≤ L) (hm : ds.length ≤ 65536) {N : Nat} (hN : N ≤ 65536) (hu : us.length = N) :
    (okDs ds = true → Con.holds ⟨fnOf, specA, L+1⟩ (runF ⟨fnOf, specA, L+1⟩ n) (.loop 0 [4, 5, 14, 61, 62, 63] m31b3 [30] (arD ds us bs N N 0) (.exit 2) (arD ds (tab (disF ds us) N) bs N N ds.length))) ∧
    (okDs ds = false → ∃ s, Con.holds ⟨fnOf, specA, L+1⟩ (runF ⟨fnOf, specA, L+1⟩ n) (.loop 0 [4, 5, 14, 61, 62, 63] m31b3 [30] (arD ds us bs N N 0) .ret s) ∧ outS s m31.res = some (.tup [.nils, .int .i64 7])) := by
  have hl : (ds.map celC).length = ds.length := map_len
  have hstep : ∀ k, k ≤ ds.length → (∀ i, i < k → okDi (ds.getD i (0, 0)) = true) → ∀ i, i < k →
      seeZ 0 [4, 5, 14, 61, 62, 63] m31.res (bodyOf ⟨fnOf, specA, L+1⟩ (runF ⟨fnOf, specA, L+1⟩ n) 0 m31b3 (i :: [30]) (arD ds (disT ds us N i) bs N N i)) = some (.go .nrm (arD ds (disT ds us N (i + 1)) bs N N (i + 1))) := fun k hk h i hi => by
    have h1 := h i hi
    unfold okDi at h1
    rw [Bool.and_eq_true] at h1
    have he := elD_map (P := ⟨fnOf, specA, L+1⟩) (C := runF ⟨fnOf, specA, L+1⟩ n) (f := celC) (d := (0, 0)) (show i < ds.length by omega)
    have hd : decide ((i : Int) < ((ds.map celC).length : Int)) = true := by rw [hl]; exact dLt (by omega)
    by_cases c : i < N
    · have ha : Con.holds ⟨fnOf, specA, L+1⟩ (runF ⟨fnOf, specA, L+1⟩ n) (.at ((disT ds us N i).map celC) (0 + i) [.cpx ((disT ds us N i).getD i (0, 0)).1 ((disT ds us N i).getD i (0, 0)).2]) := by
        rw [Nat.zero_add]; exact atD_map (f := celC) (by rw [disT_len]; exact c)
      have := @are_2 (L+1) n 0 0 (N : Int) [] [] [] [] ds (disT ds us N i) [] N 0 i [] [] [] [30] bs (ds.getD i (0, 0)) i ((disT ds us N i).getD i (0, 0)) i ((disT ds us N i).getD i (0, 0)) hd he (by rw [h1.1]; rfl) (by rw [h1.2]; rfl) (dLt c) (ix_at c) ha (ix_at c) ha
      rw [wrap_id (n := (i : Int) + 1) (by omega)] at this
      rw [this]
      unfold arD
      have e : (disT ds us N i).set i (fadd ((disT ds us N i).getD i (0, 0)).1 (ds.getD i (0, 0)).1, fadd ((disT ds us N i).getD i (0, 0)).2 (ds.getD i (0, 0)).2) = disT ds us N (i + 1) := by
        rw [disT_at c, if_neg (by omega)]
        unfold disT
        refine set_tab (d := (0, 0)) c ?_ fun j hj hne => ?_
        · rw [if_pos (by omega)]; unfold disF; rw [if_pos (by omega)]; rfl
        · by_cases c2 : j < i
          · rw [if_pos c2, if_pos (by omega)]
          · rw [if_neg c2, if_neg (by omega)]
      rw [← e, ← map_set, Nat.zero_add]
      rfl
    · have := @are_3 (L+1) n 0 0 (N : Int) [] [] [] [] ds (disT ds us N i) [] N 0 i [] [] [] [30] bs (ds.getD i (0, 0)) hd he (by rw [h1.1]; rfl) (by rw [h1.2]; rfl) (dF (by omega))
      rw [wrap_id (n := (i : Int) + 1) (by omega)] at this
      rw [this]
      have e : disT ds us N i = disT ds us N (i + 1) := tab_eq fun j hj => by rw [if_pos (by omega), if_pos (by omega)]
      rw [← e]; rfl
  constructor
  · intro h
    have := loopX (P := ⟨fnOf, specA, L+1⟩) (C := runF ⟨fnOf, specA, L+1⟩ n) (d := 0) (π := [30]) (m := m31b3) (res := m31.res) (fun i => arD ds (disT ds us N i) bs N N i) ds.length rfl hL (hstep _ (Nat.le_refl _) (okDs_is.1 h)) (@are_4 (L+1) n 0 0 (N : Int) [] [] [] [] ds (disT ds us N ds.length) [] N 0 ds.length [] [] [] [30] bs (by rw [hl]; exact dNlt)) (by simp)
    rw [disT_zero hu] at this
    rw [← disT_all]
    exact this
  · intro h
    rcases firstI (fun i => okDi (ds.getD i (0, 0))) ds.length with h2 | ⟨k, hk, h1, h2⟩
    · rw [okDs_is.2 h2] at h; cases h
    · have he := elD_map (P := ⟨fnOf, specA, L+1⟩) (C := runF ⟨fnOf, specA, L+1⟩ n) (f := celC) (d := (0, 0)) hk
      have hd : decide ((k : Int) < ((ds.map celC).length : Int)) = true := by rw [hl]; exact dLt (by omega)
      have := loopZ (P := ⟨fnOf, specA, L+1⟩) (C := runF ⟨fnOf, specA, L+1⟩ n) (π := [30]) (m := m31b3) (res := m31.res) (v := .tup [.nils, .int .i64 7]) (fun i => arD ds (disT ds us N i) bs N N i) k rfl (by omega) (hstep k (by omega) h1) (by
        unfold okDi at h2
        cases c : onD (ds.getD k (0, 0)).1 with
        | false => exact @are_0 (L+1) n 0 0 (N : Int) [] [] [] [] ds (disT ds us N k) [] N 0 k [] [] [] [30] bs (ds.getD k (0, 0)) hd he (by rw [c]; rfl)
        | true =>
          rw [c, Bool.true_and] at h2
          exact @are_1 (L+1) n 0 0 (N : Int) [] [] [] [] ds (disT ds us N k) [] N 0 k [] [] [] [30] bs (ds.getD k (0, 0)) hd he (by rw [c]; rfl) (by rw [h2]; rfl))
      rw [disT_zero hu] at this
      exact this
theorem disD (hL : ds.length ≤ L) (hm : ds.length ≤ 65536) :
    (okDs ds = true → Con.holds ⟨fnOf, specA, L+1⟩ (runF ⟨fnOf, specA, L+1⟩ n) (.loop 0 [3, 4, 5, 14, 17] m32b2 [26] (adD ds us bs nn lu 0) (.exit 2) (adD ds us bs nn lu ds.length))) ∧
    (okDs ds = false → ∃ s, Con.holds ⟨fnOf, specA, L+1⟩ (runF ⟨fnOf, specA, L+1⟩ n) (.loop 0 [3, 4, 5, 14, 17] m32b2 [26] (adD ds us bs nn lu 0) .ret s) ∧ outS s m32.res = some (.tup [.nils, .int .i64 7])) := by
  have hl : (ds.map celC).length = ds.length := map_len
  have hstep : ∀ k, k ≤ ds.length → (∀ i, i < k → okDi (ds.getD i (0, 0)) = true) → ∀ i, i < k →
      seeZ 0 [3, 4, 5, 14, 17] m32.res (bodyOf ⟨fnOf, specA, L+1⟩ (runF ⟨fnOf, specA, L+1⟩ n) 0 m32b2 (i :: [26]) (adD ds us bs nn lu i)) = some (.go .nrm (adD ds us bs nn lu (i + 1))) := fun k hk h i hi => by
    have h1 := h i hi
    unfold okDi at h1
    rw [Bool.and_eq_true] at h1
    have he := elD_map (P := ⟨fnOf, specA, L+1⟩) (C := runF ⟨fnOf, specA, L+1⟩ n) (f := celC) (d := (0, 0)) (show i < ds.length by omega)
    have hd : decide ((i : Int) < ((ds.map celC).length : Int)) = true := by rw [hl]; exact dLt (by omega)
    have := @ade_2 (L+1) n 0 0 nn [] [] [] [] ds us [] lu 0 i [] [] [] [26] bs (ds.getD i (0, 0)) (ds.getD i (0, 0)) hd he (by rw [h1.1]; rfl) he (by rw [h1.2]; rfl)
    rw [wrap_id (n := (i : Int) + 1) (by omega)] at this
    exact this
  constructor
  · intro h
    exact loopX (res := m32.res) (fun i => adD ds us bs nn lu i) ds.length rfl hL (hstep _ (Nat.le_refl _) (okDs_is.1 h)) (@ade_3 (L+1) n 0 0 nn [] [] [] [] ds us [] lu 0 ds.length [] [] [] [26] bs (by rw [hl]; exact dNlt)) (by simp)
  · intro h
    rcases firstI (fun i => okDi (ds.getD i (0, 0))) ds.length with h2 | ⟨k, hk, h1, h2⟩
    · rw [okDs_is.2 h2] at h; cases h
    · have he := elD_map (P := ⟨fnOf, specA, L+1⟩) (C := runF ⟨fnOf, specA, L+1⟩ n) (f := celC) (d := (0, 0)) hk
      have hd : decide ((k : Int) < ((ds.map celC).length : Int)) = true := by rw [hl]; exact dLt (by omega)
      refine loopZ (fun i => adD ds us bs nn lu i) k rfl (by omega) (hstep k (by omega) h1) ?_
      unfold okDi at h2
      cases c : onD (ds.getD k (0, 0)).1 with
      | false => exact @ade_0 (L+1) n 0 0 nn [] [] [] [] ds us [] lu 0 k [] [] [] [26] bs (ds.getD k (0, 0)) hd he (by rw [c]; rfl)
      | true =>
        rw [c, Bool.true_and] at h2
        exact @ade_1 (L+1) n 0 0 nn [] [] [] [] ds us [] lu 0 k [] [] [] [26] bs (ds.getD k (0, 0)) (ds.getD k (0, 0)) hd he (by rw [c]; rfl) he (by rw [h2]; rfl)
/-- the samples made -/
theorem samP {N : Nat} (hN : N ≤ 65536) (hu : us.length = N) (hL : N ≤ L) :
    Con.holds ⟨fnOf, specA, L+1⟩ (runF ⟨fnOf, specA, L+1⟩ n) (.loop 0 [4, 5, 20, 91, 92, 93] m31b2 [37] (arO us (List.replicate N ((0, 0), false)) bs N N N 0) (.exit 4) (arO us (tab (fun m => smp false (us.getD m (0, 0))) N) bs N N N N)) := by
  have := loop0 (P := ⟨fnOf, specA, L+1⟩) (C := runF ⟨fnOf, specA, L+1⟩ n) (d := 0) (live := [4, 5, 20, 91, 92, 93]) (π := [37]) (m := m31b2) (fun i => arO us (tab (fun m => if m < i then smp false (us.getD m (0, 0)) else ((0, 0), false)) N) bs N N N i) N (x := .exit 4) (s' := arO us (tab (fun m => if m < N then smp false (us.getD m (0, 0)) else ((0, 0), false)) N) bs N N N N) rfl hL (fun i hi => by
    have a1 : Con.holds ⟨fnOf, specA, L+1⟩ (runF ⟨fnOf, specA, L+1⟩ n) (.at (us.map celC) (0 + i) [.cpx (us.getD i (0, 0)).1 (us.getD i (0, 0)).2]) := by
      rw [Nat.zero_add]; exact atD_map (f := celC) (by omega)
    have a2 : Con.holds ⟨fnOf, specA, L+1⟩ (runF ⟨fnOf, specA, L+1⟩ n) (.at ((tab (fun m => if m < i then smp false (us.getD m (0, 0)) else ((0, 0), false)) N).map celS) (0 + i) (celS ((tab (fun m => if m < i then smp false (us.getD m (0, 0)) else ((0, 0), false)) N).getD i sd))) := by
      rw [Nat.zero_add]; exact atD_map (f := celS) (by rw [tab_len]; exact hi)
    have := @aro_0 (L+1) n 0 0 (N : Int) [] [] [] [] [] us [] N N i (tab (fun m => if m < i then smp false (us.getD m (0, 0)) else ((0, 0), false)) N) [] [] [37] bs i (us.getD i (0, 0)) i _ (dLt hi) (ix_at hi) a1 (ix_at hi) a2
    rw [wrap_id (n := (i : Int) + 1) (by omega)] at this
    rw [this]
    unfold arO
    have e : (tab (fun m => if m < i then smp false (us.getD m (0, 0)) else ((0, 0), false)) N).set i (smp false (us.getD i (0, 0))) = tab (fun m => if m < i + 1 then smp false (us.getD m (0, 0)) else ((0, 0), false)) N :=
      set_tab (d := sd) hi (by rw [if_pos (by omega)]) fun j hj hne => by
        by_cases c2 : j < i
        · rw [if_pos c2, if_pos (by omega)]
        · rw [if_neg c2, if_neg (by omega)]
    rw [← e, ← map_set, Nat.zero_add]
    rfl) (@aro_1 (L+1) n 0 0 (N : Int) [] [] [] [] [] us [] N N N (tab (fun m => if m < N then smp false (us.getD m (0, 0)) else ((0, 0), false)) N) [] [] [37] bs dNlt) (by simp)
  have e0 : tab (fun m => if m < 0 then smp false (us.getD m (0, 0)) else ((0, 0), false)) N = List.replicate N ((0, 0), false) :=
    (eq_tab (d := sd) List.length_replicate fun j hj => by
      rw [if_neg (by omega), List.getD_eq_getElem?_getD, List.getElem?_replicate, if_pos hj]; rfl).symm
  have e1 : tab (fun m => if m < N then smp false (us.getD m (0, 0)) else ((0, 0), false)) N = tab (fun m => smp false (us.getD m (0, 0))) N := tab_eq fun j hj => if_pos hj
  rw [e0, e1] at this
  exact this
end
end Go.Proofs.Ytnphdnokedhhkaa.Fw
namespace Go.Proofs.Ytnphdnokedhhkaa.Fw
open Go Go.RowKit
section
variable {L n : Nat} {nn : Int} {ds us : List (Nat × Nat)} {bs : List Bu} {lu : Nat}
/-- one place of the document's, torn -/
theorem torD {os : List Smp} {st τ π : List Nat} {lo i : Nat} {v0 : Smp} (hb : okBs bs = true) (hm : bs.length ≤ 5000) (hi : i ≤ 65536) (hL : bs.length ≤ L) :
    Con.holds ⟨fnOf, specA, L+1⟩ (runF ⟨fnOf, specA, L+1⟩ n) (.loop 0 [3, 4, 5, 14, 18, 19, 21, 22] m32b0 π (adI ds us os bs nn st τ lu lo i v0 0) (.exit 6) (adI ds us os bs nn st τ lu lo i (torn true bs i v0 bs.length) bs.length)) := by
  have hl : (bs.map celBu).length = bs.length := map_len
  refine loop0 (fun j => adI ds us os bs nn st τ lu lo i (torn true bs i v0 j) j) bs.length rfl hL (fun j hj => ?_) (@adi_4 (L+1) n 0 0 nn [] [] [] [] ds us [] lu lo i os [] st π bs τ (torn true bs i v0 bs.length) bs.length (by rw [hl]; exact dNlt)) (by simp)
  have he := elD_map (P := ⟨fnOf, specA, L+1⟩) (C := runF ⟨fnOf, specA, L+1⟩ n) (f := celBu) (d := bd) hj
  have hd : decide ((j : Int) < ((bs.map celBu).length : Int)) = true := by rw [hl]; exact dLt hj
  have ho := okBs_is.1 hb j hj
  have et : torn true bs i v0 (j + 1) = if hit (bs.getD j bd) i then buS true (bs.getD j bd) else torn true bs i v0 j := rfl
  simp only [et]
  generalize bs.getD j bd = b at *
  unfold okBu at ho
  simp only [Bool.and_eq_true, decide_eq_true_eq] at ho
  have ew : IntKind.wrap .i64 ((j : Int) + 1) = ((j + 1 : Nat) : Int) := wrapUp (m := 5000) (by omega) (by omega)
  by_cases c1 : (i : Int) ≥ b.1.1
  · have wi : IntKind.wrap .i64 ((i : Int) - b.1.1) = (i : Int) - b.1.1 := wrap_id (by omega)
    by_cases c2 : (i : Int) - b.1.1 < b.1.2
    · rw [if_pos ⟨c1, c2⟩]
      cases c3 : b.2.2 with
      | true =>
        have eb : buS true b = ((0, 0), true) := if_pos c3
        rw [eb]
        have := @adi_0 (L+1) n 0 0 nn [] [] [] [] ds us [] lu lo i os [] st π bs τ (torn true bs i v0 j) j b b b b b hd he (dT c1) he he (by rw [wi]; exact dT c2) he he c3
        rw [ew] at this
        exact this
      | false =>
        have eb : buS true b = smp true b.2.1 := if_neg (by rw [c3]; decide)
        rw [eb]
        have := @adi_1 (L+1) n 0 0 nn [] [] [] [] ds us [] lu lo i os [] st π bs τ (torn true bs i v0 j) j b b b b b hd he (dT c1) he he (by rw [wi]; exact dT c2) he he c3
        rw [ew] at this
        exact this
    · rw [if_neg (fun h => c2 h.2)]
      have := @adi_2 (L+1) n 0 0 nn [] [] [] [] ds us [] lu lo i os [] st π bs τ (torn true bs i v0 j) j b b b hd he (dT c1) he he (by rw [wi]; exact dF c2)
      rw [ew] at this
      exact this
  · rw [if_neg (fun h => c1 h.1)]
    have := @adi_3 (L+1) n 0 0 nn [] [] [] [] ds us [] lu lo i os [] st π bs τ (torn true bs i v0 j) j b hd he (dF c1)
    rw [ew] at this
    exact this
/-- the document's samples, place by place -/
theorem outD {N : Nat} (hb : okBs bs = true) (hm : bs.length ≤ 5000) (hN : N ≤ 65536) (hu : us.length = N) (hd : ds.length ≤ 65536) (hL : 70000 ≤ L) :
    ∃ st, Con.holds ⟨fnOf, specA, L+1⟩ (runF ⟨fnOf, specA, L+1⟩ n) (.loop 0 [3, 4, 5, 14, 18, 19] m32b1 [29] (adO ds us [] bs N [29] N 0 0) (.exit 4) (adO ds us (tab (arrF true us ds bs) N) bs N st N N N)) := by
  have hl : (ds.map celC).length = ds.length := map_len
  obtain ⟨s', g1, st, rfl⟩ := loopJ (P := ⟨fnOf, specA, L+1⟩) (C := runF ⟨fnOf, specA, L+1⟩ n) (L := L) (d := 0) (live := [3, 4, 5, 14, 18, 19]) (π := [29]) (m := m32b1) (A := adO ds us [] bs N [29] N 0 0)
    (fun i s => ∃ st, s = adO ds us (tab (arrF true us ds bs) i) bs N st N i i) (fun s => ∃ st, s = adO ds us (tab (arrF true us ds bs) N) bs N st N N N) N (x := .exit 4) (by simp) rfl (by omega) ⟨[29], rfl⟩
    (fun i s hi hs => by
      obtain ⟨st, rfl⟩ := hs
      have ha : Con.holds ⟨fnOf, specA, L+1⟩ (runF ⟨fnOf, specA, L+1⟩ n) (.at (us.map celC) (0 + i) [.cpx (us.getD i (0, 0)).1 (us.getD i (0, 0)).2]) := by
        rw [Nat.zero_add]; exact atD_map (f := celC) (by omega)
      have hp : Con.holds ⟨fnOf, specA, L+1⟩ (runF ⟨fnOf, specA, L+1⟩ n) (.push i 1 24 ((tab (arrF true us ds bs) i).map celS)) := push_ok (by rw [map_len, tab_len]) (by simp only [most]; omega)
      have eu : (tab (arrF true us ds bs) (i + 1)).map celS = (tab (arrF true us ds bs) i).map celS ++ [celS (arrF true us ds bs i)] := by rw [tab_up, List.map_append]; rfl
      by_cases c : i < ds.length
      · have he := elD_map (P := ⟨fnOf, specA, L+1⟩) (C := runF ⟨fnOf, specA, L+1⟩ n) (f := celC) (d := (0, 0)) c
        have ef : arrF true us ds bs i = torn true bs i (smp true (addP (us.getD i (0, 0)) (ds.getD i (0, 0)))) bs.length := by unfold arrF disF; rw [if_pos c]
        have hlo := @torD L n (N : Int) ds us bs N (tab (arrF true us ds bs) i) st ([32, i] ++ [29]) ([35, i] ++ [29]) i i (smp true (addP (us.getD i (0, 0)) (ds.getD i (0, 0)))) hb hm (by omega) (by omega)
        rw [← ef] at hlo
        have := @ado_0 (L+1) n 0 0 (N : Int) [] [] [] [] ds us [] N i i (tab (arrF true us ds bs) i) [] st [29] bs ([32, i] ++ [29]) (arrF true us ds bs i) bs.length i (us.getD i (0, 0)) (ds.getD i (0, 0)) (ds.getD i (0, 0)) (dLt hi) (ix_at hi) ha (by rw [hl]; exact dLt c) he he hlo hp
        rw [wrap_id (n := (i : Int) + 1) (by omega)] at this
        refine ⟨_, this, [39, i] ++ [29], ?_⟩
        unfold adO
        rw [eu]
        rfl
      · have ef : arrF true us ds bs i = torn true bs i (smp true (us.getD i (0, 0))) bs.length := by unfold arrF disF; rw [if_neg c]
        have hlo := @torD L n (N : Int) ds us bs N (tab (arrF true us ds bs) i) st ([14, i] ++ [29]) ([17, i] ++ [29]) i i (smp true (us.getD i (0, 0))) hb hm (by omega) (by omega)
        rw [← ef] at hlo
        have := @ado_1 (L+1) n 0 0 (N : Int) [] [] [] [] ds us [] N i i (tab (arrF true us ds bs) i) [] st [29] bs ([14, i] ++ [29]) (arrF true us ds bs i) bs.length i (us.getD i (0, 0)) (dLt hi) (ix_at hi) ha (by rw [hl]; exact dF (by omega)) hlo hp
        rw [wrap_id (n := (i : Int) + 1) (by omega)] at this
        refine ⟨_, this, [21, i] ++ [29], ?_⟩
        unfold adO
        rw [eu]
        rfl)
    (fun s hs => by
      obtain ⟨st, rfl⟩ := hs
      exact ⟨_, @ado_2 (L+1) n 0 0 (N : Int) [] [] [] [] ds us [] N N N (tab (arrF true us ds bs) N) [] st [29] bs [] sd 0 dNlt, st, rfl⟩)
  exact ⟨st, g1⟩
/-- one burst of the program's -/
theorem tearP {os : List Smp} {τ σ π : List Nat} {b : Bu} {v : Smp} {i N : Nat} (hb : okBu b = true) (hN : N ≤ 65536) (ho : os.length = N) (hL : 70000 ≤ L) : ∃ K : Nat,
    Con.holds ⟨fnOf, specA, L+1⟩ (runF ⟨fnOf, specA, L+1⟩ n) (.loop 0 [5, 20, 24, 25, 104, 105, 106, 117, 118] m31b0 π (arI os bs N τ σ b v N i 0) (.exit 8) (arI (tab (fun m => if hit b m then v else os.getD m sd) N) bs N τ σ b v N i K)) ∨
    Con.holds ⟨fnOf, specA, L+1⟩ (runF ⟨fnOf, specA, L+1⟩ n) (.loop 0 [5, 20, 24, 25, 104, 105, 106, 117, 118] m31b0 π (arI os bs N τ σ b v N i 0) (.exit 7) (arI (tab (fun m => if hit b m then v else os.getD m sd) N) bs N τ σ b v N i K)) := by
  unfold okBu at hb
  simp only [Bool.and_eq_true, decide_eq_true_eq] at hb
  obtain ⟨b1, b2⟩ := hb
  obtain ⟨⟨at', nb⟩, z⟩ := b
  obtain ⟨at', rfl⟩ : ∃ a : Nat, at' = (a : Int) := ⟨at'.toNat, by simp only at b1; omega⟩
  obtain ⟨nb, rfl⟩ : ∃ a : Nat, nb = (a : Int) := ⟨nb.toNat, by simp only at b2; omega⟩
  clear b1 b2
  have hstep : ∀ j, j < min nb (N - at') → rnd 0 [5, 20, 24, 25, 104, 105, 106, 117, 118] (bodyOf ⟨fnOf, specA, L+1⟩ (runF ⟨fnOf, specA, L+1⟩ n) 0 m31b0 (j :: π) (arI (tab (fun m => if at' ≤ m ∧ m < at' + j then v else os.getD m sd) N) bs N τ σ (((at' : Int), (nb : Int)), z) v N i j)) =
      some (.nrm, arI (tab (fun m => if at' ≤ m ∧ m < at' + (j + 1) then v else os.getD m sd) N) bs N τ σ (((at' : Int), (nb : Int)), z) v N i (j + 1)) := fun j hj => by
    have ha : Con.holds ⟨fnOf, specA, L+1⟩ (runF ⟨fnOf, specA, L+1⟩ n) (.at ((tab (fun m => if at' ≤ m ∧ m < at' + j then v else os.getD m sd) N).map celS) (0 + (at' + j)) (celS ((tab (fun m => if at' ≤ m ∧ m < at' + j then v else os.getD m sd) N).getD (at' + j) sd))) := by
      rw [Nat.zero_add]; exact atD_map (f := celS) (by rw [tab_len]; omega)
    have w1 : IntKind.wrap .i64 ((N : Int) - (j : Int)) = (N : Int) - j := wrap_id (by omega)
    have w2 : IntKind.wrap .i64 ((at' : Int) + (j : Int)) = ((at' + j : Nat) : Int) := by rw [wrap_id (by omega)]; omega
    have := @ari_1 (L+1) n 0 0 (N : Int) [] [] [] [] [] [] [] 0 N i (tab (fun m => if at' ≤ m ∧ m < at' + j then v else os.getD m sd) N) [] [] π bs τ σ (((at' : Int), (nb : Int)), z) v j (at' + j) _ (dT (by show (j : Int) < (nb : Int); omega)) (by rw [w1]; exact dF (by show ¬ ((at' : Int) ≥ _); omega)) (ix_atI (i := at' + j) (by omega) w2) ha
    rw [wrap_id (n := (j : Int) + 1) (by omega)] at this
    rw [this]
    unfold arI
    have e : (tab (fun m => if at' ≤ m ∧ m < at' + j then v else os.getD m sd) N).set (at' + j) v = tab (fun m => if at' ≤ m ∧ m < at' + (j + 1) then v else os.getD m sd) N :=
      set_tab (d := sd) (by omega) (by rw [if_pos ⟨by omega, by omega⟩]) fun k hk hne => by
        by_cases c2 : at' ≤ k ∧ k < at' + j
        · rw [if_pos c2, if_pos ⟨by omega, by omega⟩]
        · rw [if_neg c2, if_neg (by omega)]
    rw [← e, ← map_set, Nat.zero_add]
    rfl
  have e0 : tab (fun m => if at' ≤ m ∧ m < at' + 0 then v else os.getD m sd) N = os := (eq_tab (d := sd) ho fun k hk => by rw [if_neg (by omega)]).symm
  have e1 : tab (fun m => if at' ≤ m ∧ m < at' + min nb (N - at') then v else os.getD m sd) N = tab (fun m => if hit (((at' : Int), (nb : Int)), z) m then v else os.getD m sd) N := tab_eq fun k hk => by
    have h : (at' ≤ k ∧ k < at' + min nb (N - at')) ↔ hit (((at' : Int), (nb : Int)), z) k := by
      show _ ↔ (at' : Int) ≤ (k : Int) ∧ (k : Int) - (at' : Int) < (nb : Int)
      omega
    by_cases c : at' ≤ k ∧ k < at' + min nb (N - at')
    · rw [if_pos c, if_pos (h.1 c)]
    · rw [if_neg c, if_neg (fun h2 => c (h.2 h2))]
  refine ⟨min nb (N - at'), ?_⟩
  by_cases c : nb ≤ N - at'
  · left
    have := loop0 (P := ⟨fnOf, specA, L+1⟩) (C := runF ⟨fnOf, specA, L+1⟩ n) (d := 0) (live := [5, 20, 24, 25, 104, 105, 106, 117, 118]) (π := π) (m := m31b0) (fun j => arI (tab (fun m => if at' ≤ m ∧ m < at' + j then v else os.getD m sd) N) bs N τ σ (((at' : Int), (nb : Int)), z) v N i j) (min nb (N - at')) (x := .exit 8) (s' := arI (tab (fun m => if at' ≤ m ∧ m < at' + min nb (N - at') then v else os.getD m sd) N) bs N τ σ (((at' : Int), (nb : Int)), z) v N i (min nb (N - at'))) rfl (by omega) hstep
      (@ari_2 (L+1) n 0 0 (N : Int) [] [] [] [] [] [] [] 0 N i _ [] [] π bs τ σ (((at' : Int), (nb : Int)), z) v (min nb (N - at')) (dF (by show ¬ ((_ : Int) < (nb : Int)); omega))) (by simp)
    rw [e0, e1] at this
    exact this
  · right
    have w1 : IntKind.wrap .i64 ((N : Int) - ((min nb (N - at') : Nat) : Int)) = (N : Int) - ((min nb (N - at') : Nat) : Int) := wrap_id (by omega)
    have := loop0 (P := ⟨fnOf, specA, L+1⟩) (C := runF ⟨fnOf, specA, L+1⟩ n) (d := 0) (live := [5, 20, 24, 25, 104, 105, 106, 117, 118]) (π := π) (m := m31b0) (fun j => arI (tab (fun m => if at' ≤ m ∧ m < at' + j then v else os.getD m sd) N) bs N τ σ (((at' : Int), (nb : Int)), z) v N i j) (min nb (N - at')) (x := .exit 7) (s' := arI (tab (fun m => if at' ≤ m ∧ m < at' + min nb (N - at') then v else os.getD m sd) N) bs N τ σ (((at' : Int), (nb : Int)), z) v N i (min nb (N - at'))) rfl (by omega) hstep
      (@ari_0 (L+1) n 0 0 (N : Int) [] [] [] [] [] [] [] 0 N i _ [] [] π bs τ σ (((at' : Int), (nb : Int)), z) v (min nb (N - at')) (dT (by show (_ : Int) < (nb : Int); omega)) (by rw [w1]; exact dT (by show (at' : Int) ≥ _; omega))) (by simp)
    rw [e0, e1] at this
    exact this
/-- all bursts of the program's -/
theorem bursP {N : Nat} {s0 : Nat → Smp} (hb : okBs bs = true) (hm : bs.length ≤ 5000) (hN : N ≤ 65536) (hL : 70000 ≤ L) :
    Con.holds ⟨fnOf, specA, L+1⟩ (runF ⟨fnOf, specA, L+1⟩ n) (.loop 0 [5, 20, 104, 105, 106] m31b1 [41] (arB (tab s0 N) bs N N 0) (.exit 6) (arB (tab (fun m => torn false bs m (s0 m) bs.length) N) bs N N bs.length)) := by
  have hl : (bs.map celBu).length = bs.length := map_len
  refine loop0 (fun k => arB (tab (fun m => torn false bs m (s0 m) k) N) bs N N k) bs.length rfl (by omega) (fun k hk => ?_) (@arb_2 (L+1) n 0 0 (N : Int) [] [] [] [] [] [] [] 0 N bs.length (tab (fun m => torn false bs m (s0 m) bs.length) N) [] [] [41] bs [] [] bd sd 0 (by rw [hl]; exact dNlt)) (by simp)
  have he := elD_map (P := ⟨fnOf, specA, L+1⟩) (C := runF ⟨fnOf, specA, L+1⟩ n) (f := celBu) (d := bd) hk
  have hd : decide ((k : Int) < ((bs.map celBu).length : Int)) = true := by rw [hl]; exact dLt hk
  have ho := okBs_is.1 hb k hk
  have ew : IntKind.wrap .i64 ((k : Int) + 1) = ((k + 1 : Nat) : Int) := wrapUp (m := 5000) (by omega) (by omega)
  have et : tab (fun m => if hit (bs.getD k bd) m then buS false (bs.getD k bd) else (tab (fun m => torn false bs m (s0 m) k) N).getD m sd) N = tab (fun m => torn false bs m (s0 m) (k + 1)) N := tab_eq fun j hj => by rw [tab_at hj]; rfl
  generalize bs.getD k bd = b at *
  cases c3 : b.2.2 with
  | true =>
    have eb : buS false b = ((0, 0), true) := if_pos c3
    obtain ⟨K, h | h⟩ := @tearP L n bs (tab (fun m => torn false bs m (s0 m) k) N) ([3, k] ++ [41]) ([8, k] ++ [41]) ([17, k] ++ [41]) b ((0, 0), true) k N ho hN tab_len hL
    · rw [← eb, et, eb] at h
      have := @arb_0 (L+1) n 0 0 (N : Int) [] [] [] [] [] [] [] 0 N k (tab (fun m => torn false bs m (s0 m) k) N) (tab (fun m => torn false bs m (s0 m) (k + 1)) N) [] [41] bs ([3, k] ++ [41]) ([8, k] ++ [41]) b ((0, 0), true) K b hd he c3 h
      rw [ew] at this
      exact this
    · rw [← eb, et, eb] at h
      have := @arx_0 (L+1) n 0 0 (N : Int) [] [] [] [] [] [] [] 0 N k (tab (fun m => torn false bs m (s0 m) k) N) (tab (fun m => torn false bs m (s0 m) (k + 1)) N) [] [41] bs ([3, k] ++ [41]) ([8, k] ++ [41]) b ((0, 0), true) K b hd he c3 h
      rw [ew] at this
      exact this
  | false =>
    have eb : buS false b = smp false b.2.1 := if_neg (by rw [c3]; decide)
    rw [eb] at et
    obtain ⟨K, h | h⟩ := @tearP L n bs (tab (fun m => torn false bs m (s0 m) k) N) ([3, k] ++ [41]) ([8, k] ++ [41]) ([15, k] ++ [41]) b (smp false b.2.1) k N ho hN tab_len hL
    · rw [et] at h
      have := @arb_1 (L+1) n 0 0 (N : Int) [] [] [] [] [] [] [] 0 N k (tab (fun m => torn false bs m (s0 m) k) N) (tab (fun m => torn false bs m (s0 m) (k + 1)) N) [] [41] bs ([3, k] ++ [41]) ([8, k] ++ [41]) b (smp false b.2.1) K b hd he c3 h
      rw [ew] at this
      exact this
    · rw [et] at h
      have := @arx_1 (L+1) n 0 0 (N : Int) [] [] [] [] [] [] [] 0 N k (tab (fun m => torn false bs m (s0 m) k) N) (tab (fun m => torn false bs m (s0 m) (k + 1)) N) [] [41] bs ([3, k] ++ [41]) ([8, k] ++ [41]) b (smp false b.2.1) K b hd he c3 h
      rw [ew] at this
      exact this
end
end Go.Proofs.Ytnphdnokedhhkaa.Fw
namespace Go.Proofs.Ytnphdnokedhhkaa.Fw
open Go Go.RowKit
section
variable {L n : Nat} {rate delay nn : Int} {ts es xs vs ds : List (Nat × Nat)} {bs : List Bu}
theorem arr_prog (hL : 70000 ≤ L) (m1 : shortL ts) (m2 : shortL es) (m3 : shortL xs) (m4 : shortL vs) :
    den ⟨fnOf, specA, L+1⟩ (n+1) 31 [.agg [.int .i64 rate, .int .i64 delay, .lst 1 (ts.map celC), .lst 1 (es.map celC)], .lst 1 (xs.map celC), .lst 1 (vs.map celC), .lst 1 (ds.map celC), .lst 4 (bs.map celBu), .int .i64 nn] = some (arrA (arrE rate delay nn ts es xs vs ds bs) (arrP rate delay nn ts es xs vs ds bs)) := by
  have hld : (ds.map celC).length = ds.length := map_len
  have hlb : (bs.map celBu).length = bs.length := map_len
  have p1 := spec_is (P := ⟨fnOf, specA, L+1⟩) (C := runF ⟨fnOf, specA, L+1⟩ n) (f := 19) (g := pasSem false) rfl (pasSem_at false (rate := rate) (delay := delay) (nn := nn) m1 m2 m3 m4)
  unfold pasQ at p1
  unfold arrA
  by_cases a1 : passE rate delay nn ts es xs vs = 0
  case neg =>
    have e : arrE rate delay nn ts es xs vs ds bs = passE rate delay nn ts es xs vs := if_pos a1
    rw [e, if_neg a1]
    exact @arp_0 (L+1) n rate delay nn ts es xs vs ds [] [] 0 0 0 [] [] [] [] bs 0 0 0 _ _ p1 (by simpa using a1)
  have hE : arrE rate delay nn ts es xs vs ds bs = if 65536 < ds.length ∨ 5000 < bs.length then 1 else if okBs bs = true then (if okDs ds = true then 0 else 7) else 1 := if_neg (by simp [a1])
  have n1 : (passE rate delay nn ts es xs vs != 0) = false := by rw [a1]; rfl
  obtain ⟨hpl, hdl, hnn, _⟩ := pass_same a1
  have hW : (passP rate delay nn ts es xs vs).length = nn.toNat := hpl
  rw [if_pos a1] at p1
  have p1 : Con.holds ⟨fnOf, specA, L+1⟩ (runF ⟨fnOf, specA, L+1⟩ n) (.spec 19 [.agg [.int .i64 rate, .int .i64 delay, .lst 1 (ts.map celC), .lst 1 (es.map celC)], .lst 1 (xs.map celC), .lst 1 (vs.map celC), .int .i64 nn] (.tup [.own 1 ((passP rate delay nn ts es xs vs).map celC) true, .int .i64 (passE rate delay nn ts es xs vs)])) := p1
  have hR : arrP rate delay nn ts es xs vs ds bs = tab (arrF false (passP rate delay nn ts es xs vs) ds bs) nn.toNat := rfl
  have hn0 : 0 ≤ nn := by
    rcases Int.lt_or_le nn 0 with h | h
    · exfalso
      unfold passE at a1
      split at a1
      · rename_i c; exact c a1
      · rw [if_pos (.inl h)] at a1; cases a1
    · exact h
  rw [hR]
  generalize passP rate delay nn ts es xs vs = us at *
  have hus : (us.map celC).length = nn.toNat := by rw [← hW]; exact map_len
  obtain ⟨N, rfl⟩ : ∃ N : Nat, nn = N := ⟨nn.toNat, by omega⟩
  rw [Int.toNat_natCast] at *
  by_cases a2 : 65536 < ds.length
  · rw [hE.trans (if_pos (.inl a2)), if_neg (by decide)]
    exact @arp_1 (L+1) n rate delay N ts es xs vs ds [] [] 0 0 0 [] [] [] [] bs 0 0 0 _ _ p1 n1 (by rw [hld]; exact dT (by omega))
  have n2 : decide (((ds.map celC).length : Int) > 65536) = false := by rw [hld]; exact dF (by omega)
  by_cases a3 : 5000 < bs.length
  · rw [hE.trans (if_pos (.inr a3)), if_neg (by decide)]
    exact @arp_2 (L+1) n rate delay N ts es xs vs ds [] [] 0 0 0 [] [] [] [] bs 0 0 0 _ _ p1 n1 n2 (by rw [hlb]; exact dT (by omega))
  have n3 : decide (((bs.map celBu).length : Int) > 5000) = false := by rw [hlb]; exact dF (by omega)
  have hE2 := hE.trans (if_neg (by omega))
  obtain ⟨v1, v2⟩ := @burP L n (N : Int) ds us bs N (by omega) (by omega)
  cases b1 : okBs bs with
  | false =>
    obtain ⟨s, q1, q2⟩ := v2 b1
    have e : arrE rate delay (N : Int) ts es xs vs ds bs = 1 := by rw [hE2, b1]; rfl
    rw [e, if_neg (by decide)]
    exact @aqp_3 (L+1) n rate delay N ts es xs vs ds [] [] 0 0 0 [] [] [] [] bs s _ us _ p1 n1 n2 n3 (by rw [hus]; exact q1) q2
  | true =>
  have v1 := v1 b1
  obtain ⟨w1, w2⟩ := @disP L n ds us bs (by omega) (by omega) N (by omega) hW
  cases b2 : okDs ds with
  | false =>
    obtain ⟨s, q1, q2⟩ := w2 b2
    have e : arrE rate delay (N : Int) ts es xs vs ds bs = 7 := by rw [hE2, b1, b2]; rfl
    rw [e, if_neg (by decide)]
    exact @aup_3 (L+1) n rate delay N ts es xs vs ds us [] N 0 bs.length [] [] [] [] bs s _ us _ p1 n1 n2 n3 (by rw [hus]; exact v1) q1 q2
  | true =>
    have w1 := w1 b2
    have e : arrE rate delay (N : Int) ts es xs vs ds bs = 0 := by rw [hE2, b1, b2]; rfl
    rw [e, if_pos rfl]
    have hz : (tab (disF ds us) N).length = N := tab_len
    have s1 := @samP L n (tab (disF ds us) N) bs N (by omega) hz (by omega)
    have et : tab (fun m => smp false ((tab (disF ds us) N).getD m (0, 0))) N = tab (fun m => smp false (disF ds us m)) N := tab_eq fun j hj => by rw [tab_at hj]
    rw [et] at s1
    have t1 := @bursP L n bs N (fun m => smp false (disF ds us m)) b1 (by omega) (by omega) hL
    have hmk : Con.holds ⟨fnOf, specA, L+1⟩ (runF ⟨fnOf, specA, L+1⟩ n) (.mk N N true ((List.replicate N ((0, 0), false)).map celS) (N : Int) (N : Int) 24 [.cpx 0 0, .v (.bool false)]) := mk_ok (f := celS) rfl (by simp only [most]; omega) (by simp only [most]; omega)
    have hfin : tab (fun m => torn false bs m (smp false (disF ds us m)) bs.length) N = tab (arrF false us ds bs) N := rfl
    rw [hfin] at t1
    have hlen : ((tab (arrF false us ds bs) N).map celS).length = N := by rw [map_len, tab_len]
    have hle : Con.holds ⟨fnOf, specA, L+1⟩ (runF ⟨fnOf, specA, L+1⟩ n) (.le N (List.length ((tab (arrF false us ds bs) N).map celS))) := by show _ ≤ _; rw [hlen]; exact Nat.le_refl _
    have key := @arp_3 (L+1) n rate delay N ts es xs vs ds us (tab (disF ds us) N) N N bs.length (tab (fun m => smp false (disF ds us m)) N) (tab (arrF false us ds bs) N) [] [] bs ds.length N bs.length us _ N p1 n1 n2 n3 (by rw [hus]; exact v1) w1 hmk s1 t1 hle
    rw [key, tkMap tab_len.symm]
theorem arr_doc (hL : 70000 ≤ L) (m1 : shortL ts) (m2 : shortL es) (m3 : shortL xs) (m4 : shortL vs) :
    den ⟨fnOf, specA, L+1⟩ (n+1) 32 [.agg [.int .i64 rate, .int .i64 delay, .lst 1 (ts.map celC), .lst 1 (es.map celC)], .lst 1 (xs.map celC), .lst 1 (vs.map celC), .lst 1 (ds.map celC), .lst 4 (bs.map celBu), .int .i64 nn] = some (arrA (arrE rate delay nn ts es xs vs ds bs) (arrD rate delay nn ts es xs vs ds bs)) := by
  have hld : (ds.map celC).length = ds.length := map_len
  have hlb : (bs.map celBu).length = bs.length := map_len
  have p1 := spec_is (P := ⟨fnOf, specA, L+1⟩) (C := runF ⟨fnOf, specA, L+1⟩ n) (f := 20) (g := pasSem true) rfl (pasSem_at true (rate := rate) (delay := delay) (nn := nn) m1 m2 m3 m4)
  unfold pasQ at p1
  unfold arrA
  by_cases a1 : passE rate delay nn ts es xs vs = 0
  case neg =>
    have e : arrE rate delay nn ts es xs vs ds bs = passE rate delay nn ts es xs vs := if_pos a1
    rw [e, if_neg a1]
    exact @ard_0 (L+1) n rate delay nn ts es xs vs ds [] [] 0 0 0 [] [] [] [] bs 0 0 0 _ _ p1 (by simpa using a1)
  have hE : arrE rate delay nn ts es xs vs ds bs = if 65536 < ds.length ∨ 5000 < bs.length then 1 else if okBs bs = true then (if okDs ds = true then 0 else 7) else 1 := if_neg (by simp [a1])
  have n1 : (passE rate delay nn ts es xs vs != 0) = false := by rw [a1]; rfl
  obtain ⟨hpl, hdl, hnn, _⟩ := pass_same a1
  have hW : (passD rate delay nn ts es xs vs).length = nn.toNat := hdl
  rw [if_pos a1] at p1
  have p1 : Con.holds ⟨fnOf, specA, L+1⟩ (runF ⟨fnOf, specA, L+1⟩ n) (.spec 20 [.agg [.int .i64 rate, .int .i64 delay, .lst 1 (ts.map celC), .lst 1 (es.map celC)], .lst 1 (xs.map celC), .lst 1 (vs.map celC), .int .i64 nn] (.tup [.own 1 ((passD rate delay nn ts es xs vs).map celC) true, .int .i64 (passE rate delay nn ts es xs vs)])) := p1
  have hR : arrD rate delay nn ts es xs vs ds bs = tab (arrF true (passD rate delay nn ts es xs vs) ds bs) nn.toNat := rfl
  have hn0 : 0 ≤ nn := by
    rcases Int.lt_or_le nn 0 with h | h
    · exfalso
      unfold passE at a1
      split at a1
      · rename_i c; exact c a1
      · rw [if_pos (.inl h)] at a1; cases a1
    · exact h
  rw [hR]
  generalize passD rate delay nn ts es xs vs = us at *
  have hus : (us.map celC).length = nn.toNat := by rw [← hW]; exact map_len
  obtain ⟨N, rfl⟩ : ∃ N : Nat, nn = N := ⟨nn.toNat, by omega⟩
  rw [Int.toNat_natCast] at *
  by_cases a2 : 65536 < ds.length
  · rw [hE.trans (if_pos (.inl a2)), if_neg (by decide)]
    exact @ard_1 (L+1) n rate delay N ts es xs vs ds [] [] 0 0 0 [] [] [] [] bs 0 0 0 _ _ p1 n1 (by rw [hld]; exact dT (by omega))
  have n2 : decide (((ds.map celC).length : Int) > 65536) = false := by rw [hld]; exact dF (by omega)
  by_cases a3 : 5000 < bs.length
  · rw [hE.trans (if_pos (.inr a3)), if_neg (by decide)]
    exact @ard_2 (L+1) n rate delay N ts es xs vs ds [] [] 0 0 0 [] [] [] [] bs 0 0 0 _ _ p1 n1 n2 (by rw [hlb]; exact dT (by omega))
  have n3 : decide (((bs.map celBu).length : Int) > 5000) = false := by rw [hlb]; exact dF (by omega)
  have hE2 := hE.trans (if_neg (by omega))
  obtain ⟨v1, v2⟩ := @burD L n (N : Int) ds us bs N (by omega) (by omega)
  cases b1 : okBs bs with
  | false =>
    obtain ⟨s, q1, q2⟩ := v2 b1
    have e : arrE rate delay (N : Int) ts es xs vs ds bs = 1 := by rw [hE2, b1]; rfl
    rw [e, if_neg (by decide)]
    exact @aqd_3 (L+1) n rate delay N ts es xs vs ds [] [] 0 0 0 [] [] [] [] bs s _ us _ p1 n1 n2 n3 (by rw [hus]; exact q1) q2
  | true =>
  have v1 := v1 b1
  obtain ⟨w1, w2⟩ := @disD L n (N : Int) ds us bs N (by omega) (by omega)
  cases b2 : okDs ds with
  | false =>
    obtain ⟨s, q1, q2⟩ := w2 b2
    have e : arrE rate delay (N : Int) ts es xs vs ds bs = 7 := by rw [hE2, b1, b2]; rfl
    rw [e, if_neg (by decide)]
    exact @aud_3 (L+1) n rate delay N ts es xs vs ds us [] N 0 bs.length [] [] [] [] bs s _ us _ p1 n1 n2 n3 (by rw [hus]; exact v1) q1 q2
  | true =>
    have w1 := w1 b2
    have e : arrE rate delay (N : Int) ts es xs vs ds bs = 0 := by rw [hE2, b1, b2]; rfl
    rw [e, if_pos rfl]
    obtain ⟨st, t1⟩ := @outD L n ds us bs N b1 (by omega) (by omega) hW (by omega) hL
    have hlen : ((tab (arrF true us ds bs) N).map celS).length = N := by rw [map_len, tab_len]
    have hle : Con.holds ⟨fnOf, specA, L+1⟩ (runF ⟨fnOf, specA, L+1⟩ n) (.le N (List.length ((tab (arrF true us ds bs) N).map celS))) := by show _ ≤ _; rw [hlen]; exact Nat.le_refl _
    have key := @ard_3 (L+1) n rate delay N ts es xs vs ds us [] N N bs.length (tab (arrF true us ds bs) N) [] st [] bs ds.length N 0 us _ p1 n1 n2 n3 (by rw [hus]; exact v1) w1 t1 hle
    rw [key, tkMap tab_len.symm]
end
end Go.Proofs.Ytnphdnokedhhkaa.Fw
namespace Go.Proofs.Ytnphdnokedhhkaa.Fw
open Go Go.RowKit
def nz1 : AV → AV
  | .nils => .lst 1 []
  | x => x
def nzA : AV → AV
  | .agg cs => .agg (cs.map nz1)
  | x => nz1 x
theorem wi_nz1 (x : AV) : Wi1 x (nz1 x) := by
  unfold nz1
  split
  · exact .inr ⟨rfl, 1, rfl⟩
  · exact .refl _
theorem all_nz1 : ∀ cs : List AV, All2 Wi1 cs (cs.map nz1)
  | [] => trivial
  | x :: r => ⟨wi_nz1 x, all_nz1 r⟩
theorem wi_nzA (x : AV) : WiA x (nzA x) := by
  unfold nzA
  split
  · exact .inl ⟨_, _, rfl, rfl, all_nz1 _⟩
  · exact .inr (wi_nz1 _)
theorem wi_nz : ∀ avs : List AV, All2 WiA avs (avs.map nzA)
  | [] => trivial
  | x :: r => ⟨wi_nzA x, wi_nz r⟩
def newV1 : FuncId → Option (List AV → Option AV)
  | 22 => some (fun avs => chkSem (avs.map nzA))
  | 23 => some (fun avs => chkSem (avs.map nzA))
  | _ => none
theorem spec_v1 : SpecOk Try.prog ⟨fnOf, fun f => match newV1 f with | some g => some g | none => specT f, 0⟩ :=
  spec_adds spec_t (fun L => fnsOk _ _) follows newV1 fun f g h => by
    unfold newV1 at h
    split at h
    · cases h
      refine ⟨⟨_, Try.func22, ne_of_beq_false (by kernel_rfl), by kernel_rfl⟩, fun avs r h => ?_⟩
      have hw := wi_nz avs
      obtain ⟨rate, delay, ts, es, he, m1, m2, rfl⟩ := chkSem_is h
      rw [he] at hw
      exact ⟨_, 0, 1, _, hw, (check_both m1 m2).1, WkT.refl _⟩
    · cases h
      refine ⟨⟨_, Try.func23, ne_of_beq_false (by kernel_rfl), by kernel_rfl⟩, fun avs r h => ?_⟩
      have hw := wi_nz avs
      obtain ⟨rate, delay, ts, es, he, m1, m2, rfl⟩ := chkSem_is h
      rw [he] at hw
      exact ⟨_, 0, 1, _, hw, (check_both m1 m2).2, WkT.refl _⟩
    · cases h
def newV2 : FuncId → Option (List AV → Option AV)
  | 44 => some (fun avs => rowSem (avs.map nzA))
  | _ => none
theorem spec_v2 : SpecOk Try.prog ⟨fnOf, fun f => match newV2 f with | some g => some g | none => specW f, 0⟩ :=
  spec_adds spec_w (fun L => fnsOk _ _) follows newV2 fun f g h => by
    unfold newV2 at h
    split at h
    · cases h
      refine ⟨⟨_, Try.func44, ne_of_beq_false (by kernel_rfl), by kernel_rfl⟩, fun avs r h => ?_⟩
      have hw := wi_nz avs
      obtain ⟨xs, he, hm, rfl⟩ := rowSem_is h
      rw [he] at hw
      exact ⟨_, xs.length + 1, 3, _, hw, plain_den (Nat.le_refl _) hm, WkT.refl _⟩
    · cases h
def newV : FuncId → Option (List AV → Option AV)
  | 22 => some (fun avs => chkSem (avs.map nzA))
  | 23 => some (fun avs => chkSem (avs.map nzA))
  | 44 => some (fun avs => rowSem (avs.map nzA))
  | _ => none
def specV : FuncId → Option (List AV → Option AV) := fun f => match newV f with | some g => some g | none => specX f
theorem spec_v : SpecOk Try.prog ⟨fnOf, specV, 0⟩ := by
  intro f g h
  have h : (match newV f with | some g => some g | none => specX f) = some g := h
  unfold newV at h
  split at h
  · rename_i g' hq
    split at hq
    · cases hq; cases h; exact spec_v1 22 _ rfl
    · cases hq; cases h; exact spec_v1 23 _ rfl
    · cases hq; cases h; exact spec_v2 44 _ rfl
    · cases hq
  · exact spec_x f g h
end Go.Proofs.Ytnphdnokedhhkaa.Fw
namespace Go.Proofs.Ytnphdnokedhhkaa.Fw
open Go Go.RowKit
def arrQ (e : Int) (l : List Smp) : AV := .tup [.own 2 ((if e = 0 then l else []).map celS) true, .int .i64 e]
theorem arr_wk (e : Int) (l : List Smp) : WkT (arrA e l) (arrQ e l) := by
  unfold arrA arrQ
  by_cases h : e = 0
  · rw [if_pos h, if_pos h, h]; exact WkT.refl _
  · rw [if_neg h, if_neg h]
    exact .inl ⟨_, _, rfl, rfl, ⟨.inr (.inr ⟨rfl, 2, true, rfl⟩), .inr (.inl rfl), trivial⟩⟩
def unBu : List AV → Option Bu
  | [.v (.int .i64 a), .v (.int .i64 m), .cpx x y, .v (.bool c)] => some ((a, m), (x, y), c)
  | _ => none
theorem unBu_is (e : List AV) (x : Bu) (h : unBu e = some x) : e = celBu x := by
  unfold unBu at h
  split at h
  · cases h; rfl
  · cases h
def nz4 : AV → AV
  | .nils => .lst 4 []
  | x => x
theorem wi_nz4 (x : AV) : WiA x (nz4 x) := by
  unfold nz4
  split
  · exact .inr (.inr ⟨rfl, 4, rfl⟩)
  · exact .refl _
def nzR : List AV → List AV
  | [a, b, c, d, e, f] => [nzA a, nzA b, nzA c, nzA d, nz4 e, f]
  | l => l
theorem wi_nzR (avs : List AV) : All2 WiA avs (nzR avs) := by
  unfold nzR
  split
  · exact ⟨wi_nzA _, wi_nzA _, wi_nzA _, wi_nzA _, wi_nz4 _, .refl _, trivial⟩
  · exact all2_refl WiA.refl _
def arrSem (doc : Bool) : List AV → Option AV
  | [.agg [.v (.int .i64 rate), .v (.int .i64 delay), .lst 1 e1, .lst 1 e2], .lst 1 e3, .lst 1 e4, .lst 1 e5, .lst 4 e6, .v (.int .i64 nn)] =>
    (unL unC e1).bind fun ts => (unL unC e2).bind fun es => (unL unC e3).bind fun xs => (unL unC e4).bind fun vs => (unL unC e5).bind fun ds => (unL unBu e6).bind fun bs =>
      if shortL ts ∧ shortL es ∧ shortL xs ∧ shortL vs then some (arrQ (arrE rate delay nn ts es xs vs ds bs) (if doc then arrD rate delay nn ts es xs vs ds bs else arrP rate delay nn ts es xs vs ds bs)) else none
  | _ => none
theorem arrSem_is {doc : Bool} {avs : List AV} {r : AV} (h : arrSem doc avs = some r) : ∃ rate delay nn ts es xs vs ds bs, avs = [.agg [.int .i64 rate, .int .i64 delay, .lst 1 (ts.map celC), .lst 1 (es.map celC)], .lst 1 (xs.map celC), .lst 1 (vs.map celC), .lst 1 (ds.map celC), .lst 4 (bs.map celBu), .int .i64 nn] ∧
    shortL ts ∧ shortL es ∧ shortL xs ∧ shortL vs ∧ r = arrQ (arrE rate delay nn ts es xs vs ds bs) (if doc then arrD rate delay nn ts es xs vs ds bs else arrP rate delay nn ts es xs vs ds bs) := by
  unfold arrSem at h
  split at h
  · rename_i rate delay e1 e2 e3 e4 e5 e6 nn
    rw [Option.bind_eq_some_iff] at h
    obtain ⟨ts, h1, h⟩ := h
    rw [Option.bind_eq_some_iff] at h
    obtain ⟨es, h2, h⟩ := h
    rw [Option.bind_eq_some_iff] at h
    obtain ⟨xs, h3, h⟩ := h
    rw [Option.bind_eq_some_iff] at h
    obtain ⟨vs, h4, h⟩ := h
    rw [Option.bind_eq_some_iff] at h
    obtain ⟨ds, h5, h⟩ := h
    rw [Option.bind_eq_some_iff] at h
    obtain ⟨bs, h6, h⟩ := h
    split at h
    · rename_i hm
      cases h
      have g1 := unL_inv (enc := celC) unC_is h1
      have g2 := unL_inv (enc := celC) unC_is h2
      have g3 := unL_inv (enc := celC) unC_is h3
      have g4 := unL_inv (enc := celC) unC_is h4
      have g5 := unL_inv (enc := celC) unC_is h5
      have g6 := unL_inv (enc := celBu) unBu_is h6
      subst g1; subst g2; subst g3; subst g4; subst g5; subst g6
      exact ⟨rate, delay, nn, ts, es, xs, vs, ds, bs, rfl, hm.1, hm.2.1, hm.2.2.1, hm.2.2.2, rfl⟩
    · cases h
  · cases h
def newB : FuncId → Option (List AV → Option AV)
  | 31 => some (fun avs => arrSem false (nzR avs))
  | 32 => some (fun avs => arrSem true (nzR avs))
  | 33 => some (fun avs => den ⟨fnOf, specK, 20000000000001⟩ 1 33 avs)
  | 30 => some (fun avs => den ⟨fnOf, specK, 20000000000001⟩ 1 30 avs)
  | _ => none
def newB1 : FuncId → Option (List AV → Option AV)
  | 31 => some (fun avs => arrSem false (nzR avs))
  | 32 => some (fun avs => arrSem true (nzR avs))
  | _ => none
def newB2 : FuncId → Option (List AV → Option AV)
  | 33 => some (fun avs => den ⟨fnOf, specK, 20000000000001⟩ 1 33 avs)
  | 30 => some (fun avs => den ⟨fnOf, specK, 20000000000001⟩ 1 30 avs)
  | _ => none
theorem spec_b1 : SpecOk Try.prog ⟨fnOf, fun f => match newB1 f with | some g => some g | none => specA f, 0⟩ :=
  spec_adds spec_a (fun L => fnsOk _ _) follows newB1 fun f g h => by
    unfold newB1 at h
    split at h
    · cases h
      refine ⟨⟨_, Try.func31, ne_of_beq_false (by kernel_rfl), by kernel_rfl⟩, fun avs r h => ?_⟩
      have hw := wi_nzR avs
      obtain ⟨rate, delay, nn, ts, es, xs, vs, ds, bs, he, h1, h2, h3, h4, rfl⟩ := arrSem_is h
      rw [he] at hw
      exact ⟨_, _, _, _, hw, @arr_prog 70000 0 rate delay nn ts es xs vs ds bs (Nat.le_refl _) h1 h2 h3 h4, arr_wk _ _⟩
    · cases h
      refine ⟨⟨_, Try.func32, ne_of_beq_false (by kernel_rfl), by kernel_rfl⟩, fun avs r h => ?_⟩
      have hw := wi_nzR avs
      obtain ⟨rate, delay, nn, ts, es, xs, vs, ds, bs, he, h1, h2, h3, h4, rfl⟩ := arrSem_is h
      rw [he] at hw
      exact ⟨_, _, _, _, hw, @arr_doc 70000 0 rate delay nn ts es xs vs ds bs (Nat.le_refl _) h1 h2 h3 h4, arr_wk _ _⟩
    · cases h
theorem spec_b2 : SpecOk Try.prog ⟨fnOf, fun f => match newB2 f with | some g => some g | none => specK f, 0⟩ :=
  spec_adds spec_k (fun L => fnsOk _ _) follows newB2 fun f g h => by
    unfold newB2 at h
    split at h
    · cases h
      exact ⟨⟨_, Try.func33, ne_of_beq_false (by kernel_rfl), by kernel_rfl⟩, fun avs r h => toldZ (P := ⟨fnOf, specK, 0⟩) h (WkT.refl _)⟩
    · cases h
      exact ⟨⟨_, Try.func30, ne_of_beq_false (by kernel_rfl), by kernel_rfl⟩, fun avs r h => toldZ (P := ⟨fnOf, specK, 0⟩) h (WkT.refl _)⟩
    · cases h
def specB : FuncId → Option (List AV → Option AV) := fun f => match newB f with | some g => some g | none => specA f
theorem spec_b : SpecOk Try.prog ⟨fnOf, specB, 0⟩ := by
  intro f g h
  have h : (match newB f with | some g => some g | none => specA f) = some g := h
  unfold newB at h
  split at h
  · rename_i g' hq
    split at hq
    · cases hq; cases h; exact spec_b1 31 _ rfl
    · cases hq; cases h; exact spec_b1 32 _ rfl
    · cases hq; cases h; exact spec_b2 33 _ rfl
    · cases hq; cases h; exact spec_b2 30 _ rfl
    · cases hq
  · exact spec_a f g h
end Go.Proofs.Ytnphdnokedhhkaa.Fw
namespace Go.Proofs.Ytnphdnokedhhkaa.Fw
open Go Go.RowKit
/-- a float in parts of 2^-6, and of 2^-12 -/
def sx (x : Nat) : Int := fv x / 2 ^ 1068
def gx (x : Nat) : Int := fv x / 2 ^ 1062
theorem six_sx {m : Int} {x : Nat} (h : six m x) : sx x = m := by
  unfold sx; rw [h.2]; exact Int.mul_ediv_cancel _ (pow_ne _)
theorem grid_gx {m : Int} {x : Nat} (h : grid m x) : gx x = m := by
  unfold gx; rw [h.2]; exact Int.mul_ediv_cancel _ (pow_ne _)
abbrev CI := Int × Int
def addI (a b : CI) : CI := (a.1 + b.1, a.2 + b.2)
def timI (a b : CI) : CI := (a.1 * b.1 - a.2 * b.2, a.1 * b.2 + a.2 * b.1)
def sxC (z : Nat × Nat) : CI := (sx z.1, sx z.2)
/-- a number whose parts are so many parts of 2^-6, 2^-12 -/
def sixC (m : CI) (z : Nat × Nat) : Prop := six m.1 z.1 ∧ six m.2 z.2
def gridC (m : CI) (z : Nat × Nat) : Prop := grid m.1 z.1 ∧ grid m.2 z.2
theorem sixC_sx {m : CI} {z : Nat × Nat} (h : sixC m z) : sxC z = m := by
  obtain ⟨a, b⟩ := m
  unfold sxC; rw [six_sx h.1, six_sx h.2]
theorem okTap_six {z : Nat × Nat} (h : okTap z = true) : sixC (sxC z) z ∧ (sxC z).1.natAbs ≤ 64 ∧ (sxC z).2.natAbs ≤ 64 := by
  unfold okTap at h
  rw [Bool.and_eq_true] at h
  obtain ⟨a, ha, a2⟩ := plain_six h.1
  obtain ⟨b, hb, b2⟩ := plain_six h.2
  have e : sxC z = (a, b) := sixC_sx (m := (a, b)) ⟨ha, hb⟩
  rw [e]
  exact ⟨⟨ha, hb⟩, a2, b2⟩
theorem ptOK_six {z : Nat × Nat} (h : ptOK z = true) : sixC (sxC z) z ∧ (sxC z).1.natAbs ≤ 8192 ∧ (sxC z).2.natAbs ≤ 8192 := by
  unfold ptOK at h
  rw [Bool.and_eq_true] at h
  obtain ⟨a, a2, ha⟩ := plainF_six (.inr rfl) h.1
  obtain ⟨b, b2, hb⟩ := plainF_six (.inr rfl) h.2
  have e : sxC z = (a, b) := sixC_sx (m := (a, b)) ⟨ha, hb⟩
  rw [e]
  exact ⟨⟨ha, hb⟩, a2, b2⟩
theorem tim_gridC {t z : Nat × Nat} {a b : CI} (ht : sixC a t) (hz : sixC b z) (a1 : a.1.natAbs ≤ 64) (a2 : a.2.natAbs ≤ 64) (b1 : b.1.natAbs ≤ 8192) (b2 : b.2.natAbs ≤ 8192) : gridC (timI a b) (timP t z) ∧ (timI a b).1.natAbs ≤ 1048576 ∧ (timI a b).2.natAbs ≤ 1048576 := by
  have m : ∀ {x y : Int}, x.natAbs ≤ 64 → y.natAbs ≤ 8192 → (x * y).natAbs ≤ 524288 := fun {x y} h1 h2 => by rw [Int.natAbs_mul]; exact Nat.mul_le_mul h1 h2
  have p1 := m a1 b1
  have p2 := m a2 b2
  have p3 := m a1 b2
  have p4 := m a2 b1
  have g1 := six_mul ht.1 hz.1 (by omega)
  have g2 := six_mul ht.2 hz.2 (by omega)
  have g3 := six_mul ht.1 hz.2 (by omega)
  have g4 := six_mul ht.2 hz.1 (by omega)
  refine ⟨⟨grid_sub g1 g2 (by omega), grid_add g3 g4 (by omega)⟩, ?_, ?_⟩
  · show (a.1 * b.1 - a.2 * b.2).natAbs ≤ _; omega
  · show (a.1 * b.2 + a.2 * b.1).natAbs ≤ _; omega
/-- a row's number at a place, nought beyond -/
def xat (xs : List (Nat × Nat)) (i : Int) : CI := if 0 ≤ i ∧ i < xs.length then sxC (xs.getD i.toNat (0, 0)) else (0, 0)
def tat (ts : List (Nat × Nat)) (k : Nat) : CI := sxC (ts.getD k (0, 0))
/-- the sum over taps -/
def conv (h : Nat → CI) (x : Int → CI) (ap : Nat) (at' : Int) : Nat → CI
  | 0 => (0, 0)
  | k + 1 => addI (conv h x ap at' k) (timI (h k) (x (at' - (k * ap : Nat))))
theorem timI_zero (a : CI) : timI a (0, 0) = (0, 0) := by unfold timI; simp
theorem addI_zero (a : CI) : addI a (0, 0) = a := by unfold addI; simp
theorem conv_big {h : Nat → CI} {x : Int → CI} {ap : Nat} {at' : Int} {K : Nat} (hb : ∀ k, k < K → (h k).1.natAbs ≤ 64 ∧ (h k).2.natAbs ≤ 64) (xb : ∀ i, (x i).1.natAbs ≤ 8192 ∧ (x i).2.natAbs ≤ 8192) :
    ∀ k, k ≤ K → (conv h x ap at' k).1.natAbs ≤ k * 1048576 ∧ (conv h x ap at' k).2.natAbs ≤ k * 1048576
  | 0, _ => ⟨by simp [conv], by simp [conv]⟩
  | k + 1, hk => by
    obtain ⟨i1, i2⟩ := conv_big (ap := ap) (at' := at') hb xb k (by omega)
    obtain ⟨a1, a2⟩ := hb k (by omega)
    obtain ⟨b1, b2⟩ := xb (at' - (k * ap : Nat))
    have m : ∀ {x y : Int}, x.natAbs ≤ 64 → y.natAbs ≤ 8192 → (x * y).natAbs ≤ 524288 := fun {x y} h1 h2 => by rw [Int.natAbs_mul]; exact Nat.mul_le_mul h1 h2
    have p1 := m a1 b1
    have p2 := m a2 b2
    have p3 := m a1 b2
    have p4 := m a2 b1
    show ((conv h x ap at' k).1 + ((h k).1 * (x (at' - (k * ap : Nat))).1 - (h k).2 * (x (at' - (k * ap : Nat))).2)).natAbs ≤ _ ∧ ((conv h x ap at' k).2 + ((h k).1 * (x (at' - (k * ap : Nat))).2 + (h k).2 * (x (at' - (k * ap : Nat))).1)).natAbs ≤ _
    omega
/-- bounded by the taps' sum -/
def absI (a : CI) : Nat := a.1.natAbs + a.2.natAbs
def sumA (h : Nat → CI) : Nat → Nat
  | 0 => 0
  | k + 1 => sumA h k + absI (h k)
theorem conv_le {h : Nat → CI} {x : Int → CI} {ap : Nat} {at' : Int} {M : Nat} (xb : ∀ i, (x i).1.natAbs ≤ M ∧ (x i).2.natAbs ≤ M) :
    ∀ k, (conv h x ap at' k).1.natAbs ≤ sumA h k * M ∧ (conv h x ap at' k).2.natAbs ≤ sumA h k * M
  | 0 => ⟨by simp [conv], by simp [conv]⟩
  | k + 1 => by
    obtain ⟨i1, i2⟩ := conv_le (h := h) (ap := ap) (at' := at') xb k
    obtain ⟨b1, b2⟩ := xb (at' - (k * ap : Nat))
    have m : ∀ {x y : Int}, y.natAbs ≤ M → (x * y).natAbs ≤ x.natAbs * M := fun {x y} h2 => by rw [Int.natAbs_mul]; exact Nat.mul_le_mul_left _ h2
    have p1 := m (x := (h k).1) b1
    have p2 := m (x := (h k).2) b2
    have p3 := m (x := (h k).1) b2
    have p4 := m (x := (h k).2) b1
    have e : sumA h (k + 1) * M = sumA h k * M + (h k).1.natAbs * M + (h k).2.natAbs * M := by
      show (sumA h k + ((h k).1.natAbs + (h k).2.natAbs)) * M = _
      rw [Nat.add_mul, Nat.add_mul, Nat.add_assoc]
    rw [e]
    show ((conv h x ap at' k).1 + ((h k).1 * (x (at' - (k * ap : Nat))).1 - (h k).2 * (x (at' - (k * ap : Nat))).2)).natAbs ≤ _ ∧ ((conv h x ap at' k).2 + ((h k).1 * (x (at' - (k * ap : Nat))).2 + (h k).2 * (x (at' - (k * ap : Nat))).1)).natAbs ≤ _
    omega
theorem xat_le {xs : List (Nat × Nat)} (h2 : rowF xs = true) (i : Int) : (xat xs i).1.natAbs ≤ 8192 ∧ (xat xs i).2.natAbs ≤ 8192 := by
  unfold xat
  split
  · rename_i c
    exact (ptOK_six (rowF_is.1 h2 i.toNat (by omega))).2
  · exact ⟨by decide, by decide⟩
/-- THE SUM OF A FILTER, as whole numbers -/
theorem acc_val {hs xs : List (Nat × Nat)} {ap : Nat} {at' : Int} (hh : hs.length ≤ 64) (h1 : ∀ i, i < hs.length → okTap (hs.getD i (0, 0)) = true) (h2 : rowF xs = true) {o : Nat × Nat} {p : CI} (hp : gridC p o) (p1 : p.1.natAbs ≤ 1099511627776) (q1 : p.2.natAbs ≤ 1099511627776) :
    ∀ k, k ≤ hs.length → gridC (addI p (conv (tat hs) (xat xs) ap at' k)) (accL hs xs ap at' o k)
  | 0, _ => by
    show gridC (addI p (0, 0)) o
    rw [addI_zero]; exact hp
  | k + 1, hk => by
    have ih := acc_val (ap := ap) (at' := at') hh h1 h2 hp p1 q1 k (by omega)
    have hb : ∀ j, j < hs.length → (tat hs j).1.natAbs ≤ 64 ∧ (tat hs j).2.natAbs ≤ 64 := fun j hj => (okTap_six (h1 j hj)).2
    obtain ⟨i1, i2⟩ := conv_big (ap := ap) (at' := at') hb (fun i => xat_le h2 i) k (by omega)
    by_cases c : 0 ≤ at' - (k * ap : Nat) ∧ at' - (k * ap : Nat) < xs.length
    · have e : accL hs xs ap at' o (k + 1) = addP (accL hs xs ap at' o k) (timP (hs.getD k (0, 0)) (xs.getD (at' - (k * ap : Nat)).toNat (0, 0))) := if_pos c
      have ex : xat xs (at' - (k * ap : Nat)) = sxC (xs.getD (at' - (k * ap : Nat)).toNat (0, 0)) := if_pos c
      obtain ⟨t1, t2, t3⟩ := okTap_six (h1 k (by omega))
      obtain ⟨z1, z2, z3⟩ := ptOK_six (rowF_is.1 h2 (at' - (k * ap : Nat)).toNat (by omega))
      obtain ⟨⟨g1, g2⟩, g3, g4⟩ := tim_gridC t1 z1 t2 t3 z2 z3
      rw [e]
      have ec : conv (tat hs) (xat xs) ap at' (k + 1) = addI (conv (tat hs) (xat xs) ap at' k) (timI (tat hs k) (xat xs (at' - (k * ap : Nat)))) := rfl
      rw [ec, ex]
      generalize conv (tat hs) (xat xs) ap at' k = u at *
      have et : tat hs k = sxC (hs.getD k (0, 0)) := rfl
      rw [et]
      generalize timI (sxC (hs.getD k (0, 0))) (sxC (xs.getD (at' - (k * ap : Nat)).toNat (0, 0))) = v at *
      obtain ⟨e1, e2⟩ := ih
      have n1 : ((p.1 + u.1) + v.1).natAbs < 2 ^ 53 := by omega
      have n2 : ((p.2 + u.2) + v.2).natAbs < 2 ^ 53 := by omega
      refine ⟨?_, ?_⟩
      · show grid (p.1 + (u.1 + v.1)) _
        rw [← Int.add_assoc]
        exact grid_add e1 g1 n1
      · show grid (p.2 + (u.2 + v.2)) _
        rw [← Int.add_assoc]
        exact grid_add e2 g2 n2
    · have e : accL hs xs ap at' o (k + 1) = accL hs xs ap at' o k := if_neg c
      have ex : xat xs (at' - (k * ap : Nat)) = (0, 0) := if_neg c
      have ec : conv (tat hs) (xat xs) ap at' (k + 1) = addI (conv (tat hs) (xat xs) ap at' k) (timI (tat hs k) (xat xs (at' - (k * ap : Nat)))) := rfl
      rw [e, ec, ex, timI_zero, addI_zero]
      exact ih
/-- what comes through at one place -/
def outI (ts xs es vs : List (Nat × Nat)) (rate : Nat) (m : Int) (delay : Nat) : CI := addI (conv (tat ts) (xat xs) rate (m - delay) ts.length) (conv (tat es) (xat vs) 1 m es.length)
theorem gridC_zero : gridC (0, 0) (0, 0) := ⟨grid_zero0, grid_zero0⟩
theorem zero_addI (a : CI) : addI (0, 0) a = a := by unfold addI; simp
theorem chk_parts {rate delay : Int} {ts es : List (Nat × Nat)} (h : chkT rate delay ts es = 0) : (1 ≤ rate ∧ rate ≤ 8 ∧ 0 ≤ delay ∧ delay ≤ 65536) ∧ (0 < ts.length ∧ ts.length ≤ 64 ∧ ∀ i, i < ts.length → okTap (ts.getD i (0, 0)) = true) ∧ (es.length ≤ 64 ∧ ∀ i, i < es.length → okTap (es.getD i (0, 0)) = true) := by
  obtain ⟨r1, r2, q1, q2, t1, t2⟩ := chkT_ok h
  obtain ⟨u1, u2, u3, _⟩ := tapsF_is.1 t1
  refine ⟨⟨r1, r2, q1, q2⟩, ⟨u1, u2, u3⟩, ?_⟩
  rcases t2 with h | h
  · exact ⟨by omega, fun i hi => by omega⟩
  · exact ⟨(tapsF_is.1 h).2.1, (tapsF_is.1 h).2.2.1⟩
theorem out_val {rate delay : Int} {ts xs es vs : List (Nat × Nat)} (h : chkT rate delay ts es = 0) (h3 : rowF xs = true) (h4 : rowF vs = true) (m : Int) :
    gridC (outI ts xs es vs rate.toNat m delay.toNat) (outP' ts xs es vs rate.toNat m delay.toNat) := by
  obtain ⟨_, ⟨_, t2, t3⟩, e1, e2⟩ := chk_parts h
  have x := acc_val (ap := rate.toNat) (at' := m - delay.toNat) t2 t3 h3 gridC_zero (by decide) (by decide) ts.length (Nat.le_refl _)
  rw [zero_addI] at x
  have hb : ∀ j, j < ts.length → (tat ts j).1.natAbs ≤ 64 ∧ (tat ts j).2.natAbs ≤ 64 := fun j hj => (okTap_six (t3 j hj)).2
  obtain ⟨i1, i2⟩ := conv_big (ap := rate.toNat) (at' := m - delay.toNat) hb (fun i => xat_le h3 i) ts.length (Nat.le_refl _)
  have b1 : ts.length * 1048576 ≤ 64 * 1048576 := Nat.mul_le_mul_right _ t2
  exact acc_val (ap := 1) (at' := m) e1 e2 h4 x (by omega) (by omega) es.length (Nat.le_refl _)
end Go.Proofs.Ytnphdnokedhhkaa.Fw
namespace Go.Proofs.Ytnphdnokedhhkaa.Fw
open Go Go.RowKit
theorem sP_val {zs : List (Nat × Nat)} : ∀ i, i ≤ 64 → (∀ j, j < i → okTap (zs.getD j (0, 0)) = true) → six (sumA (tat zs) i : Int) (sP zs i) ∧ sumA (tat zs) i ≤ 128 * i
  | 0, _, _ => ⟨six_zero, Nat.zero_le _⟩
  | i + 1, hi, h => by
    obtain ⟨s1, s2⟩ := sP_val i (by omega) fun j hj => h j (by omega)
    obtain ⟨hz, h1, h2⟩ := okTap_six (h i (by omega))
    obtain ⟨a1, _⟩ := six_abs hz.1
    obtain ⟨b1, _⟩ := six_abs hz.2
    have e : sumA (tat zs) (i + 1) = sumA (tat zs) i + ((sxC (zs.getD i (0, 0))).1.natAbs + (sxC (zs.getD i (0, 0))).2.natAbs) := rfl
    rw [e]
    generalize sxC (zs.getD i (0, 0)) = v at *
    refine ⟨?_, by omega⟩
    have := six_add s1 (six_add a1 b1 (by omega)) (by omega)
    rwa [← Int.natCast_add, ← Int.natCast_add] at this
theorem four_val : fv 4616189618054758400 = 256 * 2 ^ 1068 := by
  have h := fofInt_exact (n := 4) (by decide)
  have e : fofInt 4 = 4616189618054758400 := by kernel_rfl
  rw [e] at h
  rw [h.2, show (256 : Int) = 4 * 2 ^ 6 from rfl, Int.mul_assoc, ← Int.pow_add]
theorem six_le4 {m : Int} {x : Nat} (h : six m x) : fle x 4616189618054758400 = decide (m ≤ 256) := by
  rw [fle_fin h.1 fin4, h.2, four_val]
  have hp : (0 : Int) < 2 ^ 1068 := Int.pow_pos (by decide)
  exact decide_eq_decide.2 ⟨fun h => Int.le_of_mul_le_mul_right h hp, fun h => Int.mul_le_mul_of_nonneg_right h (Int.le_of_lt hp)⟩
theorem tap_sum {zs : List (Nat × Nat)} (h : tapsF zs = true) : sumA (tat zs) zs.length ≤ 256 := by
  obtain ⟨h1, h2, h3, h4⟩ := tapsF_is.1 h
  obtain ⟨s1, s2⟩ := sP_val zs.length h2 (fun j hj => h3 j hj)
  rw [six_le4 s1, decide_eq_true_eq] at h4
  omega
/-- taps, by their whole numbers -/
theorem okTap_of {z : Nat × Nat} {m : CI} (h : sixC m z) (h1 : m.1.natAbs ≤ 64) (h2 : m.2.natAbs ≤ 64) : okTap z = true := by
  unfold okTap
  rw [Bool.and_eq_true]
  have key : ∀ {k : Int} {x : Nat}, six k x → k.natAbs ≤ 64 → plainF x one = true := fun {k x} h hk => by
    have hle : fle (absF x) 4607182418800017408 = true := by
      rw [fle_rk, (absF_rk x).1, (absF_rk x).2, fin_num h.1, rk_fin h.1, h.2]
      have r1 : rk 4607182418800017408 = 2 ^ 1074 := rk_one
      have r2 : isNaN 4607182418800017408 = false := by decide
      rw [r1, r2]
      simp only [Bool.not_false, Bool.true_and]
      refine decide_eq_true ?_
      rw [Int.natAbs_mul, Int.natAbs_pow]
      have p : (2 : Int) ^ 1074 = ((64 * 2 ^ 1068 : Nat) : Int) := by
        rw [Int.natCast_mul, Int.natCast_pow, show ((64 : Nat) : Int) = 2 ^ 6 from rfl]
        show _ = (2 : Int) ^ 6 * 2 ^ 1068
        rw [← Int.pow_add]
      rw [p]
      exact Int.ofNat_le.2 (Nat.mul_le_mul_right _ hk)
    obtain ⟨g1, g2, _⟩ := mul64 okM_one hle
    obtain ⟨z1, z2⟩ := fint_zero g1
    unfold plainF
    rw [show fle (absF x) one = true from hle, Bool.true_and, feq_fin z1 g1, z2, g2, h.2]
    refine decide_eq_true ?_
    have p : (k * 2 ^ 1068 * 2 ^ 6 : Int) = k * 2 ^ 1074 := by rw [Int.mul_assoc, ← Int.pow_add]
    rw [p, Int.mul_tdiv_cancel _ (pow_ne _)]
  exact ⟨key h.1 h1, key h.2 h2⟩
theorem ptOK_of {z : Nat × Nat} {m : CI} (h : sixC m z) (h1 : m.1.natAbs ≤ 8192) (h2 : m.2.natAbs ≤ 8192) : ptOK z = true := by
  unfold ptOK
  rw [Bool.and_eq_true]
  have key : ∀ {k : Int} {x : Nat}, six k x → k.natAbs ≤ 8192 → plainF x 4638707616191610880 = true := fun {k x} h hk => by
    have hle : fle (absF x) 4638707616191610880 = true := by
      rw [fle_rk, (absF_rk x).1, (absF_rk x).2, fin_num h.1, rk_fin h.1, h.2]
      have r1 : rk 4638707616191610880 = 2 ^ 1081 := of_decide_eq_true (by kernel_rfl)
      have r2 : isNaN 4638707616191610880 = false := by decide
      rw [r1, r2]
      simp only [Bool.not_false, Bool.true_and]
      refine decide_eq_true ?_
      rw [Int.natAbs_mul, Int.natAbs_pow]
      have p : (2 : Int) ^ 1081 = ((8192 * 2 ^ 1068 : Nat) : Int) := by
        rw [Int.natCast_mul, Int.natCast_pow, show ((8192 : Nat) : Int) = 2 ^ 13 from rfl]
        show _ = (2 : Int) ^ 13 * 2 ^ 1068
        rw [← Int.pow_add]
      rw [p]
      exact Int.ofNat_le.2 (Nat.mul_le_mul_right _ hk)
    obtain ⟨g1, g2, _⟩ := mul64 (.inr rfl) hle
    obtain ⟨z1, z2⟩ := fint_zero g1
    unfold plainF
    rw [hle, Bool.true_and, feq_fin z1 g1, z2, g2, h.2]
    refine decide_eq_true ?_
    have p : (k * 2 ^ 1068 * 2 ^ 6 : Int) = k * 2 ^ 1074 := by rw [Int.mul_assoc, ← Int.pow_add]
    rw [p, Int.mul_tdiv_cancel _ (pow_ne _)]
  exact ⟨key h.1 h1, key h.2 h2⟩
theorem tapsF_of {zs : List (Nat × Nat)} (h1 : 0 < zs.length) (h2 : zs.length ≤ 64) (h3 : ∀ i, i < zs.length → okTap (zs.getD i (0, 0)) = true) (h4 : sumA (tat zs) zs.length ≤ 256) : tapsF zs = true := by
  refine tapsF_is.2 ⟨h1, h2, h3, ?_⟩
  obtain ⟨s1, _⟩ := sP_val zs.length h2 (fun j hj => h3 j hj)
  rw [six_le4 s1]
  exact decide_eq_true (by omega)
theorem rowF_of {xs : List (Nat × Nat)} (h : ∀ i, i < xs.length → ∃ m : CI, sixC m (xs.getD i (0, 0)) ∧ m.1.natAbs ≤ 8192 ∧ m.2.natAbs ≤ 8192) : rowF xs = true :=
  rowF_is.2 fun i hi => by
    obtain ⟨m, h1, h2, h3⟩ := h i hi
    exact ptOK_of h1 h2 h3
/-- a quotient by 64 -/
theorem div64 {a : Int} (h : a.natAbs < 2 ^ 53) : six a (fdiv (fofInt a) 4634204016564240384) := by
  obtain ⟨f1, f2⟩ := fofInt_exact h
  exact whole_div6 h f1 f2
end Go.Proofs.Ytnphdnokedhhkaa.Fw
namespace Go.Proofs.Ytnphdnokedhhkaa.Fw
open Go Go.RowKit
/-- turned by one quarter -/
def rot1 (z : Nat × Nat) : Nat × Nat := (fneg z.2, z.1)
def rotK : Nat → Nat × Nat → Nat × Nat
  | 0, z => z
  | k + 1, z => rot1 (rotK k z)
end Go.Proofs.Ytnphdnokedhhkaa.Fw
namespace Go.Proofs.Ytnphdnokedhhkaa.Fw
open Go Go.RowKit
theorem hnLwRoB {P : Prog} {C : Caller} : Holds P C [] := trivial
theorem hcLwRoB {P : Prog} {C : Caller} {c : Con} {cs : List Con} (h : c.holds P C) (t : Holds P C cs) : Holds P C (c :: cs) := ⟨h, t⟩
theorem hbLwRoB {P : Prog} {C : Caller} {x y : Bool} {cs : List Con} (h : x = y) (t : Holds P C cs) : Holds P C (.b x y :: cs) := ⟨h, t⟩

def roSt (a b : Nat) (m : Int) (i : Nat) : St := ⟨[(0, .cpx a b), (6, .int .i64 m), (7, .int .i64 i)], [], 0⟩
def ruSt (a b : Nat) (m : Int) (i : Nat) : St := ⟨[(0, .cpx a b), (1, .int .i64 m), (5, .int .i64 i)], [], 0⟩
theorem ror_0 {L n : Nat} {a b c d i : Nat} {m k : Int} {π : List Nat} (h0 : (decide ((↑i : Int) < m)) = true) : seeZ 0 [0, 6, 7] m46.res (bodyOf ⟨fnOf, specK, L⟩ (runF ⟨fnOf, specK, L⟩ n) 0 m46b0 (i :: π) (roSt a b m i : St)) = some (RO.go .nrm (.mk [(0, (.cpx (fneg b) (a))), (6, (.v (.int .i64 (m)))), (7, (.v (.int .i64 (IntKind.wrap .i64 ((↑i : Int) + 1)))))] [] 0)) :=
  rndZ_sound (q := [((some 8), (Dec.b true))]) (by kernel_rfl) (hbLwRoB h0 hnLwRoB)
theorem ror_1 {L n : Nat} {a b c d i : Nat} {m k : Int} {π : List Nat} (h0 : (decide ((↑i : Int) < m)) = false) : seeZ 0 [0, 6, 7] m46.res (bodyOf ⟨fnOf, specK, L⟩ (runF ⟨fnOf, specK, L⟩ n) 0 m46b0 (i :: π) (roSt a b m i : St)) = some (RO.go (.exit 0) (.mk [(0, (.cpx (a) (b))), (6, (.v (.int .i64 (m)))), (7, (.v (.int .i64 ((↑i : Int)))))] [] 0)) :=
  rndZ_sound (q := [((some 8), (Dec.b false))]) (by kernel_rfl) (hbLwRoB h0 hnLwRoB)
theorem ro_0 {L n : Nat} {a b c d i : Nat} {m k : Int} {π : List Nat} (h0 : Con.holds ⟨fnOf, specK, L⟩ (runF ⟨fnOf, specK, L⟩ n) (.loop 0 [0, 6, 7] m46b0 [4] (.mk [(0, (.cpx (a) (b))), (6, (.v (.int .i64 (IntKind.wrap .i64 (↑(BitVec.ofInt 64 k &&& BitVec.ofInt 64 (3)).toNat : Int))))), (7, (.v (.int .i64 0)))] [] 0) (.exit 0) (.mk [(0, (.cpx (c) (d))), (6, (.v (.int .i64 (iand .i64 k (3))))), (7, (.v (.int .i64 ((↑i : Int)))))] [] 0))) : den ⟨fnOf, specK, L⟩ (n+1) 46 [.cpx a b, .int .i64 k] = some (.cpx (c) (d)) :=
  denD_sound (q := [((some 200000), (Dec.loop (.exit 0) (.mk [(0, (.cpx (c) (d))), (6, (.v (.int .i64 (iand .i64 k (3))))), (7, (.v (.int .i64 ((↑i : Int)))))] [] 0)))]) (by kernel_rfl) (hcLwRoB h0 hnLwRoB)
theorem rur_0 {L n : Nat} {a b c d i : Nat} {m k : Int} {π : List Nat} (h0 : (decide ((↑i : Int) < m)) = true) : seeZ 0 [0, 1, 5] m47.res (bodyOf ⟨fnOf, specK, L⟩ (runF ⟨fnOf, specK, L⟩ n) 0 m47b0 (i :: π) (ruSt a b m i : St)) = some (RO.go .nrm (.mk [(0, (.cpx (fneg b) (a))), (1, (.v (.int .i64 (m)))), (5, (.v (.int .i64 (IntKind.wrap .i64 ((↑i : Int) + 1)))))] [] 0)) :=
  rndZ_sound (q := [((some 14), (Dec.b true))]) (by kernel_rfl) (hbLwRoB h0 hnLwRoB)
theorem rur_1 {L n : Nat} {a b c d i : Nat} {m k : Int} {π : List Nat} (h0 : (decide ((↑i : Int) < m)) = false) : seeZ 0 [0, 1, 5] m47.res (bodyOf ⟨fnOf, specK, L⟩ (runF ⟨fnOf, specK, L⟩ n) 0 m47b0 (i :: π) (ruSt a b m i : St)) = some (RO.go (.exit 0) (.mk [(0, (.cpx (a) (b))), (1, (.v (.int .i64 (m)))), (5, (.v (.int .i64 ((↑i : Int)))))] [] 0)) :=
  rndZ_sound (q := [((some 14), (Dec.b false))]) (by kernel_rfl) (hbLwRoB h0 hnLwRoB)
theorem ru_0 {L n : Nat} {a b c d i : Nat} {m k : Int} {π : List Nat} (h0 : (decide (k.tmod (4) < 0)) = true) (h1 : Con.holds ⟨fnOf, specK, L⟩ (runF ⟨fnOf, specK, L⟩ n) (.loop 0 [0, 1, 5] m47b0 [10] (.mk [(0, (.cpx (a) (b))), (1, (.v (.int .i64 (IntKind.wrap .i64 (k.tmod (4) + 4))))), (5, (.v (.int .i64 0)))] [] 0) (.exit 0) (.mk [(0, (.cpx (c) (d))), (1, (.v (.int .i64 (m)))), (5, (.v (.int .i64 ((↑i : Int)))))] [] 0))) : den ⟨fnOf, specK, L⟩ (n+1) 47 [.cpx a b, .int .i64 k] = some (.cpx (c) (d)) :=
  denD_sound (q := [((some 9), (Dec.b true)), ((some 200000), (Dec.loop (.exit 0) (.mk [(0, (.cpx (c) (d))), (1, (.v (.int .i64 (m)))), (5, (.v (.int .i64 ((↑i : Int)))))] [] 0)))]) (by kernel_rfl) (hbLwRoB h0 (hcLwRoB h1 hnLwRoB))
theorem ru_1 {L n : Nat} {a b c d i : Nat} {m k : Int} {π : List Nat} (h0 : (decide (k.tmod (4) < 0)) = false) (h1 : Con.holds ⟨fnOf, specK, L⟩ (runF ⟨fnOf, specK, L⟩ n) (.loop 0 [0, 1, 5] m47b0 [7] (.mk [(0, (.cpx (a) (b))), (1, (.v (.int .i64 (k.tmod (4))))), (5, (.v (.int .i64 0)))] [] 0) (.exit 0) (.mk [(0, (.cpx (c) (d))), (1, (.v (.int .i64 (m)))), (5, (.v (.int .i64 ((↑i : Int)))))] [] 0))) : den ⟨fnOf, specK, L⟩ (n+1) 47 [.cpx a b, .int .i64 k] = some (.cpx (c) (d)) :=
  denD_sound (q := [((some 9), (Dec.b false)), ((some 200000), (Dec.loop (.exit 0) (.mk [(0, (.cpx (c) (d))), (1, (.v (.int .i64 (m)))), (5, (.v (.int .i64 ((↑i : Int)))))] [] 0)))]) (by kernel_rfl) (hbLwRoB h0 (hcLwRoB h1 hnLwRoB))
end Go.Proofs.Ytnphdnokedhhkaa.Fw
namespace Go.Proofs.Ytnphdnokedhhkaa.Fw
open Go Go.RowKit
def quarters (k : Int) : Nat := (k % 4).toNat
theorem quarters_le (k : Int) : quarters k ≤ 3 := by unfold quarters; omega
theorem and3 (k : Int) : IntKind.wrap .i64 ((BitVec.ofInt 64 k &&& BitVec.ofInt 64 3).toNat : Int) = (quarters k : Int) := by
  have e2 : BitVec.ofInt 64 3 = BitVec.ofNat 64 (2 ^ 2 - 1) := by decide
  rw [e2, BitVec.toNat_and, BitVec.toNat_ofNat, BitVec.toNat_ofInt, show (2 ^ 2 - 1) % 2 ^ 64 = 2 ^ 2 - 1 by decide, Nat.and_two_pow_sub_one_eq_mod]
  have e : ((2 ^ 64 : Nat) : Int) = 18446744073709551616 := by decide
  rw [e, wrap_id (by omega)]
  unfold quarters
  omega
section
variable {L n a b : Nat} {k : Int}
theorem rot_prog (hL : 3 ≤ L) : den ⟨fnOf, specK, L+1⟩ (n+1) 46 [.cpx a b, .int .i64 k] = some (.cpx (rotK (quarters k) (a, b)).1 (rotK (quarters k) (a, b)).2) := by
  have hq := quarters_le k
  refine @ro_0 (L+1) n a b _ _ (quarters k) 0 k [] ?_
  have e := and3 k
  have e2 : iand .i64 k 3 = (quarters k : Int) := e
  rw [e, e2]
  refine loopX (res := m46.res) (fun i => roSt (rotK i (a, b)).1 (rotK i (a, b)).2 (quarters k : Int) i) (quarters k) rfl (by omega) (fun i hi => ?_) ?_ (by simp)
  · have := @ror_0 (L+1) n (rotK i (a, b)).1 (rotK i (a, b)).2 0 0 i (quarters k : Int) 0 [4] (dLt hi)
    rw [wrap_id (n := (i : Int) + 1) (by omega)] at this
    exact this
  · exact @ror_1 (L+1) n _ _ 0 0 (quarters k) (quarters k : Int) 0 [4] dNlt
theorem rot_doc (hL : 3 ≤ L) : den ⟨fnOf, specK, L+1⟩ (n+1) 47 [.cpx a b, .int .i64 k] = some (.cpx (rotK (quarters k) (a, b)).1 (rotK (quarters k) (a, b)).2) := by
  have hq := quarters_le k
  have hlp : ∀ π, Con.holds ⟨fnOf, specK, L+1⟩ (runF ⟨fnOf, specK, L+1⟩ n) (.loop 0 [0, 1, 5] m47b0 π (ruSt a b (quarters k : Int) 0) (.exit 0) (ruSt (rotK (quarters k) (a, b)).1 (rotK (quarters k) (a, b)).2 (quarters k : Int) (quarters k))) := fun π => by
    refine loopX (res := m47.res) (fun i => ruSt (rotK i (a, b)).1 (rotK i (a, b)).2 (quarters k : Int) i) (quarters k) rfl (by omega) (fun i hi => ?_) ?_ (by simp)
    · have := @rur_0 (L+1) n (rotK i (a, b)).1 (rotK i (a, b)).2 0 0 i (quarters k : Int) 0 π (dLt hi)
      rw [wrap_id (n := (i : Int) + 1) (by omega)] at this
      exact this
    · exact @rur_1 (L+1) n _ _ 0 0 (quarters k) (quarters k : Int) 0 π dNlt
  have ht : k.tmod 4 = k % 4 ∨ (k.tmod 4 < 0 ∧ k.tmod 4 + 4 = k % 4) := by
    have h1 := Int.tmod_eq_emod (a := k) (b := 4)
    split at h1 <;> omega
  by_cases h : k.tmod 4 < 0
  · have e : IntKind.wrap .i64 (k.tmod 4 + 4) = (quarters k : Int) := by rw [wrap_id (by omega)]; unfold quarters; omega
    refine @ru_0 (L+1) n a b _ _ (quarters k) (quarters k : Int) k [] (dT h) ?_
    rw [e]; exact hlp [10]
  · have e : k.tmod 4 = (quarters k : Int) := by unfold quarters; omega
    refine @ru_1 (L+1) n a b _ _ (quarters k) (quarters k : Int) k [] (dF h) ?_
    rw [e]; exact hlp [7]
end
def rotSem : List AV → Option AV
  | [.cpx a b, .v (.int .i64 k)] => some (.cpx (rotK (quarters k) (a, b)).1 (rotK (quarters k) (a, b)).2)
  | _ => none
def newR : FuncId → Option (List AV → Option AV)
  | 46 => some rotSem
  | 47 => some rotSem
  | _ => none
def specR : FuncId → Option (List AV → Option AV) := fun f => match newR f with | some g => some g | none => specK f
theorem spec_r : SpecOk Try.prog ⟨fnOf, specR, 0⟩ :=
  spec_adds spec_k (fun L => fnsOk _ _) follows newR fun f g h => by
    unfold newR at h
    split at h
    · cases h
      refine ⟨⟨_, Try.func46, ne_of_beq_false (by kernel_rfl), by kernel_rfl⟩, fun avs r h => ?_⟩
      unfold rotSem at h
      split at h
      · cases h; exact told (P := ⟨fnOf, specK, 0⟩) ⟨4, 1, rot_prog (by decide)⟩
      · cases h
    · cases h
      refine ⟨⟨_, Try.func47, ne_of_beq_false (by kernel_rfl), by kernel_rfl⟩, fun avs r h => ?_⟩
      unfold rotSem at h
      split at h
      · cases h; exact told (P := ⟨fnOf, specK, 0⟩) ⟨4, 1, rot_doc (by decide)⟩
      · cases h
    · cases h
end Go.Proofs.Ytnphdnokedhhkaa.Fw
namespace Go.Proofs.Ytnphdnokedhhkaa.Fw
open Go Go.RowKit

end Go.Proofs.Ytnphdnokedhhkaa.Fw
namespace Go.Proofs.Ytnphdnokedhhkaa.Fw
open Go Go.RowKit
end Go.Proofs.Ytnphdnokedhhkaa.Fw
namespace Go.Proofs.Ytnphdnokedhhkaa.Fw
open Go Go.RowKit
theorem hnLwTuB {P : Prog} {C : Caller} : Holds P C [] := trivial
theorem hcLwTuB {P : Prog} {C : Caller} {c : Con} {cs : List Con} (h : c.holds P C) (t : Holds P C cs) : Holds P C (c :: cs) := ⟨h, t⟩
theorem hbLwTuB {P : Prog} {C : Caller} {x y : Bool} {cs : List Con} (h : x = y) (t : Holds P C cs) : Holds P C (.b x y :: cs) := ⟨h, t⟩
def halfP (z : Nat × Nat) : Nat × Nat := (fdiv z.1 4611686018427387904, fdiv z.2 4611686018427387904)
def tuSem : List AV → Option AV
  | [.cpx a b, .imm [.v (.int .i64 k)]] => some (.cpx (rotK (quarters k) (a, b)).1 (rotK (quarters k) (a, b)).2)
  | _ => none
def haSem : List AV → Option AV
  | [.cpx a b] => some (.cpx (halfP (a, b)).1 (halfP (a, b)).2)
  | _ => none
theorem den_tu {L n a b : Nat} {k : Int} : den ⟨fnOf, specR, L⟩ (n+1) 49 [.cpx a b, .imm [.v (.int .i64 k)]] = some (.cpx (rotK (quarters k) (a, b)).1 (rotK (quarters k) (a, b)).2) :=
  denD_sound (q := []) (by kernel_rfl) hnLwTuB
theorem den_ha {L n a b : Nat} : den ⟨fnOf, specR, L⟩ (n+1) 50 [.cpx a b] = some (.cpx (halfP (a, b)).1 (halfP (a, b)).2) :=
  denD_sound (q := []) (by kernel_rfl) hnLwTuB
def newQ : FuncId → Option (List AV → Option AV)
  | 49 => some tuSem
  | 50 => some haSem
  | _ => none
def specQ : FuncId → Option (List AV → Option AV) := fun f => match newQ f with | some g => some g | none => specR f
theorem spec_q : SpecOk Try.prog ⟨fnOf, specQ, 0⟩ :=
  spec_adds spec_r (fun L => fnsOk _ _) follows newQ fun f g h => by
    unfold newQ at h
    split at h
    · cases h
      refine ⟨⟨_, Try.func49, ne_of_beq_false (by kernel_rfl), by kernel_rfl⟩, fun avs r h => ?_⟩
      unfold tuSem at h
      split at h
      · cases h; exact told (P := ⟨fnOf, specR, 0⟩) ⟨0, 1, den_tu⟩
      · cases h
    · cases h
      refine ⟨⟨_, Try.func50, ne_of_beq_false (by kernel_rfl), by kernel_rfl⟩, fun avs r h => ?_⟩
      unfold haSem at h
      split at h
      · cases h; exact told (P := ⟨fnOf, specR, 0⟩) ⟨0, 1, den_ha⟩
      · cases h
    · cases h
end Go.Proofs.Ytnphdnokedhhkaa.Fw
namespace Go.Proofs.Ytnphdnokedhhkaa.Fw
open Go Go.RowKit Go.Lib Go.Proofs.Ytnphdnokedhhkaa
/-- of an empty list, whether nil or not -/
theorem specPost_void {w w' : World} {e : Ending} {a : Option Addr} (he : e = .returned (.slice a 0 0)) (hb : Below w.heap.size w w') : SpecPost w (.own 1 [] true) e w' := by
  refine ⟨.slc ⟨0, 0, 0⟩ [0] 1 0 0 false, [(⟨0, 0, 0⟩, ⟨[0], [], 1, true⟩)], ⟨_, ⟨fun _ => none, (ρ0 fun _ => False).av, fun s st => s = ⟨0, 0, 0⟩ ∧ st = [0]⟩, fun q => q = [0], he, ?_, ?_, ?_, hb, fun q hq => .inr trivial, rfl, fun s hs _ => absurd hs (Nat.not_lt_zero _)⟩, by rfl, pkT_of (by rfl)⟩
  · refine Keep.mk (fun b hlt hn => ⟨hb.block b hlt, fun h => ?_⟩) (fun s b z st h _ => by cases h) (fun st h => False.elim h) (fun s b z st h _ => by cases h) (fun s st h => False.elim h)
    rcases h with h | ⟨s, z, st, h⟩
    · exact hn (.inl h)
    · cases h
  · exact ⟨rfl, .inl ⟨⟨rfl, rfl⟩, ⟨a, rfl⟩, rfl⟩⟩
  · refine HRel.mk (fun s blk hg => ?_) (fun s st h => h.2) (fun s b z st h => by cases h) (fun s s' b z z' st st' h _ => by cases h)
    have hg : (if (⟨0, 0, 0⟩ : Site) = s then some (⟨[0], [], 1, true⟩ : Blk) else none) = some blk := hg
    split at hg
    · rename_i h; subst h; cases hg; exact .inl ⟨⟨rfl, rfl⟩, rfl, rfl⟩
    · cases hg
set_option maxHeartbeats 2000000 in
set_option maxRecDepth 100000 in
theorem clone_zero (a : Addr) (c : Nat) (w : World) :
    Calls Try.prog 63 #[.slice (some a) 0 c] w fun e w' => e = .returned (.slice (some ⟨w.heap.size, 0, none⟩) 0 0) ∧ Below w.heap.size w w' := by
  have t26 : Try.prog.underlying 26 = some (.slice 37) := by kernel_rfl
  have mixed : Try.prog.follows .mixedOrders = true := by kernel_rfl
  have q26 : ∀ (w : World) (a : Option Addr) (n c n' c' : Nat), (binOp .eql 26 (.slice a n c) (.slice none n' c')).run Try.prog w = .ok (.bool a.isNone) w := fun w a n c n' c' => Lib.run_eql_slice_nil w _ _ a n c n' c' t26
  have u26 : ∀ w, Sem.run Try.prog (underlying 26) w = .ok (TypeDesc.slice 37) w := run_underlying t26
  obtain ⟨i0, hi, hz0, hz1, hz2⟩ : ∃ i0, Try.prog.info? 37 = some i0 ∧ i0.zero = some (.complex .f64 0 0) ∧ i0.size = 1 ∧ i0.bytes = 16 := ⟨_, rfl, by kernel_rfl, by kernel_rfl, by kernel_rfl⟩
  go_enter Try.func63, Try.ntmps63
  go_wp2
  go_ret
  exact ⟨rfl, (Below.refl _ w).alloc (Nat.le_refl _) _⟩
set_option maxHeartbeats 2000000 in
set_option maxRecDepth 100000 in
theorem clone_none (n c : Nat) (w : World) :
    Calls Try.prog 63 #[.slice none n c] w fun e w' => e = .returned (.slice none 0 0) ∧ w' = w := by
  have t26 : Try.prog.underlying 26 = some (.slice 37) := by kernel_rfl
  have mixed : Try.prog.follows .mixedOrders = true := by kernel_rfl
  have q26 : ∀ (w : World) (a : Option Addr) (n c n' c' : Nat), (binOp .eql 26 (.slice a n c) (.slice none n' c')).run Try.prog w = .ok (.bool a.isNone) w := fun w a n c n' c' => Lib.run_eql_slice_nil w _ _ a n c n' c' t26
  go_enter Try.func63, Try.ntmps63
  go_wp2
  go_ret
  exact ⟨rfl, rfl⟩
theorem clone_den {L n : Nat} {us : List (Nat × Nat)} (h : us ≠ []) (hm : us.length * 16 ≤ most) : den ⟨fnOf, specQ, L⟩ (n+1) 63 [.lst 1 (us.map celC)] = some (.own 1 (us.map celC) true) := by
  have h0 : Con.holds ⟨fnOf, specQ, L⟩ (runF ⟨fnOf, specQ, L⟩ n) (.any 0 [2] (MO.mk (some 4) (MOp.bin BinOp.eql EqK.slice (Opd.t 3) (Opd.k .nils)) none []) [(3, (.lst 1 (List.map celC us)))] [] (.v (.bool false)) []) := by
    cases us with
    | nil => exact absurd rfl h
    | cons x r => rfl
  have hd : denD ⟨fnOf, specQ, L⟩ n 63 [.lst 1 (us.map celC)] [((some 4), (Dec.any (.v (.bool false)) [])), ((some 7), Dec.cat)] = some ((.own 1 (List.take (List.length (List.map celC us)) (List.map celC us)) true), [(.any 0 [2] (MO.mk (some 4) (MOp.bin BinOp.eql EqK.slice (Opd.t 3) (Opd.k .nils)) none []) [(3, (.lst 1 (List.map celC us)))] [] (.v (.bool false)) []), (.st [3] [3]), (.cat 1 16 true (List.map celC us)), (.st [5] [5]), (.le (List.length (List.map celC us)) (List.length (List.map celC us)))]) := by kernel_rfl
  have := denD_sound hd ⟨h0, rfl, catC_ok hm, rfl, Nat.le_refl _, trivial⟩
  rw [this, tkMap map_len]
def cloneNE : List AV → Option AV
  | [.lst 1 els] => (unL unC els).bind fun us => if us ≠ [] ∧ us.length * 16 ≤ most then some (.own 1 (us.map celC) true) else none
  | _ => none
theorem cloneNE_is {avs : List AV} {r : AV} (h : cloneNE avs = some r) : ∃ us, avs = [.lst 1 (us.map celC)] ∧ us ≠ [] ∧ us.length * 16 ≤ most ∧ r = .own 1 (us.map celC) true := by
  unfold cloneNE at h
  split at h
  · rename_i els
    rw [Option.bind_eq_some_iff] at h
    obtain ⟨us, h1, h2⟩ := h
    split at h2
    · rename_i hm
      cases h2
      have := unL_inv (enc := celC) unC_is h1
      subst this
      exact ⟨us, rfl, hm.1, hm.2, rfl⟩
    · cases h2
  · cases h
def cloneSem : List AV → Option AV
  | [.lst 1 []] => some (.own 1 [] true)
  | avs => cloneNE avs
def newN : FuncId → Option (List AV → Option AV)
  | 63 => some cloneNE
  | _ => none
theorem spec_n : SpecOk Try.prog ⟨fnOf, fun f => match newN f with | some g => some g | none => specQ f, 0⟩ :=
  spec_adds spec_q (fun L => fnsOk _ _) follows newN fun f g h => by
    unfold newN at h
    split at h
    · cases h
      refine ⟨⟨_, Try.func63, ne_of_beq_false (by kernel_rfl), by kernel_rfl⟩, fun avs r h => ?_⟩
      obtain ⟨us, rfl, h1, h2, rfl⟩ := cloneNE_is h
      exact told (P := ⟨fnOf, specQ, 0⟩) ⟨0, 1, clone_den h1 h2⟩
    · cases h
def newZ : FuncId → Option (List AV → Option AV)
  | 63 => some cloneSem
  | _ => none
/-- Clone, too: of an empty list, nil or not, as well -/
def specZ : FuncId → Option (List AV → Option AV) := fun f => match newZ f with | some g => some g | none => specQ f
theorem spec_z : SpecOk Try.prog ⟨fnOf, specZ, 0⟩ := by
  intro f g h
  have h : (match newZ f with | some g => some g | none => specQ f) = some g := h
  unfold newZ at h
  split at h
  · rename_i g' hq
    split at hq
    · cases hq
      cases h
      obtain ⟨hf, hc⟩ := spec_n 63 cloneNE rfl
      refine ⟨hf, fun avs r hr w cargs hrel => ?_⟩
      unfold cloneSem at hr
      split at hr
      · cases hr
        obtain ⟨us⟩ := cargs
        obtain ⟨u, rfl, hu⟩ := relL_one hrel
        rcases hu with ⟨_, rfl⟩ | ⟨p, cap, rfl, _⟩
        · exact (clone_none 0 0 w).mono fun e w' ⟨h1, h2⟩ => specPost_void h1 (by rw [h2]; exact Below.refl _ _)
        · exact (clone_zero p cap w).mono fun e w' ⟨h1, h2⟩ => specPost_void h1 h2
      · exact hc avs r hr w cargs hrel
    · cases hq
  · exact spec_q f g h
end Go.Proofs.Ytnphdnokedhhkaa.Fw
namespace Go.Proofs.Ytnphdnokedhhkaa.Fw
open Go Go.RowKit

end Go.Proofs.Ytnphdnokedhhkaa.Fw
namespace Go.Proofs.Ytnphdnokedhhkaa.Fw
open Go Go.RowKit
section
variable {L n : Nat} {rate delay k : Int} {ts es : List (Nat × Nat)}
end
end Go.Proofs.Ytnphdnokedhhkaa.Fw
namespace Go.Proofs.Ytnphdnokedhhkaa.Fw
open Go Go.RowKit
theorem works_den : den ⟨fnOf, specV, 300⟩ 12 35 [] = some (.v (.bool true)) := by kernel_rfl
def wkSem : List AV → Option AV
  | [] => some (.v (.bool true))
  | _ => none
def newWk : FuncId → Option (List AV → Option AV)
  | 35 => some wkSem
  | _ => none
/-- works, beside what is spoken for with nil lists -/
def specVW : FuncId → Option (List AV → Option AV) := fun f => match newWk f with | some g => some g | none => specV f
theorem spec_vw : SpecOk Try.prog ⟨fnOf, specVW, 0⟩ :=
  spec_adds spec_v (fun L => fnsOk _ _) follows newWk fun f g h => by
    unfold newWk at h
    split at h
    · cases h
      refine ⟨⟨_, Try.func35, ne_of_beq_false (by kernel_rfl), by kernel_rfl⟩, fun avs r h => ?_⟩
      unfold wkSem at h
      split at h
      · cases h; exact told (P := ⟨fnOf, specV, 0⟩) ⟨300, 12, works_den⟩
      · cases h
    · cases h
end Go.Proofs.Ytnphdnokedhhkaa.Fw
