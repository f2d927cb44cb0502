/-
  No cell of these rows narrows 'for every input' (looked for: loops, veiled, ifaces, maps, wideKeys, modest, calm, conditions, laid).
  DERIVED. THE GIVEN ROWS OF THIS SEAT. 4 by the template 'for every input the law returns true; each argument reads behind the call as it read before'; 0 by the template 'total and deterministic' (their statements: YtdflnngkdibdeaaTotals.lean).
  GIVEN WITH THE SEED: the statements are not yours to turn. If you find one false, say at which input.
  Laid BY PROGRAM, IN A SANDBOX (cutbox-rows.mjs): the forced cells as the released guide's own fill.sh prints them over the translation aa485c20a91ed895… (all of the seat's roots in one cut). By AI agents, Wed Nov 11 2026. No macro, syntax, notation, axiom, sorry.
-/
import Derived.Test.YtdflnngkdibdeaaChecked
import GoSem.Claim
import GoSem.ClaimJoined
import GoSem.ClaimMapViews
import Derived.JoinedTies
import Derived.KernelRfl
namespace Go.Proofs.Ytdflnngkdibdeaa
/- THE CELL 'sum', in the pinned program and in every row, IS THE sha256 OF THE DUMP (.gsa) THAT YtdflnngkdibdeaaProg.lean LOADS. Nothing in Lean hashes anything: it is a label: what it is worth is what the hold of that sum in a sandbox is worth. -/
noncomputable def Try.pinned : Pinned := { name := "ytdflnngkdibdeaa", sum := "aa485c20a91ed8956d11e72c2cfcb92d21e16fbc2d7a1bb05136f635d40c0de4", checked := Try.checked }
namespace Rows
def none {H : Type} : Left H := { results := [], args := [] }

/-- 'foghornlaw02.GridNames': WHATEVER THE INPUT: true; the input reads as it did. -/
def gridNamesSpec : ChangeSpec := { name := "gridNames", fn := fun _ => fun
  | [] => { results := [.lit (.bool true)], args := [] }
  | _ => none }
def gridNamesRow : OpenClaim := { program := "ytdflnngkdibdeaa", sum := "aa485c20a91ed8956d11e72c2cfcb92d21e16fbc2d7a1bb05136f635d40c0de4", func := "foghorn/foghornlaw02.GridNames", spec := "gridNames", inPlace := ["math.RoundToEven", "math.Float64frombits", "math.Float64bits"], apart := false }
def GridNamesSaid : Prop := gridNamesRow.holds Try.pinned (OpenSpec.ofChange gridNamesSpec)

/-- ITS FALSE NEIGHBOUR: 'it returns false'. Refute it at one input. -/
def gridNamesWrong : ChangeSpec := { name := "gridNames", fn := fun _ => fun
  | [] => { results := [.lit (.bool false)], args := [] }
  | _ => none }
def GridNamesWrongFalsely : Prop := gridNamesRow.holds Try.pinned (OpenSpec.ofChange gridNamesWrong)

/-- 'foghornlaw02.GridChecks': WHATEVER THE INPUT: true; the input reads as it did. -/
def gridChecksSpec : ChangeSpec := { name := "gridChecks", fn := fun _ => fun
  | [d1, d2] => { results := [.lit (.bool true)], args := [d1, d2] }
  | _ => none }
def gridChecksRow : OpenClaim := { program := "ytdflnngkdibdeaa", sum := "aa485c20a91ed8956d11e72c2cfcb92d21e16fbc2d7a1bb05136f635d40c0de4", func := "foghorn/foghornlaw02.GridChecks", spec := "gridChecks", inPlace := ["math.Float64frombits", "math.archFloor", "math.Float64bits", "math.archTrunc"], apart := false }
def GridChecksSaid : Prop := gridChecksRow.holds Try.pinned (OpenSpec.ofChange gridChecksSpec)

/-- ITS FALSE NEIGHBOUR: 'it returns false'. Refute it at one input. -/
def gridChecksWrong : ChangeSpec := { name := "gridChecks", fn := fun _ => fun
  | [d1, d2] => { results := [.lit (.bool false)], args := [d1, d2] }
  | _ => none }
def GridChecksWrongFalsely : Prop := gridChecksRow.holds Try.pinned (OpenSpec.ofChange gridChecksWrong)

/-- 'foghornlaw02.GridNears': WHATEVER THE INPUT: true; the input reads as it did. -/
def gridNearsSpec : ChangeSpec := { name := "gridNears", fn := fun _ => fun
  | [d1, d2] => { results := [.lit (.bool true)], args := [d1, d2] }
  | _ => none }
def gridNearsRow : OpenClaim := { program := "ytdflnngkdibdeaa", sum := "aa485c20a91ed8956d11e72c2cfcb92d21e16fbc2d7a1bb05136f635d40c0de4", func := "foghorn/foghornlaw02.GridNears", spec := "gridNears", inPlace := ["math.Float64frombits", "math.RoundToEven", "math.archFloor", "math.Float64bits", "math.archTrunc"], apart := false }
def GridNearsSaid : Prop := gridNearsRow.holds Try.pinned (OpenSpec.ofChange gridNearsSpec)

/-- ITS FALSE NEIGHBOUR: 'it returns false'. Refute it at one input. -/
def gridNearsWrong : ChangeSpec := { name := "gridNears", fn := fun _ => fun
  | [d1, d2] => { results := [.lit (.bool false)], args := [d1, d2] }
  | _ => none }
def GridNearsWrongFalsely : Prop := gridNearsRow.holds Try.pinned (OpenSpec.ofChange gridNearsWrong)

/-- 'foghornlaw02.GridDoors': WHATEVER THE INPUT: true; the input reads as it did. -/
def gridDoorsSpec : ChangeSpec := { name := "gridDoors", fn := fun _ => fun
  | [d] => { results := [.lit (.bool true)], args := [d] }
  | _ => none }
def gridDoorsRow : OpenClaim := { program := "ytdflnngkdibdeaa", sum := "aa485c20a91ed8956d11e72c2cfcb92d21e16fbc2d7a1bb05136f635d40c0de4", func := "foghorn/foghornlaw02.GridDoors", spec := "gridDoors", inPlace := ["math.Float64frombits", "math.RoundToEven", "math.Float64bits", "math.archFloor", "math.archTrunc"], apart := false }
def GridDoorsSaid : Prop := gridDoorsRow.holds Try.pinned (OpenSpec.ofChange gridDoorsSpec)

/-- ITS FALSE NEIGHBOUR: 'it returns false'. Refute it at one input. -/
def gridDoorsWrong : ChangeSpec := { name := "gridDoors", fn := fun _ => fun
  | [d] => { results := [.lit (.bool false)], args := [d] }
  | _ => none }
def GridDoorsWrongFalsely : Prop := gridDoorsRow.holds Try.pinned (OpenSpec.ofChange gridDoorsWrong)

/- THE SECOND FORM. 'bulk': how many values and letters a reading holds, each counted each time it is reached (what is shared counts as often as it is met; a slice's spare places count too). A statement '..UptoSaid' is the law's where the arguments, and the package variables that the reading takes, are together of bulk at most 1048576: NARROWER than '..Said'. Prove '..Said' where nothing that the law and all that it calls make is longer than what came in: it says more and counts as full. Else prove '..UptoSaid'. A law counts once. -/
mutual
def uptoBulk {H : Type} : DataW H → Nat
  | .lit (.string bytes) => bytes.length + 1
  | .lit _ => 1
  | .nil => 1
  | .ptr d => uptoBulk d + 1
  | .slice elems spare => uptoBulkAll elems + uptoBulkAll spare + 1
  | .agg parts => uptoBulkAll parts + 1
  | .iface _ d => uptoBulk d + 1
  | .map entries => uptoBulkEntries entries + 1
  | .held _ => 1
def uptoBulkAll {H : Type} : List (DataW H) → Nat
  | [] => 0
  | d :: r => uptoBulk d + uptoBulkAll r
def uptoBulkEntries {H : Type} : List (Lit × DataW H) → Nat
  | [] => 0
  | x :: r => uptoBulkEntry x + uptoBulkEntries r
def uptoBulkEntry {H : Type} : Lit × DataW H → Nat
  | (.string bytes, d) => bytes.length + uptoBulk d + 1
  | (_, d) => uptoBulk d + 1
 end
def uptoSmall : (H : Type) → List (DataW H) → Bool := fun _ ds => decide (uptoBulkAll ds ≤ 1048576)
def OpenSpec.upto (s : _root_.Go.ChangeSpec) : _root_.Go.OpenSpec := { _root_.Go.OpenSpec.ofChange s with cond := some uptoSmall }

/-- 'foghornlaw02.GridNames', WHERE WHAT IT READS IS OF BULK AT MOST 1048576: true; the input reads as it did. -/
def gridNamesUptoRow : OpenClaim := { program := "ytdflnngkdibdeaa", sum := "aa485c20a91ed8956d11e72c2cfcb92d21e16fbc2d7a1bb05136f635d40c0de4", func := "foghorn/foghornlaw02.GridNames", spec := "gridNames", inPlace := ["math.RoundToEven", "math.Float64frombits", "math.Float64bits"], apart := false, narrowed := true }
def GridNamesUptoSaid : Prop := gridNamesUptoRow.holds Try.pinned (OpenSpec.upto gridNamesSpec)

/-- 'foghornlaw02.GridChecks', WHERE WHAT IT READS IS OF BULK AT MOST 1048576: true; the input reads as it did. -/
def gridChecksUptoRow : OpenClaim := { program := "ytdflnngkdibdeaa", sum := "aa485c20a91ed8956d11e72c2cfcb92d21e16fbc2d7a1bb05136f635d40c0de4", func := "foghorn/foghornlaw02.GridChecks", spec := "gridChecks", inPlace := ["math.Float64frombits", "math.archFloor", "math.Float64bits", "math.archTrunc"], apart := false, narrowed := true }
def GridChecksUptoSaid : Prop := gridChecksUptoRow.holds Try.pinned (OpenSpec.upto gridChecksSpec)

/-- 'foghornlaw02.GridNears', WHERE WHAT IT READS IS OF BULK AT MOST 1048576: true; the input reads as it did. -/
def gridNearsUptoRow : OpenClaim := { program := "ytdflnngkdibdeaa", sum := "aa485c20a91ed8956d11e72c2cfcb92d21e16fbc2d7a1bb05136f635d40c0de4", func := "foghorn/foghornlaw02.GridNears", spec := "gridNears", inPlace := ["math.Float64frombits", "math.RoundToEven", "math.archFloor", "math.Float64bits", "math.archTrunc"], apart := false, narrowed := true }
def GridNearsUptoSaid : Prop := gridNearsUptoRow.holds Try.pinned (OpenSpec.upto gridNearsSpec)

/-- 'foghornlaw02.GridDoors', WHERE WHAT IT READS IS OF BULK AT MOST 1048576: true; the input reads as it did. -/
def gridDoorsUptoRow : OpenClaim := { program := "ytdflnngkdibdeaa", sum := "aa485c20a91ed8956d11e72c2cfcb92d21e16fbc2d7a1bb05136f635d40c0de4", func := "foghorn/foghornlaw02.GridDoors", spec := "gridDoors", inPlace := ["math.Float64frombits", "math.RoundToEven", "math.Float64bits", "math.archFloor", "math.archTrunc"], apart := false, narrowed := true }
def GridDoorsUptoSaid : Prop := gridDoorsUptoRow.holds Try.pinned (OpenSpec.upto gridDoorsSpec)

end Rows
end Go.Proofs.Ytdflnngkdibdeaa
