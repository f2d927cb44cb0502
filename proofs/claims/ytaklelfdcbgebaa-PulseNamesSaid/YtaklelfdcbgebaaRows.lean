/-
  No cell of these rows narrows 'for every input' (looked for: loops, veiled, ifaces, maps, wideKeys, modest, calm, conditions, laid).
  DERIVED. THE GIVEN ROWS OF THIS SEAT. 9 by the template 'for every input the law returns true; each argument reads behind the call as it read before'; 0 by the template 'total and deterministic' (their statements: YtaklelfdcbgebaaTotals.lean).
  GIVEN WITH THE SEED: the statements are not yours to turn. If you find one false, say at which input.
  Laid BY PROGRAM, IN A SANDBOX (cutbox-rows.mjs): the forced cells as the released guide's own fill.sh prints them over the translation 56d281818ee23280… (all of the seat's roots in one cut). By AI agents, Wed Nov 11 2026. No macro, syntax, notation, axiom, sorry.
-/
import Derived.Test.YtaklelfdcbgebaaChecked
import GoSem.Claim
import GoSem.ClaimJoined
import GoSem.ClaimMapViews
import Derived.JoinedTies
import Derived.KernelRfl
namespace Go.Proofs.Ytaklelfdcbgebaa
/- THE CELL 'sum', in the pinned program and in every row, IS THE sha256 OF THE DUMP (.gsa) THAT YtaklelfdcbgebaaProg.lean LOADS. Nothing in Lean hashes anything: it is a label: what it is worth is what the hold of that sum in a sandbox is worth. -/
noncomputable def Try.pinned : Pinned := { name := "ytaklelfdcbgebaa", sum := "56d281818ee2328030cfc160fb0ee8d8a4488d85dc603762640e1c361871d6c6", checked := Try.checked }
namespace Rows
def none {H : Type} : Left H := { results := [], args := [] }

/-- 'foghornlaw07.PulseTouches': WHATEVER THE INPUT: true; the input reads as it did. -/
def pulseTouchesSpec : ChangeSpec := { name := "pulseTouches", fn := fun _ => fun
  | [d1, d2, d3] => { results := [.lit (.bool true)], args := [d1, d2, d3] }
  | _ => none }
def pulseTouchesRow : OpenClaim := { program := "ytaklelfdcbgebaa", sum := "56d281818ee2328030cfc160fb0ee8d8a4488d85dc603762640e1c361871d6c6", func := "foghorn/foghornlaw07.PulseTouches", spec := "pulseTouches", inPlace := ["math.Float64bits", "math.Float64frombits", "math.archTrunc"], apart := false }
def PulseTouchesSaid : Prop := pulseTouchesRow.holds Try.pinned (OpenSpec.ofChange pulseTouchesSpec)

/-- ITS FALSE NEIGHBOUR: 'it returns false'. Refute it at one input. -/
def pulseTouchesWrong : ChangeSpec := { name := "pulseTouches", fn := fun _ => fun
  | [d1, d2, d3] => { results := [.lit (.bool false)], args := [d1, d2, d3] }
  | _ => none }
def PulseTouchesWrongFalsely : Prop := pulseTouchesRow.holds Try.pinned (OpenSpec.ofChange pulseTouchesWrong)

/-- 'foghornlaw07.PulseShapes': WHATEVER THE INPUT: true; the input reads as it did. -/
def pulseShapesSpec : ChangeSpec := { name := "pulseShapes", fn := fun _ => fun
  | [d1, d2, d3, d4, d5] => { results := [.lit (.bool true)], args := [d1, d2, d3, d4, d5] }
  | _ => none }
def pulseShapesRow : OpenClaim := { program := "ytaklelfdcbgebaa", sum := "56d281818ee2328030cfc160fb0ee8d8a4488d85dc603762640e1c361871d6c6", func := "foghorn/foghornlaw07.PulseShapes", spec := "pulseShapes", inPlace := ["math.Float64bits", "math.Float64frombits", "math.archTrunc"], apart := false }
def PulseShapesSaid : Prop := pulseShapesRow.holds Try.pinned (OpenSpec.ofChange pulseShapesSpec)

/-- ITS FALSE NEIGHBOUR: 'it returns false'. Refute it at one input. -/
def pulseShapesWrong : ChangeSpec := { name := "pulseShapes", fn := fun _ => fun
  | [d1, d2, d3, d4, d5] => { results := [.lit (.bool false)], args := [d1, d2, d3, d4, d5] }
  | _ => none }
def PulseShapesWrongFalsely : Prop := pulseShapesRow.holds Try.pinned (OpenSpec.ofChange pulseShapesWrong)

/-- 'foghornlaw07.PulseNamed': WHATEVER THE INPUT: true; the input reads as it did. -/
def pulseNamedSpec : ChangeSpec := { name := "pulseNamed", fn := fun _ => fun
  | [d1, d2] => { results := [.lit (.bool true)], args := [d1, d2] }
  | _ => none }
def pulseNamedRow : OpenClaim := { program := "ytaklelfdcbgebaa", sum := "56d281818ee2328030cfc160fb0ee8d8a4488d85dc603762640e1c361871d6c6", func := "foghorn/foghornlaw07.PulseNamed", spec := "pulseNamed", unfollowed := true, recurses := true, apart := false }
def PulseNamedSaid : Prop := pulseNamedRow.holds Try.pinned (OpenSpec.ofChange pulseNamedSpec)

/-- ITS FALSE NEIGHBOUR: 'it returns false'. Refute it at one input. -/
def pulseNamedWrong : ChangeSpec := { name := "pulseNamed", fn := fun _ => fun
  | [d1, d2] => { results := [.lit (.bool false)], args := [d1, d2] }
  | _ => none }
def PulseNamedWrongFalsely : Prop := pulseNamedRow.holds Try.pinned (OpenSpec.ofChange pulseNamedWrong)

/-- 'foghornlaw07.PulseChecks': WHATEVER THE INPUT: true; the input reads as it did. -/
def pulseChecksSpec : ChangeSpec := { name := "pulseChecks", fn := fun _ => fun
  | [d1, d2] => { results := [.lit (.bool true)], args := [d1, d2] }
  | _ => none }
def pulseChecksRow : OpenClaim := { program := "ytaklelfdcbgebaa", sum := "56d281818ee2328030cfc160fb0ee8d8a4488d85dc603762640e1c361871d6c6", func := "foghorn/foghornlaw07.PulseChecks", spec := "pulseChecks", inPlace := ["math.Float64bits", "math.Float64frombits", "math.archTrunc"], apart := false }
def PulseChecksSaid : Prop := pulseChecksRow.holds Try.pinned (OpenSpec.ofChange pulseChecksSpec)

/-- ITS FALSE NEIGHBOUR: 'it returns false'. Refute it at one input. -/
def pulseChecksWrong : ChangeSpec := { name := "pulseChecks", fn := fun _ => fun
  | [d1, d2] => { results := [.lit (.bool false)], args := [d1, d2] }
  | _ => none }
def PulseChecksWrongFalsely : Prop := pulseChecksRow.holds Try.pinned (OpenSpec.ofChange pulseChecksWrong)

/-- 'foghornlaw07.PulseNames': WHATEVER THE INPUT: true; the input reads as it did. -/
def pulseNamesSpec : ChangeSpec := { name := "pulseNames", fn := fun _ => fun
  | [] => { results := [.lit (.bool true)], args := [] }
  | _ => none }
def pulseNamesRow : OpenClaim := { program := "ytaklelfdcbgebaa", sum := "56d281818ee2328030cfc160fb0ee8d8a4488d85dc603762640e1c361871d6c6", func := "foghorn/foghornlaw07.PulseNames", spec := "pulseNames", inPlace := ["math.Float64bits", "math.Float64frombits", "math.archTrunc"], unfollowed := true, recurses := true, apart := false }
def PulseNamesSaid : Prop := pulseNamesRow.holds Try.pinned (OpenSpec.ofChange pulseNamesSpec)

/-- ITS FALSE NEIGHBOUR: 'it returns false'. Refute it at one input. -/
def pulseNamesWrong : ChangeSpec := { name := "pulseNames", fn := fun _ => fun
  | [] => { results := [.lit (.bool false)], args := [] }
  | _ => none }
def PulseNamesWrongFalsely : Prop := pulseNamesRow.holds Try.pinned (OpenSpec.ofChange pulseNamesWrong)

/-- 'foghornlaw07.PulseBack': WHATEVER THE INPUT: true; the input reads as it did. -/
def pulseBackSpec : ChangeSpec := { name := "pulseBack", fn := fun _ => fun
  | [d1, d2] => { results := [.lit (.bool true)], args := [d1, d2] }
  | _ => none }
def pulseBackRow : OpenClaim := { program := "ytaklelfdcbgebaa", sum := "56d281818ee2328030cfc160fb0ee8d8a4488d85dc603762640e1c361871d6c6", func := "foghorn/foghornlaw07.PulseBack", spec := "pulseBack", inPlace := ["math.Float64bits", "math.Float64frombits", "math.archTrunc"], unfollowed := true, recurses := true, apart := false }
def PulseBackSaid : Prop := pulseBackRow.holds Try.pinned (OpenSpec.ofChange pulseBackSpec)

/-- ITS FALSE NEIGHBOUR: 'it returns false'. Refute it at one input. -/
def pulseBackWrong : ChangeSpec := { name := "pulseBack", fn := fun _ => fun
  | [d1, d2] => { results := [.lit (.bool false)], args := [d1, d2] }
  | _ => none }
def PulseBackWrongFalsely : Prop := pulseBackRow.holds Try.pinned (OpenSpec.ofChange pulseBackWrong)

/-- 'foghornlaw07.PulseLinear': WHATEVER THE INPUT: true; the input reads as it did. -/
def pulseLinearSpec : ChangeSpec := { name := "pulseLinear", fn := fun _ => fun
  | [d1, d2, d3, d4] => { results := [.lit (.bool true)], args := [d1, d2, d3, d4] }
  | _ => none }
def pulseLinearRow : OpenClaim := { program := "ytaklelfdcbgebaa", sum := "56d281818ee2328030cfc160fb0ee8d8a4488d85dc603762640e1c361871d6c6", func := "foghorn/foghornlaw07.PulseLinear", spec := "pulseLinear", inPlace := ["math.Float64bits", "math.Float64frombits", "math.archTrunc"], unfollowed := true, recurses := true, apart := false }
def PulseLinearSaid : Prop := pulseLinearRow.holds Try.pinned (OpenSpec.ofChange pulseLinearSpec)

/-- ITS FALSE NEIGHBOUR: 'it returns false'. Refute it at one input. -/
def pulseLinearWrong : ChangeSpec := { name := "pulseLinear", fn := fun _ => fun
  | [d1, d2, d3, d4] => { results := [.lit (.bool false)], args := [d1, d2, d3, d4] }
  | _ => none }
def PulseLinearWrongFalsely : Prop := pulseLinearRow.holds Try.pinned (OpenSpec.ofChange pulseLinearWrong)

/-- 'foghornlaw07.PulseNear': WHATEVER THE INPUT: true; the input reads as it did. -/
def pulseNearSpec : ChangeSpec := { name := "pulseNear", fn := fun _ => fun
  | [d1, d2, d3] => { results := [.lit (.bool true)], args := [d1, d2, d3] }
  | _ => none }
def pulseNearRow : OpenClaim := { program := "ytaklelfdcbgebaa", sum := "56d281818ee2328030cfc160fb0ee8d8a4488d85dc603762640e1c361871d6c6", func := "foghorn/foghornlaw07.PulseNear", spec := "pulseNear", inPlace := ["math.Float64bits", "math.Float64frombits", "math.archTrunc"], unfollowed := true, recurses := true, apart := false }
def PulseNearSaid : Prop := pulseNearRow.holds Try.pinned (OpenSpec.ofChange pulseNearSpec)

/-- ITS FALSE NEIGHBOUR: 'it returns false'. Refute it at one input. -/
def pulseNearWrong : ChangeSpec := { name := "pulseNear", fn := fun _ => fun
  | [d1, d2, d3] => { results := [.lit (.bool false)], args := [d1, d2, d3] }
  | _ => none }
def PulseNearWrongFalsely : Prop := pulseNearRow.holds Try.pinned (OpenSpec.ofChange pulseNearWrong)

/-- 'foghornlaw07.PulseTurns': WHATEVER THE INPUT: true; the input reads as it did. -/
def pulseTurnsSpec : ChangeSpec := { name := "pulseTurns", fn := fun _ => fun
  | [d1, d2, d3] => { results := [.lit (.bool true)], args := [d1, d2, d3] }
  | _ => none }
def pulseTurnsRow : OpenClaim := { program := "ytaklelfdcbgebaa", sum := "56d281818ee2328030cfc160fb0ee8d8a4488d85dc603762640e1c361871d6c6", func := "foghorn/foghornlaw07.PulseTurns", spec := "pulseTurns", inPlace := ["math.Float64bits", "math.Float64frombits", "math.archTrunc"], unfollowed := true, recurses := true, apart := false }
def PulseTurnsSaid : Prop := pulseTurnsRow.holds Try.pinned (OpenSpec.ofChange pulseTurnsSpec)

/-- ITS FALSE NEIGHBOUR: 'it returns false'. Refute it at one input. -/
def pulseTurnsWrong : ChangeSpec := { name := "pulseTurns", fn := fun _ => fun
  | [d1, d2, d3] => { results := [.lit (.bool false)], args := [d1, d2, d3] }
  | _ => none }
def PulseTurnsWrongFalsely : Prop := pulseTurnsRow.holds Try.pinned (OpenSpec.ofChange pulseTurnsWrong)

/- THE SECOND FORM. 'bulk': how many values and letters a reading holds, each counted each time it is reached (what is shared counts as often as it is met; a slice's spare places count too). A statement '..UptoSaid' is the law's where the arguments, and the package variables that the reading takes, are together of bulk at most 1048576: NARROWER than '..Said'. Prove '..Said' where nothing that the law and all that it calls make is longer than what came in: it says more and counts as full. Else prove '..UptoSaid'. A law counts once. -/
mutual
def uptoBulk {H : Type} : DataW H → Nat
  | .lit (.string bytes) => bytes.length + 1
  | .lit _ => 1
  | .nil => 1
  | .ptr d => uptoBulk d + 1
  | .slice elems spare => uptoBulkAll elems + uptoBulkAll spare + 1
  | .agg parts => uptoBulkAll parts + 1
  | .iface _ d => uptoBulk d + 1
  | .map entries => uptoBulkEntries entries + 1
  | .held _ => 1
def uptoBulkAll {H : Type} : List (DataW H) → Nat
  | [] => 0
  | d :: r => uptoBulk d + uptoBulkAll r
def uptoBulkEntries {H : Type} : List (Lit × DataW H) → Nat
  | [] => 0
  | x :: r => uptoBulkEntry x + uptoBulkEntries r
def uptoBulkEntry {H : Type} : Lit × DataW H → Nat
  | (.string bytes, d) => bytes.length + uptoBulk d + 1
  | (_, d) => uptoBulk d + 1
 end
def uptoSmall : (H : Type) → List (DataW H) → Bool := fun _ ds => decide (uptoBulkAll ds ≤ 1048576)
def OpenSpec.upto (s : _root_.Go.ChangeSpec) : _root_.Go.OpenSpec := { _root_.Go.OpenSpec.ofChange s with cond := some uptoSmall }

/-- 'foghornlaw07.PulseTouches', WHERE WHAT IT READS IS OF BULK AT MOST 1048576: true; the input reads as it did. -/
def pulseTouchesUptoRow : OpenClaim := { program := "ytaklelfdcbgebaa", sum := "56d281818ee2328030cfc160fb0ee8d8a4488d85dc603762640e1c361871d6c6", func := "foghorn/foghornlaw07.PulseTouches", spec := "pulseTouches", inPlace := ["math.Float64bits", "math.Float64frombits", "math.archTrunc"], apart := false, narrowed := true }
def PulseTouchesUptoSaid : Prop := pulseTouchesUptoRow.holds Try.pinned (OpenSpec.upto pulseTouchesSpec)

/-- 'foghornlaw07.PulseShapes', WHERE WHAT IT READS IS OF BULK AT MOST 1048576: true; the input reads as it did. -/
def pulseShapesUptoRow : OpenClaim := { program := "ytaklelfdcbgebaa", sum := "56d281818ee2328030cfc160fb0ee8d8a4488d85dc603762640e1c361871d6c6", func := "foghorn/foghornlaw07.PulseShapes", spec := "pulseShapes", inPlace := ["math.Float64bits", "math.Float64frombits", "math.archTrunc"], apart := false, narrowed := true }
def PulseShapesUptoSaid : Prop := pulseShapesUptoRow.holds Try.pinned (OpenSpec.upto pulseShapesSpec)

/-- 'foghornlaw07.PulseNamed', WHERE WHAT IT READS IS OF BULK AT MOST 1048576: true; the input reads as it did. -/
def pulseNamedUptoRow : OpenClaim := { program := "ytaklelfdcbgebaa", sum := "56d281818ee2328030cfc160fb0ee8d8a4488d85dc603762640e1c361871d6c6", func := "foghorn/foghornlaw07.PulseNamed", spec := "pulseNamed", unfollowed := true, recurses := true, apart := false, narrowed := true }
def PulseNamedUptoSaid : Prop := pulseNamedUptoRow.holds Try.pinned (OpenSpec.upto pulseNamedSpec)

/-- 'foghornlaw07.PulseChecks', WHERE WHAT IT READS IS OF BULK AT MOST 1048576: true; the input reads as it did. -/
def pulseChecksUptoRow : OpenClaim := { program := "ytaklelfdcbgebaa", sum := "56d281818ee2328030cfc160fb0ee8d8a4488d85dc603762640e1c361871d6c6", func := "foghorn/foghornlaw07.PulseChecks", spec := "pulseChecks", inPlace := ["math.Float64bits", "math.Float64frombits", "math.archTrunc"], apart := false, narrowed := true }
def PulseChecksUptoSaid : Prop := pulseChecksUptoRow.holds Try.pinned (OpenSpec.upto pulseChecksSpec)

/-- 'foghornlaw07.PulseNames', WHERE WHAT IT READS IS OF BULK AT MOST 1048576: true; the input reads as it did. -/
def pulseNamesUptoRow : OpenClaim := { program := "ytaklelfdcbgebaa", sum := "56d281818ee2328030cfc160fb0ee8d8a4488d85dc603762640e1c361871d6c6", func := "foghorn/foghornlaw07.PulseNames", spec := "pulseNames", inPlace := ["math.Float64bits", "math.Float64frombits", "math.archTrunc"], unfollowed := true, recurses := true, apart := false, narrowed := true }
def PulseNamesUptoSaid : Prop := pulseNamesUptoRow.holds Try.pinned (OpenSpec.upto pulseNamesSpec)

/-- 'foghornlaw07.PulseBack', WHERE WHAT IT READS IS OF BULK AT MOST 1048576: true; the input reads as it did. -/
def pulseBackUptoRow : OpenClaim := { program := "ytaklelfdcbgebaa", sum := "56d281818ee2328030cfc160fb0ee8d8a4488d85dc603762640e1c361871d6c6", func := "foghorn/foghornlaw07.PulseBack", spec := "pulseBack", inPlace := ["math.Float64bits", "math.Float64frombits", "math.archTrunc"], unfollowed := true, recurses := true, apart := false, narrowed := true }
def PulseBackUptoSaid : Prop := pulseBackUptoRow.holds Try.pinned (OpenSpec.upto pulseBackSpec)

/-- 'foghornlaw07.PulseLinear', WHERE WHAT IT READS IS OF BULK AT MOST 1048576: true; the input reads as it did. -/
def pulseLinearUptoRow : OpenClaim := { program := "ytaklelfdcbgebaa", sum := "56d281818ee2328030cfc160fb0ee8d8a4488d85dc603762640e1c361871d6c6", func := "foghorn/foghornlaw07.PulseLinear", spec := "pulseLinear", inPlace := ["math.Float64bits", "math.Float64frombits", "math.archTrunc"], unfollowed := true, recurses := true, apart := false, narrowed := true }
def PulseLinearUptoSaid : Prop := pulseLinearUptoRow.holds Try.pinned (OpenSpec.upto pulseLinearSpec)

/-- 'foghornlaw07.PulseNear', WHERE WHAT IT READS IS OF BULK AT MOST 1048576: true; the input reads as it did. -/
def pulseNearUptoRow : OpenClaim := { program := "ytaklelfdcbgebaa", sum := "56d281818ee2328030cfc160fb0ee8d8a4488d85dc603762640e1c361871d6c6", func := "foghorn/foghornlaw07.PulseNear", spec := "pulseNear", inPlace := ["math.Float64bits", "math.Float64frombits", "math.archTrunc"], unfollowed := true, recurses := true, apart := false, narrowed := true }
def PulseNearUptoSaid : Prop := pulseNearUptoRow.holds Try.pinned (OpenSpec.upto pulseNearSpec)

/-- 'foghornlaw07.PulseTurns', WHERE WHAT IT READS IS OF BULK AT MOST 1048576: true; the input reads as it did. -/
def pulseTurnsUptoRow : OpenClaim := { program := "ytaklelfdcbgebaa", sum := "56d281818ee2328030cfc160fb0ee8d8a4488d85dc603762640e1c361871d6c6", func := "foghorn/foghornlaw07.PulseTurns", spec := "pulseTurns", inPlace := ["math.Float64bits", "math.Float64frombits", "math.archTrunc"], unfollowed := true, recurses := true, apart := false, narrowed := true }
def PulseTurnsUptoSaid : Prop := pulseTurnsUptoRow.holds Try.pinned (OpenSpec.upto pulseTurnsSpec)

end Rows
end Go.Proofs.Ytaklelfdcbgebaa
