/-
  No cell of these rows narrows 'for every input' (looked for: loops, veiled, ifaces, maps, wideKeys, modest, calm, conditions, laid).
  DERIVED. THE GIVEN ROWS OF THIS SEAT. 7 by the template 'for every input the law returns true; each argument reads behind the call as it read before'; 0 by the template 'total and deterministic' (their statements: YtldkgfbgndkbdaaTotals.lean).
  GIVEN WITH THE SEED: the statements are not yours to turn. If you find one false, say at which input.
  Laid BY PROGRAM, IN A SANDBOX (cutbox-rows.mjs): the forced cells as the released guide's own fill.sh prints them over the translation b9c4c3668f853014… (all of the seat's roots in one cut). By AI agents, Wed Nov 11 2026. No macro, syntax, notation, axiom, sorry.
-/
import Derived.Test.YtldkgfbgndkbdaaChecked
import GoSem.Claim
import GoSem.ClaimJoined
import GoSem.ClaimMapViews
import Derived.JoinedTies
import Derived.KernelRfl
namespace Go.Proofs.Ytldkgfbgndkbdaa
/- THE CELL 'sum', in the pinned program and in every row, IS THE sha256 OF THE DUMP (.gsa) THAT YtldkgfbgndkbdaaProg.lean LOADS. Nothing in Lean hashes anything: it is a label: what it is worth is what the hold of that sum in a sandbox is worth. -/
noncomputable def Try.pinned : Pinned := { name := "ytldkgfbgndkbdaa", sum := "b9c4c3668f853014d3ec2e59bc7e8cd2edd603b579b28d3f6aa23e295dbf4c5e", checked := Try.checked }
namespace Rows
def none {H : Type} : Left H := { results := [], args := [] }

/-- 'foghornlaw14.TrainPairsUp': WHATEVER THE INPUT: true; the input reads as it did. -/
def trainPairsUpSpec : ChangeSpec := { name := "trainPairsUp", fn := fun _ => fun
  | [] => { results := [.lit (.bool true)], args := [] }
  | _ => none }
def trainPairsUpRow : OpenClaim := { program := "ytldkgfbgndkbdaa", sum := "b9c4c3668f853014d3ec2e59bc7e8cd2edd603b579b28d3f6aa23e295dbf4c5e", func := "foghorn/foghornlaw14.TrainPairsUp", spec := "trainPairsUp", recurses := true, apart := false }
def TrainPairsUpSaid : Prop := trainPairsUpRow.holds Try.pinned (OpenSpec.ofChange trainPairsUpSpec)

/-- ITS FALSE NEIGHBOUR: 'it returns false'. Refute it at one input. -/
def trainPairsUpWrong : ChangeSpec := { name := "trainPairsUp", fn := fun _ => fun
  | [] => { results := [.lit (.bool false)], args := [] }
  | _ => none }
def TrainPairsUpWrongFalsely : Prop := trainPairsUpRow.holds Try.pinned (OpenSpec.ofChange trainPairsUpWrong)

/-- 'foghornlaw14.TrainLays': WHATEVER THE INPUT: true; the input reads as it did. -/
def trainLaysSpec : ChangeSpec := { name := "trainLays", fn := fun _ => fun
  | [d] => { results := [.lit (.bool true)], args := [d] }
  | _ => none }
def trainLaysRow : OpenClaim := { program := "ytldkgfbgndkbdaa", sum := "b9c4c3668f853014d3ec2e59bc7e8cd2edd603b579b28d3f6aa23e295dbf4c5e", func := "foghorn/foghornlaw14.TrainLays", spec := "trainLays", recurses := true, apart := false }
def TrainLaysSaid : Prop := trainLaysRow.holds Try.pinned (OpenSpec.ofChange trainLaysSpec)

/-- ITS FALSE NEIGHBOUR: 'it returns false'. Refute it at one input. -/
def trainLaysWrong : ChangeSpec := { name := "trainLays", fn := fun _ => fun
  | [d] => { results := [.lit (.bool false)], args := [d] }
  | _ => none }
def TrainLaysWrongFalsely : Prop := trainLaysRow.holds Try.pinned (OpenSpec.ofChange trainLaysWrong)

/-- 'foghornlaw14.TrainPairs': WHATEVER THE INPUT: true; the input reads as it did. -/
def trainPairsSpec : ChangeSpec := { name := "trainPairs", fn := fun _ => fun
  | [d1, d2, d3] => { results := [.lit (.bool true)], args := [d1, d2, d3] }
  | _ => none }
def trainPairsRow : OpenClaim := { program := "ytldkgfbgndkbdaa", sum := "b9c4c3668f853014d3ec2e59bc7e8cd2edd603b579b28d3f6aa23e295dbf4c5e", func := "foghorn/foghornlaw14.TrainPairs", spec := "trainPairs", inPlace := ["math.Float64frombits", "math.RoundToEven"], recurses := true, apart := false }
def TrainPairsSaid : Prop := trainPairsRow.holds Try.pinned (OpenSpec.ofChange trainPairsSpec)

/-- ITS FALSE NEIGHBOUR: 'it returns false'. Refute it at one input. -/
def trainPairsWrong : ChangeSpec := { name := "trainPairs", fn := fun _ => fun
  | [d1, d2, d3] => { results := [.lit (.bool false)], args := [d1, d2, d3] }
  | _ => none }
def TrainPairsWrongFalsely : Prop := trainPairsRow.holds Try.pinned (OpenSpec.ofChange trainPairsWrong)

/-- 'foghornlaw14.TrainNames': WHATEVER THE INPUT: true; the input reads as it did. -/
def trainNamesSpec : ChangeSpec := { name := "trainNames", fn := fun _ => fun
  | [] => { results := [.lit (.bool true)], args := [] }
  | _ => none }
def trainNamesRow : OpenClaim := { program := "ytldkgfbgndkbdaa", sum := "b9c4c3668f853014d3ec2e59bc7e8cd2edd603b579b28d3f6aa23e295dbf4c5e", func := "foghorn/foghornlaw14.TrainNames", spec := "trainNames", inPlace := ["math.archFloor", "math.Float64bits", "math.Float64frombits", "math.archTrunc"], apart := false }
def TrainNamesSaid : Prop := trainNamesRow.holds Try.pinned (OpenSpec.ofChange trainNamesSpec)

/-- ITS FALSE NEIGHBOUR: 'it returns false'. Refute it at one input. -/
def trainNamesWrong : ChangeSpec := { name := "trainNames", fn := fun _ => fun
  | [] => { results := [.lit (.bool false)], args := [] }
  | _ => none }
def TrainNamesWrongFalsely : Prop := trainNamesRow.holds Try.pinned (OpenSpec.ofChange trainNamesWrong)

/-- 'foghornlaw14.TrainLinear': WHATEVER THE INPUT: true; the input reads as it did. -/
def trainLinearSpec : ChangeSpec := { name := "trainLinear", fn := fun _ => fun
  | [d1, d2, d3, d4, d5, d6] => { results := [.lit (.bool true)], args := [d1, d2, d3, d4, d5, d6] }
  | _ => none }
def trainLinearRow : OpenClaim := { program := "ytldkgfbgndkbdaa", sum := "b9c4c3668f853014d3ec2e59bc7e8cd2edd603b579b28d3f6aa23e295dbf4c5e", func := "foghorn/foghornlaw14.TrainLinear", spec := "trainLinear", inPlace := ["math.archFloor", "math.Float64bits", "math.Float64frombits", "math.archTrunc"], recurses := true, apart := false }
def TrainLinearSaid : Prop := trainLinearRow.holds Try.pinned (OpenSpec.ofChange trainLinearSpec)

/-- ITS FALSE NEIGHBOUR: 'it returns false'. Refute it at one input. -/
def trainLinearWrong : ChangeSpec := { name := "trainLinear", fn := fun _ => fun
  | [d1, d2, d3, d4, d5, d6] => { results := [.lit (.bool false)], args := [d1, d2, d3, d4, d5, d6] }
  | _ => none }
def TrainLinearWrongFalsely : Prop := trainLinearRow.holds Try.pinned (OpenSpec.ofChange trainLinearWrong)

/-- 'foghornlaw14.TrainHears': WHATEVER THE INPUT: true; the input reads as it did. -/
def trainHearsSpec : ChangeSpec := { name := "trainHears", fn := fun _ => fun
  | [d1, d2, d3, d4, d5, d6] => { results := [.lit (.bool true)], args := [d1, d2, d3, d4, d5, d6] }
  | _ => none }
def trainHearsRow : OpenClaim := { program := "ytldkgfbgndkbdaa", sum := "b9c4c3668f853014d3ec2e59bc7e8cd2edd603b579b28d3f6aa23e295dbf4c5e", func := "foghorn/foghornlaw14.TrainHears", spec := "trainHears", inPlace := ["math.archFloor", "math.Float64bits", "math.Float64frombits", "math.archTrunc", "math.RoundToEven"], recurses := true, apart := false }
def TrainHearsSaid : Prop := trainHearsRow.holds Try.pinned (OpenSpec.ofChange trainHearsSpec)

/-- ITS FALSE NEIGHBOUR: 'it returns false'. Refute it at one input. -/
def trainHearsWrong : ChangeSpec := { name := "trainHears", fn := fun _ => fun
  | [d1, d2, d3, d4, d5, d6] => { results := [.lit (.bool false)], args := [d1, d2, d3, d4, d5, d6] }
  | _ => none }
def TrainHearsWrongFalsely : Prop := trainHearsRow.holds Try.pinned (OpenSpec.ofChange trainHearsWrong)

/-- 'foghornlaw14.TrainTaught': WHATEVER THE INPUT: true; the input reads as it did. -/
def trainTaughtSpec : ChangeSpec := { name := "trainTaught", fn := fun _ => fun
  | [d1, d2, d3, d4] => { results := [.lit (.bool true)], args := [d1, d2, d3, d4] }
  | _ => none }
def trainTaughtRow : OpenClaim := { program := "ytldkgfbgndkbdaa", sum := "b9c4c3668f853014d3ec2e59bc7e8cd2edd603b579b28d3f6aa23e295dbf4c5e", func := "foghorn/foghornlaw14.TrainTaught", spec := "trainTaught", inPlace := ["math.archFloor", "math.Float64bits", "math.Float64frombits", "math.archTrunc", "math.RoundToEven"], recurses := true, apart := false }
def TrainTaughtSaid : Prop := trainTaughtRow.holds Try.pinned (OpenSpec.ofChange trainTaughtSpec)

/-- ITS FALSE NEIGHBOUR: 'it returns false'. Refute it at one input. -/
def trainTaughtWrong : ChangeSpec := { name := "trainTaught", fn := fun _ => fun
  | [d1, d2, d3, d4] => { results := [.lit (.bool false)], args := [d1, d2, d3, d4] }
  | _ => none }
def TrainTaughtWrongFalsely : Prop := trainTaughtRow.holds Try.pinned (OpenSpec.ofChange trainTaughtWrong)

/- THE SECOND FORM. 'bulk': how many values and letters a reading holds, each counted each time it is reached (what is shared counts as often as it is met; a slice's spare places count too). A statement '..UptoSaid' is the law's where the arguments, and the package variables that the reading takes, are together of bulk at most 1048576: NARROWER than '..Said'. Prove '..Said' where nothing that the law and all that it calls make is longer than what came in: it says more and counts as full. Else prove '..UptoSaid'. A law counts once. -/
mutual
def uptoBulk {H : Type} : DataW H → Nat
  | .lit (.string bytes) => bytes.length + 1
  | .lit _ => 1
  | .nil => 1
  | .ptr d => uptoBulk d + 1
  | .slice elems spare => uptoBulkAll elems + uptoBulkAll spare + 1
  | .agg parts => uptoBulkAll parts + 1
  | .iface _ d => uptoBulk d + 1
  | .map entries => uptoBulkEntries entries + 1
  | .held _ => 1
def uptoBulkAll {H : Type} : List (DataW H) → Nat
  | [] => 0
  | d :: r => uptoBulk d + uptoBulkAll r
def uptoBulkEntries {H : Type} : List (Lit × DataW H) → Nat
  | [] => 0
  | x :: r => uptoBulkEntry x + uptoBulkEntries r
def uptoBulkEntry {H : Type} : Lit × DataW H → Nat
  | (.string bytes, d) => bytes.length + uptoBulk d + 1
  | (_, d) => uptoBulk d + 1
 end
def uptoSmall : (H : Type) → List (DataW H) → Bool := fun _ ds => decide (uptoBulkAll ds ≤ 1048576)
def OpenSpec.upto (s : _root_.Go.ChangeSpec) : _root_.Go.OpenSpec := { _root_.Go.OpenSpec.ofChange s with cond := some uptoSmall }

/-- 'foghornlaw14.TrainPairsUp', WHERE WHAT IT READS IS OF BULK AT MOST 1048576: true; the input reads as it did. -/
def trainPairsUpUptoRow : OpenClaim := { program := "ytldkgfbgndkbdaa", sum := "b9c4c3668f853014d3ec2e59bc7e8cd2edd603b579b28d3f6aa23e295dbf4c5e", func := "foghorn/foghornlaw14.TrainPairsUp", spec := "trainPairsUp", recurses := true, apart := false, narrowed := true }
def TrainPairsUpUptoSaid : Prop := trainPairsUpUptoRow.holds Try.pinned (OpenSpec.upto trainPairsUpSpec)

/-- 'foghornlaw14.TrainLays', WHERE WHAT IT READS IS OF BULK AT MOST 1048576: true; the input reads as it did. -/
def trainLaysUptoRow : OpenClaim := { program := "ytldkgfbgndkbdaa", sum := "b9c4c3668f853014d3ec2e59bc7e8cd2edd603b579b28d3f6aa23e295dbf4c5e", func := "foghorn/foghornlaw14.TrainLays", spec := "trainLays", recurses := true, apart := false, narrowed := true }
def TrainLaysUptoSaid : Prop := trainLaysUptoRow.holds Try.pinned (OpenSpec.upto trainLaysSpec)

/-- 'foghornlaw14.TrainPairs', WHERE WHAT IT READS IS OF BULK AT MOST 1048576: true; the input reads as it did. -/
def trainPairsUptoRow : OpenClaim := { program := "ytldkgfbgndkbdaa", sum := "b9c4c3668f853014d3ec2e59bc7e8cd2edd603b579b28d3f6aa23e295dbf4c5e", func := "foghorn/foghornlaw14.TrainPairs", spec := "trainPairs", inPlace := ["math.Float64frombits", "math.RoundToEven"], recurses := true, apart := false, narrowed := true }
def TrainPairsUptoSaid : Prop := trainPairsUptoRow.holds Try.pinned (OpenSpec.upto trainPairsSpec)

/-- 'foghornlaw14.TrainNames', WHERE WHAT IT READS IS OF BULK AT MOST 1048576: true; the input reads as it did. -/
def trainNamesUptoRow : OpenClaim := { program := "ytldkgfbgndkbdaa", sum := "b9c4c3668f853014d3ec2e59bc7e8cd2edd603b579b28d3f6aa23e295dbf4c5e", func := "foghorn/foghornlaw14.TrainNames", spec := "trainNames", inPlace := ["math.archFloor", "math.Float64bits", "math.Float64frombits", "math.archTrunc"], apart := false, narrowed := true }
def TrainNamesUptoSaid : Prop := trainNamesUptoRow.holds Try.pinned (OpenSpec.upto trainNamesSpec)

/-- 'foghornlaw14.TrainLinear', WHERE WHAT IT READS IS OF BULK AT MOST 1048576: true; the input reads as it did. -/
def trainLinearUptoRow : OpenClaim := { program := "ytldkgfbgndkbdaa", sum := "b9c4c3668f853014d3ec2e59bc7e8cd2edd603b579b28d3f6aa23e295dbf4c5e", func := "foghorn/foghornlaw14.TrainLinear", spec := "trainLinear", inPlace := ["math.archFloor", "math.Float64bits", "math.Float64frombits", "math.archTrunc"], recurses := true, apart := false, narrowed := true }
def TrainLinearUptoSaid : Prop := trainLinearUptoRow.holds Try.pinned (OpenSpec.upto trainLinearSpec)

/-- 'foghornlaw14.TrainHears', WHERE WHAT IT READS IS OF BULK AT MOST 1048576: true; the input reads as it did. -/
def trainHearsUptoRow : OpenClaim := { program := "ytldkgfbgndkbdaa", sum := "b9c4c3668f853014d3ec2e59bc7e8cd2edd603b579b28d3f6aa23e295dbf4c5e", func := "foghorn/foghornlaw14.TrainHears", spec := "trainHears", inPlace := ["math.archFloor", "math.Float64bits", "math.Float64frombits", "math.archTrunc", "math.RoundToEven"], recurses := true, apart := false, narrowed := true }
def TrainHearsUptoSaid : Prop := trainHearsUptoRow.holds Try.pinned (OpenSpec.upto trainHearsSpec)

/-- 'foghornlaw14.TrainTaught', WHERE WHAT IT READS IS OF BULK AT MOST 1048576: true; the input reads as it did. -/
def trainTaughtUptoRow : OpenClaim := { program := "ytldkgfbgndkbdaa", sum := "b9c4c3668f853014d3ec2e59bc7e8cd2edd603b579b28d3f6aa23e295dbf4c5e", func := "foghorn/foghornlaw14.TrainTaught", spec := "trainTaught", inPlace := ["math.archFloor", "math.Float64bits", "math.Float64frombits", "math.archTrunc", "math.RoundToEven"], recurses := true, apart := false, narrowed := true }
def TrainTaughtUptoSaid : Prop := trainTaughtUptoRow.holds Try.pinned (OpenSpec.upto trainTaughtSpec)

end Rows
end Go.Proofs.Ytldkgfbgndkbdaa
