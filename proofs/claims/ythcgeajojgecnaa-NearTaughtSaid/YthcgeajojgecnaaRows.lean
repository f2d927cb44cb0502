/-
  No cell of these rows narrows 'for every input' (looked for: loops, veiled, ifaces, maps, wideKeys, modest, calm, conditions, laid).
  DERIVED. THE GIVEN ROWS OF THIS SEAT. 12 by the template 'for every input the law returns true; each argument reads behind the call as it read before'; 0 by the template 'total and deterministic' (their statements: YthcgeajojgecnaaTotals.lean).
  GIVEN WITH THE SEED: the statements are not yours to turn. If you find one false, say at which input.
  Laid BY PROGRAM, IN A SANDBOX (cutbox-rows.mjs): the forced cells as the released guide's own fill.sh prints them over the translation ebeb71418f9058d2… (all of the seat's roots in one cut). By AI agents, Wed Nov 11 2026. No macro, syntax, notation, axiom, sorry.
-/
import Derived.Test.YthcgeajojgecnaaChecked
import GoSem.Claim
import GoSem.ClaimJoined
import GoSem.ClaimMapViews
import Derived.JoinedTies
import Derived.KernelRfl
namespace Go.Proofs.Ythcgeajojgecnaa
/- THE CELL 'sum', in the pinned program and in every row, IS THE sha256 OF THE DUMP (.gsa) THAT YthcgeajojgecnaaProg.lean LOADS. Nothing in Lean hashes anything: it is a label: what it is worth is what the hold of that sum in a sandbox is worth. -/
noncomputable def Try.pinned : Pinned := { name := "ythcgeajojgecnaa", sum := "ebeb71418f9058d216168fd536098175b3df682e60a2836dbab12e0ba3b09587", checked := Try.checked }
namespace Rows
def none {H : Type} : Left H := { results := [], args := [] }

/-- 'foghornlaw14.TrainPairsUp': WHATEVER THE INPUT: true; the input reads as it did. -/
def trainPairsUpSpec : ChangeSpec := { name := "trainPairsUp", fn := fun _ => fun
  | [] => { results := [.lit (.bool true)], args := [] }
  | _ => none }
def trainPairsUpRow : OpenClaim := { program := "ythcgeajojgecnaa", sum := "ebeb71418f9058d216168fd536098175b3df682e60a2836dbab12e0ba3b09587", func := "foghorn/foghornlaw14.TrainPairsUp", spec := "trainPairsUp", recurses := true, apart := false }
def TrainPairsUpSaid : Prop := trainPairsUpRow.holds Try.pinned (OpenSpec.ofChange trainPairsUpSpec)

/-- ITS FALSE NEIGHBOUR: 'it returns false'. Refute it at one input. -/
def trainPairsUpWrong : ChangeSpec := { name := "trainPairsUp", fn := fun _ => fun
  | [] => { results := [.lit (.bool false)], args := [] }
  | _ => none }
def TrainPairsUpWrongFalsely : Prop := trainPairsUpRow.holds Try.pinned (OpenSpec.ofChange trainPairsUpWrong)

/-- 'foghornlaw14.TrainLays': WHATEVER THE INPUT: true; the input reads as it did. -/
def trainLaysSpec : ChangeSpec := { name := "trainLays", fn := fun _ => fun
  | [d] => { results := [.lit (.bool true)], args := [d] }
  | _ => none }
def trainLaysRow : OpenClaim := { program := "ythcgeajojgecnaa", sum := "ebeb71418f9058d216168fd536098175b3df682e60a2836dbab12e0ba3b09587", func := "foghorn/foghornlaw14.TrainLays", spec := "trainLays", recurses := true, apart := false }
def TrainLaysSaid : Prop := trainLaysRow.holds Try.pinned (OpenSpec.ofChange trainLaysSpec)

/-- ITS FALSE NEIGHBOUR: 'it returns false'. Refute it at one input. -/
def trainLaysWrong : ChangeSpec := { name := "trainLays", fn := fun _ => fun
  | [d] => { results := [.lit (.bool false)], args := [d] }
  | _ => none }
def TrainLaysWrongFalsely : Prop := trainLaysRow.holds Try.pinned (OpenSpec.ofChange trainLaysWrong)

/-- 'foghornlaw14.TrainPairs': WHATEVER THE INPUT: true; the input reads as it did. -/
def trainPairsSpec : ChangeSpec := { name := "trainPairs", fn := fun _ => fun
  | [d1, d2, d3] => { results := [.lit (.bool true)], args := [d1, d2, d3] }
  | _ => none }
def trainPairsRow : OpenClaim := { program := "ythcgeajojgecnaa", sum := "ebeb71418f9058d216168fd536098175b3df682e60a2836dbab12e0ba3b09587", func := "foghorn/foghornlaw14.TrainPairs", spec := "trainPairs", inPlace := ["math.Float64frombits", "math.RoundToEven"], recurses := true, apart := false }
def TrainPairsSaid : Prop := trainPairsRow.holds Try.pinned (OpenSpec.ofChange trainPairsSpec)

/-- ITS FALSE NEIGHBOUR: 'it returns false'. Refute it at one input. -/
def trainPairsWrong : ChangeSpec := { name := "trainPairs", fn := fun _ => fun
  | [d1, d2, d3] => { results := [.lit (.bool false)], args := [d1, d2, d3] }
  | _ => none }
def TrainPairsWrongFalsely : Prop := trainPairsRow.holds Try.pinned (OpenSpec.ofChange trainPairsWrong)

/-- 'foghornlaw14.TrainLinear': WHATEVER THE INPUT: true; the input reads as it did. -/
def trainLinearSpec : ChangeSpec := { name := "trainLinear", fn := fun _ => fun
  | [d1, d2, d3, d4, d5, d6] => { results := [.lit (.bool true)], args := [d1, d2, d3, d4, d5, d6] }
  | _ => none }
def trainLinearRow : OpenClaim := { program := "ythcgeajojgecnaa", sum := "ebeb71418f9058d216168fd536098175b3df682e60a2836dbab12e0ba3b09587", func := "foghorn/foghornlaw14.TrainLinear", spec := "trainLinear", inPlace := ["math.archFloor", "math.Float64bits", "math.Float64frombits", "math.archTrunc"], recurses := true, apart := false }
def TrainLinearSaid : Prop := trainLinearRow.holds Try.pinned (OpenSpec.ofChange trainLinearSpec)

/-- ITS FALSE NEIGHBOUR: 'it returns false'. Refute it at one input. -/
def trainLinearWrong : ChangeSpec := { name := "trainLinear", fn := fun _ => fun
  | [d1, d2, d3, d4, d5, d6] => { results := [.lit (.bool false)], args := [d1, d2, d3, d4, d5, d6] }
  | _ => none }
def TrainLinearWrongFalsely : Prop := trainLinearRow.holds Try.pinned (OpenSpec.ofChange trainLinearWrong)

/-- 'foghornlaw14.TrainHears': WHATEVER THE INPUT: true; the input reads as it did. -/
def trainHearsSpec : ChangeSpec := { name := "trainHears", fn := fun _ => fun
  | [d1, d2, d3, d4, d5, d6] => { results := [.lit (.bool true)], args := [d1, d2, d3, d4, d5, d6] }
  | _ => none }
def trainHearsRow : OpenClaim := { program := "ythcgeajojgecnaa", sum := "ebeb71418f9058d216168fd536098175b3df682e60a2836dbab12e0ba3b09587", func := "foghorn/foghornlaw14.TrainHears", spec := "trainHears", inPlace := ["math.archFloor", "math.Float64bits", "math.Float64frombits", "math.archTrunc", "math.RoundToEven"], recurses := true, apart := false }
def TrainHearsSaid : Prop := trainHearsRow.holds Try.pinned (OpenSpec.ofChange trainHearsSpec)

/-- ITS FALSE NEIGHBOUR: 'it returns false'. Refute it at one input. -/
def trainHearsWrong : ChangeSpec := { name := "trainHears", fn := fun _ => fun
  | [d1, d2, d3, d4, d5, d6] => { results := [.lit (.bool false)], args := [d1, d2, d3, d4, d5, d6] }
  | _ => none }
def TrainHearsWrongFalsely : Prop := trainHearsRow.holds Try.pinned (OpenSpec.ofChange trainHearsWrong)

/-- 'foghornlaw14.TrainTaught': WHATEVER THE INPUT: true; the input reads as it did. -/
def trainTaughtSpec : ChangeSpec := { name := "trainTaught", fn := fun _ => fun
  | [d1, d2, d3, d4] => { results := [.lit (.bool true)], args := [d1, d2, d3, d4] }
  | _ => none }
def trainTaughtRow : OpenClaim := { program := "ythcgeajojgecnaa", sum := "ebeb71418f9058d216168fd536098175b3df682e60a2836dbab12e0ba3b09587", func := "foghorn/foghornlaw14.TrainTaught", spec := "trainTaught", inPlace := ["math.archFloor", "math.Float64bits", "math.Float64frombits", "math.archTrunc", "math.RoundToEven"], recurses := true, apart := false }
def TrainTaughtSaid : Prop := trainTaughtRow.holds Try.pinned (OpenSpec.ofChange trainTaughtSpec)

/-- ITS FALSE NEIGHBOUR: 'it returns false'. Refute it at one input. -/
def trainTaughtWrong : ChangeSpec := { name := "trainTaught", fn := fun _ => fun
  | [d1, d2, d3, d4] => { results := [.lit (.bool false)], args := [d1, d2, d3, d4] }
  | _ => none }
def TrainTaughtWrongFalsely : Prop := trainTaughtRow.holds Try.pinned (OpenSpec.ofChange trainTaughtWrong)

/-- 'foghornlaw15.NearBoth': WHATEVER THE INPUT: true; the input reads as it did. -/
def nearBothSpec : ChangeSpec := { name := "nearBoth", fn := fun _ => fun
  | [d] => { results := [.lit (.bool true)], args := [d] }
  | _ => none }
def nearBothRow : OpenClaim := { program := "ythcgeajojgecnaa", sum := "ebeb71418f9058d216168fd536098175b3df682e60a2836dbab12e0ba3b09587", func := "foghorn/foghornlaw15.NearBoth", spec := "nearBoth", inPlace := ["math.archFloor", "math.Float64bits", "math.Float64frombits", "math.archTrunc"], unfollowed := true, recurses := true, apart := false }
def NearBothSaid : Prop := nearBothRow.holds Try.pinned (OpenSpec.ofChange nearBothSpec)

/-- ITS FALSE NEIGHBOUR: 'it returns false'. Refute it at one input. -/
def nearBothWrong : ChangeSpec := { name := "nearBoth", fn := fun _ => fun
  | [d] => { results := [.lit (.bool false)], args := [d] }
  | _ => none }
def NearBothWrongFalsely : Prop := nearBothRow.holds Try.pinned (OpenSpec.ofChange nearBothWrong)

/-- 'foghornlaw15.NearLines': WHATEVER THE INPUT: true; the input reads as it did. -/
def nearLinesSpec : ChangeSpec := { name := "nearLines", fn := fun _ => fun
  | [d1, d2] => { results := [.lit (.bool true)], args := [d1, d2] }
  | _ => none }
def nearLinesRow : OpenClaim := { program := "ythcgeajojgecnaa", sum := "ebeb71418f9058d216168fd536098175b3df682e60a2836dbab12e0ba3b09587", func := "foghorn/foghornlaw15.NearLines", spec := "nearLines", inPlace := ["math.Float64bits", "math.Float64frombits", "math.archTrunc", "math.archFloor"], unfollowed := true, recurses := true, apart := false }
def NearLinesSaid : Prop := nearLinesRow.holds Try.pinned (OpenSpec.ofChange nearLinesSpec)

/-- ITS FALSE NEIGHBOUR: 'it returns false'. Refute it at one input. -/
def nearLinesWrong : ChangeSpec := { name := "nearLines", fn := fun _ => fun
  | [d1, d2] => { results := [.lit (.bool false)], args := [d1, d2] }
  | _ => none }
def NearLinesWrongFalsely : Prop := nearLinesRow.holds Try.pinned (OpenSpec.ofChange nearLinesWrong)

/-- 'foghornlaw15.NearRows': WHATEVER THE INPUT: true; the input reads as it did. -/
def nearRowsSpec : ChangeSpec := { name := "nearRows", fn := fun _ => fun
  | [d] => { results := [.lit (.bool true)], args := [d] }
  | _ => none }
def nearRowsRow : OpenClaim := { program := "ythcgeajojgecnaa", sum := "ebeb71418f9058d216168fd536098175b3df682e60a2836dbab12e0ba3b09587", func := "foghorn/foghornlaw15.NearRows", spec := "nearRows", inPlace := ["math.Float64bits", "math.Float64frombits", "math.archTrunc", "math.archFloor", "math.archMax"], unfollowed := true, recurses := true, apart := false }
def NearRowsSaid : Prop := nearRowsRow.holds Try.pinned (OpenSpec.ofChange nearRowsSpec)

/-- ITS FALSE NEIGHBOUR: 'it returns false'. Refute it at one input. -/
def nearRowsWrong : ChangeSpec := { name := "nearRows", fn := fun _ => fun
  | [d] => { results := [.lit (.bool false)], args := [d] }
  | _ => none }
def NearRowsWrongFalsely : Prop := nearRowsRow.holds Try.pinned (OpenSpec.ofChange nearRowsWrong)

/-- 'foghornlaw15.NearLearns': WHATEVER THE INPUT: true; the input reads as it did. -/
def nearLearnsSpec : ChangeSpec := { name := "nearLearns", fn := fun _ => fun
  | [d1, d2] => { results := [.lit (.bool true)], args := [d1, d2] }
  | _ => none }
def nearLearnsRow : OpenClaim := { program := "ythcgeajojgecnaa", sum := "ebeb71418f9058d216168fd536098175b3df682e60a2836dbab12e0ba3b09587", func := "foghorn/foghornlaw15.NearLearns", spec := "nearLearns", inPlace := ["math.archFloor", "math.Float64bits", "math.Float64frombits", "math.archTrunc", "math.RoundToEven"], unfollowed := true, recurses := true, apart := false }
def NearLearnsSaid : Prop := nearLearnsRow.holds Try.pinned (OpenSpec.ofChange nearLearnsSpec)

/-- ITS FALSE NEIGHBOUR: 'it returns false'. Refute it at one input. -/
def nearLearnsWrong : ChangeSpec := { name := "nearLearns", fn := fun _ => fun
  | [d1, d2] => { results := [.lit (.bool false)], args := [d1, d2] }
  | _ => none }
def NearLearnsWrongFalsely : Prop := nearLearnsRow.holds Try.pinned (OpenSpec.ofChange nearLearnsWrong)

/-- 'foghornlaw15.NearTaught': WHATEVER THE INPUT: true; the input reads as it did. -/
def nearTaughtSpec : ChangeSpec := { name := "nearTaught", fn := fun _ => fun
  | [d] => { results := [.lit (.bool true)], args := [d] }
  | _ => none }
def nearTaughtRow : OpenClaim := { program := "ythcgeajojgecnaa", sum := "ebeb71418f9058d216168fd536098175b3df682e60a2836dbab12e0ba3b09587", func := "foghorn/foghornlaw15.NearTaught", spec := "nearTaught", inPlace := ["math.Float64bits", "math.Float64frombits", "math.archTrunc", "math.archFloor", "math.RoundToEven"], unfollowed := true, recurses := true, apart := false }
def NearTaughtSaid : Prop := nearTaughtRow.holds Try.pinned (OpenSpec.ofChange nearTaughtSpec)

/-- ITS FALSE NEIGHBOUR: 'it returns false'. Refute it at one input. -/
def nearTaughtWrong : ChangeSpec := { name := "nearTaught", fn := fun _ => fun
  | [d] => { results := [.lit (.bool false)], args := [d] }
  | _ => none }
def NearTaughtWrongFalsely : Prop := nearTaughtRow.holds Try.pinned (OpenSpec.ofChange nearTaughtWrong)

/-- 'foghornlaw15.NearNone': WHATEVER THE INPUT: true; the input reads as it did. -/
def nearNoneSpec : ChangeSpec := { name := "nearNone", fn := fun _ => fun
  | [] => { results := [.lit (.bool true)], args := [] }
  | _ => none }
def nearNoneRow : OpenClaim := { program := "ythcgeajojgecnaa", sum := "ebeb71418f9058d216168fd536098175b3df682e60a2836dbab12e0ba3b09587", func := "foghorn/foghornlaw15.NearNone", spec := "nearNone", inPlace := ["math.archFloor", "math.Float64bits", "math.Float64frombits", "math.archTrunc", "math.RoundToEven"], unfollowed := true, recurses := true, apart := false }
def NearNoneSaid : Prop := nearNoneRow.holds Try.pinned (OpenSpec.ofChange nearNoneSpec)

/-- ITS FALSE NEIGHBOUR: 'it returns false'. Refute it at one input. -/
def nearNoneWrong : ChangeSpec := { name := "nearNone", fn := fun _ => fun
  | [] => { results := [.lit (.bool false)], args := [] }
  | _ => none }
def NearNoneWrongFalsely : Prop := nearNoneRow.holds Try.pinned (OpenSpec.ofChange nearNoneWrong)

/- THE SECOND FORM. 'bulk': how many values and letters a reading holds, each counted each time it is reached (what is shared counts as often as it is met; a slice's spare places count too). A statement '..UptoSaid' is the law's where the arguments, and the package variables that the reading takes, are together of bulk at most 1048576: NARROWER than '..Said'. Prove '..Said' where nothing that the law and all that it calls make is longer than what came in: it says more and counts as full. Else prove '..UptoSaid'. A law counts once. -/
mutual
def uptoBulk {H : Type} : DataW H → Nat
  | .lit (.string bytes) => bytes.length + 1
  | .lit _ => 1
  | .nil => 1
  | .ptr d => uptoBulk d + 1
  | .slice elems spare => uptoBulkAll elems + uptoBulkAll spare + 1
  | .agg parts => uptoBulkAll parts + 1
  | .iface _ d => uptoBulk d + 1
  | .map entries => uptoBulkEntries entries + 1
  | .held _ => 1
def uptoBulkAll {H : Type} : List (DataW H) → Nat
  | [] => 0
  | d :: r => uptoBulk d + uptoBulkAll r
def uptoBulkEntries {H : Type} : List (Lit × DataW H) → Nat
  | [] => 0
  | x :: r => uptoBulkEntry x + uptoBulkEntries r
def uptoBulkEntry {H : Type} : Lit × DataW H → Nat
  | (.string bytes, d) => bytes.length + uptoBulk d + 1
  | (_, d) => uptoBulk d + 1
 end
def uptoSmall : (H : Type) → List (DataW H) → Bool := fun _ ds => decide (uptoBulkAll ds ≤ 1048576)
def OpenSpec.upto (s : _root_.Go.ChangeSpec) : _root_.Go.OpenSpec := { _root_.Go.OpenSpec.ofChange s with cond := some uptoSmall }

/-- 'foghornlaw14.TrainPairsUp', WHERE WHAT IT READS IS OF BULK AT MOST 1048576: true; the input reads as it did. -/
def trainPairsUpUptoRow : OpenClaim := { program := "ythcgeajojgecnaa", sum := "ebeb71418f9058d216168fd536098175b3df682e60a2836dbab12e0ba3b09587", func := "foghorn/foghornlaw14.TrainPairsUp", spec := "trainPairsUp", recurses := true, apart := false, narrowed := true }
def TrainPairsUpUptoSaid : Prop := trainPairsUpUptoRow.holds Try.pinned (OpenSpec.upto trainPairsUpSpec)

/-- 'foghornlaw14.TrainLays', WHERE WHAT IT READS IS OF BULK AT MOST 1048576: true; the input reads as it did. -/
def trainLaysUptoRow : OpenClaim := { program := "ythcgeajojgecnaa", sum := "ebeb71418f9058d216168fd536098175b3df682e60a2836dbab12e0ba3b09587", func := "foghorn/foghornlaw14.TrainLays", spec := "trainLays", recurses := true, apart := false, narrowed := true }
def TrainLaysUptoSaid : Prop := trainLaysUptoRow.holds Try.pinned (OpenSpec.upto trainLaysSpec)

/-- 'foghornlaw14.TrainPairs', WHERE WHAT IT READS IS OF BULK AT MOST 1048576: true; the input reads as it did. -/
def trainPairsUptoRow : OpenClaim := { program := "ythcgeajojgecnaa", sum := "ebeb71418f9058d216168fd536098175b3df682e60a2836dbab12e0ba3b09587", func := "foghorn/foghornlaw14.TrainPairs", spec := "trainPairs", inPlace := ["math.Float64frombits", "math.RoundToEven"], recurses := true, apart := false, narrowed := true }
def TrainPairsUptoSaid : Prop := trainPairsUptoRow.holds Try.pinned (OpenSpec.upto trainPairsSpec)

/-- 'foghornlaw14.TrainLinear', WHERE WHAT IT READS IS OF BULK AT MOST 1048576: true; the input reads as it did. -/
def trainLinearUptoRow : OpenClaim := { program := "ythcgeajojgecnaa", sum := "ebeb71418f9058d216168fd536098175b3df682e60a2836dbab12e0ba3b09587", func := "foghorn/foghornlaw14.TrainLinear", spec := "trainLinear", inPlace := ["math.archFloor", "math.Float64bits", "math.Float64frombits", "math.archTrunc"], recurses := true, apart := false, narrowed := true }
def TrainLinearUptoSaid : Prop := trainLinearUptoRow.holds Try.pinned (OpenSpec.upto trainLinearSpec)

/-- 'foghornlaw14.TrainHears', WHERE WHAT IT READS IS OF BULK AT MOST 1048576: true; the input reads as it did. -/
def trainHearsUptoRow : OpenClaim := { program := "ythcgeajojgecnaa", sum := "ebeb71418f9058d216168fd536098175b3df682e60a2836dbab12e0ba3b09587", func := "foghorn/foghornlaw14.TrainHears", spec := "trainHears", inPlace := ["math.archFloor", "math.Float64bits", "math.Float64frombits", "math.archTrunc", "math.RoundToEven"], recurses := true, apart := false, narrowed := true }
def TrainHearsUptoSaid : Prop := trainHearsUptoRow.holds Try.pinned (OpenSpec.upto trainHearsSpec)

/-- 'foghornlaw14.TrainTaught', WHERE WHAT IT READS IS OF BULK AT MOST 1048576: true; the input reads as it did. -/
def trainTaughtUptoRow : OpenClaim := { program := "ythcgeajojgecnaa", sum := "ebeb71418f9058d216168fd536098175b3df682e60a2836dbab12e0ba3b09587", func := "foghorn/foghornlaw14.TrainTaught", spec := "trainTaught", inPlace := ["math.archFloor", "math.Float64bits", "math.Float64frombits", "math.archTrunc", "math.RoundToEven"], recurses := true, apart := false, narrowed := true }
def TrainTaughtUptoSaid : Prop := trainTaughtUptoRow.holds Try.pinned (OpenSpec.upto trainTaughtSpec)

/-- 'foghornlaw15.NearBoth', WHERE WHAT IT READS IS OF BULK AT MOST 1048576: true; the input reads as it did. -/
def nearBothUptoRow : OpenClaim := { program := "ythcgeajojgecnaa", sum := "ebeb71418f9058d216168fd536098175b3df682e60a2836dbab12e0ba3b09587", func := "foghorn/foghornlaw15.NearBoth", spec := "nearBoth", inPlace := ["math.archFloor", "math.Float64bits", "math.Float64frombits", "math.archTrunc"], unfollowed := true, recurses := true, apart := false, narrowed := true }
def NearBothUptoSaid : Prop := nearBothUptoRow.holds Try.pinned (OpenSpec.upto nearBothSpec)

/-- 'foghornlaw15.NearLines', WHERE WHAT IT READS IS OF BULK AT MOST 1048576: true; the input reads as it did. -/
def nearLinesUptoRow : OpenClaim := { program := "ythcgeajojgecnaa", sum := "ebeb71418f9058d216168fd536098175b3df682e60a2836dbab12e0ba3b09587", func := "foghorn/foghornlaw15.NearLines", spec := "nearLines", inPlace := ["math.Float64bits", "math.Float64frombits", "math.archTrunc", "math.archFloor"], unfollowed := true, recurses := true, apart := false, narrowed := true }
def NearLinesUptoSaid : Prop := nearLinesUptoRow.holds Try.pinned (OpenSpec.upto nearLinesSpec)

/-- 'foghornlaw15.NearRows', WHERE WHAT IT READS IS OF BULK AT MOST 1048576: true; the input reads as it did. -/
def nearRowsUptoRow : OpenClaim := { program := "ythcgeajojgecnaa", sum := "ebeb71418f9058d216168fd536098175b3df682e60a2836dbab12e0ba3b09587", func := "foghorn/foghornlaw15.NearRows", spec := "nearRows", inPlace := ["math.Float64bits", "math.Float64frombits", "math.archTrunc", "math.archFloor", "math.archMax"], unfollowed := true, recurses := true, apart := false, narrowed := true }
def NearRowsUptoSaid : Prop := nearRowsUptoRow.holds Try.pinned (OpenSpec.upto nearRowsSpec)

/-- 'foghornlaw15.NearLearns', WHERE WHAT IT READS IS OF BULK AT MOST 1048576: true; the input reads as it did. -/
def nearLearnsUptoRow : OpenClaim := { program := "ythcgeajojgecnaa", sum := "ebeb71418f9058d216168fd536098175b3df682e60a2836dbab12e0ba3b09587", func := "foghorn/foghornlaw15.NearLearns", spec := "nearLearns", inPlace := ["math.archFloor", "math.Float64bits", "math.Float64frombits", "math.archTrunc", "math.RoundToEven"], unfollowed := true, recurses := true, apart := false, narrowed := true }
def NearLearnsUptoSaid : Prop := nearLearnsUptoRow.holds Try.pinned (OpenSpec.upto nearLearnsSpec)

/-- 'foghornlaw15.NearTaught', WHERE WHAT IT READS IS OF BULK AT MOST 1048576: true; the input reads as it did. -/
def nearTaughtUptoRow : OpenClaim := { program := "ythcgeajojgecnaa", sum := "ebeb71418f9058d216168fd536098175b3df682e60a2836dbab12e0ba3b09587", func := "foghorn/foghornlaw15.NearTaught", spec := "nearTaught", inPlace := ["math.Float64bits", "math.Float64frombits", "math.archTrunc", "math.archFloor", "math.RoundToEven"], unfollowed := true, recurses := true, apart := false, narrowed := true }
def NearTaughtUptoSaid : Prop := nearTaughtUptoRow.holds Try.pinned (OpenSpec.upto nearTaughtSpec)

/-- 'foghornlaw15.NearNone', WHERE WHAT IT READS IS OF BULK AT MOST 1048576: true; the input reads as it did. -/
def nearNoneUptoRow : OpenClaim := { program := "ythcgeajojgecnaa", sum := "ebeb71418f9058d216168fd536098175b3df682e60a2836dbab12e0ba3b09587", func := "foghorn/foghornlaw15.NearNone", spec := "nearNone", inPlace := ["math.archFloor", "math.Float64bits", "math.Float64frombits", "math.archTrunc", "math.RoundToEven"], unfollowed := true, recurses := true, apart := false, narrowed := true }
def NearNoneUptoSaid : Prop := nearNoneUptoRow.holds Try.pinned (OpenSpec.upto nearNoneSpec)

end Rows
end Go.Proofs.Ythcgeajojgecnaa
