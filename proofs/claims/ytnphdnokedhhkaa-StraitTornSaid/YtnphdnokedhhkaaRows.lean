/-
  No cell of these rows narrows 'for every input' (looked for: loops, veiled, ifaces, maps, wideKeys, modest, calm, conditions, laid).
  DERIVED. THE GIVEN ROWS OF THIS SEAT. 10 by the template 'for every input the law returns true; each argument reads behind the call as it read before'; 0 by the template 'total and deterministic' (their statements: YtnphdnokedhhkaaTotals.lean).
  GIVEN WITH THE SEED: the statements are not yours to turn. If you find one false, say at which input.
  Laid BY PROGRAM, IN A SANDBOX (cutbox-rows.mjs): the forced cells as the released guide's own fill.sh prints them over the translation b8d2197403628810… (all of the seat's roots in one cut). By AI agents, Wed Nov 11 2026. No macro, syntax, notation, axiom, sorry.
-/
import Derived.Test.YtnphdnokedhhkaaChecked
import GoSem.Claim
import GoSem.ClaimJoined
import GoSem.ClaimMapViews
import Derived.JoinedTies
import Derived.KernelRfl
namespace Go.Proofs.Ytnphdnokedhhkaa
/- THE CELL 'sum', in the pinned program and in every row, IS THE sha256 OF THE DUMP (.gsa) THAT YtnphdnokedhhkaaProg.lean LOADS. Nothing in Lean hashes anything: it is a label: what it is worth is what the hold of that sum in a sandbox is worth. -/
noncomputable def Try.pinned : Pinned := { name := "ytnphdnokedhhkaa", sum := "b8d219740362881024d3af28324ba71ab4866bc7c17f86821328c13b63922552", checked := Try.checked }
namespace Rows
def none {H : Type} : Left H := { results := [], args := [] }

/-- 'foghornlaw10.StraitJoins': WHATEVER THE INPUT: true; the input reads as it did. -/
def straitJoinsSpec : ChangeSpec := { name := "straitJoins", fn := fun _ => fun
  | [d1, d2] => { results := [.lit (.bool true)], args := [d1, d2] }
  | _ => none }
def straitJoinsRow : OpenClaim := { program := "ytnphdnokedhhkaa", sum := "b8d219740362881024d3af28324ba71ab4866bc7c17f86821328c13b63922552", func := "foghorn/foghornlaw10.StraitJoins", spec := "straitJoins", inPlace := ["math.Float64bits", "math.Float64frombits", "math.archTrunc"], apart := false }
def StraitJoinsSaid : Prop := straitJoinsRow.holds Try.pinned (OpenSpec.ofChange straitJoinsSpec)

/-- ITS FALSE NEIGHBOUR: 'it returns false'. Refute it at one input. -/
def straitJoinsWrong : ChangeSpec := { name := "straitJoins", fn := fun _ => fun
  | [d1, d2] => { results := [.lit (.bool false)], args := [d1, d2] }
  | _ => none }
def StraitJoinsWrongFalsely : Prop := straitJoinsRow.holds Try.pinned (OpenSpec.ofChange straitJoinsWrong)

/-- 'foghornlaw10.StraitPasses': WHATEVER THE INPUT: true; the input reads as it did. -/
def straitPassesSpec : ChangeSpec := { name := "straitPasses", fn := fun _ => fun
  | [d1, d2, d3, d4, d5, d6, d7] => { results := [.lit (.bool true)], args := [d1, d2, d3, d4, d5, d6, d7] }
  | _ => none }
def straitPassesRow : OpenClaim := { program := "ytnphdnokedhhkaa", sum := "b8d219740362881024d3af28324ba71ab4866bc7c17f86821328c13b63922552", func := "foghorn/foghornlaw10.StraitPasses", spec := "straitPasses", inPlace := ["math.Float64bits", "math.Float64frombits", "math.archTrunc"], unfollowed := true, recurses := true, apart := false }
def StraitPassesSaid : Prop := straitPassesRow.holds Try.pinned (OpenSpec.ofChange straitPassesSpec)

/-- ITS FALSE NEIGHBOUR: 'it returns false'. Refute it at one input. -/
def straitPassesWrong : ChangeSpec := { name := "straitPasses", fn := fun _ => fun
  | [d1, d2, d3, d4, d5, d6, d7] => { results := [.lit (.bool false)], args := [d1, d2, d3, d4, d5, d6, d7] }
  | _ => none }
def StraitPassesWrongFalsely : Prop := straitPassesRow.holds Try.pinned (OpenSpec.ofChange straitPassesWrong)

/-- 'foghornlaw10.StraitChecks': WHATEVER THE INPUT: true; the input reads as it did. -/
def straitChecksSpec : ChangeSpec := { name := "straitChecks", fn := fun _ => fun
  | [d1, d2] => { results := [.lit (.bool true)], args := [d1, d2] }
  | _ => none }
def straitChecksRow : OpenClaim := { program := "ytnphdnokedhhkaa", sum := "b8d219740362881024d3af28324ba71ab4866bc7c17f86821328c13b63922552", func := "foghorn/foghornlaw10.StraitChecks", spec := "straitChecks", inPlace := ["math.Float64bits", "math.Float64frombits", "math.archTrunc"], unfollowed := true, recurses := true, apart := false }
def StraitChecksSaid : Prop := straitChecksRow.holds Try.pinned (OpenSpec.ofChange straitChecksSpec)

/-- ITS FALSE NEIGHBOUR: 'it returns false'. Refute it at one input. -/
def straitChecksWrong : ChangeSpec := { name := "straitChecks", fn := fun _ => fun
  | [d1, d2] => { results := [.lit (.bool false)], args := [d1, d2] }
  | _ => none }
def StraitChecksWrongFalsely : Prop := straitChecksRow.holds Try.pinned (OpenSpec.ofChange straitChecksWrong)

/-- 'foghornlaw10.StraitArrives': WHATEVER THE INPUT: true; the input reads as it did. -/
def straitArrivesSpec : ChangeSpec := { name := "straitArrives", fn := fun _ => fun
  | [d1, d2, d3, d4, d5, d6, d7, d8, d9] => { results := [.lit (.bool true)], args := [d1, d2, d3, d4, d5, d6, d7, d8, d9] }
  | _ => none }
def straitArrivesRow : OpenClaim := { program := "ytnphdnokedhhkaa", sum := "b8d219740362881024d3af28324ba71ab4866bc7c17f86821328c13b63922552", func := "foghorn/foghornlaw10.StraitArrives", spec := "straitArrives", inPlace := ["math.Float64bits", "math.Float64frombits", "math.archTrunc", "math.RoundToEven"], unfollowed := true, recurses := true, apart := false }
def StraitArrivesSaid : Prop := straitArrivesRow.holds Try.pinned (OpenSpec.ofChange straitArrivesSpec)

/-- ITS FALSE NEIGHBOUR: 'it returns false'. Refute it at one input. -/
def straitArrivesWrong : ChangeSpec := { name := "straitArrives", fn := fun _ => fun
  | [d1, d2, d3, d4, d5, d6, d7, d8, d9] => { results := [.lit (.bool false)], args := [d1, d2, d3, d4, d5, d6, d7, d8, d9] }
  | _ => none }
def StraitArrivesWrongFalsely : Prop := straitArrivesRow.holds Try.pinned (OpenSpec.ofChange straitArrivesWrong)

/-- 'foghornlaw10.StraitNames': WHATEVER THE INPUT: true; the input reads as it did. -/
def straitNamesSpec : ChangeSpec := { name := "straitNames", fn := fun _ => fun
  | [] => { results := [.lit (.bool true)], args := [] }
  | _ => none }
def straitNamesRow : OpenClaim := { program := "ytnphdnokedhhkaa", sum := "b8d219740362881024d3af28324ba71ab4866bc7c17f86821328c13b63922552", func := "foghorn/foghornlaw10.StraitNames", spec := "straitNames", inPlace := ["math.Float64bits", "math.Float64frombits", "math.archTrunc", "math.RoundToEven"], unfollowed := true, recurses := true, apart := false }
def StraitNamesSaid : Prop := straitNamesRow.holds Try.pinned (OpenSpec.ofChange straitNamesSpec)

/-- ITS FALSE NEIGHBOUR: 'it returns false'. Refute it at one input. -/
def straitNamesWrong : ChangeSpec := { name := "straitNames", fn := fun _ => fun
  | [] => { results := [.lit (.bool false)], args := [] }
  | _ => none }
def StraitNamesWrongFalsely : Prop := straitNamesRow.holds Try.pinned (OpenSpec.ofChange straitNamesWrong)

/-- 'foghornlaw10.StraitTorn': WHATEVER THE INPUT: true; the input reads as it did. -/
def straitTornSpec : ChangeSpec := { name := "straitTorn", fn := fun _ => fun
  | [d1, d2, d3] => { results := [.lit (.bool true)], args := [d1, d2, d3] }
  | _ => none }
def straitTornRow : OpenClaim := { program := "ytnphdnokedhhkaa", sum := "b8d219740362881024d3af28324ba71ab4866bc7c17f86821328c13b63922552", func := "foghorn/foghornlaw10.StraitTorn", spec := "straitTorn", inPlace := ["math.Float64bits", "math.Float64frombits", "math.archTrunc", "math.RoundToEven"], unfollowed := true, recurses := true, apart := false }
def StraitTornSaid : Prop := straitTornRow.holds Try.pinned (OpenSpec.ofChange straitTornSpec)

/-- ITS FALSE NEIGHBOUR: 'it returns false'. Refute it at one input. -/
def straitTornWrong : ChangeSpec := { name := "straitTorn", fn := fun _ => fun
  | [d1, d2, d3] => { results := [.lit (.bool false)], args := [d1, d2, d3] }
  | _ => none }
def StraitTornWrongFalsely : Prop := straitTornRow.holds Try.pinned (OpenSpec.ofChange straitTornWrong)

/-- 'foghornlaw10.StraitTwo': WHATEVER THE INPUT: true; the input reads as it did. -/
def straitTwoSpec : ChangeSpec := { name := "straitTwo", fn := fun _ => fun
  | [d1, d2, d3] => { results := [.lit (.bool true)], args := [d1, d2, d3] }
  | _ => none }
def straitTwoRow : OpenClaim := { program := "ytnphdnokedhhkaa", sum := "b8d219740362881024d3af28324ba71ab4866bc7c17f86821328c13b63922552", func := "foghorn/foghornlaw10.StraitTwo", spec := "straitTwo", inPlace := ["math.Float64bits", "math.Float64frombits", "math.archTrunc", "math.RoundToEven"], unfollowed := true, recurses := true, apart := false }
def StraitTwoSaid : Prop := straitTwoRow.holds Try.pinned (OpenSpec.ofChange straitTwoSpec)

/-- ITS FALSE NEIGHBOUR: 'it returns false'. Refute it at one input. -/
def straitTwoWrong : ChangeSpec := { name := "straitTwo", fn := fun _ => fun
  | [d1, d2, d3] => { results := [.lit (.bool false)], args := [d1, d2, d3] }
  | _ => none }
def StraitTwoWrongFalsely : Prop := straitTwoRow.holds Try.pinned (OpenSpec.ofChange straitTwoWrong)

/-- 'foghornlaw10.StraitGrid': WHATEVER THE INPUT: true; the input reads as it did. -/
def straitGridSpec : ChangeSpec := { name := "straitGrid", fn := fun _ => fun
  | [d1, d2, d3, d4, d5] => { results := [.lit (.bool true)], args := [d1, d2, d3, d4, d5] }
  | _ => none }
def straitGridRow : OpenClaim := { program := "ytnphdnokedhhkaa", sum := "b8d219740362881024d3af28324ba71ab4866bc7c17f86821328c13b63922552", func := "foghorn/foghornlaw10.StraitGrid", spec := "straitGrid", inPlace := ["math.Float64bits", "math.Float64frombits", "math.archTrunc", "math.RoundToEven", "math.archFloor"], unfollowed := true, recurses := true, apart := false }
def StraitGridSaid : Prop := straitGridRow.holds Try.pinned (OpenSpec.ofChange straitGridSpec)

/-- ITS FALSE NEIGHBOUR: 'it returns false'. Refute it at one input. -/
def straitGridWrong : ChangeSpec := { name := "straitGrid", fn := fun _ => fun
  | [d1, d2, d3, d4, d5] => { results := [.lit (.bool false)], args := [d1, d2, d3, d4, d5] }
  | _ => none }
def StraitGridWrongFalsely : Prop := straitGridRow.holds Try.pinned (OpenSpec.ofChange straitGridWrong)

/-- 'foghornlaw10.StraitLinear': WHATEVER THE INPUT: true; the input reads as it did. -/
def straitLinearSpec : ChangeSpec := { name := "straitLinear", fn := fun _ => fun
  | [d1, d2, d3, d4, d5] => { results := [.lit (.bool true)], args := [d1, d2, d3, d4, d5] }
  | _ => none }
def straitLinearRow : OpenClaim := { program := "ytnphdnokedhhkaa", sum := "b8d219740362881024d3af28324ba71ab4866bc7c17f86821328c13b63922552", func := "foghorn/foghornlaw10.StraitLinear", spec := "straitLinear", inPlace := ["math.Float64bits", "math.Float64frombits", "math.archTrunc", "math.RoundToEven"], unfollowed := true, recurses := true, apart := false }
def StraitLinearSaid : Prop := straitLinearRow.holds Try.pinned (OpenSpec.ofChange straitLinearSpec)

/-- ITS FALSE NEIGHBOUR: 'it returns false'. Refute it at one input. -/
def straitLinearWrong : ChangeSpec := { name := "straitLinear", fn := fun _ => fun
  | [d1, d2, d3, d4, d5] => { results := [.lit (.bool false)], args := [d1, d2, d3, d4, d5] }
  | _ => none }
def StraitLinearWrongFalsely : Prop := straitLinearRow.holds Try.pinned (OpenSpec.ofChange straitLinearWrong)

/-- 'foghornlaw10.StraitLate': WHATEVER THE INPUT: true; the input reads as it did. -/
def straitLateSpec : ChangeSpec := { name := "straitLate", fn := fun _ => fun
  | [d1, d2, d3] => { results := [.lit (.bool true)], args := [d1, d2, d3] }
  | _ => none }
def straitLateRow : OpenClaim := { program := "ytnphdnokedhhkaa", sum := "b8d219740362881024d3af28324ba71ab4866bc7c17f86821328c13b63922552", func := "foghorn/foghornlaw10.StraitLate", spec := "straitLate", inPlace := ["math.Float64bits", "math.Float64frombits", "math.archTrunc", "math.RoundToEven"], unfollowed := true, recurses := true, apart := false }
def StraitLateSaid : Prop := straitLateRow.holds Try.pinned (OpenSpec.ofChange straitLateSpec)

/-- ITS FALSE NEIGHBOUR: 'it returns false'. Refute it at one input. -/
def straitLateWrong : ChangeSpec := { name := "straitLate", fn := fun _ => fun
  | [d1, d2, d3] => { results := [.lit (.bool false)], args := [d1, d2, d3] }
  | _ => none }
def StraitLateWrongFalsely : Prop := straitLateRow.holds Try.pinned (OpenSpec.ofChange straitLateWrong)

/- THE SECOND FORM. 'bulk': how many values and letters a reading holds, each counted each time it is reached (what is shared counts as often as it is met; a slice's spare places count too). A statement '..UptoSaid' is the law's where the arguments, and the package variables that the reading takes, are together of bulk at most 1048576: NARROWER than '..Said'. Prove '..Said' where nothing that the law and all that it calls make is longer than what came in: it says more and counts as full. Else prove '..UptoSaid'. A law counts once. -/
mutual
def uptoBulk {H : Type} : DataW H → Nat
  | .lit (.string bytes) => bytes.length + 1
  | .lit _ => 1
  | .nil => 1
  | .ptr d => uptoBulk d + 1
  | .slice elems spare => uptoBulkAll elems + uptoBulkAll spare + 1
  | .agg parts => uptoBulkAll parts + 1
  | .iface _ d => uptoBulk d + 1
  | .map entries => uptoBulkEntries entries + 1
  | .held _ => 1
def uptoBulkAll {H : Type} : List (DataW H) → Nat
  | [] => 0
  | d :: r => uptoBulk d + uptoBulkAll r
def uptoBulkEntries {H : Type} : List (Lit × DataW H) → Nat
  | [] => 0
  | x :: r => uptoBulkEntry x + uptoBulkEntries r
def uptoBulkEntry {H : Type} : Lit × DataW H → Nat
  | (.string bytes, d) => bytes.length + uptoBulk d + 1
  | (_, d) => uptoBulk d + 1
 end
def uptoSmall : (H : Type) → List (DataW H) → Bool := fun _ ds => decide (uptoBulkAll ds ≤ 1048576)
def OpenSpec.upto (s : _root_.Go.ChangeSpec) : _root_.Go.OpenSpec := { _root_.Go.OpenSpec.ofChange s with cond := some uptoSmall }

/-- 'foghornlaw10.StraitJoins', WHERE WHAT IT READS IS OF BULK AT MOST 1048576: true; the input reads as it did. -/
def straitJoinsUptoRow : OpenClaim := { program := "ytnphdnokedhhkaa", sum := "b8d219740362881024d3af28324ba71ab4866bc7c17f86821328c13b63922552", func := "foghorn/foghornlaw10.StraitJoins", spec := "straitJoins", inPlace := ["math.Float64bits", "math.Float64frombits", "math.archTrunc"], apart := false, narrowed := true }
def StraitJoinsUptoSaid : Prop := straitJoinsUptoRow.holds Try.pinned (OpenSpec.upto straitJoinsSpec)

/-- 'foghornlaw10.StraitPasses', WHERE WHAT IT READS IS OF BULK AT MOST 1048576: true; the input reads as it did. -/
def straitPassesUptoRow : OpenClaim := { program := "ytnphdnokedhhkaa", sum := "b8d219740362881024d3af28324ba71ab4866bc7c17f86821328c13b63922552", func := "foghorn/foghornlaw10.StraitPasses", spec := "straitPasses", inPlace := ["math.Float64bits", "math.Float64frombits", "math.archTrunc"], unfollowed := true, recurses := true, apart := false, narrowed := true }
def StraitPassesUptoSaid : Prop := straitPassesUptoRow.holds Try.pinned (OpenSpec.upto straitPassesSpec)

/-- 'foghornlaw10.StraitChecks', WHERE WHAT IT READS IS OF BULK AT MOST 1048576: true; the input reads as it did. -/
def straitChecksUptoRow : OpenClaim := { program := "ytnphdnokedhhkaa", sum := "b8d219740362881024d3af28324ba71ab4866bc7c17f86821328c13b63922552", func := "foghorn/foghornlaw10.StraitChecks", spec := "straitChecks", inPlace := ["math.Float64bits", "math.Float64frombits", "math.archTrunc"], unfollowed := true, recurses := true, apart := false, narrowed := true }
def StraitChecksUptoSaid : Prop := straitChecksUptoRow.holds Try.pinned (OpenSpec.upto straitChecksSpec)

/-- 'foghornlaw10.StraitArrives', WHERE WHAT IT READS IS OF BULK AT MOST 1048576: true; the input reads as it did. -/
def straitArrivesUptoRow : OpenClaim := { program := "ytnphdnokedhhkaa", sum := "b8d219740362881024d3af28324ba71ab4866bc7c17f86821328c13b63922552", func := "foghorn/foghornlaw10.StraitArrives", spec := "straitArrives", inPlace := ["math.Float64bits", "math.Float64frombits", "math.archTrunc", "math.RoundToEven"], unfollowed := true, recurses := true, apart := false, narrowed := true }
def StraitArrivesUptoSaid : Prop := straitArrivesUptoRow.holds Try.pinned (OpenSpec.upto straitArrivesSpec)

/-- 'foghornlaw10.StraitNames', WHERE WHAT IT READS IS OF BULK AT MOST 1048576: true; the input reads as it did. -/
def straitNamesUptoRow : OpenClaim := { program := "ytnphdnokedhhkaa", sum := "b8d219740362881024d3af28324ba71ab4866bc7c17f86821328c13b63922552", func := "foghorn/foghornlaw10.StraitNames", spec := "straitNames", inPlace := ["math.Float64bits", "math.Float64frombits", "math.archTrunc", "math.RoundToEven"], unfollowed := true, recurses := true, apart := false, narrowed := true }
def StraitNamesUptoSaid : Prop := straitNamesUptoRow.holds Try.pinned (OpenSpec.upto straitNamesSpec)

/-- 'foghornlaw10.StraitTorn', WHERE WHAT IT READS IS OF BULK AT MOST 1048576: true; the input reads as it did. -/
def straitTornUptoRow : OpenClaim := { program := "ytnphdnokedhhkaa", sum := "b8d219740362881024d3af28324ba71ab4866bc7c17f86821328c13b63922552", func := "foghorn/foghornlaw10.StraitTorn", spec := "straitTorn", inPlace := ["math.Float64bits", "math.Float64frombits", "math.archTrunc", "math.RoundToEven"], unfollowed := true, recurses := true, apart := false, narrowed := true }
def StraitTornUptoSaid : Prop := straitTornUptoRow.holds Try.pinned (OpenSpec.upto straitTornSpec)

/-- 'foghornlaw10.StraitTwo', WHERE WHAT IT READS IS OF BULK AT MOST 1048576: true; the input reads as it did. -/
def straitTwoUptoRow : OpenClaim := { program := "ytnphdnokedhhkaa", sum := "b8d219740362881024d3af28324ba71ab4866bc7c17f86821328c13b63922552", func := "foghorn/foghornlaw10.StraitTwo", spec := "straitTwo", inPlace := ["math.Float64bits", "math.Float64frombits", "math.archTrunc", "math.RoundToEven"], unfollowed := true, recurses := true, apart := false, narrowed := true }
def StraitTwoUptoSaid : Prop := straitTwoUptoRow.holds Try.pinned (OpenSpec.upto straitTwoSpec)

/-- 'foghornlaw10.StraitGrid', WHERE WHAT IT READS IS OF BULK AT MOST 1048576: true; the input reads as it did. -/
def straitGridUptoRow : OpenClaim := { program := "ytnphdnokedhhkaa", sum := "b8d219740362881024d3af28324ba71ab4866bc7c17f86821328c13b63922552", func := "foghorn/foghornlaw10.StraitGrid", spec := "straitGrid", inPlace := ["math.Float64bits", "math.Float64frombits", "math.archTrunc", "math.RoundToEven", "math.archFloor"], unfollowed := true, recurses := true, apart := false, narrowed := true }
def StraitGridUptoSaid : Prop := straitGridUptoRow.holds Try.pinned (OpenSpec.upto straitGridSpec)

/-- 'foghornlaw10.StraitLinear', WHERE WHAT IT READS IS OF BULK AT MOST 1048576: true; the input reads as it did. -/
def straitLinearUptoRow : OpenClaim := { program := "ytnphdnokedhhkaa", sum := "b8d219740362881024d3af28324ba71ab4866bc7c17f86821328c13b63922552", func := "foghorn/foghornlaw10.StraitLinear", spec := "straitLinear", inPlace := ["math.Float64bits", "math.Float64frombits", "math.archTrunc", "math.RoundToEven"], unfollowed := true, recurses := true, apart := false, narrowed := true }
def StraitLinearUptoSaid : Prop := straitLinearUptoRow.holds Try.pinned (OpenSpec.upto straitLinearSpec)

/-- 'foghornlaw10.StraitLate', WHERE WHAT IT READS IS OF BULK AT MOST 1048576: true; the input reads as it did. -/
def straitLateUptoRow : OpenClaim := { program := "ytnphdnokedhhkaa", sum := "b8d219740362881024d3af28324ba71ab4866bc7c17f86821328c13b63922552", func := "foghorn/foghornlaw10.StraitLate", spec := "straitLate", inPlace := ["math.Float64bits", "math.Float64frombits", "math.archTrunc", "math.RoundToEven"], unfollowed := true, recurses := true, apart := false, narrowed := true }
def StraitLateUptoSaid : Prop := straitLateUptoRow.holds Try.pinned (OpenSpec.upto straitLateSpec)

end Rows
end Go.Proofs.Ytnphdnokedhhkaa
