/-
  No cell of these rows narrows 'for every input' (looked for: loops, veiled, ifaces, maps, wideKeys, modest, calm, conditions, laid).
  DERIVED. THE GIVEN ROWS OF THIS SEAT. 9 by the template 'for every input the law returns true; each argument reads behind the call as it read before'; 0 by the template 'total and deterministic' (their statements: YtnccnmeecngopaaTotals.lean).
  GIVEN WITH THE SEED: the statements are not yours to turn. If you find one false, say at which input.
  Laid BY PROGRAM, IN A SANDBOX (cutbox-rows.mjs): the forced cells as the released guide's own fill.sh prints them over the translation 826df62f98ca5ac5… (all of the seat's roots in one cut). By AI agents, Wed Nov 11 2026. No macro, syntax, notation, axiom, sorry.
-/
import Derived.Test.YtnccnmeecngopaaChecked
import GoSem.Claim
import GoSem.ClaimJoined
import GoSem.ClaimMapViews
import Derived.JoinedTies
import Derived.KernelRfl
namespace Go.Proofs.Ytnccnmeecngopaa
/- THE CELL 'sum', in the pinned program and in every row, IS THE sha256 OF THE DUMP (.gsa) THAT YtnccnmeecngopaaProg.lean LOADS. Nothing in Lean hashes anything: it is a label: what it is worth is what the hold of that sum in a sandbox is worth. -/
noncomputable def Try.pinned : Pinned := { name := "ytnccnmeecngopaa", sum := "826df62f98ca5ac5f1c7b0353d6ea846efaa1adf357d591a4fd5b91a81ce0016", checked := Try.checked }
namespace Rows
def none {H : Type} : Left H := { results := [], args := [] }

/-- 'foghornlaw13.HuntShifts': WHATEVER THE INPUT: true; the input reads as it did. -/
def huntShiftsSpec : ChangeSpec := { name := "huntShifts", fn := fun _ => fun
  | [d1, d2, d3, d4, d5, d6] => { results := [.lit (.bool true)], args := [d1, d2, d3, d4, d5, d6] }
  | _ => none }
def huntShiftsRow : OpenClaim := { program := "ytnccnmeecngopaa", sum := "826df62f98ca5ac5f1c7b0353d6ea846efaa1adf357d591a4fd5b91a81ce0016", func := "foghorn/foghornlaw13.HuntShifts", spec := "huntShifts", unfollowed := true, recurses := true, apart := false }
def HuntShiftsSaid : Prop := huntShiftsRow.holds Try.pinned (OpenSpec.ofChange huntShiftsSpec)

/-- ITS FALSE NEIGHBOUR: 'it returns false'. Refute it at one input. -/
def huntShiftsWrong : ChangeSpec := { name := "huntShifts", fn := fun _ => fun
  | [d1, d2, d3, d4, d5, d6] => { results := [.lit (.bool false)], args := [d1, d2, d3, d4, d5, d6] }
  | _ => none }
def HuntShiftsWrongFalsely : Prop := huntShiftsRow.holds Try.pinned (OpenSpec.ofChange huntShiftsWrong)

/-- 'foghornlaw13.HuntUndoes': WHATEVER THE INPUT: true; the input reads as it did. -/
def huntUndoesSpec : ChangeSpec := { name := "huntUndoes", fn := fun _ => fun
  | [d1, d2, d3] => { results := [.lit (.bool true)], args := [d1, d2, d3] }
  | _ => none }
def huntUndoesRow : OpenClaim := { program := "ytnccnmeecngopaa", sum := "826df62f98ca5ac5f1c7b0353d6ea846efaa1adf357d591a4fd5b91a81ce0016", func := "foghorn/foghornlaw13.HuntUndoes", spec := "huntUndoes", apart := false }
def HuntUndoesSaid : Prop := huntUndoesRow.holds Try.pinned (OpenSpec.ofChange huntUndoesSpec)

/-- ITS FALSE NEIGHBOUR: 'it returns false'. Refute it at one input. -/
def huntUndoesWrong : ChangeSpec := { name := "huntUndoes", fn := fun _ => fun
  | [d1, d2, d3] => { results := [.lit (.bool false)], args := [d1, d2, d3] }
  | _ => none }
def HuntUndoesWrongFalsely : Prop := huntUndoesRow.holds Try.pinned (OpenSpec.ofChange huntUndoesWrong)

/-- 'foghornlaw13.HuntFinds': WHATEVER THE INPUT: true; the input reads as it did. -/
def huntFindsSpec : ChangeSpec := { name := "huntFinds", fn := fun _ => fun
  | [d1, d2, d3] => { results := [.lit (.bool true)], args := [d1, d2, d3] }
  | _ => none }
def huntFindsRow : OpenClaim := { program := "ytnccnmeecngopaa", sum := "826df62f98ca5ac5f1c7b0353d6ea846efaa1adf357d591a4fd5b91a81ce0016", func := "foghorn/foghornlaw13.HuntFinds", spec := "huntFinds", inPlace := ["math.Float64bits", "math.Float64frombits"], apart := false }
def HuntFindsSaid : Prop := huntFindsRow.holds Try.pinned (OpenSpec.ofChange huntFindsSpec)

/-- ITS FALSE NEIGHBOUR: 'it returns false'. Refute it at one input. -/
def huntFindsWrong : ChangeSpec := { name := "huntFinds", fn := fun _ => fun
  | [d1, d2, d3] => { results := [.lit (.bool false)], args := [d1, d2, d3] }
  | _ => none }
def HuntFindsWrongFalsely : Prop := huntFindsRow.holds Try.pinned (OpenSpec.ofChange huntFindsWrong)

/-- 'foghornlaw13.HuntPlans': WHATEVER THE INPUT: true; the input reads as it did. -/
def huntPlansSpec : ChangeSpec := { name := "huntPlans", fn := fun _ => fun
  | [d1, d2, d3, d4, d5, d6] => { results := [.lit (.bool true)], args := [d1, d2, d3, d4, d5, d6] }
  | _ => none }
def huntPlansRow : OpenClaim := { program := "ytnccnmeecngopaa", sum := "826df62f98ca5ac5f1c7b0353d6ea846efaa1adf357d591a4fd5b91a81ce0016", func := "foghorn/foghornlaw13.HuntPlans", spec := "huntPlans", inPlace := ["math.Float64bits", "math.Float64frombits", "math.archTrunc"], unfollowed := true, recurses := true, apart := false }
def HuntPlansSaid : Prop := huntPlansRow.holds Try.pinned (OpenSpec.ofChange huntPlansSpec)

/-- ITS FALSE NEIGHBOUR: 'it returns false'. Refute it at one input. -/
def huntPlansWrong : ChangeSpec := { name := "huntPlans", fn := fun _ => fun
  | [d1, d2, d3, d4, d5, d6] => { results := [.lit (.bool false)], args := [d1, d2, d3, d4, d5, d6] }
  | _ => none }
def HuntPlansWrongFalsely : Prop := huntPlansRow.holds Try.pinned (OpenSpec.ofChange huntPlansWrong)

/-- 'foghornlaw13.HuntSilence': WHATEVER THE INPUT: true; the input reads as it did. -/
def huntSilenceSpec : ChangeSpec := { name := "huntSilence", fn := fun _ => fun
  | [d1, d2, d3] => { results := [.lit (.bool true)], args := [d1, d2, d3] }
  | _ => none }
def huntSilenceRow : OpenClaim := { program := "ytnccnmeecngopaa", sum := "826df62f98ca5ac5f1c7b0353d6ea846efaa1adf357d591a4fd5b91a81ce0016", func := "foghorn/foghornlaw13.HuntSilence", spec := "huntSilence", inPlace := ["math.Float64bits", "math.Float64frombits", "math.archTrunc"], unfollowed := true, recurses := true, apart := false }
def HuntSilenceSaid : Prop := huntSilenceRow.holds Try.pinned (OpenSpec.ofChange huntSilenceSpec)

/-- ITS FALSE NEIGHBOUR: 'it returns false'. Refute it at one input. -/
def huntSilenceWrong : ChangeSpec := { name := "huntSilence", fn := fun _ => fun
  | [d1, d2, d3] => { results := [.lit (.bool false)], args := [d1, d2, d3] }
  | _ => none }
def HuntSilenceWrongFalsely : Prop := huntSilenceRow.holds Try.pinned (OpenSpec.ofChange huntSilenceWrong)

/-- 'foghornlaw13.HuntBack': WHATEVER THE INPUT: true; the input reads as it did. -/
def huntBackSpec : ChangeSpec := { name := "huntBack", fn := fun _ => fun
  | [d1, d2, d3, d4, d5, d6] => { results := [.lit (.bool true)], args := [d1, d2, d3, d4, d5, d6] }
  | _ => none }
def huntBackRow : OpenClaim := { program := "ytnccnmeecngopaa", sum := "826df62f98ca5ac5f1c7b0353d6ea846efaa1adf357d591a4fd5b91a81ce0016", func := "foghorn/foghornlaw13.HuntBack", spec := "huntBack", inPlace := ["math.Float64bits", "math.Float64frombits", "math.archTrunc"], unfollowed := true, recurses := true, apart := false }
def HuntBackSaid : Prop := huntBackRow.holds Try.pinned (OpenSpec.ofChange huntBackSpec)

/-- ITS FALSE NEIGHBOUR: 'it returns false'. Refute it at one input. -/
def huntBackWrong : ChangeSpec := { name := "huntBack", fn := fun _ => fun
  | [d1, d2, d3, d4, d5, d6] => { results := [.lit (.bool false)], args := [d1, d2, d3, d4, d5, d6] }
  | _ => none }
def HuntBackWrongFalsely : Prop := huntBackRow.holds Try.pinned (OpenSpec.ofChange huntBackWrong)

/-- 'foghornlaw13.HuntNames': WHATEVER THE INPUT: true; the input reads as it did. -/
def huntNamesSpec : ChangeSpec := { name := "huntNames", fn := fun _ => fun
  | [] => { results := [.lit (.bool true)], args := [] }
  | _ => none }
def huntNamesRow : OpenClaim := { program := "ytnccnmeecngopaa", sum := "826df62f98ca5ac5f1c7b0353d6ea846efaa1adf357d591a4fd5b91a81ce0016", func := "foghorn/foghornlaw13.HuntNames", spec := "huntNames", inPlace := ["math.Float64bits", "math.Float64frombits", "math.archTrunc"], unfollowed := true, recurses := true, apart := false }
def HuntNamesSaid : Prop := huntNamesRow.holds Try.pinned (OpenSpec.ofChange huntNamesSpec)

/-- ITS FALSE NEIGHBOUR: 'it returns false'. Refute it at one input. -/
def huntNamesWrong : ChangeSpec := { name := "huntNames", fn := fun _ => fun
  | [] => { results := [.lit (.bool false)], args := [] }
  | _ => none }
def HuntNamesWrongFalsely : Prop := huntNamesRow.holds Try.pinned (OpenSpec.ofChange huntNamesWrong)

/-- 'foghornlaw13.HuntFirst': WHATEVER THE INPUT: true; the input reads as it did. -/
def huntFirstSpec : ChangeSpec := { name := "huntFirst", fn := fun _ => fun
  | [d1, d2, d3, d4, d5, d6, d7, d8] => { results := [.lit (.bool true)], args := [d1, d2, d3, d4, d5, d6, d7, d8] }
  | _ => none }
def huntFirstRow : OpenClaim := { program := "ytnccnmeecngopaa", sum := "826df62f98ca5ac5f1c7b0353d6ea846efaa1adf357d591a4fd5b91a81ce0016", func := "foghorn/foghornlaw13.HuntFirst", spec := "huntFirst", inPlace := ["math.Float64bits", "math.Float64frombits", "math.archTrunc", "math.RoundToEven"], unfollowed := true, recurses := true, apart := false }
def HuntFirstSaid : Prop := huntFirstRow.holds Try.pinned (OpenSpec.ofChange huntFirstSpec)

/-- ITS FALSE NEIGHBOUR: 'it returns false'. Refute it at one input. -/
def huntFirstWrong : ChangeSpec := { name := "huntFirst", fn := fun _ => fun
  | [d1, d2, d3, d4, d5, d6, d7, d8] => { results := [.lit (.bool false)], args := [d1, d2, d3, d4, d5, d6, d7, d8] }
  | _ => none }
def HuntFirstWrongFalsely : Prop := huntFirstRow.holds Try.pinned (OpenSpec.ofChange huntFirstWrong)

/-- 'foghornlaw13.HuntApart': WHATEVER THE INPUT: true; the input reads as it did. -/
def huntApartSpec : ChangeSpec := { name := "huntApart", fn := fun _ => fun
  | [d1, d2, d3, d4, d5, d6, d7, d8, d9] => { results := [.lit (.bool true)], args := [d1, d2, d3, d4, d5, d6, d7, d8, d9] }
  | _ => none }
def huntApartRow : OpenClaim := { program := "ytnccnmeecngopaa", sum := "826df62f98ca5ac5f1c7b0353d6ea846efaa1adf357d591a4fd5b91a81ce0016", func := "foghorn/foghornlaw13.HuntApart", spec := "huntApart", inPlace := ["math.Float64bits", "math.Float64frombits", "math.archTrunc"], unfollowed := true, recurses := true, apart := false }
def HuntApartSaid : Prop := huntApartRow.holds Try.pinned (OpenSpec.ofChange huntApartSpec)

/-- ITS FALSE NEIGHBOUR: 'it returns false'. Refute it at one input. -/
def huntApartWrong : ChangeSpec := { name := "huntApart", fn := fun _ => fun
  | [d1, d2, d3, d4, d5, d6, d7, d8, d9] => { results := [.lit (.bool false)], args := [d1, d2, d3, d4, d5, d6, d7, d8, d9] }
  | _ => none }
def HuntApartWrongFalsely : Prop := huntApartRow.holds Try.pinned (OpenSpec.ofChange huntApartWrong)

/- THE SECOND FORM. 'bulk': how many values and letters a reading holds, each counted each time it is reached (what is shared counts as often as it is met; a slice's spare places count too). A statement '..UptoSaid' is the law's where the arguments, and the package variables that the reading takes, are together of bulk at most 1048576: NARROWER than '..Said'. Prove '..Said' where nothing that the law and all that it calls make is longer than what came in: it says more and counts as full. Else prove '..UptoSaid'. A law counts once. -/
mutual
def uptoBulk {H : Type} : DataW H → Nat
  | .lit (.string bytes) => bytes.length + 1
  | .lit _ => 1
  | .nil => 1
  | .ptr d => uptoBulk d + 1
  | .slice elems spare => uptoBulkAll elems + uptoBulkAll spare + 1
  | .agg parts => uptoBulkAll parts + 1
  | .iface _ d => uptoBulk d + 1
  | .map entries => uptoBulkEntries entries + 1
  | .held _ => 1
def uptoBulkAll {H : Type} : List (DataW H) → Nat
  | [] => 0
  | d :: r => uptoBulk d + uptoBulkAll r
def uptoBulkEntries {H : Type} : List (Lit × DataW H) → Nat
  | [] => 0
  | x :: r => uptoBulkEntry x + uptoBulkEntries r
def uptoBulkEntry {H : Type} : Lit × DataW H → Nat
  | (.string bytes, d) => bytes.length + uptoBulk d + 1
  | (_, d) => uptoBulk d + 1
 end
def uptoSmall : (H : Type) → List (DataW H) → Bool := fun _ ds => decide (uptoBulkAll ds ≤ 1048576)
def OpenSpec.upto (s : _root_.Go.ChangeSpec) : _root_.Go.OpenSpec := { _root_.Go.OpenSpec.ofChange s with cond := some uptoSmall }

/-- 'foghornlaw13.HuntShifts', WHERE WHAT IT READS IS OF BULK AT MOST 1048576: true; the input reads as it did. -/
def huntShiftsUptoRow : OpenClaim := { program := "ytnccnmeecngopaa", sum := "826df62f98ca5ac5f1c7b0353d6ea846efaa1adf357d591a4fd5b91a81ce0016", func := "foghorn/foghornlaw13.HuntShifts", spec := "huntShifts", unfollowed := true, recurses := true, apart := false, narrowed := true }
def HuntShiftsUptoSaid : Prop := huntShiftsUptoRow.holds Try.pinned (OpenSpec.upto huntShiftsSpec)

/-- 'foghornlaw13.HuntUndoes', WHERE WHAT IT READS IS OF BULK AT MOST 1048576: true; the input reads as it did. -/
def huntUndoesUptoRow : OpenClaim := { program := "ytnccnmeecngopaa", sum := "826df62f98ca5ac5f1c7b0353d6ea846efaa1adf357d591a4fd5b91a81ce0016", func := "foghorn/foghornlaw13.HuntUndoes", spec := "huntUndoes", apart := false, narrowed := true }
def HuntUndoesUptoSaid : Prop := huntUndoesUptoRow.holds Try.pinned (OpenSpec.upto huntUndoesSpec)

/-- 'foghornlaw13.HuntFinds', WHERE WHAT IT READS IS OF BULK AT MOST 1048576: true; the input reads as it did. -/
def huntFindsUptoRow : OpenClaim := { program := "ytnccnmeecngopaa", sum := "826df62f98ca5ac5f1c7b0353d6ea846efaa1adf357d591a4fd5b91a81ce0016", func := "foghorn/foghornlaw13.HuntFinds", spec := "huntFinds", inPlace := ["math.Float64bits", "math.Float64frombits"], apart := false, narrowed := true }
def HuntFindsUptoSaid : Prop := huntFindsUptoRow.holds Try.pinned (OpenSpec.upto huntFindsSpec)

/-- 'foghornlaw13.HuntPlans', WHERE WHAT IT READS IS OF BULK AT MOST 1048576: true; the input reads as it did. -/
def huntPlansUptoRow : OpenClaim := { program := "ytnccnmeecngopaa", sum := "826df62f98ca5ac5f1c7b0353d6ea846efaa1adf357d591a4fd5b91a81ce0016", func := "foghorn/foghornlaw13.HuntPlans", spec := "huntPlans", inPlace := ["math.Float64bits", "math.Float64frombits", "math.archTrunc"], unfollowed := true, recurses := true, apart := false, narrowed := true }
def HuntPlansUptoSaid : Prop := huntPlansUptoRow.holds Try.pinned (OpenSpec.upto huntPlansSpec)

/-- 'foghornlaw13.HuntSilence', WHERE WHAT IT READS IS OF BULK AT MOST 1048576: true; the input reads as it did. -/
def huntSilenceUptoRow : OpenClaim := { program := "ytnccnmeecngopaa", sum := "826df62f98ca5ac5f1c7b0353d6ea846efaa1adf357d591a4fd5b91a81ce0016", func := "foghorn/foghornlaw13.HuntSilence", spec := "huntSilence", inPlace := ["math.Float64bits", "math.Float64frombits", "math.archTrunc"], unfollowed := true, recurses := true, apart := false, narrowed := true }
def HuntSilenceUptoSaid : Prop := huntSilenceUptoRow.holds Try.pinned (OpenSpec.upto huntSilenceSpec)

/-- 'foghornlaw13.HuntBack', WHERE WHAT IT READS IS OF BULK AT MOST 1048576: true; the input reads as it did. -/
def huntBackUptoRow : OpenClaim := { program := "ytnccnmeecngopaa", sum := "826df62f98ca5ac5f1c7b0353d6ea846efaa1adf357d591a4fd5b91a81ce0016", func := "foghorn/foghornlaw13.HuntBack", spec := "huntBack", inPlace := ["math.Float64bits", "math.Float64frombits", "math.archTrunc"], unfollowed := true, recurses := true, apart := false, narrowed := true }
def HuntBackUptoSaid : Prop := huntBackUptoRow.holds Try.pinned (OpenSpec.upto huntBackSpec)

/-- 'foghornlaw13.HuntNames', WHERE WHAT IT READS IS OF BULK AT MOST 1048576: true; the input reads as it did. -/
def huntNamesUptoRow : OpenClaim := { program := "ytnccnmeecngopaa", sum := "826df62f98ca5ac5f1c7b0353d6ea846efaa1adf357d591a4fd5b91a81ce0016", func := "foghorn/foghornlaw13.HuntNames", spec := "huntNames", inPlace := ["math.Float64bits", "math.Float64frombits", "math.archTrunc"], unfollowed := true, recurses := true, apart := false, narrowed := true }
def HuntNamesUptoSaid : Prop := huntNamesUptoRow.holds Try.pinned (OpenSpec.upto huntNamesSpec)

/-- 'foghornlaw13.HuntFirst', WHERE WHAT IT READS IS OF BULK AT MOST 1048576: true; the input reads as it did. -/
def huntFirstUptoRow : OpenClaim := { program := "ytnccnmeecngopaa", sum := "826df62f98ca5ac5f1c7b0353d6ea846efaa1adf357d591a4fd5b91a81ce0016", func := "foghorn/foghornlaw13.HuntFirst", spec := "huntFirst", inPlace := ["math.Float64bits", "math.Float64frombits", "math.archTrunc", "math.RoundToEven"], unfollowed := true, recurses := true, apart := false, narrowed := true }
def HuntFirstUptoSaid : Prop := huntFirstUptoRow.holds Try.pinned (OpenSpec.upto huntFirstSpec)

/-- 'foghornlaw13.HuntApart', WHERE WHAT IT READS IS OF BULK AT MOST 1048576: true; the input reads as it did. -/
def huntApartUptoRow : OpenClaim := { program := "ytnccnmeecngopaa", sum := "826df62f98ca5ac5f1c7b0353d6ea846efaa1adf357d591a4fd5b91a81ce0016", func := "foghorn/foghornlaw13.HuntApart", spec := "huntApart", inPlace := ["math.Float64bits", "math.Float64frombits", "math.archTrunc"], unfollowed := true, recurses := true, apart := false, narrowed := true }
def HuntApartUptoSaid : Prop := huntApartUptoRow.holds Try.pinned (OpenSpec.upto huntApartSpec)

end Rows
end Go.Proofs.Ytnccnmeecngopaa
