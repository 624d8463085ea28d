/-
  No cell of these rows narrows 'for every input' (looked for: loops, veiled, ifaces, maps, wideKeys, modest, calm, conditions, laid).
  DERIVED. THE GIVEN ROWS OF THIS SEAT. 11 by the template 'for every input the law returns true; each argument reads behind the call as it read before'; 0 by the template 'total and deterministic' (their statements: YthclhbjbimncpaaTotals.lean).
  GIVEN WITH THE SEED: the statements are not yours to turn. If you find one false, say at which input.
  Laid BY PROGRAM, IN A SANDBOX (cutbox-rows.mjs): the forced cells as the released guide's own fill.sh prints them over the translation 2f1935822d0af6c3… (all of the seat's roots in one cut). By AI agents, Wed Nov 11 2026. No macro, syntax, notation, axiom, sorry.
-/
import Derived.Test.YthclhbjbimncpaaChecked
import GoSem.Claim
import GoSem.ClaimJoined
import GoSem.ClaimMapViews
import Derived.JoinedTies
import Derived.KernelRfl
namespace Go.Proofs.Ythclhbjbimncpaa
/- THE CELL 'sum', in the pinned program and in every row, IS THE sha256 OF THE DUMP (.gsa) THAT YthclhbjbimncpaaProg.lean LOADS. Nothing in Lean hashes anything: it is a label: what it is worth is what the hold of that sum in a sandbox is worth. -/
noncomputable def Try.pinned : Pinned := { name := "ythclhbjbimncpaa", sum := "2f1935822d0af6c3a0e795c06bffd951f4701e3747a87fe6183295508e76d5b1", checked := Try.checked }
namespace Rows
def none {H : Type} : Left H := { results := [], args := [] }

/-- 'laws.FnSpaceClasses': WHATEVER THE INPUT: true; the input reads as it did. -/
def fnSpaceClassesSpec : ChangeSpec := { name := "fnSpaceClasses", fn := fun _ => fun
  | [d] => { results := [.lit (.bool true)], args := [d] }
  | _ => none }
def fnSpaceClassesRow : OpenClaim := { program := "ythclhbjbimncpaa", sum := "2f1935822d0af6c3a0e795c06bffd951f4701e3747a87fe6183295508e76d5b1", func := "loop.example/g01154/laws.FnSpaceClasses", spec := "fnSpaceClasses", unfollowed := true, recurses := true, apart := false }
def FnSpaceClassesSaid : Prop := fnSpaceClassesRow.holds Try.pinned (OpenSpec.ofChange fnSpaceClassesSpec)

/-- ITS FALSE NEIGHBOUR: 'it returns false'. Refute it at one input. -/
def fnSpaceClassesWrong : ChangeSpec := { name := "fnSpaceClasses", fn := fun _ => fun
  | [d] => { results := [.lit (.bool false)], args := [d] }
  | _ => none }
def FnSpaceClassesWrongFalsely : Prop := fnSpaceClassesRow.holds Try.pinned (OpenSpec.ofChange fnSpaceClassesWrong)

/-- 'laws.FnExactProfileOfElement': WHATEVER THE INPUT: true; the input reads as it did. -/
def fnExactProfileOfElementSpec : ChangeSpec := { name := "fnExactProfileOfElement", fn := fun _ => fun
  | [d] => { results := [.lit (.bool true)], args := [d] }
  | _ => none }
def fnExactProfileOfElementRow : OpenClaim := { program := "ythclhbjbimncpaa", sum := "2f1935822d0af6c3a0e795c06bffd951f4701e3747a87fe6183295508e76d5b1", func := "loop.example/g01154/laws.FnExactProfileOfElement", spec := "fnExactProfileOfElement", unfollowed := true, recurses := true, apart := false }
def FnExactProfileOfElementSaid : Prop := fnExactProfileOfElementRow.holds Try.pinned (OpenSpec.ofChange fnExactProfileOfElementSpec)

/-- ITS FALSE NEIGHBOUR: 'it returns false'. Refute it at one input. -/
def fnExactProfileOfElementWrong : ChangeSpec := { name := "fnExactProfileOfElement", fn := fun _ => fun
  | [d] => { results := [.lit (.bool false)], args := [d] }
  | _ => none }
def FnExactProfileOfElementWrongFalsely : Prop := fnExactProfileOfElementRow.holds Try.pinned (OpenSpec.ofChange fnExactProfileOfElementWrong)

/-- 'laws.FnExactPairingOf': WHATEVER THE INPUT: true; the input reads as it did. -/
def fnExactPairingOfSpec : ChangeSpec := { name := "fnExactPairingOf", fn := fun _ => fun
  | [d1, d2] => { results := [.lit (.bool true)], args := [d1, d2] }
  | _ => none }
def fnExactPairingOfRow : OpenClaim := { program := "ythclhbjbimncpaa", sum := "2f1935822d0af6c3a0e795c06bffd951f4701e3747a87fe6183295508e76d5b1", func := "loop.example/g01154/laws.FnExactPairingOf", spec := "fnExactPairingOf", unfollowed := true, recurses := true, apart := false }
def FnExactPairingOfSaid : Prop := fnExactPairingOfRow.holds Try.pinned (OpenSpec.ofChange fnExactPairingOfSpec)

/-- ITS FALSE NEIGHBOUR: 'it returns false'. Refute it at one input. -/
def fnExactPairingOfWrong : ChangeSpec := { name := "fnExactPairingOf", fn := fun _ => fun
  | [d1, d2] => { results := [.lit (.bool false)], args := [d1, d2] }
  | _ => none }
def FnExactPairingOfWrongFalsely : Prop := fnExactPairingOfRow.holds Try.pinned (OpenSpec.ofChange fnExactPairingOfWrong)

/-- 'laws.FnExactKamekoDown': WHATEVER THE INPUT: true; the input reads as it did. -/
def fnExactKamekoDownSpec : ChangeSpec := { name := "fnExactKamekoDown", fn := fun _ => fun
  | [d] => { results := [.lit (.bool true)], args := [d] }
  | _ => none }
def fnExactKamekoDownRow : OpenClaim := { program := "ythclhbjbimncpaa", sum := "2f1935822d0af6c3a0e795c06bffd951f4701e3747a87fe6183295508e76d5b1", func := "loop.example/g01154/laws.FnExactKamekoDown", spec := "fnExactKamekoDown", unfollowed := true, recurses := true, apart := false }
def FnExactKamekoDownSaid : Prop := fnExactKamekoDownRow.holds Try.pinned (OpenSpec.ofChange fnExactKamekoDownSpec)

/-- ITS FALSE NEIGHBOUR: 'it returns false'. Refute it at one input. -/
def fnExactKamekoDownWrong : ChangeSpec := { name := "fnExactKamekoDown", fn := fun _ => fun
  | [d] => { results := [.lit (.bool false)], args := [d] }
  | _ => none }
def FnExactKamekoDownWrongFalsely : Prop := fnExactKamekoDownRow.holds Try.pinned (OpenSpec.ofChange fnExactKamekoDownWrong)

/-- 'laws.FnExactIsDecomposable': WHATEVER THE INPUT: true; the input reads as it did. -/
def fnExactIsDecomposableSpec : ChangeSpec := { name := "fnExactIsDecomposable", fn := fun _ => fun
  | [d] => { results := [.lit (.bool true)], args := [d] }
  | _ => none }
def fnExactIsDecomposableRow : OpenClaim := { program := "ythclhbjbimncpaa", sum := "2f1935822d0af6c3a0e795c06bffd951f4701e3747a87fe6183295508e76d5b1", func := "loop.example/g01154/laws.FnExactIsDecomposable", spec := "fnExactIsDecomposable", unfollowed := true, recurses := true, apart := false }
def FnExactIsDecomposableSaid : Prop := fnExactIsDecomposableRow.holds Try.pinned (OpenSpec.ofChange fnExactIsDecomposableSpec)

/-- ITS FALSE NEIGHBOUR: 'it returns false'. Refute it at one input. -/
def fnExactIsDecomposableWrong : ChangeSpec := { name := "fnExactIsDecomposable", fn := fun _ => fun
  | [d] => { results := [.lit (.bool false)], args := [d] }
  | _ => none }
def FnExactIsDecomposableWrongFalsely : Prop := fnExactIsDecomposableRow.holds Try.pinned (OpenSpec.ofChange fnExactIsDecomposableWrong)

/-- 'laws.FnExactIsModule': WHATEVER THE INPUT: true; the input reads as it did. -/
def fnExactIsModuleSpec : ChangeSpec := { name := "fnExactIsModule", fn := fun _ => fun
  | [d] => { results := [.lit (.bool true)], args := [d] }
  | _ => none }
def fnExactIsModuleRow : OpenClaim := { program := "ythclhbjbimncpaa", sum := "2f1935822d0af6c3a0e795c06bffd951f4701e3747a87fe6183295508e76d5b1", func := "loop.example/g01154/laws.FnExactIsModule", spec := "fnExactIsModule", unfollowed := true, recurses := true, apart := false }
def FnExactIsModuleSaid : Prop := fnExactIsModuleRow.holds Try.pinned (OpenSpec.ofChange fnExactIsModuleSpec)

/-- ITS FALSE NEIGHBOUR: 'it returns false'. Refute it at one input. -/
def fnExactIsModuleWrong : ChangeSpec := { name := "fnExactIsModule", fn := fun _ => fun
  | [d] => { results := [.lit (.bool false)], args := [d] }
  | _ => none }
def FnExactIsModuleWrongFalsely : Prop := fnExactIsModuleRow.holds Try.pinned (OpenSpec.ofChange fnExactIsModuleWrong)

/-- 'laws.FnExactModuleFault': WHATEVER THE INPUT: true; the input reads as it did. -/
def fnExactModuleFaultSpec : ChangeSpec := { name := "fnExactModuleFault", fn := fun _ => fun
  | [d] => { results := [.lit (.bool true)], args := [d] }
  | _ => none }
def fnExactModuleFaultRow : OpenClaim := { program := "ythclhbjbimncpaa", sum := "2f1935822d0af6c3a0e795c06bffd951f4701e3747a87fe6183295508e76d5b1", func := "loop.example/g01154/laws.FnExactModuleFault", spec := "fnExactModuleFault", unfollowed := true, recurses := true, apart := false }
def FnExactModuleFaultSaid : Prop := fnExactModuleFaultRow.holds Try.pinned (OpenSpec.ofChange fnExactModuleFaultSpec)

/-- ITS FALSE NEIGHBOUR: 'it returns false'. Refute it at one input. -/
def fnExactModuleFaultWrong : ChangeSpec := { name := "fnExactModuleFault", fn := fun _ => fun
  | [d] => { results := [.lit (.bool false)], args := [d] }
  | _ => none }
def FnExactModuleFaultWrongFalsely : Prop := fnExactModuleFaultRow.holds Try.pinned (OpenSpec.ofChange fnExactModuleFaultWrong)

/-- 'laws.FnExactCountsOfModule': WHATEVER THE INPUT: true; the input reads as it did. -/
def fnExactCountsOfModuleSpec : ChangeSpec := { name := "fnExactCountsOfModule", fn := fun _ => fun
  | [d] => { results := [.lit (.bool true)], args := [d] }
  | _ => none }
def fnExactCountsOfModuleRow : OpenClaim := { program := "ythclhbjbimncpaa", sum := "2f1935822d0af6c3a0e795c06bffd951f4701e3747a87fe6183295508e76d5b1", func := "loop.example/g01154/laws.FnExactCountsOfModule", spec := "fnExactCountsOfModule", unfollowed := true, recurses := true, apart := false }
def FnExactCountsOfModuleSaid : Prop := fnExactCountsOfModuleRow.holds Try.pinned (OpenSpec.ofChange fnExactCountsOfModuleSpec)

/-- ITS FALSE NEIGHBOUR: 'it returns false'. Refute it at one input. -/
def fnExactCountsOfModuleWrong : ChangeSpec := { name := "fnExactCountsOfModule", fn := fun _ => fun
  | [d] => { results := [.lit (.bool false)], args := [d] }
  | _ => none }
def FnExactCountsOfModuleWrongFalsely : Prop := fnExactCountsOfModuleRow.holds Try.pinned (OpenSpec.ofChange fnExactCountsOfModuleWrong)

/-- 'laws.FnExactSquareOnModule': WHATEVER THE INPUT: true; the input reads as it did. -/
def fnExactSquareOnModuleSpec : ChangeSpec := { name := "fnExactSquareOnModule", fn := fun _ => fun
  | [d1, d2, d3] => { results := [.lit (.bool true)], args := [d1, d2, d3] }
  | _ => none }
def fnExactSquareOnModuleRow : OpenClaim := { program := "ythclhbjbimncpaa", sum := "2f1935822d0af6c3a0e795c06bffd951f4701e3747a87fe6183295508e76d5b1", func := "loop.example/g01154/laws.FnExactSquareOnModule", spec := "fnExactSquareOnModule", unfollowed := true, recurses := true, apart := false }
def FnExactSquareOnModuleSaid : Prop := fnExactSquareOnModuleRow.holds Try.pinned (OpenSpec.ofChange fnExactSquareOnModuleSpec)

/-- ITS FALSE NEIGHBOUR: 'it returns false'. Refute it at one input. -/
def fnExactSquareOnModuleWrong : ChangeSpec := { name := "fnExactSquareOnModule", fn := fun _ => fun
  | [d1, d2, d3] => { results := [.lit (.bool false)], args := [d1, d2, d3] }
  | _ => none }
def FnExactSquareOnModuleWrongFalsely : Prop := fnExactSquareOnModuleRow.holds Try.pinned (OpenSpec.ofChange fnExactSquareOnModuleWrong)

/-- 'laws.FnExactSuspendModule': WHATEVER THE INPUT: true; the input reads as it did. -/
def fnExactSuspendModuleSpec : ChangeSpec := { name := "fnExactSuspendModule", fn := fun _ => fun
  | [d1, d2] => { results := [.lit (.bool true)], args := [d1, d2] }
  | _ => none }
def fnExactSuspendModuleRow : OpenClaim := { program := "ythclhbjbimncpaa", sum := "2f1935822d0af6c3a0e795c06bffd951f4701e3747a87fe6183295508e76d5b1", func := "loop.example/g01154/laws.FnExactSuspendModule", spec := "fnExactSuspendModule", unfollowed := true, recurses := true, apart := false }
def FnExactSuspendModuleSaid : Prop := fnExactSuspendModuleRow.holds Try.pinned (OpenSpec.ofChange fnExactSuspendModuleSpec)

/-- ITS FALSE NEIGHBOUR: 'it returns false'. Refute it at one input. -/
def fnExactSuspendModuleWrong : ChangeSpec := { name := "fnExactSuspendModule", fn := fun _ => fun
  | [d1, d2] => { results := [.lit (.bool false)], args := [d1, d2] }
  | _ => none }
def FnExactSuspendModuleWrongFalsely : Prop := fnExactSuspendModuleRow.holds Try.pinned (OpenSpec.ofChange fnExactSuspendModuleWrong)

/-- 'laws.FnExactDualOfModule': WHATEVER THE INPUT: true; the input reads as it did. -/
def fnExactDualOfModuleSpec : ChangeSpec := { name := "fnExactDualOfModule", fn := fun _ => fun
  | [d] => { results := [.lit (.bool true)], args := [d] }
  | _ => none }
def fnExactDualOfModuleRow : OpenClaim := { program := "ythclhbjbimncpaa", sum := "2f1935822d0af6c3a0e795c06bffd951f4701e3747a87fe6183295508e76d5b1", func := "loop.example/g01154/laws.FnExactDualOfModule", spec := "fnExactDualOfModule", unfollowed := true, recurses := true, apart := false }
def FnExactDualOfModuleSaid : Prop := fnExactDualOfModuleRow.holds Try.pinned (OpenSpec.ofChange fnExactDualOfModuleSpec)

/-- ITS FALSE NEIGHBOUR: 'it returns false'. Refute it at one input. -/
def fnExactDualOfModuleWrong : ChangeSpec := { name := "fnExactDualOfModule", fn := fun _ => fun
  | [d] => { results := [.lit (.bool false)], args := [d] }
  | _ => none }
def FnExactDualOfModuleWrongFalsely : Prop := fnExactDualOfModuleRow.holds Try.pinned (OpenSpec.ofChange fnExactDualOfModuleWrong)

/- THE SECOND FORM. 'bulk': how many values and letters a reading holds, each counted each time it is reached (what is shared counts as often as it is met; a slice's spare places count too). A statement '..UptoSaid' is the law's where the arguments, and the package variables that the reading takes, are together of bulk at most 1048576: NARROWER than '..Said'. Prove '..Said' where nothing that the law and all that it calls make is longer than what came in: it says more and counts as full. Else prove '..UptoSaid'. A law counts once. -/
mutual
def uptoBulk {H : Type} : DataW H → Nat
  | .lit (.string bytes) => bytes.length + 1
  | .lit _ => 1
  | .nil => 1
  | .ptr d => uptoBulk d + 1
  | .slice elems spare => uptoBulkAll elems + uptoBulkAll spare + 1
  | .agg parts => uptoBulkAll parts + 1
  | .iface _ d => uptoBulk d + 1
  | .map entries => uptoBulkEntries entries + 1
  | .held _ => 1
def uptoBulkAll {H : Type} : List (DataW H) → Nat
  | [] => 0
  | d :: r => uptoBulk d + uptoBulkAll r
def uptoBulkEntries {H : Type} : List (Lit × DataW H) → Nat
  | [] => 0
  | x :: r => uptoBulkEntry x + uptoBulkEntries r
def uptoBulkEntry {H : Type} : Lit × DataW H → Nat
  | (.string bytes, d) => bytes.length + uptoBulk d + 1
  | (_, d) => uptoBulk d + 1
 end
def uptoSmall : (H : Type) → List (DataW H) → Bool := fun _ ds => decide (uptoBulkAll ds ≤ 1048576)
def OpenSpec.upto (s : _root_.Go.ChangeSpec) : _root_.Go.OpenSpec := { _root_.Go.OpenSpec.ofChange s with cond := some uptoSmall }

/-- 'laws.FnSpaceClasses', WHERE WHAT IT READS IS OF BULK AT MOST 1048576: true; the input reads as it did. -/
def fnSpaceClassesUptoRow : OpenClaim := { program := "ythclhbjbimncpaa", sum := "2f1935822d0af6c3a0e795c06bffd951f4701e3747a87fe6183295508e76d5b1", func := "loop.example/g01154/laws.FnSpaceClasses", spec := "fnSpaceClasses", unfollowed := true, recurses := true, apart := false, narrowed := true }
def FnSpaceClassesUptoSaid : Prop := fnSpaceClassesUptoRow.holds Try.pinned (OpenSpec.upto fnSpaceClassesSpec)

/-- 'laws.FnExactProfileOfElement', WHERE WHAT IT READS IS OF BULK AT MOST 1048576: true; the input reads as it did. -/
def fnExactProfileOfElementUptoRow : OpenClaim := { program := "ythclhbjbimncpaa", sum := "2f1935822d0af6c3a0e795c06bffd951f4701e3747a87fe6183295508e76d5b1", func := "loop.example/g01154/laws.FnExactProfileOfElement", spec := "fnExactProfileOfElement", unfollowed := true, recurses := true, apart := false, narrowed := true }
def FnExactProfileOfElementUptoSaid : Prop := fnExactProfileOfElementUptoRow.holds Try.pinned (OpenSpec.upto fnExactProfileOfElementSpec)

/-- 'laws.FnExactPairingOf', WHERE WHAT IT READS IS OF BULK AT MOST 1048576: true; the input reads as it did. -/
def fnExactPairingOfUptoRow : OpenClaim := { program := "ythclhbjbimncpaa", sum := "2f1935822d0af6c3a0e795c06bffd951f4701e3747a87fe6183295508e76d5b1", func := "loop.example/g01154/laws.FnExactPairingOf", spec := "fnExactPairingOf", unfollowed := true, recurses := true, apart := false, narrowed := true }
def FnExactPairingOfUptoSaid : Prop := fnExactPairingOfUptoRow.holds Try.pinned (OpenSpec.upto fnExactPairingOfSpec)

/-- 'laws.FnExactKamekoDown', WHERE WHAT IT READS IS OF BULK AT MOST 1048576: true; the input reads as it did. -/
def fnExactKamekoDownUptoRow : OpenClaim := { program := "ythclhbjbimncpaa", sum := "2f1935822d0af6c3a0e795c06bffd951f4701e3747a87fe6183295508e76d5b1", func := "loop.example/g01154/laws.FnExactKamekoDown", spec := "fnExactKamekoDown", unfollowed := true, recurses := true, apart := false, narrowed := true }
def FnExactKamekoDownUptoSaid : Prop := fnExactKamekoDownUptoRow.holds Try.pinned (OpenSpec.upto fnExactKamekoDownSpec)

/-- 'laws.FnExactIsDecomposable', WHERE WHAT IT READS IS OF BULK AT MOST 1048576: true; the input reads as it did. -/
def fnExactIsDecomposableUptoRow : OpenClaim := { program := "ythclhbjbimncpaa", sum := "2f1935822d0af6c3a0e795c06bffd951f4701e3747a87fe6183295508e76d5b1", func := "loop.example/g01154/laws.FnExactIsDecomposable", spec := "fnExactIsDecomposable", unfollowed := true, recurses := true, apart := false, narrowed := true }
def FnExactIsDecomposableUptoSaid : Prop := fnExactIsDecomposableUptoRow.holds Try.pinned (OpenSpec.upto fnExactIsDecomposableSpec)

/-- 'laws.FnExactIsModule', WHERE WHAT IT READS IS OF BULK AT MOST 1048576: true; the input reads as it did. -/
def fnExactIsModuleUptoRow : OpenClaim := { program := "ythclhbjbimncpaa", sum := "2f1935822d0af6c3a0e795c06bffd951f4701e3747a87fe6183295508e76d5b1", func := "loop.example/g01154/laws.FnExactIsModule", spec := "fnExactIsModule", unfollowed := true, recurses := true, apart := false, narrowed := true }
def FnExactIsModuleUptoSaid : Prop := fnExactIsModuleUptoRow.holds Try.pinned (OpenSpec.upto fnExactIsModuleSpec)

/-- 'laws.FnExactModuleFault', WHERE WHAT IT READS IS OF BULK AT MOST 1048576: true; the input reads as it did. -/
def fnExactModuleFaultUptoRow : OpenClaim := { program := "ythclhbjbimncpaa", sum := "2f1935822d0af6c3a0e795c06bffd951f4701e3747a87fe6183295508e76d5b1", func := "loop.example/g01154/laws.FnExactModuleFault", spec := "fnExactModuleFault", unfollowed := true, recurses := true, apart := false, narrowed := true }
def FnExactModuleFaultUptoSaid : Prop := fnExactModuleFaultUptoRow.holds Try.pinned (OpenSpec.upto fnExactModuleFaultSpec)

/-- 'laws.FnExactCountsOfModule', WHERE WHAT IT READS IS OF BULK AT MOST 1048576: true; the input reads as it did. -/
def fnExactCountsOfModuleUptoRow : OpenClaim := { program := "ythclhbjbimncpaa", sum := "2f1935822d0af6c3a0e795c06bffd951f4701e3747a87fe6183295508e76d5b1", func := "loop.example/g01154/laws.FnExactCountsOfModule", spec := "fnExactCountsOfModule", unfollowed := true, recurses := true, apart := false, narrowed := true }
def FnExactCountsOfModuleUptoSaid : Prop := fnExactCountsOfModuleUptoRow.holds Try.pinned (OpenSpec.upto fnExactCountsOfModuleSpec)

/-- 'laws.FnExactSquareOnModule', WHERE WHAT IT READS IS OF BULK AT MOST 1048576: true; the input reads as it did. -/
def fnExactSquareOnModuleUptoRow : OpenClaim := { program := "ythclhbjbimncpaa", sum := "2f1935822d0af6c3a0e795c06bffd951f4701e3747a87fe6183295508e76d5b1", func := "loop.example/g01154/laws.FnExactSquareOnModule", spec := "fnExactSquareOnModule", unfollowed := true, recurses := true, apart := false, narrowed := true }
def FnExactSquareOnModuleUptoSaid : Prop := fnExactSquareOnModuleUptoRow.holds Try.pinned (OpenSpec.upto fnExactSquareOnModuleSpec)

/-- 'laws.FnExactSuspendModule', WHERE WHAT IT READS IS OF BULK AT MOST 1048576: true; the input reads as it did. -/
def fnExactSuspendModuleUptoRow : OpenClaim := { program := "ythclhbjbimncpaa", sum := "2f1935822d0af6c3a0e795c06bffd951f4701e3747a87fe6183295508e76d5b1", func := "loop.example/g01154/laws.FnExactSuspendModule", spec := "fnExactSuspendModule", unfollowed := true, recurses := true, apart := false, narrowed := true }
def FnExactSuspendModuleUptoSaid : Prop := fnExactSuspendModuleUptoRow.holds Try.pinned (OpenSpec.upto fnExactSuspendModuleSpec)

/-- 'laws.FnExactDualOfModule', WHERE WHAT IT READS IS OF BULK AT MOST 1048576: true; the input reads as it did. -/
def fnExactDualOfModuleUptoRow : OpenClaim := { program := "ythclhbjbimncpaa", sum := "2f1935822d0af6c3a0e795c06bffd951f4701e3747a87fe6183295508e76d5b1", func := "loop.example/g01154/laws.FnExactDualOfModule", spec := "fnExactDualOfModule", unfollowed := true, recurses := true, apart := false, narrowed := true }
def FnExactDualOfModuleUptoSaid : Prop := fnExactDualOfModuleUptoRow.holds Try.pinned (OpenSpec.upto fnExactDualOfModuleSpec)

end Rows
end Go.Proofs.Ythclhbjbimncpaa
