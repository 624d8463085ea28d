/-
  No cell of these rows narrows 'for every input' (looked for: loops, veiled, ifaces, maps, wideKeys, modest, calm, conditions, laid).
  DERIVED. THE GIVEN ROWS OF THIS SEAT. 7 by the template 'for every input the law returns true; each argument reads behind the call as it read before'; 0 by the template 'total and deterministic' (their statements: YtljfpkhgijangaaTotals.lean).
  GIVEN WITH THE SEED: the statements are not yours to turn. If you find one false, say at which input.
  Laid BY PROGRAM, IN A SANDBOX (cutbox-rows.mjs): the forced cells as the released guide's own fill.sh prints them over the translation 07e73d8f43db9ebc… (all of the seat's roots in one cut). By AI agents, Wed Nov 11 2026. No macro, syntax, notation, axiom, sorry.
-/
import Derived.Test.YtljfpkhgijangaaChecked
import GoSem.Claim
import GoSem.ClaimJoined
import GoSem.ClaimMapViews
import Derived.JoinedTies
import Derived.KernelRfl
namespace Go.Proofs.Ytljfpkhgijangaa
/- THE CELL 'sum', in the pinned program and in every row, IS THE sha256 OF THE DUMP (.gsa) THAT YtljfpkhgijangaaProg.lean LOADS. Nothing in Lean hashes anything: it is a label: what it is worth is what the hold of that sum in a sandbox is worth. -/
noncomputable def Try.pinned : Pinned := { name := "ytljfpkhgijangaa", sum := "07e73d8f43db9ebcd17376fbf82537cb5ca398577dd5a73184c46c076dfb19b5", checked := Try.checked }
namespace Rows
def none {H : Type} : Left H := { results := [], args := [] }

/-- 'laws.FnParities': WHATEVER THE INPUT: true; the input reads as it did. -/
def fnParitiesSpec : ChangeSpec := { name := "fnParities", fn := fun _ => fun
  | [d] => { results := [.lit (.bool true)], args := [d] }
  | _ => none }
def fnParitiesRow : OpenClaim := { program := "ytljfpkhgijangaa", sum := "07e73d8f43db9ebcd17376fbf82537cb5ca398577dd5a73184c46c076dfb19b5", func := "loop.example/g01154/laws.FnParities", spec := "fnParities", unfollowed := true, recurses := true, apart := false }
def FnParitiesSaid : Prop := fnParitiesRow.holds Try.pinned (OpenSpec.ofChange fnParitiesSpec)

/-- ITS FALSE NEIGHBOUR: 'it returns false'. Refute it at one input. -/
def fnParitiesWrong : ChangeSpec := { name := "fnParities", fn := fun _ => fun
  | [d] => { results := [.lit (.bool false)], args := [d] }
  | _ => none }
def FnParitiesWrongFalsely : Prop := fnParitiesRow.holds Try.pinned (OpenSpec.ofChange fnParitiesWrong)

/-- 'laws.FnExactCartanPairs': WHATEVER THE INPUT: true; the input reads as it did. -/
def fnExactCartanPairsSpec : ChangeSpec := { name := "fnExactCartanPairs", fn := fun _ => fun
  | [d] => { results := [.lit (.bool true)], args := [d] }
  | _ => none }
def fnExactCartanPairsRow : OpenClaim := { program := "ytljfpkhgijangaa", sum := "07e73d8f43db9ebcd17376fbf82537cb5ca398577dd5a73184c46c076dfb19b5", func := "loop.example/g01154/laws.FnExactCartanPairs", spec := "fnExactCartanPairs", unfollowed := true, recurses := true, apart := false }
def FnExactCartanPairsSaid : Prop := fnExactCartanPairsRow.holds Try.pinned (OpenSpec.ofChange fnExactCartanPairsSpec)

/-- ITS FALSE NEIGHBOUR: 'it returns false'. Refute it at one input. -/
def fnExactCartanPairsWrong : ChangeSpec := { name := "fnExactCartanPairs", fn := fun _ => fun
  | [d] => { results := [.lit (.bool false)], args := [d] }
  | _ => none }
def FnExactCartanPairsWrongFalsely : Prop := fnExactCartanPairsRow.holds Try.pinned (OpenSpec.ofChange fnExactCartanPairsWrong)

/-- 'laws.FnExactDualOfModule': WHATEVER THE INPUT: true; the input reads as it did. -/
def fnExactDualOfModuleSpec : ChangeSpec := { name := "fnExactDualOfModule", fn := fun _ => fun
  | [d] => { results := [.lit (.bool true)], args := [d] }
  | _ => none }
def fnExactDualOfModuleRow : OpenClaim := { program := "ytljfpkhgijangaa", sum := "07e73d8f43db9ebcd17376fbf82537cb5ca398577dd5a73184c46c076dfb19b5", func := "loop.example/g01154/laws.FnExactDualOfModule", spec := "fnExactDualOfModule", unfollowed := true, recurses := true, apart := false }
def FnExactDualOfModuleSaid : Prop := fnExactDualOfModuleRow.holds Try.pinned (OpenSpec.ofChange fnExactDualOfModuleSpec)

/-- ITS FALSE NEIGHBOUR: 'it returns false'. Refute it at one input. -/
def fnExactDualOfModuleWrong : ChangeSpec := { name := "fnExactDualOfModule", fn := fun _ => fun
  | [d] => { results := [.lit (.bool false)], args := [d] }
  | _ => none }
def FnExactDualOfModuleWrongFalsely : Prop := fnExactDualOfModuleRow.holds Try.pinned (OpenSpec.ofChange fnExactDualOfModuleWrong)

/-- 'laws.FnExactSumOfModules': WHATEVER THE INPUT: true; the input reads as it did. -/
def fnExactSumOfModulesSpec : ChangeSpec := { name := "fnExactSumOfModules", fn := fun _ => fun
  | [d1, d2] => { results := [.lit (.bool true)], args := [d1, d2] }
  | _ => none }
def fnExactSumOfModulesRow : OpenClaim := { program := "ytljfpkhgijangaa", sum := "07e73d8f43db9ebcd17376fbf82537cb5ca398577dd5a73184c46c076dfb19b5", func := "loop.example/g01154/laws.FnExactSumOfModules", spec := "fnExactSumOfModules", unfollowed := true, recurses := true, apart := false }
def FnExactSumOfModulesSaid : Prop := fnExactSumOfModulesRow.holds Try.pinned (OpenSpec.ofChange fnExactSumOfModulesSpec)

/-- ITS FALSE NEIGHBOUR: 'it returns false'. Refute it at one input. -/
def fnExactSumOfModulesWrong : ChangeSpec := { name := "fnExactSumOfModules", fn := fun _ => fun
  | [d1, d2] => { results := [.lit (.bool false)], args := [d1, d2] }
  | _ => none }
def FnExactSumOfModulesWrongFalsely : Prop := fnExactSumOfModulesRow.holds Try.pinned (OpenSpec.ofChange fnExactSumOfModulesWrong)

/-- 'laws.FnExactTensorOfModules': WHATEVER THE INPUT: true; the input reads as it did. -/
def fnExactTensorOfModulesSpec : ChangeSpec := { name := "fnExactTensorOfModules", fn := fun _ => fun
  | [d1, d2] => { results := [.lit (.bool true)], args := [d1, d2] }
  | _ => none }
def fnExactTensorOfModulesRow : OpenClaim := { program := "ytljfpkhgijangaa", sum := "07e73d8f43db9ebcd17376fbf82537cb5ca398577dd5a73184c46c076dfb19b5", func := "loop.example/g01154/laws.FnExactTensorOfModules", spec := "fnExactTensorOfModules", unfollowed := true, recurses := true, apart := false }
def FnExactTensorOfModulesSaid : Prop := fnExactTensorOfModulesRow.holds Try.pinned (OpenSpec.ofChange fnExactTensorOfModulesSpec)

/-- ITS FALSE NEIGHBOUR: 'it returns false'. Refute it at one input. -/
def fnExactTensorOfModulesWrong : ChangeSpec := { name := "fnExactTensorOfModules", fn := fun _ => fun
  | [d1, d2] => { results := [.lit (.bool false)], args := [d1, d2] }
  | _ => none }
def FnExactTensorOfModulesWrongFalsely : Prop := fnExactTensorOfModulesRow.holds Try.pinned (OpenSpec.ofChange fnExactTensorOfModulesWrong)

/-- 'laws.FnExactSquaresOnModule': WHATEVER THE INPUT: true; the input reads as it did. -/
def fnExactSquaresOnModuleSpec : ChangeSpec := { name := "fnExactSquaresOnModule", fn := fun _ => fun
  | [d1, d2, d3] => { results := [.lit (.bool true)], args := [d1, d2, d3] }
  | _ => none }
def fnExactSquaresOnModuleRow : OpenClaim := { program := "ytljfpkhgijangaa", sum := "07e73d8f43db9ebcd17376fbf82537cb5ca398577dd5a73184c46c076dfb19b5", func := "loop.example/g01154/laws.FnExactSquaresOnModule", spec := "fnExactSquaresOnModule", unfollowed := true, recurses := true, apart := false }
def FnExactSquaresOnModuleSaid : Prop := fnExactSquaresOnModuleRow.holds Try.pinned (OpenSpec.ofChange fnExactSquaresOnModuleSpec)

/-- ITS FALSE NEIGHBOUR: 'it returns false'. Refute it at one input. -/
def fnExactSquaresOnModuleWrong : ChangeSpec := { name := "fnExactSquaresOnModule", fn := fun _ => fun
  | [d1, d2, d3] => { results := [.lit (.bool false)], args := [d1, d2, d3] }
  | _ => none }
def FnExactSquaresOnModuleWrongFalsely : Prop := fnExactSquaresOnModuleRow.holds Try.pinned (OpenSpec.ofChange fnExactSquaresOnModuleWrong)

/-- 'laws.FnExactKamekoDown': WHATEVER THE INPUT: true; the input reads as it did. -/
def fnExactKamekoDownSpec : ChangeSpec := { name := "fnExactKamekoDown", fn := fun _ => fun
  | [d] => { results := [.lit (.bool true)], args := [d] }
  | _ => none }
def fnExactKamekoDownRow : OpenClaim := { program := "ytljfpkhgijangaa", sum := "07e73d8f43db9ebcd17376fbf82537cb5ca398577dd5a73184c46c076dfb19b5", func := "loop.example/g01154/laws.FnExactKamekoDown", spec := "fnExactKamekoDown", unfollowed := true, recurses := true, apart := false }
def FnExactKamekoDownSaid : Prop := fnExactKamekoDownRow.holds Try.pinned (OpenSpec.ofChange fnExactKamekoDownSpec)

/-- ITS FALSE NEIGHBOUR: 'it returns false'. Refute it at one input. -/
def fnExactKamekoDownWrong : ChangeSpec := { name := "fnExactKamekoDown", fn := fun _ => fun
  | [d] => { results := [.lit (.bool false)], args := [d] }
  | _ => none }
def FnExactKamekoDownWrongFalsely : Prop := fnExactKamekoDownRow.holds Try.pinned (OpenSpec.ofChange fnExactKamekoDownWrong)

/- THE SECOND FORM. 'bulk': how many values and letters a reading holds, each counted each time it is reached (what is shared counts as often as it is met; a slice's spare places count too). A statement '..UptoSaid' is the law's where the arguments, and the package variables that the reading takes, are together of bulk at most 1048576: NARROWER than '..Said'. Prove '..Said' where nothing that the law and all that it calls make is longer than what came in: it says more and counts as full. Else prove '..UptoSaid'. A law counts once. -/
mutual
def uptoBulk {H : Type} : DataW H → Nat
  | .lit (.string bytes) => bytes.length + 1
  | .lit _ => 1
  | .nil => 1
  | .ptr d => uptoBulk d + 1
  | .slice elems spare => uptoBulkAll elems + uptoBulkAll spare + 1
  | .agg parts => uptoBulkAll parts + 1
  | .iface _ d => uptoBulk d + 1
  | .map entries => uptoBulkEntries entries + 1
  | .held _ => 1
def uptoBulkAll {H : Type} : List (DataW H) → Nat
  | [] => 0
  | d :: r => uptoBulk d + uptoBulkAll r
def uptoBulkEntries {H : Type} : List (Lit × DataW H) → Nat
  | [] => 0
  | x :: r => uptoBulkEntry x + uptoBulkEntries r
def uptoBulkEntry {H : Type} : Lit × DataW H → Nat
  | (.string bytes, d) => bytes.length + uptoBulk d + 1
  | (_, d) => uptoBulk d + 1
 end
def uptoSmall : (H : Type) → List (DataW H) → Bool := fun _ ds => decide (uptoBulkAll ds ≤ 1048576)
def OpenSpec.upto (s : _root_.Go.ChangeSpec) : _root_.Go.OpenSpec := { _root_.Go.OpenSpec.ofChange s with cond := some uptoSmall }

/-- 'laws.FnParities', WHERE WHAT IT READS IS OF BULK AT MOST 1048576: true; the input reads as it did. -/
def fnParitiesUptoRow : OpenClaim := { program := "ytljfpkhgijangaa", sum := "07e73d8f43db9ebcd17376fbf82537cb5ca398577dd5a73184c46c076dfb19b5", func := "loop.example/g01154/laws.FnParities", spec := "fnParities", unfollowed := true, recurses := true, apart := false, narrowed := true }
def FnParitiesUptoSaid : Prop := fnParitiesUptoRow.holds Try.pinned (OpenSpec.upto fnParitiesSpec)

/-- 'laws.FnExactCartanPairs', WHERE WHAT IT READS IS OF BULK AT MOST 1048576: true; the input reads as it did. -/
def fnExactCartanPairsUptoRow : OpenClaim := { program := "ytljfpkhgijangaa", sum := "07e73d8f43db9ebcd17376fbf82537cb5ca398577dd5a73184c46c076dfb19b5", func := "loop.example/g01154/laws.FnExactCartanPairs", spec := "fnExactCartanPairs", unfollowed := true, recurses := true, apart := false, narrowed := true }
def FnExactCartanPairsUptoSaid : Prop := fnExactCartanPairsUptoRow.holds Try.pinned (OpenSpec.upto fnExactCartanPairsSpec)

/-- 'laws.FnExactDualOfModule', WHERE WHAT IT READS IS OF BULK AT MOST 1048576: true; the input reads as it did. -/
def fnExactDualOfModuleUptoRow : OpenClaim := { program := "ytljfpkhgijangaa", sum := "07e73d8f43db9ebcd17376fbf82537cb5ca398577dd5a73184c46c076dfb19b5", func := "loop.example/g01154/laws.FnExactDualOfModule", spec := "fnExactDualOfModule", unfollowed := true, recurses := true, apart := false, narrowed := true }
def FnExactDualOfModuleUptoSaid : Prop := fnExactDualOfModuleUptoRow.holds Try.pinned (OpenSpec.upto fnExactDualOfModuleSpec)

/-- 'laws.FnExactSumOfModules', WHERE WHAT IT READS IS OF BULK AT MOST 1048576: true; the input reads as it did. -/
def fnExactSumOfModulesUptoRow : OpenClaim := { program := "ytljfpkhgijangaa", sum := "07e73d8f43db9ebcd17376fbf82537cb5ca398577dd5a73184c46c076dfb19b5", func := "loop.example/g01154/laws.FnExactSumOfModules", spec := "fnExactSumOfModules", unfollowed := true, recurses := true, apart := false, narrowed := true }
def FnExactSumOfModulesUptoSaid : Prop := fnExactSumOfModulesUptoRow.holds Try.pinned (OpenSpec.upto fnExactSumOfModulesSpec)

/-- 'laws.FnExactTensorOfModules', WHERE WHAT IT READS IS OF BULK AT MOST 1048576: true; the input reads as it did. -/
def fnExactTensorOfModulesUptoRow : OpenClaim := { program := "ytljfpkhgijangaa", sum := "07e73d8f43db9ebcd17376fbf82537cb5ca398577dd5a73184c46c076dfb19b5", func := "loop.example/g01154/laws.FnExactTensorOfModules", spec := "fnExactTensorOfModules", unfollowed := true, recurses := true, apart := false, narrowed := true }
def FnExactTensorOfModulesUptoSaid : Prop := fnExactTensorOfModulesUptoRow.holds Try.pinned (OpenSpec.upto fnExactTensorOfModulesSpec)

/-- 'laws.FnExactSquaresOnModule', WHERE WHAT IT READS IS OF BULK AT MOST 1048576: true; the input reads as it did. -/
def fnExactSquaresOnModuleUptoRow : OpenClaim := { program := "ytljfpkhgijangaa", sum := "07e73d8f43db9ebcd17376fbf82537cb5ca398577dd5a73184c46c076dfb19b5", func := "loop.example/g01154/laws.FnExactSquaresOnModule", spec := "fnExactSquaresOnModule", unfollowed := true, recurses := true, apart := false, narrowed := true }
def FnExactSquaresOnModuleUptoSaid : Prop := fnExactSquaresOnModuleUptoRow.holds Try.pinned (OpenSpec.upto fnExactSquaresOnModuleSpec)

/-- 'laws.FnExactKamekoDown', WHERE WHAT IT READS IS OF BULK AT MOST 1048576: true; the input reads as it did. -/
def fnExactKamekoDownUptoRow : OpenClaim := { program := "ytljfpkhgijangaa", sum := "07e73d8f43db9ebcd17376fbf82537cb5ca398577dd5a73184c46c076dfb19b5", func := "loop.example/g01154/laws.FnExactKamekoDown", spec := "fnExactKamekoDown", unfollowed := true, recurses := true, apart := false, narrowed := true }
def FnExactKamekoDownUptoSaid : Prop := fnExactKamekoDownUptoRow.holds Try.pinned (OpenSpec.upto fnExactKamekoDownSpec)

end Rows
end Go.Proofs.Ytljfpkhgijangaa
