/-
  No cell of these rows narrows 'for every input' (looked for: loops, veiled, ifaces, maps, wideKeys, modest, calm, conditions, laid).
  DERIVED. THE GIVEN ROWS OF THIS SEAT. 12 by the template 'for every input the law returns true; each argument reads behind the call as it read before'; 0 by the template 'total and deterministic' (their statements: YtlakdlnfijkaeaaTotals.lean).
  GIVEN WITH THE SEED: the statements are not yours to turn. If you find one false, say at which input.
  Laid BY PROGRAM, IN A SANDBOX (cutbox-rows.mjs): the forced cells as the released guide's own fill.sh prints them over the translation 57824af9707f7b3f… (all of the seat's roots in one cut). By AI agents, Wed Nov 11 2026. No macro, syntax, notation, axiom, sorry.
-/
import Derived.Test.YtlakdlnfijkaeaaChecked
import GoSem.Claim
import GoSem.ClaimJoined
import GoSem.ClaimMapViews
import Derived.JoinedTies
import Derived.KernelRfl
namespace Go.Proofs.Ytlakdlnfijkaeaa
/- THE CELL 'sum', in the pinned program and in every row, IS THE sha256 OF THE DUMP (.gsa) THAT YtlakdlnfijkaeaaProg.lean LOADS. Nothing in Lean hashes anything: it is a label: what it is worth is what the hold of that sum in a sandbox is worth. -/
noncomputable def Try.pinned : Pinned := { name := "ytlakdlnfijkaeaa", sum := "57824af9707f7b3f1020ff3a7fc78295bf52fd6f93da0f7fb3e53e3a56a6b0fc", checked := Try.checked }
namespace Rows
def none {H : Type} : Left H := { results := [], args := [] }

/-- 'laws.FnExactIsBoundary': WHATEVER THE INPUT: true; the input reads as it did. -/
def fnExactIsBoundarySpec : ChangeSpec := { name := "fnExactIsBoundary", fn := fun _ => fun
  | [d] => { results := [.lit (.bool true)], args := [d] }
  | _ => none }
def fnExactIsBoundaryRow : OpenClaim := { program := "ytlakdlnfijkaeaa", sum := "57824af9707f7b3f1020ff3a7fc78295bf52fd6f93da0f7fb3e53e3a56a6b0fc", func := "loop.example/g01154/laws.FnExactIsBoundary", spec := "fnExactIsBoundary", apart := false }
def FnExactIsBoundarySaid : Prop := fnExactIsBoundaryRow.holds Try.pinned (OpenSpec.ofChange fnExactIsBoundarySpec)

/-- ITS FALSE NEIGHBOUR: 'it returns false'. Refute it at one input. -/
def fnExactIsBoundaryWrong : ChangeSpec := { name := "fnExactIsBoundary", fn := fun _ => fun
  | [d] => { results := [.lit (.bool false)], args := [d] }
  | _ => none }
def FnExactIsBoundaryWrongFalsely : Prop := fnExactIsBoundaryRow.holds Try.pinned (OpenSpec.ofChange fnExactIsBoundaryWrong)

/-- 'laws.FnExactWuClasses': WHATEVER THE INPUT: true; the input reads as it did. -/
def fnExactWuClassesSpec : ChangeSpec := { name := "fnExactWuClasses", fn := fun _ => fun
  | [d] => { results := [.lit (.bool true)], args := [d] }
  | _ => none }
def fnExactWuClassesRow : OpenClaim := { program := "ytlakdlnfijkaeaa", sum := "57824af9707f7b3f1020ff3a7fc78295bf52fd6f93da0f7fb3e53e3a56a6b0fc", func := "loop.example/g01154/laws.FnExactWuClasses", spec := "fnExactWuClasses", apart := false }
def FnExactWuClassesSaid : Prop := fnExactWuClassesRow.holds Try.pinned (OpenSpec.ofChange fnExactWuClassesSpec)

/-- ITS FALSE NEIGHBOUR: 'it returns false'. Refute it at one input. -/
def fnExactWuClassesWrong : ChangeSpec := { name := "fnExactWuClasses", fn := fun _ => fun
  | [d] => { results := [.lit (.bool false)], args := [d] }
  | _ => none }
def FnExactWuClassesWrongFalsely : Prop := fnExactWuClassesRow.holds Try.pinned (OpenSpec.ofChange fnExactWuClassesWrong)

/-- 'laws.FnExactWhitneyClasses': WHATEVER THE INPUT: true; the input reads as it did. -/
def fnExactWhitneyClassesSpec : ChangeSpec := { name := "fnExactWhitneyClasses", fn := fun _ => fun
  | [d] => { results := [.lit (.bool true)], args := [d] }
  | _ => none }
def fnExactWhitneyClassesRow : OpenClaim := { program := "ytlakdlnfijkaeaa", sum := "57824af9707f7b3f1020ff3a7fc78295bf52fd6f93da0f7fb3e53e3a56a6b0fc", func := "loop.example/g01154/laws.FnExactWhitneyClasses", spec := "fnExactWhitneyClasses", apart := false }
def FnExactWhitneyClassesSaid : Prop := fnExactWhitneyClassesRow.holds Try.pinned (OpenSpec.ofChange fnExactWhitneyClassesSpec)

/-- ITS FALSE NEIGHBOUR: 'it returns false'. Refute it at one input. -/
def fnExactWhitneyClassesWrong : ChangeSpec := { name := "fnExactWhitneyClasses", fn := fun _ => fun
  | [d] => { results := [.lit (.bool false)], args := [d] }
  | _ => none }
def FnExactWhitneyClassesWrongFalsely : Prop := fnExactWhitneyClassesRow.holds Try.pinned (OpenSpec.ofChange fnExactWhitneyClassesWrong)

/-- 'laws.FnExactImmersionGap': WHATEVER THE INPUT: true; the input reads as it did. -/
def fnExactImmersionGapSpec : ChangeSpec := { name := "fnExactImmersionGap", fn := fun _ => fun
  | [d] => { results := [.lit (.bool true)], args := [d] }
  | _ => none }
def fnExactImmersionGapRow : OpenClaim := { program := "ytlakdlnfijkaeaa", sum := "57824af9707f7b3f1020ff3a7fc78295bf52fd6f93da0f7fb3e53e3a56a6b0fc", func := "loop.example/g01154/laws.FnExactImmersionGap", spec := "fnExactImmersionGap", apart := false }
def FnExactImmersionGapSaid : Prop := fnExactImmersionGapRow.holds Try.pinned (OpenSpec.ofChange fnExactImmersionGapSpec)

/-- ITS FALSE NEIGHBOUR: 'it returns false'. Refute it at one input. -/
def fnExactImmersionGapWrong : ChangeSpec := { name := "fnExactImmersionGap", fn := fun _ => fun
  | [d] => { results := [.lit (.bool false)], args := [d] }
  | _ => none }
def FnExactImmersionGapWrongFalsely : Prop := fnExactImmersionGapRow.holds Try.pinned (OpenSpec.ofChange fnExactImmersionGapWrong)

/-- 'laws.FnExactWuFormula': WHATEVER THE INPUT: true; the input reads as it did. -/
def fnExactWuFormulaSpec : ChangeSpec := { name := "fnExactWuFormula", fn := fun _ => fun
  | [d1, d2] => { results := [.lit (.bool true)], args := [d1, d2] }
  | _ => none }
def fnExactWuFormulaRow : OpenClaim := { program := "ytlakdlnfijkaeaa", sum := "57824af9707f7b3f1020ff3a7fc78295bf52fd6f93da0f7fb3e53e3a56a6b0fc", func := "loop.example/g01154/laws.FnExactWuFormula", spec := "fnExactWuFormula", apart := false }
def FnExactWuFormulaSaid : Prop := fnExactWuFormulaRow.holds Try.pinned (OpenSpec.ofChange fnExactWuFormulaSpec)

/-- ITS FALSE NEIGHBOUR: 'it returns false'. Refute it at one input. -/
def fnExactWuFormulaWrong : ChangeSpec := { name := "fnExactWuFormula", fn := fun _ => fun
  | [d1, d2] => { results := [.lit (.bool false)], args := [d1, d2] }
  | _ => none }
def FnExactWuFormulaWrongFalsely : Prop := fnExactWuFormulaRow.holds Try.pinned (OpenSpec.ofChange fnExactWuFormulaWrong)

/-- 'laws.FnExactWhitneyNumber': WHATEVER THE INPUT: true; the input reads as it did. -/
def fnExactWhitneyNumberSpec : ChangeSpec := { name := "fnExactWhitneyNumber", fn := fun _ => fun
  | [d1, d2] => { results := [.lit (.bool true)], args := [d1, d2] }
  | _ => none }
def fnExactWhitneyNumberRow : OpenClaim := { program := "ytlakdlnfijkaeaa", sum := "57824af9707f7b3f1020ff3a7fc78295bf52fd6f93da0f7fb3e53e3a56a6b0fc", func := "loop.example/g01154/laws.FnExactWhitneyNumber", spec := "fnExactWhitneyNumber", unfollowed := true, recurses := true, apart := false }
def FnExactWhitneyNumberSaid : Prop := fnExactWhitneyNumberRow.holds Try.pinned (OpenSpec.ofChange fnExactWhitneyNumberSpec)

/-- ITS FALSE NEIGHBOUR: 'it returns false'. Refute it at one input. -/
def fnExactWhitneyNumberWrong : ChangeSpec := { name := "fnExactWhitneyNumber", fn := fun _ => fun
  | [d1, d2] => { results := [.lit (.bool false)], args := [d1, d2] }
  | _ => none }
def FnExactWhitneyNumberWrongFalsely : Prop := fnExactWhitneyNumberRow.holds Try.pinned (OpenSpec.ofChange fnExactWhitneyNumberWrong)

/-- 'laws.FnExactDualClasses': WHATEVER THE INPUT: true; the input reads as it did. -/
def fnExactDualClassesSpec : ChangeSpec := { name := "fnExactDualClasses", fn := fun _ => fun
  | [d] => { results := [.lit (.bool true)], args := [d] }
  | _ => none }
def fnExactDualClassesRow : OpenClaim := { program := "ytlakdlnfijkaeaa", sum := "57824af9707f7b3f1020ff3a7fc78295bf52fd6f93da0f7fb3e53e3a56a6b0fc", func := "loop.example/g01154/laws.FnExactDualClasses", spec := "fnExactDualClasses", apart := false }
def FnExactDualClassesSaid : Prop := fnExactDualClassesRow.holds Try.pinned (OpenSpec.ofChange fnExactDualClassesSpec)

/-- ITS FALSE NEIGHBOUR: 'it returns false'. Refute it at one input. -/
def fnExactDualClassesWrong : ChangeSpec := { name := "fnExactDualClasses", fn := fun _ => fun
  | [d] => { results := [.lit (.bool false)], args := [d] }
  | _ => none }
def FnExactDualClassesWrongFalsely : Prop := fnExactDualClassesRow.holds Try.pinned (OpenSpec.ofChange fnExactDualClassesWrong)

/-- 'laws.FnExactCellModule': WHATEVER THE INPUT: true; the input reads as it did. -/
def fnExactCellModuleSpec : ChangeSpec := { name := "fnExactCellModule", fn := fun _ => fun
  | [d] => { results := [.lit (.bool true)], args := [d] }
  | _ => none }
def fnExactCellModuleRow : OpenClaim := { program := "ytlakdlnfijkaeaa", sum := "57824af9707f7b3f1020ff3a7fc78295bf52fd6f93da0f7fb3e53e3a56a6b0fc", func := "loop.example/g01154/laws.FnExactCellModule", spec := "fnExactCellModule", apart := false }
def FnExactCellModuleSaid : Prop := fnExactCellModuleRow.holds Try.pinned (OpenSpec.ofChange fnExactCellModuleSpec)

/-- ITS FALSE NEIGHBOUR: 'it returns false'. Refute it at one input. -/
def fnExactCellModuleWrong : ChangeSpec := { name := "fnExactCellModule", fn := fun _ => fun
  | [d] => { results := [.lit (.bool false)], args := [d] }
  | _ => none }
def FnExactCellModuleWrongFalsely : Prop := fnExactCellModuleRow.holds Try.pinned (OpenSpec.ofChange fnExactCellModuleWrong)

/-- 'laws.FnExactSphereModule': WHATEVER THE INPUT: true; the input reads as it did. -/
def fnExactSphereModuleSpec : ChangeSpec := { name := "fnExactSphereModule", fn := fun _ => fun
  | [d] => { results := [.lit (.bool true)], args := [d] }
  | _ => none }
def fnExactSphereModuleRow : OpenClaim := { program := "ytlakdlnfijkaeaa", sum := "57824af9707f7b3f1020ff3a7fc78295bf52fd6f93da0f7fb3e53e3a56a6b0fc", func := "loop.example/g01154/laws.FnExactSphereModule", spec := "fnExactSphereModule", apart := false }
def FnExactSphereModuleSaid : Prop := fnExactSphereModuleRow.holds Try.pinned (OpenSpec.ofChange fnExactSphereModuleSpec)

/-- ITS FALSE NEIGHBOUR: 'it returns false'. Refute it at one input. -/
def fnExactSphereModuleWrong : ChangeSpec := { name := "fnExactSphereModule", fn := fun _ => fun
  | [d] => { results := [.lit (.bool false)], args := [d] }
  | _ => none }
def FnExactSphereModuleWrongFalsely : Prop := fnExactSphereModuleRow.holds Try.pinned (OpenSpec.ofChange fnExactSphereModuleWrong)

/-- 'laws.FnExactWeightsOf': WHATEVER THE INPUT: true; the input reads as it did. -/
def fnExactWeightsOfSpec : ChangeSpec := { name := "fnExactWeightsOf", fn := fun _ => fun
  | [d] => { results := [.lit (.bool true)], args := [d] }
  | _ => none }
def fnExactWeightsOfRow : OpenClaim := { program := "ytlakdlnfijkaeaa", sum := "57824af9707f7b3f1020ff3a7fc78295bf52fd6f93da0f7fb3e53e3a56a6b0fc", func := "loop.example/g01154/laws.FnExactWeightsOf", spec := "fnExactWeightsOf", unfollowed := true, recurses := true, apart := false }
def FnExactWeightsOfSaid : Prop := fnExactWeightsOfRow.holds Try.pinned (OpenSpec.ofChange fnExactWeightsOfSpec)

/-- ITS FALSE NEIGHBOUR: 'it returns false'. Refute it at one input. -/
def fnExactWeightsOfWrong : ChangeSpec := { name := "fnExactWeightsOf", fn := fun _ => fun
  | [d] => { results := [.lit (.bool false)], args := [d] }
  | _ => none }
def FnExactWeightsOfWrongFalsely : Prop := fnExactWeightsOfRow.holds Try.pinned (OpenSpec.ofChange fnExactWeightsOfWrong)

/-- 'laws.FnExactProjectiveModule': WHATEVER THE INPUT: true; the input reads as it did. -/
def fnExactProjectiveModuleSpec : ChangeSpec := { name := "fnExactProjectiveModule", fn := fun _ => fun
  | [d1, d2] => { results := [.lit (.bool true)], args := [d1, d2] }
  | _ => none }
def fnExactProjectiveModuleRow : OpenClaim := { program := "ytlakdlnfijkaeaa", sum := "57824af9707f7b3f1020ff3a7fc78295bf52fd6f93da0f7fb3e53e3a56a6b0fc", func := "loop.example/g01154/laws.FnExactProjectiveModule", spec := "fnExactProjectiveModule", unfollowed := true, recurses := true, apart := false }
def FnExactProjectiveModuleSaid : Prop := fnExactProjectiveModuleRow.holds Try.pinned (OpenSpec.ofChange fnExactProjectiveModuleSpec)

/-- ITS FALSE NEIGHBOUR: 'it returns false'. Refute it at one input. -/
def fnExactProjectiveModuleWrong : ChangeSpec := { name := "fnExactProjectiveModule", fn := fun _ => fun
  | [d1, d2] => { results := [.lit (.bool false)], args := [d1, d2] }
  | _ => none }
def FnExactProjectiveModuleWrongFalsely : Prop := fnExactProjectiveModuleRow.holds Try.pinned (OpenSpec.ofChange fnExactProjectiveModuleWrong)

/-- 'laws.FnExactSpikeMonomials': WHATEVER THE INPUT: true; the input reads as it did. -/
def fnExactSpikeMonomialsSpec : ChangeSpec := { name := "fnExactSpikeMonomials", fn := fun _ => fun
  | [d1, d2] => { results := [.lit (.bool true)], args := [d1, d2] }
  | _ => none }
def fnExactSpikeMonomialsRow : OpenClaim := { program := "ytlakdlnfijkaeaa", sum := "57824af9707f7b3f1020ff3a7fc78295bf52fd6f93da0f7fb3e53e3a56a6b0fc", func := "loop.example/g01154/laws.FnExactSpikeMonomials", spec := "fnExactSpikeMonomials", unfollowed := true, recurses := true, apart := false }
def FnExactSpikeMonomialsSaid : Prop := fnExactSpikeMonomialsRow.holds Try.pinned (OpenSpec.ofChange fnExactSpikeMonomialsSpec)

/-- ITS FALSE NEIGHBOUR: 'it returns false'. Refute it at one input. -/
def fnExactSpikeMonomialsWrong : ChangeSpec := { name := "fnExactSpikeMonomials", fn := fun _ => fun
  | [d1, d2] => { results := [.lit (.bool false)], args := [d1, d2] }
  | _ => none }
def FnExactSpikeMonomialsWrongFalsely : Prop := fnExactSpikeMonomialsRow.holds Try.pinned (OpenSpec.ofChange fnExactSpikeMonomialsWrong)

/- THE SECOND FORM. 'bulk': how many values and letters a reading holds, each counted each time it is reached (what is shared counts as often as it is met; a slice's spare places count too). A statement '..UptoSaid' is the law's where the arguments, and the package variables that the reading takes, are together of bulk at most 1048576: NARROWER than '..Said'. Prove '..Said' where nothing that the law and all that it calls make is longer than what came in: it says more and counts as full. Else prove '..UptoSaid'. A law counts once. -/
mutual
def uptoBulk {H : Type} : DataW H → Nat
  | .lit (.string bytes) => bytes.length + 1
  | .lit _ => 1
  | .nil => 1
  | .ptr d => uptoBulk d + 1
  | .slice elems spare => uptoBulkAll elems + uptoBulkAll spare + 1
  | .agg parts => uptoBulkAll parts + 1
  | .iface _ d => uptoBulk d + 1
  | .map entries => uptoBulkEntries entries + 1
  | .held _ => 1
def uptoBulkAll {H : Type} : List (DataW H) → Nat
  | [] => 0
  | d :: r => uptoBulk d + uptoBulkAll r
def uptoBulkEntries {H : Type} : List (Lit × DataW H) → Nat
  | [] => 0
  | x :: r => uptoBulkEntry x + uptoBulkEntries r
def uptoBulkEntry {H : Type} : Lit × DataW H → Nat
  | (.string bytes, d) => bytes.length + uptoBulk d + 1
  | (_, d) => uptoBulk d + 1
 end
def uptoSmall : (H : Type) → List (DataW H) → Bool := fun _ ds => decide (uptoBulkAll ds ≤ 1048576)
def OpenSpec.upto (s : _root_.Go.ChangeSpec) : _root_.Go.OpenSpec := { _root_.Go.OpenSpec.ofChange s with cond := some uptoSmall }

/-- 'laws.FnExactIsBoundary', WHERE WHAT IT READS IS OF BULK AT MOST 1048576: true; the input reads as it did. -/
def fnExactIsBoundaryUptoRow : OpenClaim := { program := "ytlakdlnfijkaeaa", sum := "57824af9707f7b3f1020ff3a7fc78295bf52fd6f93da0f7fb3e53e3a56a6b0fc", func := "loop.example/g01154/laws.FnExactIsBoundary", spec := "fnExactIsBoundary", apart := false, narrowed := true }
def FnExactIsBoundaryUptoSaid : Prop := fnExactIsBoundaryUptoRow.holds Try.pinned (OpenSpec.upto fnExactIsBoundarySpec)

/-- 'laws.FnExactWuClasses', WHERE WHAT IT READS IS OF BULK AT MOST 1048576: true; the input reads as it did. -/
def fnExactWuClassesUptoRow : OpenClaim := { program := "ytlakdlnfijkaeaa", sum := "57824af9707f7b3f1020ff3a7fc78295bf52fd6f93da0f7fb3e53e3a56a6b0fc", func := "loop.example/g01154/laws.FnExactWuClasses", spec := "fnExactWuClasses", apart := false, narrowed := true }
def FnExactWuClassesUptoSaid : Prop := fnExactWuClassesUptoRow.holds Try.pinned (OpenSpec.upto fnExactWuClassesSpec)

/-- 'laws.FnExactWhitneyClasses', WHERE WHAT IT READS IS OF BULK AT MOST 1048576: true; the input reads as it did. -/
def fnExactWhitneyClassesUptoRow : OpenClaim := { program := "ytlakdlnfijkaeaa", sum := "57824af9707f7b3f1020ff3a7fc78295bf52fd6f93da0f7fb3e53e3a56a6b0fc", func := "loop.example/g01154/laws.FnExactWhitneyClasses", spec := "fnExactWhitneyClasses", apart := false, narrowed := true }
def FnExactWhitneyClassesUptoSaid : Prop := fnExactWhitneyClassesUptoRow.holds Try.pinned (OpenSpec.upto fnExactWhitneyClassesSpec)

/-- 'laws.FnExactImmersionGap', WHERE WHAT IT READS IS OF BULK AT MOST 1048576: true; the input reads as it did. -/
def fnExactImmersionGapUptoRow : OpenClaim := { program := "ytlakdlnfijkaeaa", sum := "57824af9707f7b3f1020ff3a7fc78295bf52fd6f93da0f7fb3e53e3a56a6b0fc", func := "loop.example/g01154/laws.FnExactImmersionGap", spec := "fnExactImmersionGap", apart := false, narrowed := true }
def FnExactImmersionGapUptoSaid : Prop := fnExactImmersionGapUptoRow.holds Try.pinned (OpenSpec.upto fnExactImmersionGapSpec)

/-- 'laws.FnExactWuFormula', WHERE WHAT IT READS IS OF BULK AT MOST 1048576: true; the input reads as it did. -/
def fnExactWuFormulaUptoRow : OpenClaim := { program := "ytlakdlnfijkaeaa", sum := "57824af9707f7b3f1020ff3a7fc78295bf52fd6f93da0f7fb3e53e3a56a6b0fc", func := "loop.example/g01154/laws.FnExactWuFormula", spec := "fnExactWuFormula", apart := false, narrowed := true }
def FnExactWuFormulaUptoSaid : Prop := fnExactWuFormulaUptoRow.holds Try.pinned (OpenSpec.upto fnExactWuFormulaSpec)

/-- 'laws.FnExactWhitneyNumber', WHERE WHAT IT READS IS OF BULK AT MOST 1048576: true; the input reads as it did. -/
def fnExactWhitneyNumberUptoRow : OpenClaim := { program := "ytlakdlnfijkaeaa", sum := "57824af9707f7b3f1020ff3a7fc78295bf52fd6f93da0f7fb3e53e3a56a6b0fc", func := "loop.example/g01154/laws.FnExactWhitneyNumber", spec := "fnExactWhitneyNumber", unfollowed := true, recurses := true, apart := false, narrowed := true }
def FnExactWhitneyNumberUptoSaid : Prop := fnExactWhitneyNumberUptoRow.holds Try.pinned (OpenSpec.upto fnExactWhitneyNumberSpec)

/-- 'laws.FnExactDualClasses', WHERE WHAT IT READS IS OF BULK AT MOST 1048576: true; the input reads as it did. -/
def fnExactDualClassesUptoRow : OpenClaim := { program := "ytlakdlnfijkaeaa", sum := "57824af9707f7b3f1020ff3a7fc78295bf52fd6f93da0f7fb3e53e3a56a6b0fc", func := "loop.example/g01154/laws.FnExactDualClasses", spec := "fnExactDualClasses", apart := false, narrowed := true }
def FnExactDualClassesUptoSaid : Prop := fnExactDualClassesUptoRow.holds Try.pinned (OpenSpec.upto fnExactDualClassesSpec)

/-- 'laws.FnExactCellModule', WHERE WHAT IT READS IS OF BULK AT MOST 1048576: true; the input reads as it did. -/
def fnExactCellModuleUptoRow : OpenClaim := { program := "ytlakdlnfijkaeaa", sum := "57824af9707f7b3f1020ff3a7fc78295bf52fd6f93da0f7fb3e53e3a56a6b0fc", func := "loop.example/g01154/laws.FnExactCellModule", spec := "fnExactCellModule", apart := false, narrowed := true }
def FnExactCellModuleUptoSaid : Prop := fnExactCellModuleUptoRow.holds Try.pinned (OpenSpec.upto fnExactCellModuleSpec)

/-- 'laws.FnExactSphereModule', WHERE WHAT IT READS IS OF BULK AT MOST 1048576: true; the input reads as it did. -/
def fnExactSphereModuleUptoRow : OpenClaim := { program := "ytlakdlnfijkaeaa", sum := "57824af9707f7b3f1020ff3a7fc78295bf52fd6f93da0f7fb3e53e3a56a6b0fc", func := "loop.example/g01154/laws.FnExactSphereModule", spec := "fnExactSphereModule", apart := false, narrowed := true }
def FnExactSphereModuleUptoSaid : Prop := fnExactSphereModuleUptoRow.holds Try.pinned (OpenSpec.upto fnExactSphereModuleSpec)

/-- 'laws.FnExactWeightsOf', WHERE WHAT IT READS IS OF BULK AT MOST 1048576: true; the input reads as it did. -/
def fnExactWeightsOfUptoRow : OpenClaim := { program := "ytlakdlnfijkaeaa", sum := "57824af9707f7b3f1020ff3a7fc78295bf52fd6f93da0f7fb3e53e3a56a6b0fc", func := "loop.example/g01154/laws.FnExactWeightsOf", spec := "fnExactWeightsOf", unfollowed := true, recurses := true, apart := false, narrowed := true }
def FnExactWeightsOfUptoSaid : Prop := fnExactWeightsOfUptoRow.holds Try.pinned (OpenSpec.upto fnExactWeightsOfSpec)

/-- 'laws.FnExactProjectiveModule', WHERE WHAT IT READS IS OF BULK AT MOST 1048576: true; the input reads as it did. -/
def fnExactProjectiveModuleUptoRow : OpenClaim := { program := "ytlakdlnfijkaeaa", sum := "57824af9707f7b3f1020ff3a7fc78295bf52fd6f93da0f7fb3e53e3a56a6b0fc", func := "loop.example/g01154/laws.FnExactProjectiveModule", spec := "fnExactProjectiveModule", unfollowed := true, recurses := true, apart := false, narrowed := true }
def FnExactProjectiveModuleUptoSaid : Prop := fnExactProjectiveModuleUptoRow.holds Try.pinned (OpenSpec.upto fnExactProjectiveModuleSpec)

/-- 'laws.FnExactSpikeMonomials', WHERE WHAT IT READS IS OF BULK AT MOST 1048576: true; the input reads as it did. -/
def fnExactSpikeMonomialsUptoRow : OpenClaim := { program := "ytlakdlnfijkaeaa", sum := "57824af9707f7b3f1020ff3a7fc78295bf52fd6f93da0f7fb3e53e3a56a6b0fc", func := "loop.example/g01154/laws.FnExactSpikeMonomials", spec := "fnExactSpikeMonomials", unfollowed := true, recurses := true, apart := false, narrowed := true }
def FnExactSpikeMonomialsUptoSaid : Prop := fnExactSpikeMonomialsUptoRow.holds Try.pinned (OpenSpec.upto fnExactSpikeMonomialsSpec)

end Rows
end Go.Proofs.Ytlakdlnfijkaeaa
