/-
  No cell of these rows narrows 'for every input' (looked for: loops, veiled, ifaces, maps, wideKeys, modest, calm, conditions, laid).
  DERIVED. THE GIVEN ROWS OF THIS SEAT. 4 by the template 'for every input the law returns true; each argument reads behind the call as it read before'; 0 by the template 'total and deterministic' (their statements: YtmnkccjddahcjaaTotals.lean).
  GIVEN WITH THE SEED: the statements are not yours to turn. If you find one false, say at which input.
  Laid BY PROGRAM, IN A SANDBOX (cutbox-rows.mjs): the forced cells as the released guide's own fill.sh prints them over the translation 5a2a95d4eff8fd49… (all of the seat's roots in one cut). By AI agents, Wed Nov 11 2026. No macro, syntax, notation, axiom, sorry.
-/
import Derived.Test.YtmnkccjddahcjaaChecked
import GoSem.Claim
import GoSem.ClaimJoined
import GoSem.ClaimMapViews
import Derived.JoinedTies
import Derived.KernelRfl
namespace Go.Proofs.Ytmnkccjddahcjaa
/- THE CELL 'sum', in the pinned program and in every row, IS THE sha256 OF THE DUMP (.gsa) THAT YtmnkccjddahcjaaProg.lean LOADS. Nothing in Lean hashes anything: it is a label: what it is worth is what the hold of that sum in a sandbox is worth. -/
noncomputable def Try.pinned : Pinned := { name := "ytmnkccjddahcjaa", sum := "5a2a95d4eff8fd49a2561c18ef0c5082916c9a6c7c5247706e5a051cba5e9b59", checked := Try.checked }
namespace Rows
def none {H : Type} : Left H := { results := [], args := [] }

/-- 'laws.FnExactDualCoproduct': WHATEVER THE INPUT: true; the input reads as it did. -/
def fnExactDualCoproductSpec : ChangeSpec := { name := "fnExactDualCoproduct", fn := fun _ => fun
  | [d] => { results := [.lit (.bool true)], args := [d] }
  | _ => none }
def fnExactDualCoproductRow : OpenClaim := { program := "ytmnkccjddahcjaa", sum := "5a2a95d4eff8fd49a2561c18ef0c5082916c9a6c7c5247706e5a051cba5e9b59", func := "loop.example/g01154/laws.FnExactDualCoproduct", spec := "fnExactDualCoproduct", unfollowed := true, recurses := true, apart := false }
def FnExactDualCoproductSaid : Prop := fnExactDualCoproductRow.holds Try.pinned (OpenSpec.ofChange fnExactDualCoproductSpec)

/-- ITS FALSE NEIGHBOUR: 'it returns false'. Refute it at one input. -/
def fnExactDualCoproductWrong : ChangeSpec := { name := "fnExactDualCoproduct", fn := fun _ => fun
  | [d] => { results := [.lit (.bool false)], args := [d] }
  | _ => none }
def FnExactDualCoproductWrongFalsely : Prop := fnExactDualCoproductRow.holds Try.pinned (OpenSpec.ofChange fnExactDualCoproductWrong)

/-- 'laws.FnExactCartanPairs': WHATEVER THE INPUT: true; the input reads as it did. -/
def fnExactCartanPairsSpec : ChangeSpec := { name := "fnExactCartanPairs", fn := fun _ => fun
  | [d] => { results := [.lit (.bool true)], args := [d] }
  | _ => none }
def fnExactCartanPairsRow : OpenClaim := { program := "ytmnkccjddahcjaa", sum := "5a2a95d4eff8fd49a2561c18ef0c5082916c9a6c7c5247706e5a051cba5e9b59", func := "loop.example/g01154/laws.FnExactCartanPairs", spec := "fnExactCartanPairs", unfollowed := true, recurses := true, apart := false }
def FnExactCartanPairsSaid : Prop := fnExactCartanPairsRow.holds Try.pinned (OpenSpec.ofChange fnExactCartanPairsSpec)

/-- ITS FALSE NEIGHBOUR: 'it returns false'. Refute it at one input. -/
def fnExactCartanPairsWrong : ChangeSpec := { name := "fnExactCartanPairs", fn := fun _ => fun
  | [d] => { results := [.lit (.bool false)], args := [d] }
  | _ => none }
def FnExactCartanPairsWrongFalsely : Prop := fnExactCartanPairsRow.holds Try.pinned (OpenSpec.ofChange fnExactCartanPairsWrong)

/-- 'laws.FnParities': WHATEVER THE INPUT: true; the input reads as it did. -/
def fnParitiesSpec : ChangeSpec := { name := "fnParities", fn := fun _ => fun
  | [d] => { results := [.lit (.bool true)], args := [d] }
  | _ => none }
def fnParitiesRow : OpenClaim := { program := "ytmnkccjddahcjaa", sum := "5a2a95d4eff8fd49a2561c18ef0c5082916c9a6c7c5247706e5a051cba5e9b59", func := "loop.example/g01154/laws.FnParities", spec := "fnParities", unfollowed := true, recurses := true, apart := false }
def FnParitiesSaid : Prop := fnParitiesRow.holds Try.pinned (OpenSpec.ofChange fnParitiesSpec)

/-- ITS FALSE NEIGHBOUR: 'it returns false'. Refute it at one input. -/
def fnParitiesWrong : ChangeSpec := { name := "fnParities", fn := fun _ => fun
  | [d] => { results := [.lit (.bool false)], args := [d] }
  | _ => none }
def FnParitiesWrongFalsely : Prop := fnParitiesRow.holds Try.pinned (OpenSpec.ofChange fnParitiesWrong)

/-- 'laws.FnSpaceClasses': WHATEVER THE INPUT: true; the input reads as it did. -/
def fnSpaceClassesSpec : ChangeSpec := { name := "fnSpaceClasses", fn := fun _ => fun
  | [d] => { results := [.lit (.bool true)], args := [d] }
  | _ => none }
def fnSpaceClassesRow : OpenClaim := { program := "ytmnkccjddahcjaa", sum := "5a2a95d4eff8fd49a2561c18ef0c5082916c9a6c7c5247706e5a051cba5e9b59", func := "loop.example/g01154/laws.FnSpaceClasses", spec := "fnSpaceClasses", unfollowed := true, recurses := true, apart := false }
def FnSpaceClassesSaid : Prop := fnSpaceClassesRow.holds Try.pinned (OpenSpec.ofChange fnSpaceClassesSpec)

/-- ITS FALSE NEIGHBOUR: 'it returns false'. Refute it at one input. -/
def fnSpaceClassesWrong : ChangeSpec := { name := "fnSpaceClasses", fn := fun _ => fun
  | [d] => { results := [.lit (.bool false)], args := [d] }
  | _ => none }
def FnSpaceClassesWrongFalsely : Prop := fnSpaceClassesRow.holds Try.pinned (OpenSpec.ofChange fnSpaceClassesWrong)

/- THE SECOND FORM. 'bulk': how many values and letters a reading holds, each counted each time it is reached (what is shared counts as often as it is met; a slice's spare places count too). A statement '..UptoSaid' is the law's where the arguments, and the package variables that the reading takes, are together of bulk at most 1048576: NARROWER than '..Said'. Prove '..Said' where nothing that the law and all that it calls make is longer than what came in: it says more and counts as full. Else prove '..UptoSaid'. A law counts once. -/
mutual
def uptoBulk {H : Type} : DataW H → Nat
  | .lit (.string bytes) => bytes.length + 1
  | .lit _ => 1
  | .nil => 1
  | .ptr d => uptoBulk d + 1
  | .slice elems spare => uptoBulkAll elems + uptoBulkAll spare + 1
  | .agg parts => uptoBulkAll parts + 1
  | .iface _ d => uptoBulk d + 1
  | .map entries => uptoBulkEntries entries + 1
  | .held _ => 1
def uptoBulkAll {H : Type} : List (DataW H) → Nat
  | [] => 0
  | d :: r => uptoBulk d + uptoBulkAll r
def uptoBulkEntries {H : Type} : List (Lit × DataW H) → Nat
  | [] => 0
  | x :: r => uptoBulkEntry x + uptoBulkEntries r
def uptoBulkEntry {H : Type} : Lit × DataW H → Nat
  | (.string bytes, d) => bytes.length + uptoBulk d + 1
  | (_, d) => uptoBulk d + 1
 end
def uptoSmall : (H : Type) → List (DataW H) → Bool := fun _ ds => decide (uptoBulkAll ds ≤ 1048576)
def OpenSpec.upto (s : _root_.Go.ChangeSpec) : _root_.Go.OpenSpec := { _root_.Go.OpenSpec.ofChange s with cond := some uptoSmall }

/-- 'laws.FnExactDualCoproduct', WHERE WHAT IT READS IS OF BULK AT MOST 1048576: true; the input reads as it did. -/
def fnExactDualCoproductUptoRow : OpenClaim := { program := "ytmnkccjddahcjaa", sum := "5a2a95d4eff8fd49a2561c18ef0c5082916c9a6c7c5247706e5a051cba5e9b59", func := "loop.example/g01154/laws.FnExactDualCoproduct", spec := "fnExactDualCoproduct", unfollowed := true, recurses := true, apart := false, narrowed := true }
def FnExactDualCoproductUptoSaid : Prop := fnExactDualCoproductUptoRow.holds Try.pinned (OpenSpec.upto fnExactDualCoproductSpec)

/-- 'laws.FnExactCartanPairs', WHERE WHAT IT READS IS OF BULK AT MOST 1048576: true; the input reads as it did. -/
def fnExactCartanPairsUptoRow : OpenClaim := { program := "ytmnkccjddahcjaa", sum := "5a2a95d4eff8fd49a2561c18ef0c5082916c9a6c7c5247706e5a051cba5e9b59", func := "loop.example/g01154/laws.FnExactCartanPairs", spec := "fnExactCartanPairs", unfollowed := true, recurses := true, apart := false, narrowed := true }
def FnExactCartanPairsUptoSaid : Prop := fnExactCartanPairsUptoRow.holds Try.pinned (OpenSpec.upto fnExactCartanPairsSpec)

/-- 'laws.FnParities', WHERE WHAT IT READS IS OF BULK AT MOST 1048576: true; the input reads as it did. -/
def fnParitiesUptoRow : OpenClaim := { program := "ytmnkccjddahcjaa", sum := "5a2a95d4eff8fd49a2561c18ef0c5082916c9a6c7c5247706e5a051cba5e9b59", func := "loop.example/g01154/laws.FnParities", spec := "fnParities", unfollowed := true, recurses := true, apart := false, narrowed := true }
def FnParitiesUptoSaid : Prop := fnParitiesUptoRow.holds Try.pinned (OpenSpec.upto fnParitiesSpec)

/-- 'laws.FnSpaceClasses', WHERE WHAT IT READS IS OF BULK AT MOST 1048576: true; the input reads as it did. -/
def fnSpaceClassesUptoRow : OpenClaim := { program := "ytmnkccjddahcjaa", sum := "5a2a95d4eff8fd49a2561c18ef0c5082916c9a6c7c5247706e5a051cba5e9b59", func := "loop.example/g01154/laws.FnSpaceClasses", spec := "fnSpaceClasses", unfollowed := true, recurses := true, apart := false, narrowed := true }
def FnSpaceClassesUptoSaid : Prop := fnSpaceClassesUptoRow.holds Try.pinned (OpenSpec.upto fnSpaceClassesSpec)

end Rows
end Go.Proofs.Ytmnkccjddahcjaa
