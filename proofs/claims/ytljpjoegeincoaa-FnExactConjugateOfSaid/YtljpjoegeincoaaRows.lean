/-
  No cell of these rows narrows 'for every input' (looked for: loops, veiled, ifaces, maps, wideKeys, modest, calm, conditions, laid).
  DERIVED. THE GIVEN ROWS OF THIS SEAT. 11 by the template 'for every input the law returns true; each argument reads behind the call as it read before'; 0 by the template 'total and deterministic' (their statements: YtljpjoegeincoaaTotals.lean).
  GIVEN WITH THE SEED: the statements are not yours to turn. If you find one false, say at which input.
  Laid BY PROGRAM, IN A SANDBOX (cutbox-rows.mjs): the forced cells as the released guide's own fill.sh prints them over the translation 9eb68f4482585ed1… (all of the seat's roots in one cut). By AI agents, Wed Nov 11 2026. No macro, syntax, notation, axiom, sorry.
-/
import Derived.Test.YtljpjoegeincoaaChecked
import GoSem.Claim
import GoSem.ClaimJoined
import GoSem.ClaimMapViews
import Derived.JoinedTies
import Derived.KernelRfl
namespace Go.Proofs.Ytljpjoegeincoaa
/- THE CELL 'sum', in the pinned program and in every row, IS THE sha256 OF THE DUMP (.gsa) THAT YtljpjoegeincoaaProg.lean LOADS. Nothing in Lean hashes anything: it is a label: what it is worth is what the hold of that sum in a sandbox is worth. -/
noncomputable def Try.pinned : Pinned := { name := "ytljpjoegeincoaa", sum := "9eb68f4482585ed136ca703441d351c9e4faf9485530093fcae199e1599d2fd9", checked := Try.checked }
namespace Rows
def none {H : Type} : Left H := { results := [], args := [] }

/-- 'laws.FnExactAddMilnor': WHATEVER THE INPUT: true; the input reads as it did. -/
def fnExactAddMilnorSpec : ChangeSpec := { name := "fnExactAddMilnor", fn := fun _ => fun
  | [d1, d2] => { results := [.lit (.bool true)], args := [d1, d2] }
  | _ => none }
def fnExactAddMilnorRow : OpenClaim := { program := "ytljpjoegeincoaa", sum := "9eb68f4482585ed136ca703441d351c9e4faf9485530093fcae199e1599d2fd9", func := "loop.example/g01154/laws.FnExactAddMilnor", spec := "fnExactAddMilnor", unfollowed := true, recurses := true, apart := false }
def FnExactAddMilnorSaid : Prop := fnExactAddMilnorRow.holds Try.pinned (OpenSpec.ofChange fnExactAddMilnorSpec)

/-- ITS FALSE NEIGHBOUR: 'it returns false'. Refute it at one input. -/
def fnExactAddMilnorWrong : ChangeSpec := { name := "fnExactAddMilnor", fn := fun _ => fun
  | [d1, d2] => { results := [.lit (.bool false)], args := [d1, d2] }
  | _ => none }
def FnExactAddMilnorWrongFalsely : Prop := fnExactAddMilnorRow.holds Try.pinned (OpenSpec.ofChange fnExactAddMilnorWrong)

/-- 'laws.FnExactAddDual': WHATEVER THE INPUT: true; the input reads as it did. -/
def fnExactAddDualSpec : ChangeSpec := { name := "fnExactAddDual", fn := fun _ => fun
  | [d1, d2] => { results := [.lit (.bool true)], args := [d1, d2] }
  | _ => none }
def fnExactAddDualRow : OpenClaim := { program := "ytljpjoegeincoaa", sum := "9eb68f4482585ed136ca703441d351c9e4faf9485530093fcae199e1599d2fd9", func := "loop.example/g01154/laws.FnExactAddDual", spec := "fnExactAddDual", unfollowed := true, recurses := true, apart := false }
def FnExactAddDualSaid : Prop := fnExactAddDualRow.holds Try.pinned (OpenSpec.ofChange fnExactAddDualSpec)

/-- ITS FALSE NEIGHBOUR: 'it returns false'. Refute it at one input. -/
def fnExactAddDualWrong : ChangeSpec := { name := "fnExactAddDual", fn := fun _ => fun
  | [d1, d2] => { results := [.lit (.bool false)], args := [d1, d2] }
  | _ => none }
def FnExactAddDualWrongFalsely : Prop := fnExactAddDualRow.holds Try.pinned (OpenSpec.ofChange fnExactAddDualWrong)

/-- 'laws.FnExactCoordinatesOf': WHATEVER THE INPUT: true; the input reads as it did. -/
def fnExactCoordinatesOfSpec : ChangeSpec := { name := "fnExactCoordinatesOf", fn := fun _ => fun
  | [d1, d2] => { results := [.lit (.bool true)], args := [d1, d2] }
  | _ => none }
def fnExactCoordinatesOfRow : OpenClaim := { program := "ytljpjoegeincoaa", sum := "9eb68f4482585ed136ca703441d351c9e4faf9485530093fcae199e1599d2fd9", func := "loop.example/g01154/laws.FnExactCoordinatesOf", spec := "fnExactCoordinatesOf", unfollowed := true, recurses := true, apart := false }
def FnExactCoordinatesOfSaid : Prop := fnExactCoordinatesOfRow.holds Try.pinned (OpenSpec.ofChange fnExactCoordinatesOfSpec)

/-- ITS FALSE NEIGHBOUR: 'it returns false'. Refute it at one input. -/
def fnExactCoordinatesOfWrong : ChangeSpec := { name := "fnExactCoordinatesOf", fn := fun _ => fun
  | [d1, d2] => { results := [.lit (.bool false)], args := [d1, d2] }
  | _ => none }
def FnExactCoordinatesOfWrongFalsely : Prop := fnExactCoordinatesOfRow.holds Try.pinned (OpenSpec.ofChange fnExactCoordinatesOfWrong)

/-- 'laws.FnExactMultiplyDual': WHATEVER THE INPUT: true; the input reads as it did. -/
def fnExactMultiplyDualSpec : ChangeSpec := { name := "fnExactMultiplyDual", fn := fun _ => fun
  | [d1, d2] => { results := [.lit (.bool true)], args := [d1, d2] }
  | _ => none }
def fnExactMultiplyDualRow : OpenClaim := { program := "ytljpjoegeincoaa", sum := "9eb68f4482585ed136ca703441d351c9e4faf9485530093fcae199e1599d2fd9", func := "loop.example/g01154/laws.FnExactMultiplyDual", spec := "fnExactMultiplyDual", unfollowed := true, recurses := true, apart := false }
def FnExactMultiplyDualSaid : Prop := fnExactMultiplyDualRow.holds Try.pinned (OpenSpec.ofChange fnExactMultiplyDualSpec)

/-- ITS FALSE NEIGHBOUR: 'it returns false'. Refute it at one input. -/
def fnExactMultiplyDualWrong : ChangeSpec := { name := "fnExactMultiplyDual", fn := fun _ => fun
  | [d1, d2] => { results := [.lit (.bool false)], args := [d1, d2] }
  | _ => none }
def FnExactMultiplyDualWrongFalsely : Prop := fnExactMultiplyDualRow.holds Try.pinned (OpenSpec.ofChange fnExactMultiplyDualWrong)

/-- 'laws.FnExactMultiplyMilnor': WHATEVER THE INPUT: true; the input reads as it did. -/
def fnExactMultiplyMilnorSpec : ChangeSpec := { name := "fnExactMultiplyMilnor", fn := fun _ => fun
  | [d1, d2] => { results := [.lit (.bool true)], args := [d1, d2] }
  | _ => none }
def fnExactMultiplyMilnorRow : OpenClaim := { program := "ytljpjoegeincoaa", sum := "9eb68f4482585ed136ca703441d351c9e4faf9485530093fcae199e1599d2fd9", func := "loop.example/g01154/laws.FnExactMultiplyMilnor", spec := "fnExactMultiplyMilnor", unfollowed := true, recurses := true, apart := false }
def FnExactMultiplyMilnorSaid : Prop := fnExactMultiplyMilnorRow.holds Try.pinned (OpenSpec.ofChange fnExactMultiplyMilnorSpec)

/-- ITS FALSE NEIGHBOUR: 'it returns false'. Refute it at one input. -/
def fnExactMultiplyMilnorWrong : ChangeSpec := { name := "fnExactMultiplyMilnor", fn := fun _ => fun
  | [d1, d2] => { results := [.lit (.bool false)], args := [d1, d2] }
  | _ => none }
def FnExactMultiplyMilnorWrongFalsely : Prop := fnExactMultiplyMilnorRow.holds Try.pinned (OpenSpec.ofChange fnExactMultiplyMilnorWrong)

/-- 'laws.FnExactPowerOfMilnor': WHATEVER THE INPUT: true; the input reads as it did. -/
def fnExactPowerOfMilnorSpec : ChangeSpec := { name := "fnExactPowerOfMilnor", fn := fun _ => fun
  | [d1, d2] => { results := [.lit (.bool true)], args := [d1, d2] }
  | _ => none }
def fnExactPowerOfMilnorRow : OpenClaim := { program := "ytljpjoegeincoaa", sum := "9eb68f4482585ed136ca703441d351c9e4faf9485530093fcae199e1599d2fd9", func := "loop.example/g01154/laws.FnExactPowerOfMilnor", spec := "fnExactPowerOfMilnor", unfollowed := true, recurses := true, apart := false }
def FnExactPowerOfMilnorSaid : Prop := fnExactPowerOfMilnorRow.holds Try.pinned (OpenSpec.ofChange fnExactPowerOfMilnorSpec)

/-- ITS FALSE NEIGHBOUR: 'it returns false'. Refute it at one input. -/
def fnExactPowerOfMilnorWrong : ChangeSpec := { name := "fnExactPowerOfMilnor", fn := fun _ => fun
  | [d1, d2] => { results := [.lit (.bool false)], args := [d1, d2] }
  | _ => none }
def FnExactPowerOfMilnorWrongFalsely : Prop := fnExactPowerOfMilnorRow.holds Try.pinned (OpenSpec.ofChange fnExactPowerOfMilnorWrong)

/-- 'laws.FnExactCommutatorOf': WHATEVER THE INPUT: true; the input reads as it did. -/
def fnExactCommutatorOfSpec : ChangeSpec := { name := "fnExactCommutatorOf", fn := fun _ => fun
  | [d1, d2] => { results := [.lit (.bool true)], args := [d1, d2] }
  | _ => none }
def fnExactCommutatorOfRow : OpenClaim := { program := "ytljpjoegeincoaa", sum := "9eb68f4482585ed136ca703441d351c9e4faf9485530093fcae199e1599d2fd9", func := "loop.example/g01154/laws.FnExactCommutatorOf", spec := "fnExactCommutatorOf", unfollowed := true, recurses := true, apart := false }
def FnExactCommutatorOfSaid : Prop := fnExactCommutatorOfRow.holds Try.pinned (OpenSpec.ofChange fnExactCommutatorOfSpec)

/-- ITS FALSE NEIGHBOUR: 'it returns false'. Refute it at one input. -/
def fnExactCommutatorOfWrong : ChangeSpec := { name := "fnExactCommutatorOf", fn := fun _ => fun
  | [d1, d2] => { results := [.lit (.bool false)], args := [d1, d2] }
  | _ => none }
def FnExactCommutatorOfWrongFalsely : Prop := fnExactCommutatorOfRow.holds Try.pinned (OpenSpec.ofChange fnExactCommutatorOfWrong)

/-- 'laws.FnExactNilpotenceOf': WHATEVER THE INPUT: true; the input reads as it did. -/
def fnExactNilpotenceOfSpec : ChangeSpec := { name := "fnExactNilpotenceOf", fn := fun _ => fun
  | [d] => { results := [.lit (.bool true)], args := [d] }
  | _ => none }
def fnExactNilpotenceOfRow : OpenClaim := { program := "ytljpjoegeincoaa", sum := "9eb68f4482585ed136ca703441d351c9e4faf9485530093fcae199e1599d2fd9", func := "loop.example/g01154/laws.FnExactNilpotenceOf", spec := "fnExactNilpotenceOf", unfollowed := true, recurses := true, apart := false }
def FnExactNilpotenceOfSaid : Prop := fnExactNilpotenceOfRow.holds Try.pinned (OpenSpec.ofChange fnExactNilpotenceOfSpec)

/-- ITS FALSE NEIGHBOUR: 'it returns false'. Refute it at one input. -/
def fnExactNilpotenceOfWrong : ChangeSpec := { name := "fnExactNilpotenceOf", fn := fun _ => fun
  | [d] => { results := [.lit (.bool false)], args := [d] }
  | _ => none }
def FnExactNilpotenceOfWrongFalsely : Prop := fnExactNilpotenceOfRow.holds Try.pinned (OpenSpec.ofChange fnExactNilpotenceOfWrong)

/-- 'laws.FnExactDualConjugate': WHATEVER THE INPUT: true; the input reads as it did. -/
def fnExactDualConjugateSpec : ChangeSpec := { name := "fnExactDualConjugate", fn := fun _ => fun
  | [d] => { results := [.lit (.bool true)], args := [d] }
  | _ => none }
def fnExactDualConjugateRow : OpenClaim := { program := "ytljpjoegeincoaa", sum := "9eb68f4482585ed136ca703441d351c9e4faf9485530093fcae199e1599d2fd9", func := "loop.example/g01154/laws.FnExactDualConjugate", spec := "fnExactDualConjugate", unfollowed := true, recurses := true, apart := false }
def FnExactDualConjugateSaid : Prop := fnExactDualConjugateRow.holds Try.pinned (OpenSpec.ofChange fnExactDualConjugateSpec)

/-- ITS FALSE NEIGHBOUR: 'it returns false'. Refute it at one input. -/
def fnExactDualConjugateWrong : ChangeSpec := { name := "fnExactDualConjugate", fn := fun _ => fun
  | [d] => { results := [.lit (.bool false)], args := [d] }
  | _ => none }
def FnExactDualConjugateWrongFalsely : Prop := fnExactDualConjugateRow.holds Try.pinned (OpenSpec.ofChange fnExactDualConjugateWrong)

/-- 'laws.FnExactConjugateOf': WHATEVER THE INPUT: true; the input reads as it did. -/
def fnExactConjugateOfSpec : ChangeSpec := { name := "fnExactConjugateOf", fn := fun _ => fun
  | [d] => { results := [.lit (.bool true)], args := [d] }
  | _ => none }
def fnExactConjugateOfRow : OpenClaim := { program := "ytljpjoegeincoaa", sum := "9eb68f4482585ed136ca703441d351c9e4faf9485530093fcae199e1599d2fd9", func := "loop.example/g01154/laws.FnExactConjugateOf", spec := "fnExactConjugateOf", unfollowed := true, recurses := true, apart := false }
def FnExactConjugateOfSaid : Prop := fnExactConjugateOfRow.holds Try.pinned (OpenSpec.ofChange fnExactConjugateOfSpec)

/-- ITS FALSE NEIGHBOUR: 'it returns false'. Refute it at one input. -/
def fnExactConjugateOfWrong : ChangeSpec := { name := "fnExactConjugateOf", fn := fun _ => fun
  | [d] => { results := [.lit (.bool false)], args := [d] }
  | _ => none }
def FnExactConjugateOfWrongFalsely : Prop := fnExactConjugateOfRow.holds Try.pinned (OpenSpec.ofChange fnExactConjugateOfWrong)

/-- 'laws.FnExactDualCoproduct': WHATEVER THE INPUT: true; the input reads as it did. -/
def fnExactDualCoproductSpec : ChangeSpec := { name := "fnExactDualCoproduct", fn := fun _ => fun
  | [d] => { results := [.lit (.bool true)], args := [d] }
  | _ => none }
def fnExactDualCoproductRow : OpenClaim := { program := "ytljpjoegeincoaa", sum := "9eb68f4482585ed136ca703441d351c9e4faf9485530093fcae199e1599d2fd9", func := "loop.example/g01154/laws.FnExactDualCoproduct", spec := "fnExactDualCoproduct", unfollowed := true, recurses := true, apart := false }
def FnExactDualCoproductSaid : Prop := fnExactDualCoproductRow.holds Try.pinned (OpenSpec.ofChange fnExactDualCoproductSpec)

/-- ITS FALSE NEIGHBOUR: 'it returns false'. Refute it at one input. -/
def fnExactDualCoproductWrong : ChangeSpec := { name := "fnExactDualCoproduct", fn := fun _ => fun
  | [d] => { results := [.lit (.bool false)], args := [d] }
  | _ => none }
def FnExactDualCoproductWrongFalsely : Prop := fnExactDualCoproductRow.holds Try.pinned (OpenSpec.ofChange fnExactDualCoproductWrong)

/- THE SECOND FORM. 'bulk': how many values and letters a reading holds, each counted each time it is reached (what is shared counts as often as it is met; a slice's spare places count too). A statement '..UptoSaid' is the law's where the arguments, and the package variables that the reading takes, are together of bulk at most 1048576: NARROWER than '..Said'. Prove '..Said' where nothing that the law and all that it calls make is longer than what came in: it says more and counts as full. Else prove '..UptoSaid'. A law counts once. -/
mutual
def uptoBulk {H : Type} : DataW H → Nat
  | .lit (.string bytes) => bytes.length + 1
  | .lit _ => 1
  | .nil => 1
  | .ptr d => uptoBulk d + 1
  | .slice elems spare => uptoBulkAll elems + uptoBulkAll spare + 1
  | .agg parts => uptoBulkAll parts + 1
  | .iface _ d => uptoBulk d + 1
  | .map entries => uptoBulkEntries entries + 1
  | .held _ => 1
def uptoBulkAll {H : Type} : List (DataW H) → Nat
  | [] => 0
  | d :: r => uptoBulk d + uptoBulkAll r
def uptoBulkEntries {H : Type} : List (Lit × DataW H) → Nat
  | [] => 0
  | x :: r => uptoBulkEntry x + uptoBulkEntries r
def uptoBulkEntry {H : Type} : Lit × DataW H → Nat
  | (.string bytes, d) => bytes.length + uptoBulk d + 1
  | (_, d) => uptoBulk d + 1
 end
def uptoSmall : (H : Type) → List (DataW H) → Bool := fun _ ds => decide (uptoBulkAll ds ≤ 1048576)
def OpenSpec.upto (s : _root_.Go.ChangeSpec) : _root_.Go.OpenSpec := { _root_.Go.OpenSpec.ofChange s with cond := some uptoSmall }

/-- 'laws.FnExactAddMilnor', WHERE WHAT IT READS IS OF BULK AT MOST 1048576: true; the input reads as it did. -/
def fnExactAddMilnorUptoRow : OpenClaim := { program := "ytljpjoegeincoaa", sum := "9eb68f4482585ed136ca703441d351c9e4faf9485530093fcae199e1599d2fd9", func := "loop.example/g01154/laws.FnExactAddMilnor", spec := "fnExactAddMilnor", unfollowed := true, recurses := true, apart := false, narrowed := true }
def FnExactAddMilnorUptoSaid : Prop := fnExactAddMilnorUptoRow.holds Try.pinned (OpenSpec.upto fnExactAddMilnorSpec)

/-- 'laws.FnExactAddDual', WHERE WHAT IT READS IS OF BULK AT MOST 1048576: true; the input reads as it did. -/
def fnExactAddDualUptoRow : OpenClaim := { program := "ytljpjoegeincoaa", sum := "9eb68f4482585ed136ca703441d351c9e4faf9485530093fcae199e1599d2fd9", func := "loop.example/g01154/laws.FnExactAddDual", spec := "fnExactAddDual", unfollowed := true, recurses := true, apart := false, narrowed := true }
def FnExactAddDualUptoSaid : Prop := fnExactAddDualUptoRow.holds Try.pinned (OpenSpec.upto fnExactAddDualSpec)

/-- 'laws.FnExactCoordinatesOf', WHERE WHAT IT READS IS OF BULK AT MOST 1048576: true; the input reads as it did. -/
def fnExactCoordinatesOfUptoRow : OpenClaim := { program := "ytljpjoegeincoaa", sum := "9eb68f4482585ed136ca703441d351c9e4faf9485530093fcae199e1599d2fd9", func := "loop.example/g01154/laws.FnExactCoordinatesOf", spec := "fnExactCoordinatesOf", unfollowed := true, recurses := true, apart := false, narrowed := true }
def FnExactCoordinatesOfUptoSaid : Prop := fnExactCoordinatesOfUptoRow.holds Try.pinned (OpenSpec.upto fnExactCoordinatesOfSpec)

/-- 'laws.FnExactMultiplyDual', WHERE WHAT IT READS IS OF BULK AT MOST 1048576: true; the input reads as it did. -/
def fnExactMultiplyDualUptoRow : OpenClaim := { program := "ytljpjoegeincoaa", sum := "9eb68f4482585ed136ca703441d351c9e4faf9485530093fcae199e1599d2fd9", func := "loop.example/g01154/laws.FnExactMultiplyDual", spec := "fnExactMultiplyDual", unfollowed := true, recurses := true, apart := false, narrowed := true }
def FnExactMultiplyDualUptoSaid : Prop := fnExactMultiplyDualUptoRow.holds Try.pinned (OpenSpec.upto fnExactMultiplyDualSpec)

/-- 'laws.FnExactMultiplyMilnor', WHERE WHAT IT READS IS OF BULK AT MOST 1048576: true; the input reads as it did. -/
def fnExactMultiplyMilnorUptoRow : OpenClaim := { program := "ytljpjoegeincoaa", sum := "9eb68f4482585ed136ca703441d351c9e4faf9485530093fcae199e1599d2fd9", func := "loop.example/g01154/laws.FnExactMultiplyMilnor", spec := "fnExactMultiplyMilnor", unfollowed := true, recurses := true, apart := false, narrowed := true }
def FnExactMultiplyMilnorUptoSaid : Prop := fnExactMultiplyMilnorUptoRow.holds Try.pinned (OpenSpec.upto fnExactMultiplyMilnorSpec)

/-- 'laws.FnExactPowerOfMilnor', WHERE WHAT IT READS IS OF BULK AT MOST 1048576: true; the input reads as it did. -/
def fnExactPowerOfMilnorUptoRow : OpenClaim := { program := "ytljpjoegeincoaa", sum := "9eb68f4482585ed136ca703441d351c9e4faf9485530093fcae199e1599d2fd9", func := "loop.example/g01154/laws.FnExactPowerOfMilnor", spec := "fnExactPowerOfMilnor", unfollowed := true, recurses := true, apart := false, narrowed := true }
def FnExactPowerOfMilnorUptoSaid : Prop := fnExactPowerOfMilnorUptoRow.holds Try.pinned (OpenSpec.upto fnExactPowerOfMilnorSpec)

/-- 'laws.FnExactCommutatorOf', WHERE WHAT IT READS IS OF BULK AT MOST 1048576: true; the input reads as it did. -/
def fnExactCommutatorOfUptoRow : OpenClaim := { program := "ytljpjoegeincoaa", sum := "9eb68f4482585ed136ca703441d351c9e4faf9485530093fcae199e1599d2fd9", func := "loop.example/g01154/laws.FnExactCommutatorOf", spec := "fnExactCommutatorOf", unfollowed := true, recurses := true, apart := false, narrowed := true }
def FnExactCommutatorOfUptoSaid : Prop := fnExactCommutatorOfUptoRow.holds Try.pinned (OpenSpec.upto fnExactCommutatorOfSpec)

/-- 'laws.FnExactNilpotenceOf', WHERE WHAT IT READS IS OF BULK AT MOST 1048576: true; the input reads as it did. -/
def fnExactNilpotenceOfUptoRow : OpenClaim := { program := "ytljpjoegeincoaa", sum := "9eb68f4482585ed136ca703441d351c9e4faf9485530093fcae199e1599d2fd9", func := "loop.example/g01154/laws.FnExactNilpotenceOf", spec := "fnExactNilpotenceOf", unfollowed := true, recurses := true, apart := false, narrowed := true }
def FnExactNilpotenceOfUptoSaid : Prop := fnExactNilpotenceOfUptoRow.holds Try.pinned (OpenSpec.upto fnExactNilpotenceOfSpec)

/-- 'laws.FnExactDualConjugate', WHERE WHAT IT READS IS OF BULK AT MOST 1048576: true; the input reads as it did. -/
def fnExactDualConjugateUptoRow : OpenClaim := { program := "ytljpjoegeincoaa", sum := "9eb68f4482585ed136ca703441d351c9e4faf9485530093fcae199e1599d2fd9", func := "loop.example/g01154/laws.FnExactDualConjugate", spec := "fnExactDualConjugate", unfollowed := true, recurses := true, apart := false, narrowed := true }
def FnExactDualConjugateUptoSaid : Prop := fnExactDualConjugateUptoRow.holds Try.pinned (OpenSpec.upto fnExactDualConjugateSpec)

/-- 'laws.FnExactConjugateOf', WHERE WHAT IT READS IS OF BULK AT MOST 1048576: true; the input reads as it did. -/
def fnExactConjugateOfUptoRow : OpenClaim := { program := "ytljpjoegeincoaa", sum := "9eb68f4482585ed136ca703441d351c9e4faf9485530093fcae199e1599d2fd9", func := "loop.example/g01154/laws.FnExactConjugateOf", spec := "fnExactConjugateOf", unfollowed := true, recurses := true, apart := false, narrowed := true }
def FnExactConjugateOfUptoSaid : Prop := fnExactConjugateOfUptoRow.holds Try.pinned (OpenSpec.upto fnExactConjugateOfSpec)

/-- 'laws.FnExactDualCoproduct', WHERE WHAT IT READS IS OF BULK AT MOST 1048576: true; the input reads as it did. -/
def fnExactDualCoproductUptoRow : OpenClaim := { program := "ytljpjoegeincoaa", sum := "9eb68f4482585ed136ca703441d351c9e4faf9485530093fcae199e1599d2fd9", func := "loop.example/g01154/laws.FnExactDualCoproduct", spec := "fnExactDualCoproduct", unfollowed := true, recurses := true, apart := false, narrowed := true }
def FnExactDualCoproductUptoSaid : Prop := fnExactDualCoproductUptoRow.holds Try.pinned (OpenSpec.upto fnExactDualCoproductSpec)

end Rows
end Go.Proofs.Ytljpjoegeincoaa
