/-
  No cell of these rows narrows 'for every input' (looked for: loops, veiled, ifaces, maps, wideKeys, modest, calm, conditions, laid).
  DERIVED. THE GIVEN ROWS OF THIS SEAT. 6 by the template 'for every input the law returns true; each argument reads behind the call as it read before'; 0 by the template 'total and deterministic' (their statements: YtmnkccjddahcjaaGreatTotals.lean).
  GIVEN WITH THE SEED: the statements are not yours to turn. If you find one false, say at which input.
  Laid BY PROGRAM, IN A SANDBOX (cutbox-rows.mjs): the forced cells as the released guide's own fill.sh prints them over the translation 3d789537c11af896… (all of the seat's roots in one cut). By AI agents, Wed Nov 11 2026. No macro, syntax, notation, axiom, sorry.
-/
import Derived.Test.YtmnkccjddahcjaaGreatChecked
import GoSem.Claim
import GoSem.ClaimJoined
import GoSem.ClaimMapViews
import Derived.JoinedTies
import Derived.KernelRfl
namespace Go.Proofs.YtmnkccjddahcjaaGreat
/- THE CELL 'sum', in the pinned program and in every row, IS THE sha256 OF THE DUMP (.gsa) THAT YtmnkccjddahcjaaGreatProg.lean LOADS. Nothing in Lean hashes anything: it is a label: what it is worth is what the hold of that sum in a sandbox is worth. -/
noncomputable def Tryz.pinned : Pinned := { name := "ytmnkccjddahcjaagreat", sum := "3d789537c11af896226427a4d7333208e0285d3fd13b75ec1f9ba89864b3baa7", checked := Tryz.checked }
namespace Rows
def none {H : Type} : Left H := { results := [], args := [] }

/-- 'laws.FnExactContractionOf': WHATEVER THE INPUT: true; the input reads as it did. -/
def fnExactContractionOfSpec : ChangeSpec := { name := "fnExactContractionOf", fn := fun _ => fun
  | [d1, d2] => { results := [.lit (.bool true)], args := [d1, d2] }
  | _ => none }
def fnExactContractionOfRow : OpenClaim := { program := "ytmnkccjddahcjaagreat", sum := "3d789537c11af896226427a4d7333208e0285d3fd13b75ec1f9ba89864b3baa7", func := "loop.example/g01154/laws.FnExactContractionOf", spec := "fnExactContractionOf", unfollowed := true, recurses := true, apart := false }
def FnExactContractionOfSaid : Prop := fnExactContractionOfRow.holds Tryz.pinned (OpenSpec.ofChange fnExactContractionOfSpec)

/-- ITS FALSE NEIGHBOUR: 'it returns false'. Refute it at one input. -/
def fnExactContractionOfWrong : ChangeSpec := { name := "fnExactContractionOf", fn := fun _ => fun
  | [d1, d2] => { results := [.lit (.bool false)], args := [d1, d2] }
  | _ => none }
def FnExactContractionOfWrongFalsely : Prop := fnExactContractionOfRow.holds Tryz.pinned (OpenSpec.ofChange fnExactContractionOfWrong)

/-- 'laws.FnPairings': WHATEVER THE INPUT: true; the input reads as it did. -/
def fnPairingsSpec : ChangeSpec := { name := "fnPairings", fn := fun _ => fun
  | [d] => { results := [.lit (.bool true)], args := [d] }
  | _ => none }
def fnPairingsRow : OpenClaim := { program := "ytmnkccjddahcjaagreat", sum := "3d789537c11af896226427a4d7333208e0285d3fd13b75ec1f9ba89864b3baa7", func := "loop.example/g01154/laws.FnPairings", spec := "fnPairings", unfollowed := true, recurses := true, apart := false }
def FnPairingsSaid : Prop := fnPairingsRow.holds Tryz.pinned (OpenSpec.ofChange fnPairingsSpec)

/-- ITS FALSE NEIGHBOUR: 'it returns false'. Refute it at one input. -/
def fnPairingsWrong : ChangeSpec := { name := "fnPairings", fn := fun _ => fun
  | [d] => { results := [.lit (.bool false)], args := [d] }
  | _ => none }
def FnPairingsWrongFalsely : Prop := fnPairingsRow.holds Tryz.pinned (OpenSpec.ofChange fnPairingsWrong)

/-- 'laws.FnConjugates': WHATEVER THE INPUT: true; the input reads as it did. -/
def fnConjugatesSpec : ChangeSpec := { name := "fnConjugates", fn := fun _ => fun
  | [d] => { results := [.lit (.bool true)], args := [d] }
  | _ => none }
def fnConjugatesRow : OpenClaim := { program := "ytmnkccjddahcjaagreat", sum := "3d789537c11af896226427a4d7333208e0285d3fd13b75ec1f9ba89864b3baa7", func := "loop.example/g01154/laws.FnConjugates", spec := "fnConjugates", unfollowed := true, recurses := true, apart := false }
def FnConjugatesSaid : Prop := fnConjugatesRow.holds Tryz.pinned (OpenSpec.ofChange fnConjugatesSpec)

/-- ITS FALSE NEIGHBOUR: 'it returns false'. Refute it at one input. -/
def fnConjugatesWrong : ChangeSpec := { name := "fnConjugates", fn := fun _ => fun
  | [d] => { results := [.lit (.bool false)], args := [d] }
  | _ => none }
def FnConjugatesWrongFalsely : Prop := fnConjugatesRow.holds Tryz.pinned (OpenSpec.ofChange fnConjugatesWrong)

/-- 'laws.FnMilnorSums': WHATEVER THE INPUT: true; the input reads as it did. -/
def fnMilnorSumsSpec : ChangeSpec := { name := "fnMilnorSums", fn := fun _ => fun
  | [d] => { results := [.lit (.bool true)], args := [d] }
  | _ => none }
def fnMilnorSumsRow : OpenClaim := { program := "ytmnkccjddahcjaagreat", sum := "3d789537c11af896226427a4d7333208e0285d3fd13b75ec1f9ba89864b3baa7", func := "loop.example/g01154/laws.FnMilnorSums", spec := "fnMilnorSums", unfollowed := true, recurses := true, apart := false }
def FnMilnorSumsSaid : Prop := fnMilnorSumsRow.holds Tryz.pinned (OpenSpec.ofChange fnMilnorSumsSpec)

/-- ITS FALSE NEIGHBOUR: 'it returns false'. Refute it at one input. -/
def fnMilnorSumsWrong : ChangeSpec := { name := "fnMilnorSums", fn := fun _ => fun
  | [d] => { results := [.lit (.bool false)], args := [d] }
  | _ => none }
def FnMilnorSumsWrongFalsely : Prop := fnMilnorSumsRow.holds Tryz.pinned (OpenSpec.ofChange fnMilnorSumsWrong)

/-- 'laws.FnProfiles': WHATEVER THE INPUT: true; the input reads as it did. -/
def fnProfilesSpec : ChangeSpec := { name := "fnProfiles", fn := fun _ => fun
  | [d] => { results := [.lit (.bool true)], args := [d] }
  | _ => none }
def fnProfilesRow : OpenClaim := { program := "ytmnkccjddahcjaagreat", sum := "3d789537c11af896226427a4d7333208e0285d3fd13b75ec1f9ba89864b3baa7", func := "loop.example/g01154/laws.FnProfiles", spec := "fnProfiles", unfollowed := true, recurses := true, apart := false }
def FnProfilesSaid : Prop := fnProfilesRow.holds Tryz.pinned (OpenSpec.ofChange fnProfilesSpec)

/-- ITS FALSE NEIGHBOUR: 'it returns false'. Refute it at one input. -/
def fnProfilesWrong : ChangeSpec := { name := "fnProfiles", fn := fun _ => fun
  | [d] => { results := [.lit (.bool false)], args := [d] }
  | _ => none }
def FnProfilesWrongFalsely : Prop := fnProfilesRow.holds Tryz.pinned (OpenSpec.ofChange fnProfilesWrong)

/-- 'laws.FnElements': WHATEVER THE INPUT: true; the input reads as it did. -/
def fnElementsSpec : ChangeSpec := { name := "fnElements", fn := fun _ => fun
  | [d] => { results := [.lit (.bool true)], args := [d] }
  | _ => none }
def fnElementsRow : OpenClaim := { program := "ytmnkccjddahcjaagreat", sum := "3d789537c11af896226427a4d7333208e0285d3fd13b75ec1f9ba89864b3baa7", func := "loop.example/g01154/laws.FnElements", spec := "fnElements", unfollowed := true, recurses := true, apart := false }
def FnElementsSaid : Prop := fnElementsRow.holds Tryz.pinned (OpenSpec.ofChange fnElementsSpec)

/-- ITS FALSE NEIGHBOUR: 'it returns false'. Refute it at one input. -/
def fnElementsWrong : ChangeSpec := { name := "fnElements", fn := fun _ => fun
  | [d] => { results := [.lit (.bool false)], args := [d] }
  | _ => none }
def FnElementsWrongFalsely : Prop := fnElementsRow.holds Tryz.pinned (OpenSpec.ofChange fnElementsWrong)

/- THE SECOND FORM. 'bulk': how many values and letters a reading holds, each counted each time it is reached (what is shared counts as often as it is met; a slice's spare places count too). A statement '..UptoSaid' is the law's where the arguments, and the package variables that the reading takes, are together of bulk at most 1048576: NARROWER than '..Said'. Prove '..Said' where nothing that the law and all that it calls make is longer than what came in: it says more and counts as full. Else prove '..UptoSaid'. A law counts once. -/
mutual
def uptoBulk {H : Type} : DataW H → Nat
  | .lit (.string bytes) => bytes.length + 1
  | .lit _ => 1
  | .nil => 1
  | .ptr d => uptoBulk d + 1
  | .slice elems spare => uptoBulkAll elems + uptoBulkAll spare + 1
  | .agg parts => uptoBulkAll parts + 1
  | .iface _ d => uptoBulk d + 1
  | .map entries => uptoBulkEntries entries + 1
  | .held _ => 1
def uptoBulkAll {H : Type} : List (DataW H) → Nat
  | [] => 0
  | d :: r => uptoBulk d + uptoBulkAll r
def uptoBulkEntries {H : Type} : List (Lit × DataW H) → Nat
  | [] => 0
  | x :: r => uptoBulkEntry x + uptoBulkEntries r
def uptoBulkEntry {H : Type} : Lit × DataW H → Nat
  | (.string bytes, d) => bytes.length + uptoBulk d + 1
  | (_, d) => uptoBulk d + 1
 end
def uptoSmall : (H : Type) → List (DataW H) → Bool := fun _ ds => decide (uptoBulkAll ds ≤ 1048576)
def OpenSpec.upto (s : _root_.Go.ChangeSpec) : _root_.Go.OpenSpec := { _root_.Go.OpenSpec.ofChange s with cond := some uptoSmall }

/-- 'laws.FnExactContractionOf', WHERE WHAT IT READS IS OF BULK AT MOST 1048576: true; the input reads as it did. -/
def fnExactContractionOfUptoRow : OpenClaim := { program := "ytmnkccjddahcjaagreat", sum := "3d789537c11af896226427a4d7333208e0285d3fd13b75ec1f9ba89864b3baa7", func := "loop.example/g01154/laws.FnExactContractionOf", spec := "fnExactContractionOf", unfollowed := true, recurses := true, apart := false, narrowed := true }
def FnExactContractionOfUptoSaid : Prop := fnExactContractionOfUptoRow.holds Tryz.pinned (OpenSpec.upto fnExactContractionOfSpec)

/-- 'laws.FnPairings', WHERE WHAT IT READS IS OF BULK AT MOST 1048576: true; the input reads as it did. -/
def fnPairingsUptoRow : OpenClaim := { program := "ytmnkccjddahcjaagreat", sum := "3d789537c11af896226427a4d7333208e0285d3fd13b75ec1f9ba89864b3baa7", func := "loop.example/g01154/laws.FnPairings", spec := "fnPairings", unfollowed := true, recurses := true, apart := false, narrowed := true }
def FnPairingsUptoSaid : Prop := fnPairingsUptoRow.holds Tryz.pinned (OpenSpec.upto fnPairingsSpec)

/-- 'laws.FnConjugates', WHERE WHAT IT READS IS OF BULK AT MOST 1048576: true; the input reads as it did. -/
def fnConjugatesUptoRow : OpenClaim := { program := "ytmnkccjddahcjaagreat", sum := "3d789537c11af896226427a4d7333208e0285d3fd13b75ec1f9ba89864b3baa7", func := "loop.example/g01154/laws.FnConjugates", spec := "fnConjugates", unfollowed := true, recurses := true, apart := false, narrowed := true }
def FnConjugatesUptoSaid : Prop := fnConjugatesUptoRow.holds Tryz.pinned (OpenSpec.upto fnConjugatesSpec)

/-- 'laws.FnMilnorSums', WHERE WHAT IT READS IS OF BULK AT MOST 1048576: true; the input reads as it did. -/
def fnMilnorSumsUptoRow : OpenClaim := { program := "ytmnkccjddahcjaagreat", sum := "3d789537c11af896226427a4d7333208e0285d3fd13b75ec1f9ba89864b3baa7", func := "loop.example/g01154/laws.FnMilnorSums", spec := "fnMilnorSums", unfollowed := true, recurses := true, apart := false, narrowed := true }
def FnMilnorSumsUptoSaid : Prop := fnMilnorSumsUptoRow.holds Tryz.pinned (OpenSpec.upto fnMilnorSumsSpec)

/-- 'laws.FnProfiles', WHERE WHAT IT READS IS OF BULK AT MOST 1048576: true; the input reads as it did. -/
def fnProfilesUptoRow : OpenClaim := { program := "ytmnkccjddahcjaagreat", sum := "3d789537c11af896226427a4d7333208e0285d3fd13b75ec1f9ba89864b3baa7", func := "loop.example/g01154/laws.FnProfiles", spec := "fnProfiles", unfollowed := true, recurses := true, apart := false, narrowed := true }
def FnProfilesUptoSaid : Prop := fnProfilesUptoRow.holds Tryz.pinned (OpenSpec.upto fnProfilesSpec)

/-- 'laws.FnElements', WHERE WHAT IT READS IS OF BULK AT MOST 1048576: true; the input reads as it did. -/
def fnElementsUptoRow : OpenClaim := { program := "ytmnkccjddahcjaagreat", sum := "3d789537c11af896226427a4d7333208e0285d3fd13b75ec1f9ba89864b3baa7", func := "loop.example/g01154/laws.FnElements", spec := "fnElements", unfollowed := true, recurses := true, apart := false, narrowed := true }
def FnElementsUptoSaid : Prop := fnElementsUptoRow.holds Tryz.pinned (OpenSpec.upto fnElementsSpec)

end Rows
end Go.Proofs.YtmnkccjddahcjaaGreat
