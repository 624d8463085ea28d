/-
  DERIVED. GIVEN WITH THE SEED: THE CARDS: each row of YtalbbjhonkcbgaaDoorRows.lean that lists a variable, with what it lists TIED to the program's text (the seventh form; the later family's looks); each row that meets fmt, with fmt's text TOLD by the authors' own Lean function (tested against real Go, not proved from fmt's source: count such statements apart). THE CARD IS WHAT COUNTS. Prove the row's statement (the work); the ties are given (YtalbbjhonkcbgaaDoorTie.lean); close each card by the builder's one call (the guide's Derived/Test/ToyasCard.lean, 'card_holds'). Laid BY PROGRAM, IN A SANDBOX (cutbox-door.mjs). By AI agents, Wed Nov 11 2026. No macro, syntax, notation, axiom, sorry.
-/
import Derived.Test.YtalbbjhonkcbgaaDoorRows
import GoSem.ClaimSeven
namespace Go.Proofs.YtalbbjhonkcbgaaDoor
namespace Rows

/-- THE TIED CARD OF 'laws.FnExactParseMilnor'. -/
def fnExactParseMilnorCard : Claim7 := { stood := { row := fnExactParseMilnorRow, standIns := [], harness := (true, "a3333d5afed37a9f04926d16cbaaae3a7d18e5d03853d23d8a0a9d9a3671e0ce"), looks := true }, kinds := [], alts := [], laidByText := true, laidKinds := [.data, .data, .data, .data, .sentinel, .sentinel, .pinned], laidTests := true, laidLooks := .later }
def FnExactParseMilnorCardSaid : Prop := Claim7.holds Tryd.pinned (.plain (OpenSpec.ofChange fnExactParseMilnorSpec)) fnExactParseMilnorCard

/-- THE SECOND FORM's CARD OF 'laws.FnExactParseMilnor'. -/
def fnExactParseMilnorUptoCard : Claim7 := { stood := { row := fnExactParseMilnorUptoRow, standIns := [], harness := (true, "a3333d5afed37a9f04926d16cbaaae3a7d18e5d03853d23d8a0a9d9a3671e0ce"), looks := true }, kinds := [], alts := [], laidByText := true, laidKinds := [.data, .data, .data, .data, .sentinel, .sentinel, .pinned], laidTests := true, laidLooks := .later }
def FnExactParseMilnorUptoCardSaid : Prop := Claim7.holds Tryd.pinned (.plain (OpenSpec.upto fnExactParseMilnorSpec)) fnExactParseMilnorUptoCard
end Rows
end Go.Proofs.YtalbbjhonkcbgaaDoor
