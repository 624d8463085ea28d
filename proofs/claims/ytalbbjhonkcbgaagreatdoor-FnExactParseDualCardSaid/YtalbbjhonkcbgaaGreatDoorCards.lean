/-
  DERIVED. GIVEN WITH THE SEED: THE CARDS: each row of YtalbbjhonkcbgaaGreatDoorRows.lean that lists a variable, with what it lists TIED to the program's text (the seventh form; the later family's looks); each row that meets fmt, with fmt's text TOLD by the authors' own Lean function (tested against real Go, not proved from fmt's source: count such statements apart). THE CARD IS WHAT COUNTS. Prove the row's statement (the work); the ties are given (YtalbbjhonkcbgaaGreatDoorTie.lean); close each card by the builder's one call (the guide's Derived/Test/ToyasCard.lean, 'card_holds'). Laid BY PROGRAM, IN A SANDBOX (cutbox-door.mjs). By AI agents, Wed Nov 11 2026. No macro, syntax, notation, axiom, sorry.
-/
import Derived.Test.YtalbbjhonkcbgaaGreatDoorRows
import GoSem.ClaimSeven
namespace Go.Proofs.YtalbbjhonkcbgaaGreatDoor
namespace Rows

/-- THE TIED CARD OF 'laws.FnExactParseDual'. -/
def fnExactParseDualCard : Claim7 := { stood := { row := fnExactParseDualRow, standIns := [], harness := (true, "ac528562c7411d1b6f91ca58f775cc6bb5a90b9d6246858650a54343f629d1f7"), looks := true }, kinds := [], alts := [], laidByText := true, laidKinds := [.data, .data, .data, .data, .sentinel, .sentinel, .pinned], laidTests := true, laidLooks := .later }
def FnExactParseDualCardSaid : Prop := Claim7.holds Tryz.pinned (.plain (OpenSpec.ofChange fnExactParseDualSpec)) fnExactParseDualCard

/-- THE TIED CARD OF 'laws.FnExactParseModule'. -/
def fnExactParseModuleCard : Claim7 := { stood := { row := fnExactParseModuleRow, standIns := [], harness := (true, "ac528562c7411d1b6f91ca58f775cc6bb5a90b9d6246858650a54343f629d1f7"), looks := true }, kinds := [], alts := [], laidByText := true, laidKinds := [.data, .data, .data, .data, .sentinel, .sentinel, .pinned], laidTests := true, laidLooks := .later }
def FnExactParseModuleCardSaid : Prop := Claim7.holds Tryz.pinned (.plain (OpenSpec.ofChange fnExactParseModuleSpec)) fnExactParseModuleCard

/-- THE SECOND FORM's CARD OF 'laws.FnExactParseDual'. -/
def fnExactParseDualUptoCard : Claim7 := { stood := { row := fnExactParseDualUptoRow, standIns := [], harness := (true, "ac528562c7411d1b6f91ca58f775cc6bb5a90b9d6246858650a54343f629d1f7"), looks := true }, kinds := [], alts := [], laidByText := true, laidKinds := [.data, .data, .data, .data, .sentinel, .sentinel, .pinned], laidTests := true, laidLooks := .later }
def FnExactParseDualUptoCardSaid : Prop := Claim7.holds Tryz.pinned (.plain (OpenSpec.upto fnExactParseDualSpec)) fnExactParseDualUptoCard

/-- THE SECOND FORM's CARD OF 'laws.FnExactParseModule'. -/
def fnExactParseModuleUptoCard : Claim7 := { stood := { row := fnExactParseModuleUptoRow, standIns := [], harness := (true, "ac528562c7411d1b6f91ca58f775cc6bb5a90b9d6246858650a54343f629d1f7"), looks := true }, kinds := [], alts := [], laidByText := true, laidKinds := [.data, .data, .data, .data, .sentinel, .sentinel, .pinned], laidTests := true, laidLooks := .later }
def FnExactParseModuleUptoCardSaid : Prop := Claim7.holds Tryz.pinned (.plain (OpenSpec.upto fnExactParseModuleSpec)) fnExactParseModuleUptoCard
end Rows
end Go.Proofs.YtalbbjhonkcbgaaGreatDoor
