/-
  DERIVED. GIVEN WITH THE SEED: THE CARDS: each row of YtljfpkhgijangaaDoorRows.lean that lists a variable, with what it lists TIED to the program's text (the seventh form; the later family's looks); each row that meets fmt, with fmt's text TOLD by the authors' own Lean function (tested against real Go, not proved from fmt's source: count such statements apart). THE CARD IS WHAT COUNTS. Prove the row's statement (the work); the ties are given (YtljfpkhgijangaaDoorTie.lean); close each card by the builder's one call (the guide's Derived/Test/ToyasCard.lean, 'card_holds'). Laid BY PROGRAM, IN A SANDBOX (cutbox-door.mjs). By AI agents, Wed Nov 11 2026. No macro, syntax, notation, axiom, sorry.
-/
import Derived.Test.YtljfpkhgijangaaDoorRows
import GoSem.ClaimSeven
namespace Go.Proofs.YtljfpkhgijangaaDoor
namespace Rows

/-- THE TIED CARD OF 'laws.FnExactMilnorText'. -/
def fnExactMilnorTextCard : Claim7 := { stood := { row := fnExactMilnorTextRow, standIns := [], harness := (true, "b7a0901ec1e5a0535e113cb23dee71e232a6b081c0e3a8f7295ae46da952f3a7"), looks := false }, kinds := [], alts := [], laidByText := true, laidKinds := [.data, .data, .data], laidTests := true, laidLooks := .later }
def FnExactMilnorTextCardSaid : Prop := Claim7.holds Tryd.pinned (.plain (OpenSpec.ofChange fnExactMilnorTextSpec)) fnExactMilnorTextCard

/-- THE TIED CARD OF 'laws.FnExactDualText'. -/
def fnExactDualTextCard : Claim7 := { stood := { row := fnExactDualTextRow, standIns := [], harness := (true, "b7a0901ec1e5a0535e113cb23dee71e232a6b081c0e3a8f7295ae46da952f3a7"), looks := false }, kinds := [], alts := [], laidByText := true, laidKinds := [.data, .data, .data], laidTests := true, laidLooks := .later }
def FnExactDualTextCardSaid : Prop := Claim7.holds Tryd.pinned (.plain (OpenSpec.ofChange fnExactDualTextSpec)) fnExactDualTextCard

/-- THE TIED CARD OF 'laws.FnExactModuleText'. -/
def fnExactModuleTextCard : Claim7 := { stood := { row := fnExactModuleTextRow, standIns := [], harness := (true, "b7a0901ec1e5a0535e113cb23dee71e232a6b081c0e3a8f7295ae46da952f3a7"), looks := false }, kinds := [], alts := [], laidByText := true, laidKinds := [.data, .data, .data], laidTests := true, laidLooks := .later }
def FnExactModuleTextCardSaid : Prop := Claim7.holds Tryd.pinned (.plain (OpenSpec.ofChange fnExactModuleTextSpec)) fnExactModuleTextCard

/-- THE SECOND FORM's CARD OF 'laws.FnExactMilnorText'. -/
def fnExactMilnorTextUptoCard : Claim7 := { stood := { row := fnExactMilnorTextUptoRow, standIns := [], harness := (true, "b7a0901ec1e5a0535e113cb23dee71e232a6b081c0e3a8f7295ae46da952f3a7"), looks := false }, kinds := [], alts := [], laidByText := true, laidKinds := [.data, .data, .data], laidTests := true, laidLooks := .later }
def FnExactMilnorTextUptoCardSaid : Prop := Claim7.holds Tryd.pinned (.plain (OpenSpec.upto fnExactMilnorTextSpec)) fnExactMilnorTextUptoCard

/-- THE SECOND FORM's CARD OF 'laws.FnExactDualText'. -/
def fnExactDualTextUptoCard : Claim7 := { stood := { row := fnExactDualTextUptoRow, standIns := [], harness := (true, "b7a0901ec1e5a0535e113cb23dee71e232a6b081c0e3a8f7295ae46da952f3a7"), looks := false }, kinds := [], alts := [], laidByText := true, laidKinds := [.data, .data, .data], laidTests := true, laidLooks := .later }
def FnExactDualTextUptoCardSaid : Prop := Claim7.holds Tryd.pinned (.plain (OpenSpec.upto fnExactDualTextSpec)) fnExactDualTextUptoCard

/-- THE SECOND FORM's CARD OF 'laws.FnExactModuleText'. -/
def fnExactModuleTextUptoCard : Claim7 := { stood := { row := fnExactModuleTextUptoRow, standIns := [], harness := (true, "b7a0901ec1e5a0535e113cb23dee71e232a6b081c0e3a8f7295ae46da952f3a7"), looks := false }, kinds := [], alts := [], laidByText := true, laidKinds := [.data, .data, .data], laidTests := true, laidLooks := .later }
def FnExactModuleTextUptoCardSaid : Prop := Claim7.holds Tryd.pinned (.plain (OpenSpec.upto fnExactModuleTextSpec)) fnExactModuleTextUptoCard
end Rows
end Go.Proofs.YtljfpkhgijangaaDoor
