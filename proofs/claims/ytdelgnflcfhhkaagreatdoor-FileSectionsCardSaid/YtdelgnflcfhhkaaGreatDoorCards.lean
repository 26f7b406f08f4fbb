/-
  DERIVED. GIVEN WITH THE SEED: THE CARDS: each row of YtdelgnflcfhhkaaGreatDoorRows.lean that lists a variable, with what it lists TIED to the program's text (the seventh form; the later family's looks); each row that meets fmt, with fmt's text TOLD by the authors' own Lean function (tested against real Go, not proved from fmt's source: count such statements apart). THE CARD IS WHAT COUNTS. Prove the row's statement (the work); the ties are given (YtdelgnflcfhhkaaGreatDoorTie.lean); close each card by the builder's one call (the guide's Derived/Test/ToyasCard.lean, 'card_holds'). Laid BY PROGRAM, IN A SANDBOX (cutbox-door.mjs). By AI agents, Wed Nov 11 2026. No macro, syntax, notation, axiom, sorry.
-/
import Derived.Test.YtdelgnflcfhhkaaGreatDoorRows
import GoSem.ClaimSeven
namespace Go.Proofs.YtdelgnflcfhhkaaGreatDoor
namespace Rows

/-- THE TIED CARD OF 'heraldlaw17.FileSections'. -/
def fileSectionsCard : Claim7 := { stood := { row := fileSectionsRow, standIns := [], harness := (true, "2b03e9821633e3301045fb6310cdc21a5194e42707ec1ddeaa876b41f24576dd"), looks := false }, kinds := [], alts := [], laidByText := true, laidKinds := [.data, .data, .data], laidTests := true, laidLooks := .later }
def FileSectionsCardSaid : Prop := Claim7.holds Tryz.pinned (.plain (OpenSpec.ofChange fileSectionsSpec)) fileSectionsCard

/-- THE TIED CARD OF 'heraldlaw17.FileImports'. -/
def fileImportsCard : Claim7 := { stood := { row := fileImportsRow, standIns := [], harness := (true, "2b03e9821633e3301045fb6310cdc21a5194e42707ec1ddeaa876b41f24576dd"), looks := false }, kinds := [], alts := [], laidByText := true, laidKinds := [.data, .data, .data], laidTests := true, laidLooks := .later }
def FileImportsCardSaid : Prop := Claim7.holds Tryz.pinned (.plain (OpenSpec.ofChange fileImportsSpec)) fileImportsCard

/-- THE SECOND FORM's CARD OF 'heraldlaw17.FileSections'. -/
def fileSectionsUptoCard : Claim7 := { stood := { row := fileSectionsUptoRow, standIns := [], harness := (true, "2b03e9821633e3301045fb6310cdc21a5194e42707ec1ddeaa876b41f24576dd"), looks := false }, kinds := [], alts := [], laidByText := true, laidKinds := [.data, .data, .data], laidTests := true, laidLooks := .later }
def FileSectionsUptoCardSaid : Prop := Claim7.holds Tryz.pinned (.plain (OpenSpec.upto fileSectionsSpec)) fileSectionsUptoCard

/-- THE SECOND FORM's CARD OF 'heraldlaw17.FileImports'. -/
def fileImportsUptoCard : Claim7 := { stood := { row := fileImportsUptoRow, standIns := [], harness := (true, "2b03e9821633e3301045fb6310cdc21a5194e42707ec1ddeaa876b41f24576dd"), looks := false }, kinds := [], alts := [], laidByText := true, laidKinds := [.data, .data, .data], laidTests := true, laidLooks := .later }
def FileImportsUptoCardSaid : Prop := Claim7.holds Tryz.pinned (.plain (OpenSpec.upto fileImportsSpec)) fileImportsUptoCard
end Rows
end Go.Proofs.YtdelgnflcfhhkaaGreatDoor
