/-
  DERIVED. GIVEN WITH THE SEED: THE CARDS: each row of YtpnhfkmgnkdleaaDoorRows.lean that lists a variable, with what it lists TIED to the program's text (the seventh form; the later family's looks); each row that meets fmt, with fmt's text TOLD by the authors' own Lean function (tested against real Go, not proved from fmt's source: count such statements apart). THE CARD IS WHAT COUNTS. Prove the row's statement (the work); the ties are given (YtpnhfkmgnkdleaaDoorTie.lean); close each card by the builder's one call (the guide's Derived/Test/ToyasCard.lean, 'card_holds'). Laid BY PROGRAM, IN A SANDBOX (cutbox-door.mjs). By AI agents, Wed Nov 11 2026. No macro, syntax, notation, axiom, sorry.
-/
import Derived.Test.YtpnhfkmgnkdleaaDoorRows
import GoSem.ClaimSeven
namespace Go.Proofs.YtpnhfkmgnkdleaaDoor
namespace Rows

/-- THE TIED CARD OF 'heraldlaw14.StreamPlays'. -/
def streamPlaysCard : Claim7 := { stood := { row := streamPlaysRow, standIns := [], harness := (true, "dc00debe1422c7e72c92b60bbe7657b437c3e35fc4b7b4293efa8263fc7ef59c"), looks := false }, kinds := [], alts := [], laidByText := true, laidKinds := [.data, .pinned], laidTests := true, laidLooks := .later }
def StreamPlaysCardSaid : Prop := Claim7.holds Tryd.pinned (.plain (OpenSpec.ofChange streamPlaysSpec)) streamPlaysCard

/-- THE TIED CARD OF 'heraldlaw14.StreamTwo'. -/
def streamTwoCard : Claim7 := { stood := { row := streamTwoRow, standIns := [], harness := (true, "dc00debe1422c7e72c92b60bbe7657b437c3e35fc4b7b4293efa8263fc7ef59c"), looks := false }, kinds := [], alts := [], laidByText := true, laidKinds := [.data, .pinned], laidTests := true, laidLooks := .later }
def StreamTwoCardSaid : Prop := Claim7.holds Tryd.pinned (.plain (OpenSpec.ofChange streamTwoSpec)) streamTwoCard

/-- THE TIED CARD OF 'heraldlaw14.StreamWhole'. -/
def streamWholeCard : Claim7 := { stood := { row := streamWholeRow, standIns := [], harness := (true, "dc00debe1422c7e72c92b60bbe7657b437c3e35fc4b7b4293efa8263fc7ef59c"), looks := false }, kinds := [], alts := [], laidByText := true, laidKinds := [.data, .pinned], laidTests := true, laidLooks := .later }
def StreamWholeCardSaid : Prop := Claim7.holds Tryd.pinned (.plain (OpenSpec.ofChange streamWholeSpec)) streamWholeCard

/-- THE TIED CARD OF 'heraldlaw14.StreamCuts'. -/
def streamCutsCard : Claim7 := { stood := { row := streamCutsRow, standIns := [], harness := (true, "dc00debe1422c7e72c92b60bbe7657b437c3e35fc4b7b4293efa8263fc7ef59c"), looks := false }, kinds := [], alts := [], laidByText := true, laidKinds := [.data, .pinned], laidTests := true, laidLooks := .later }
def StreamCutsCardSaid : Prop := Claim7.holds Tryd.pinned (.plain (OpenSpec.ofChange streamCutsSpec)) streamCutsCard

/-- THE TIED CARD OF 'heraldlaw14.StreamCleans'. -/
def streamCleansCard : Claim7 := { stood := { row := streamCleansRow, standIns := [], harness := (true, "dc00debe1422c7e72c92b60bbe7657b437c3e35fc4b7b4293efa8263fc7ef59c"), looks := false }, kinds := [], alts := [], laidByText := true, laidKinds := [.data, .pinned], laidTests := true, laidLooks := .later }
def StreamCleansCardSaid : Prop := Claim7.holds Tryd.pinned (.plain (OpenSpec.ofChange streamCleansSpec)) streamCleansCard

/-- THE TIED CARD OF 'heraldlaw14.StreamMarks'. -/
def streamMarksCard : Claim7 := { stood := { row := streamMarksRow, standIns := [], harness := (true, "dc00debe1422c7e72c92b60bbe7657b437c3e35fc4b7b4293efa8263fc7ef59c"), looks := false }, kinds := [], alts := [], laidByText := true, laidKinds := [.data, .pinned], laidTests := true, laidLooks := .later }
def StreamMarksCardSaid : Prop := Claim7.holds Tryd.pinned (.plain (OpenSpec.ofChange streamMarksSpec)) streamMarksCard

/-- THE TIED CARD OF 'heraldlaw14.StreamStops'. -/
def streamStopsCard : Claim7 := { stood := { row := streamStopsRow, standIns := [], harness := (true, "dc00debe1422c7e72c92b60bbe7657b437c3e35fc4b7b4293efa8263fc7ef59c"), looks := false }, kinds := [], alts := [], laidByText := true, laidKinds := [.data, .pinned], laidTests := true, laidLooks := .later }
def StreamStopsCardSaid : Prop := Claim7.holds Tryd.pinned (.plain (OpenSpec.ofChange streamStopsSpec)) streamStopsCard

/-- THE TIED CARD OF 'heraldlaw14.StreamUnquotes'. -/
def streamUnquotesCard : Claim7 := { stood := { row := streamUnquotesRow, standIns := [], harness := (true, "dc00debe1422c7e72c92b60bbe7657b437c3e35fc4b7b4293efa8263fc7ef59c"), looks := false }, kinds := [], alts := [], laidByText := true, laidKinds := [.data, .pinned], laidTests := true, laidLooks := .later }
def StreamUnquotesCardSaid : Prop := Claim7.holds Tryd.pinned (.plain (OpenSpec.ofChange streamUnquotesSpec)) streamUnquotesCard

/-- THE TIED CARD OF 'heraldlaw14.StreamQuotes'. -/
def streamQuotesCard : Claim7 := { stood := { row := streamQuotesRow, standIns := [], harness := (true, "dc00debe1422c7e72c92b60bbe7657b437c3e35fc4b7b4293efa8263fc7ef59c"), looks := false }, kinds := [], alts := [], laidByText := true, laidKinds := [.data, .pinned], laidTests := true, laidLooks := .later }
def StreamQuotesCardSaid : Prop := Claim7.holds Tryd.pinned (.plain (OpenSpec.ofChange streamQuotesSpec)) streamQuotesCard

/-- THE TIED CARD OF 'heraldlaw14.StreamEvents'. -/
def streamEventsCard : Claim7 := { stood := { row := streamEventsRow, standIns := [], harness := (true, "dc00debe1422c7e72c92b60bbe7657b437c3e35fc4b7b4293efa8263fc7ef59c"), looks := false }, kinds := [], alts := [], laidByText := true, laidKinds := [.data, .pinned], laidTests := true, laidLooks := .later }
def StreamEventsCardSaid : Prop := Claim7.holds Tryd.pinned (.plain (OpenSpec.ofChange streamEventsSpec)) streamEventsCard

/-- THE TIED CARD OF 'heraldlaw14.StreamReads'. -/
def streamReadsCard : Claim7 := { stood := { row := streamReadsRow, standIns := [], harness := (true, "dc00debe1422c7e72c92b60bbe7657b437c3e35fc4b7b4293efa8263fc7ef59c"), looks := false }, kinds := [], alts := [], laidByText := true, laidKinds := [.data, .pinned], laidTests := true, laidLooks := .later }
def StreamReadsCardSaid : Prop := Claim7.holds Tryd.pinned (.plain (OpenSpec.ofChange streamReadsSpec)) streamReadsCard

/-- THE SECOND FORM's CARD OF 'heraldlaw14.StreamPlays'. -/
def streamPlaysUptoCard : Claim7 := { stood := { row := streamPlaysUptoRow, standIns := [], harness := (true, "dc00debe1422c7e72c92b60bbe7657b437c3e35fc4b7b4293efa8263fc7ef59c"), looks := false }, kinds := [], alts := [], laidByText := true, laidKinds := [.data, .pinned], laidTests := true, laidLooks := .later }
def StreamPlaysUptoCardSaid : Prop := Claim7.holds Tryd.pinned (.plain (OpenSpec.upto streamPlaysSpec)) streamPlaysUptoCard

/-- THE SECOND FORM's CARD OF 'heraldlaw14.StreamTwo'. -/
def streamTwoUptoCard : Claim7 := { stood := { row := streamTwoUptoRow, standIns := [], harness := (true, "dc00debe1422c7e72c92b60bbe7657b437c3e35fc4b7b4293efa8263fc7ef59c"), looks := false }, kinds := [], alts := [], laidByText := true, laidKinds := [.data, .pinned], laidTests := true, laidLooks := .later }
def StreamTwoUptoCardSaid : Prop := Claim7.holds Tryd.pinned (.plain (OpenSpec.upto streamTwoSpec)) streamTwoUptoCard

/-- THE SECOND FORM's CARD OF 'heraldlaw14.StreamWhole'. -/
def streamWholeUptoCard : Claim7 := { stood := { row := streamWholeUptoRow, standIns := [], harness := (true, "dc00debe1422c7e72c92b60bbe7657b437c3e35fc4b7b4293efa8263fc7ef59c"), looks := false }, kinds := [], alts := [], laidByText := true, laidKinds := [.data, .pinned], laidTests := true, laidLooks := .later }
def StreamWholeUptoCardSaid : Prop := Claim7.holds Tryd.pinned (.plain (OpenSpec.upto streamWholeSpec)) streamWholeUptoCard

/-- THE SECOND FORM's CARD OF 'heraldlaw14.StreamCuts'. -/
def streamCutsUptoCard : Claim7 := { stood := { row := streamCutsUptoRow, standIns := [], harness := (true, "dc00debe1422c7e72c92b60bbe7657b437c3e35fc4b7b4293efa8263fc7ef59c"), looks := false }, kinds := [], alts := [], laidByText := true, laidKinds := [.data, .pinned], laidTests := true, laidLooks := .later }
def StreamCutsUptoCardSaid : Prop := Claim7.holds Tryd.pinned (.plain (OpenSpec.upto streamCutsSpec)) streamCutsUptoCard

/-- THE SECOND FORM's CARD OF 'heraldlaw14.StreamCleans'. -/
def streamCleansUptoCard : Claim7 := { stood := { row := streamCleansUptoRow, standIns := [], harness := (true, "dc00debe1422c7e72c92b60bbe7657b437c3e35fc4b7b4293efa8263fc7ef59c"), looks := false }, kinds := [], alts := [], laidByText := true, laidKinds := [.data, .pinned], laidTests := true, laidLooks := .later }
def StreamCleansUptoCardSaid : Prop := Claim7.holds Tryd.pinned (.plain (OpenSpec.upto streamCleansSpec)) streamCleansUptoCard

/-- THE SECOND FORM's CARD OF 'heraldlaw14.StreamMarks'. -/
def streamMarksUptoCard : Claim7 := { stood := { row := streamMarksUptoRow, standIns := [], harness := (true, "dc00debe1422c7e72c92b60bbe7657b437c3e35fc4b7b4293efa8263fc7ef59c"), looks := false }, kinds := [], alts := [], laidByText := true, laidKinds := [.data, .pinned], laidTests := true, laidLooks := .later }
def StreamMarksUptoCardSaid : Prop := Claim7.holds Tryd.pinned (.plain (OpenSpec.upto streamMarksSpec)) streamMarksUptoCard

/-- THE SECOND FORM's CARD OF 'heraldlaw14.StreamStops'. -/
def streamStopsUptoCard : Claim7 := { stood := { row := streamStopsUptoRow, standIns := [], harness := (true, "dc00debe1422c7e72c92b60bbe7657b437c3e35fc4b7b4293efa8263fc7ef59c"), looks := false }, kinds := [], alts := [], laidByText := true, laidKinds := [.data, .pinned], laidTests := true, laidLooks := .later }
def StreamStopsUptoCardSaid : Prop := Claim7.holds Tryd.pinned (.plain (OpenSpec.upto streamStopsSpec)) streamStopsUptoCard

/-- THE SECOND FORM's CARD OF 'heraldlaw14.StreamUnquotes'. -/
def streamUnquotesUptoCard : Claim7 := { stood := { row := streamUnquotesUptoRow, standIns := [], harness := (true, "dc00debe1422c7e72c92b60bbe7657b437c3e35fc4b7b4293efa8263fc7ef59c"), looks := false }, kinds := [], alts := [], laidByText := true, laidKinds := [.data, .pinned], laidTests := true, laidLooks := .later }
def StreamUnquotesUptoCardSaid : Prop := Claim7.holds Tryd.pinned (.plain (OpenSpec.upto streamUnquotesSpec)) streamUnquotesUptoCard

/-- THE SECOND FORM's CARD OF 'heraldlaw14.StreamQuotes'. -/
def streamQuotesUptoCard : Claim7 := { stood := { row := streamQuotesUptoRow, standIns := [], harness := (true, "dc00debe1422c7e72c92b60bbe7657b437c3e35fc4b7b4293efa8263fc7ef59c"), looks := false }, kinds := [], alts := [], laidByText := true, laidKinds := [.data, .pinned], laidTests := true, laidLooks := .later }
def StreamQuotesUptoCardSaid : Prop := Claim7.holds Tryd.pinned (.plain (OpenSpec.upto streamQuotesSpec)) streamQuotesUptoCard

/-- THE SECOND FORM's CARD OF 'heraldlaw14.StreamEvents'. -/
def streamEventsUptoCard : Claim7 := { stood := { row := streamEventsUptoRow, standIns := [], harness := (true, "dc00debe1422c7e72c92b60bbe7657b437c3e35fc4b7b4293efa8263fc7ef59c"), looks := false }, kinds := [], alts := [], laidByText := true, laidKinds := [.data, .pinned], laidTests := true, laidLooks := .later }
def StreamEventsUptoCardSaid : Prop := Claim7.holds Tryd.pinned (.plain (OpenSpec.upto streamEventsSpec)) streamEventsUptoCard

/-- THE SECOND FORM's CARD OF 'heraldlaw14.StreamReads'. -/
def streamReadsUptoCard : Claim7 := { stood := { row := streamReadsUptoRow, standIns := [], harness := (true, "dc00debe1422c7e72c92b60bbe7657b437c3e35fc4b7b4293efa8263fc7ef59c"), looks := false }, kinds := [], alts := [], laidByText := true, laidKinds := [.data, .pinned], laidTests := true, laidLooks := .later }
def StreamReadsUptoCardSaid : Prop := Claim7.holds Tryd.pinned (.plain (OpenSpec.upto streamReadsSpec)) streamReadsUptoCard
end Rows
end Go.Proofs.YtpnhfkmgnkdleaaDoor
