/-
  DERIVED. GIVEN WITH THE SEED: THE CARDS: each row of YtalegkgonbmaoaaDoorRows.lean that lists a variable, with what it lists TIED to the program's text (the seventh form; the later family's looks); each row that meets fmt, with fmt's text TOLD by the authors' own Lean function (tested against real Go, not proved from fmt's source: count such statements apart). THE CARD IS WHAT COUNTS. Prove the row's statement (the work); the ties are given (YtalegkgonbmaoaaDoorTie.lean); close each card by the builder's one call (the guide's Derived/Test/ToyasCard.lean, 'card_holds'). Laid BY PROGRAM, IN A SANDBOX (cutbox-door.mjs). By AI agents, Wed Nov 11 2026. No macro, syntax, notation, axiom, sorry.
-/
import Derived.Test.YtalegkgonbmaoaaDoorRows
import GoSem.ClaimSeven
namespace Go.Proofs.YtalegkgonbmaoaaDoor
namespace Rows

/-- THE TIED CARD OF 'accordionlaw04.UtfSpelt'. -/
def utfSpeltCard : Claim7 := { stood := { row := utfSpeltRow, standIns := [], harness := (true, "943d39ffe7493d695022a304376d822a305df8ee7ed0b088b84dab5137550f20"), looks := false }, kinds := [], alts := [], laidByText := true, laidKinds := [.data, .pinned], laidTests := true, laidLooks := .later }
def UtfSpeltCardSaid : Prop := Claim7.holds Tryd.pinned (.plain (OpenSpec.ofChange utfSpeltSpec)) utfSpeltCard

/-- THE TIED CARD OF 'accordionlaw04.UtfCut'. -/
def utfCutCard : Claim7 := { stood := { row := utfCutRow, standIns := [], harness := (true, "943d39ffe7493d695022a304376d822a305df8ee7ed0b088b84dab5137550f20"), looks := false }, kinds := [], alts := [], laidByText := true, laidKinds := [.data, .pinned], laidTests := true, laidLooks := .later }
def UtfCutCardSaid : Prop := Claim7.holds Tryd.pinned (.plain (OpenSpec.ofChange utfCutSpec)) utfCutCard

/-- THE TIED CARD OF 'accordionlaw04.UtfTells'. -/
def utfTellsCard : Claim7 := { stood := { row := utfTellsRow, standIns := [], harness := (true, "943d39ffe7493d695022a304376d822a305df8ee7ed0b088b84dab5137550f20"), looks := false }, kinds := [], alts := [], laidByText := true, laidKinds := [.data, .pinned], laidTests := true, laidLooks := .later }
def UtfTellsCardSaid : Prop := Claim7.holds Tryd.pinned (.plain (OpenSpec.ofChange utfTellsSpec)) utfTellsCard

/-- THE TIED CARD OF 'accordionlaw04.UtfReads'. -/
def utfReadsCard : Claim7 := { stood := { row := utfReadsRow, standIns := [], harness := (true, "943d39ffe7493d695022a304376d822a305df8ee7ed0b088b84dab5137550f20"), looks := false }, kinds := [], alts := [], laidByText := true, laidKinds := [.data, .pinned], laidTests := true, laidLooks := .later }
def UtfReadsCardSaid : Prop := Claim7.holds Tryd.pinned (.plain (OpenSpec.ofChange utfReadsSpec)) utfReadsCard

/-- THE TIED CARD OF 'accordionlaw04.UtfBack'. -/
def utfBackCard : Claim7 := { stood := { row := utfBackRow, standIns := [], harness := (true, "943d39ffe7493d695022a304376d822a305df8ee7ed0b088b84dab5137550f20"), looks := false }, kinds := [], alts := [], laidByText := true, laidKinds := [.data, .pinned], laidTests := true, laidLooks := .later }
def UtfBackCardSaid : Prop := Claim7.holds Tryd.pinned (.plain (OpenSpec.ofChange utfBackSpec)) utfBackCard

/-- THE TIED CARD OF 'accordionlaw04.UtfPlace'. -/
def utfPlaceCard : Claim7 := { stood := { row := utfPlaceRow, standIns := [], harness := (true, "943d39ffe7493d695022a304376d822a305df8ee7ed0b088b84dab5137550f20"), looks := false }, kinds := [], alts := [], laidByText := true, laidKinds := [.data, .pinned], laidTests := true, laidLooks := .later }
def UtfPlaceCardSaid : Prop := Claim7.holds Tryd.pinned (.plain (OpenSpec.ofChange utfPlaceSpec)) utfPlaceCard

/-- THE TIED CARD OF 'accordionlaw04.UtfRunes'. -/
def utfRunesCard : Claim7 := { stood := { row := utfRunesRow, standIns := [], harness := (true, "943d39ffe7493d695022a304376d822a305df8ee7ed0b088b84dab5137550f20"), looks := false }, kinds := [], alts := [], laidByText := true, laidKinds := [.data, .pinned], laidTests := true, laidLooks := .later }
def UtfRunesCardSaid : Prop := Claim7.holds Tryd.pinned (.plain (OpenSpec.ofChange utfRunesSpec)) utfRunesCard

/-- THE TIED CARD OF 'accordionlaw04.UtfKnown'. -/
def utfKnownCard : Claim7 := { stood := { row := utfKnownRow, standIns := [], harness := (true, "943d39ffe7493d695022a304376d822a305df8ee7ed0b088b84dab5137550f20"), looks := false }, kinds := [], alts := [], laidByText := true, laidKinds := [.data, .pinned], laidTests := true, laidLooks := .later }
def UtfKnownCardSaid : Prop := Claim7.holds Tryd.pinned (.plain (OpenSpec.ofChange utfKnownSpec)) utfKnownCard

/-- THE SECOND FORM's CARD OF 'accordionlaw04.UtfSpelt'. -/
def utfSpeltUptoCard : Claim7 := { stood := { row := utfSpeltUptoRow, standIns := [], harness := (true, "943d39ffe7493d695022a304376d822a305df8ee7ed0b088b84dab5137550f20"), looks := false }, kinds := [], alts := [], laidByText := true, laidKinds := [.data, .pinned], laidTests := true, laidLooks := .later }
def UtfSpeltUptoCardSaid : Prop := Claim7.holds Tryd.pinned (.plain (OpenSpec.upto utfSpeltSpec)) utfSpeltUptoCard

/-- THE SECOND FORM's CARD OF 'accordionlaw04.UtfCut'. -/
def utfCutUptoCard : Claim7 := { stood := { row := utfCutUptoRow, standIns := [], harness := (true, "943d39ffe7493d695022a304376d822a305df8ee7ed0b088b84dab5137550f20"), looks := false }, kinds := [], alts := [], laidByText := true, laidKinds := [.data, .pinned], laidTests := true, laidLooks := .later }
def UtfCutUptoCardSaid : Prop := Claim7.holds Tryd.pinned (.plain (OpenSpec.upto utfCutSpec)) utfCutUptoCard

/-- THE SECOND FORM's CARD OF 'accordionlaw04.UtfTells'. -/
def utfTellsUptoCard : Claim7 := { stood := { row := utfTellsUptoRow, standIns := [], harness := (true, "943d39ffe7493d695022a304376d822a305df8ee7ed0b088b84dab5137550f20"), looks := false }, kinds := [], alts := [], laidByText := true, laidKinds := [.data, .pinned], laidTests := true, laidLooks := .later }
def UtfTellsUptoCardSaid : Prop := Claim7.holds Tryd.pinned (.plain (OpenSpec.upto utfTellsSpec)) utfTellsUptoCard

/-- THE SECOND FORM's CARD OF 'accordionlaw04.UtfReads'. -/
def utfReadsUptoCard : Claim7 := { stood := { row := utfReadsUptoRow, standIns := [], harness := (true, "943d39ffe7493d695022a304376d822a305df8ee7ed0b088b84dab5137550f20"), looks := false }, kinds := [], alts := [], laidByText := true, laidKinds := [.data, .pinned], laidTests := true, laidLooks := .later }
def UtfReadsUptoCardSaid : Prop := Claim7.holds Tryd.pinned (.plain (OpenSpec.upto utfReadsSpec)) utfReadsUptoCard

/-- THE SECOND FORM's CARD OF 'accordionlaw04.UtfBack'. -/
def utfBackUptoCard : Claim7 := { stood := { row := utfBackUptoRow, standIns := [], harness := (true, "943d39ffe7493d695022a304376d822a305df8ee7ed0b088b84dab5137550f20"), looks := false }, kinds := [], alts := [], laidByText := true, laidKinds := [.data, .pinned], laidTests := true, laidLooks := .later }
def UtfBackUptoCardSaid : Prop := Claim7.holds Tryd.pinned (.plain (OpenSpec.upto utfBackSpec)) utfBackUptoCard

/-- THE SECOND FORM's CARD OF 'accordionlaw04.UtfPlace'. -/
def utfPlaceUptoCard : Claim7 := { stood := { row := utfPlaceUptoRow, standIns := [], harness := (true, "943d39ffe7493d695022a304376d822a305df8ee7ed0b088b84dab5137550f20"), looks := false }, kinds := [], alts := [], laidByText := true, laidKinds := [.data, .pinned], laidTests := true, laidLooks := .later }
def UtfPlaceUptoCardSaid : Prop := Claim7.holds Tryd.pinned (.plain (OpenSpec.upto utfPlaceSpec)) utfPlaceUptoCard

/-- THE SECOND FORM's CARD OF 'accordionlaw04.UtfRunes'. -/
def utfRunesUptoCard : Claim7 := { stood := { row := utfRunesUptoRow, standIns := [], harness := (true, "943d39ffe7493d695022a304376d822a305df8ee7ed0b088b84dab5137550f20"), looks := false }, kinds := [], alts := [], laidByText := true, laidKinds := [.data, .pinned], laidTests := true, laidLooks := .later }
def UtfRunesUptoCardSaid : Prop := Claim7.holds Tryd.pinned (.plain (OpenSpec.upto utfRunesSpec)) utfRunesUptoCard

/-- THE SECOND FORM's CARD OF 'accordionlaw04.UtfKnown'. -/
def utfKnownUptoCard : Claim7 := { stood := { row := utfKnownUptoRow, standIns := [], harness := (true, "943d39ffe7493d695022a304376d822a305df8ee7ed0b088b84dab5137550f20"), looks := false }, kinds := [], alts := [], laidByText := true, laidKinds := [.data, .pinned], laidTests := true, laidLooks := .later }
def UtfKnownUptoCardSaid : Prop := Claim7.holds Tryd.pinned (.plain (OpenSpec.upto utfKnownSpec)) utfKnownUptoCard
end Rows
end Go.Proofs.YtalegkgonbmaoaaDoor
