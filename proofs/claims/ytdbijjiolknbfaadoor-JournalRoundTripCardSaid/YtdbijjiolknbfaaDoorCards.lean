/-
  DERIVED. GIVEN WITH THE SEED: THE CARDS: each row of YtdbijjiolknbfaaDoorRows.lean that lists a variable, with what it lists TIED to the program's text (the seventh form; the later family's looks); each row that meets fmt, with fmt's text TOLD by the authors' own Lean function (tested against real Go, not proved from fmt's source: count such statements apart). THE CARD IS WHAT COUNTS. Prove the row's statement (the work); the ties are given (YtdbijjiolknbfaaDoorTie.lean); close each card by the builder's one call (the guide's Derived/Test/ToyasCard.lean, 'card_holds'). Laid BY PROGRAM, IN A SANDBOX (cutbox-door.mjs). By AI agents, Wed Nov 11 2026. No macro, syntax, notation, axiom, sorry.
-/
import Derived.Test.YtdbijjiolknbfaaDoorRows
import GoSem.ClaimSeven
namespace Go.Proofs.YtdbijjiolknbfaaDoor
namespace Rows

/-- THE TIED CARD OF 'garmentlaw55.JournalFirst'. -/
def journalFirstCard : Claim7 := { stood := { row := journalFirstRow, standIns := [], harness := (true, "554da48fc3e7a44e54d25a20204982f67e87b241ff174581b60baa49a88b571d"), looks := false }, kinds := [], alts := [], laidByText := true, laidKinds := [.data, .data, .data], laidTests := true, laidLooks := .later }
def JournalFirstCardSaid : Prop := Claim7.holds Tryd.pinned (.plain (OpenSpec.ofChange journalFirstSpec)) journalFirstCard

/-- THE TIED CARD OF 'garmentlaw55.JournalRoundTrip'. -/
def journalRoundTripCard : Claim7 := { stood := { row := journalRoundTripRow, standIns := [], harness := (true, "554da48fc3e7a44e54d25a20204982f67e87b241ff174581b60baa49a88b571d"), looks := false }, kinds := [], alts := [], laidByText := true, laidKinds := [.data, .data, .data], laidTests := true, laidLooks := .later }
def JournalRoundTripCardSaid : Prop := Claim7.holds Tryd.pinned (.plain (OpenSpec.ofChange journalRoundTripSpec)) journalRoundTripCard

/-- THE TIED CARD OF 'garmentlaw07.DigestDefines'. -/
def digestDefinesCard : Claim7 := { stood := { row := digestDefinesRow, standIns := [], harness := (true, "554da48fc3e7a44e54d25a20204982f67e87b241ff174581b60baa49a88b571d"), looks := false }, kinds := [], alts := [], laidByText := true, laidKinds := [.data, .data, .data], laidTests := true, laidLooks := .later }
def DigestDefinesCardSaid : Prop := Claim7.holds Tryd.pinned (.plain (OpenSpec.ofChange digestDefinesSpec)) digestDefinesCard

/-- THE TIED CARD OF 'garmentlaw07.DigestLists'. -/
def digestListsCard : Claim7 := { stood := { row := digestListsRow, standIns := [], harness := (true, "554da48fc3e7a44e54d25a20204982f67e87b241ff174581b60baa49a88b571d"), looks := false }, kinds := [], alts := [], laidByText := true, laidKinds := [.data, .data, .data], laidTests := true, laidLooks := .later }
def DigestListsCardSaid : Prop := Claim7.holds Tryd.pinned (.plain (OpenSpec.ofChange digestListsSpec)) digestListsCard

/-- THE TIED CARD OF 'garmentlaw07.DigestTexts'. -/
def digestTextsCard : Claim7 := { stood := { row := digestTextsRow, standIns := [], harness := (true, "554da48fc3e7a44e54d25a20204982f67e87b241ff174581b60baa49a88b571d"), looks := false }, kinds := [], alts := [], laidByText := true, laidKinds := [.data, .data, .data], laidTests := true, laidLooks := .later }
def DigestTextsCardSaid : Prop := Claim7.holds Tryd.pinned (.plain (OpenSpec.ofChange digestTextsSpec)) digestTextsCard

/-- THE TIED CARD OF 'garmentlaw07.DigestNotices'. -/
def digestNoticesCard : Claim7 := { stood := { row := digestNoticesRow, standIns := [], harness := (true, "554da48fc3e7a44e54d25a20204982f67e87b241ff174581b60baa49a88b571d"), looks := false }, kinds := [], alts := [], laidByText := true, laidKinds := [.data, .data, .data], laidTests := true, laidLooks := .later }
def DigestNoticesCardSaid : Prop := Claim7.holds Tryd.pinned (.plain (OpenSpec.ofChange digestNoticesSpec)) digestNoticesCard

/-- THE TIED CARD OF 'garmentlaw07.DigestJoins'. -/
def digestJoinsCard : Claim7 := { stood := { row := digestJoinsRow, standIns := [], harness := (true, "554da48fc3e7a44e54d25a20204982f67e87b241ff174581b60baa49a88b571d"), looks := false }, kinds := [], alts := [], laidByText := true, laidKinds := [.data, .data, .data], laidTests := true, laidLooks := .later }
def DigestJoinsCardSaid : Prop := Claim7.holds Tryd.pinned (.plain (OpenSpec.ofChange digestJoinsSpec)) digestJoinsCard

/-- THE TIED CARD OF 'garmentlaw07.DigestChains'. -/
def digestChainsCard : Claim7 := { stood := { row := digestChainsRow, standIns := [], harness := (true, "554da48fc3e7a44e54d25a20204982f67e87b241ff174581b60baa49a88b571d"), looks := false }, kinds := [], alts := [], laidByText := true, laidKinds := [.data, .data, .data], laidTests := true, laidLooks := .later }
def DigestChainsCardSaid : Prop := Claim7.holds Tryd.pinned (.plain (OpenSpec.ofChange digestChainsSpec)) digestChainsCard

/-- THE TIED CARD OF 'garmentlaw07.DigestReads'. -/
def digestReadsCard : Claim7 := { stood := { row := digestReadsRow, standIns := [], harness := (true, "554da48fc3e7a44e54d25a20204982f67e87b241ff174581b60baa49a88b571d"), looks := false }, kinds := [], alts := [], laidByText := true, laidKinds := [.data, .data, .data], laidTests := true, laidLooks := .later }
def DigestReadsCardSaid : Prop := Claim7.holds Tryd.pinned (.plain (OpenSpec.ofChange digestReadsSpec)) digestReadsCard

/-- THE TIED CARD OF 'garmentlaw07.DigestBounds'. -/
def digestBoundsCard : Claim7 := { stood := { row := digestBoundsRow, standIns := [], harness := (true, "554da48fc3e7a44e54d25a20204982f67e87b241ff174581b60baa49a88b571d"), looks := false }, kinds := [], alts := [], laidByText := true, laidKinds := [.data, .data, .data], laidTests := true, laidLooks := .later }
def DigestBoundsCardSaid : Prop := Claim7.holds Tryd.pinned (.plain (OpenSpec.ofChange digestBoundsSpec)) digestBoundsCard

/-- THE TIED CARD OF 'garmentlaw55.JournalReads'. -/
def journalReadsCard : Claim7 := { stood := { row := journalReadsRow, standIns := [], harness := (true, "554da48fc3e7a44e54d25a20204982f67e87b241ff174581b60baa49a88b571d"), looks := false }, kinds := [], alts := [], laidByText := true, laidKinds := [.data, .data, .data], laidTests := true, laidLooks := .later }
def JournalReadsCardSaid : Prop := Claim7.holds Tryd.pinned (.plain (OpenSpec.ofChange journalReadsSpec)) journalReadsCard

/-- THE TIED CARD OF 'garmentlaw55.JournalAppends'. -/
def journalAppendsCard : Claim7 := { stood := { row := journalAppendsRow, standIns := [], harness := (true, "554da48fc3e7a44e54d25a20204982f67e87b241ff174581b60baa49a88b571d"), looks := false }, kinds := [], alts := [], laidByText := true, laidKinds := [.data, .data, .data], laidTests := true, laidLooks := .later }
def JournalAppendsCardSaid : Prop := Claim7.holds Tryd.pinned (.plain (OpenSpec.ofChange journalAppendsSpec)) journalAppendsCard

/-- THE TIED CARD OF 'garmentlaw55.JournalMakes'. -/
def journalMakesCard : Claim7 := { stood := { row := journalMakesRow, standIns := [], harness := (true, "554da48fc3e7a44e54d25a20204982f67e87b241ff174581b60baa49a88b571d"), looks := false }, kinds := [], alts := [], laidByText := true, laidKinds := [.data, .data, .data], laidTests := true, laidLooks := .later }
def JournalMakesCardSaid : Prop := Claim7.holds Tryd.pinned (.plain (OpenSpec.ofChange journalMakesSpec)) journalMakesCard

/-- THE TIED CARD OF 'garmentlaw55.JournalPrefix'. -/
def journalPrefixCard : Claim7 := { stood := { row := journalPrefixRow, standIns := [], harness := (true, "554da48fc3e7a44e54d25a20204982f67e87b241ff174581b60baa49a88b571d"), looks := false }, kinds := [], alts := [], laidByText := true, laidKinds := [.data, .data, .data], laidTests := true, laidLooks := .later }
def JournalPrefixCardSaid : Prop := Claim7.holds Tryd.pinned (.plain (OpenSpec.ofChange journalPrefixSpec)) journalPrefixCard

/-- THE TIED CARD OF 'garmentlaw55.JournalChanges'. -/
def journalChangesCard : Claim7 := { stood := { row := journalChangesRow, standIns := [], harness := (true, "554da48fc3e7a44e54d25a20204982f67e87b241ff174581b60baa49a88b571d"), looks := false }, kinds := [], alts := [], laidByText := true, laidKinds := [.data, .data, .data], laidTests := true, laidLooks := .later }
def JournalChangesCardSaid : Prop := Claim7.holds Tryd.pinned (.plain (OpenSpec.ofChange journalChangesSpec)) journalChangesCard

/-- THE SECOND FORM's CARD OF 'garmentlaw55.JournalFirst'. -/
def journalFirstUptoCard : Claim7 := { stood := { row := journalFirstUptoRow, standIns := [], harness := (true, "554da48fc3e7a44e54d25a20204982f67e87b241ff174581b60baa49a88b571d"), looks := false }, kinds := [], alts := [], laidByText := true, laidKinds := [.data, .data, .data], laidTests := true, laidLooks := .later }
def JournalFirstUptoCardSaid : Prop := Claim7.holds Tryd.pinned (.plain (OpenSpec.upto journalFirstSpec)) journalFirstUptoCard

/-- THE SECOND FORM's CARD OF 'garmentlaw55.JournalRoundTrip'. -/
def journalRoundTripUptoCard : Claim7 := { stood := { row := journalRoundTripUptoRow, standIns := [], harness := (true, "554da48fc3e7a44e54d25a20204982f67e87b241ff174581b60baa49a88b571d"), looks := false }, kinds := [], alts := [], laidByText := true, laidKinds := [.data, .data, .data], laidTests := true, laidLooks := .later }
def JournalRoundTripUptoCardSaid : Prop := Claim7.holds Tryd.pinned (.plain (OpenSpec.upto journalRoundTripSpec)) journalRoundTripUptoCard

/-- THE SECOND FORM's CARD OF 'garmentlaw07.DigestDefines'. -/
def digestDefinesUptoCard : Claim7 := { stood := { row := digestDefinesUptoRow, standIns := [], harness := (true, "554da48fc3e7a44e54d25a20204982f67e87b241ff174581b60baa49a88b571d"), looks := false }, kinds := [], alts := [], laidByText := true, laidKinds := [.data, .data, .data], laidTests := true, laidLooks := .later }
def DigestDefinesUptoCardSaid : Prop := Claim7.holds Tryd.pinned (.plain (OpenSpec.upto digestDefinesSpec)) digestDefinesUptoCard

/-- THE SECOND FORM's CARD OF 'garmentlaw07.DigestLists'. -/
def digestListsUptoCard : Claim7 := { stood := { row := digestListsUptoRow, standIns := [], harness := (true, "554da48fc3e7a44e54d25a20204982f67e87b241ff174581b60baa49a88b571d"), looks := false }, kinds := [], alts := [], laidByText := true, laidKinds := [.data, .data, .data], laidTests := true, laidLooks := .later }
def DigestListsUptoCardSaid : Prop := Claim7.holds Tryd.pinned (.plain (OpenSpec.upto digestListsSpec)) digestListsUptoCard

/-- THE SECOND FORM's CARD OF 'garmentlaw07.DigestTexts'. -/
def digestTextsUptoCard : Claim7 := { stood := { row := digestTextsUptoRow, standIns := [], harness := (true, "554da48fc3e7a44e54d25a20204982f67e87b241ff174581b60baa49a88b571d"), looks := false }, kinds := [], alts := [], laidByText := true, laidKinds := [.data, .data, .data], laidTests := true, laidLooks := .later }
def DigestTextsUptoCardSaid : Prop := Claim7.holds Tryd.pinned (.plain (OpenSpec.upto digestTextsSpec)) digestTextsUptoCard

/-- THE SECOND FORM's CARD OF 'garmentlaw07.DigestNotices'. -/
def digestNoticesUptoCard : Claim7 := { stood := { row := digestNoticesUptoRow, standIns := [], harness := (true, "554da48fc3e7a44e54d25a20204982f67e87b241ff174581b60baa49a88b571d"), looks := false }, kinds := [], alts := [], laidByText := true, laidKinds := [.data, .data, .data], laidTests := true, laidLooks := .later }
def DigestNoticesUptoCardSaid : Prop := Claim7.holds Tryd.pinned (.plain (OpenSpec.upto digestNoticesSpec)) digestNoticesUptoCard

/-- THE SECOND FORM's CARD OF 'garmentlaw07.DigestJoins'. -/
def digestJoinsUptoCard : Claim7 := { stood := { row := digestJoinsUptoRow, standIns := [], harness := (true, "554da48fc3e7a44e54d25a20204982f67e87b241ff174581b60baa49a88b571d"), looks := false }, kinds := [], alts := [], laidByText := true, laidKinds := [.data, .data, .data], laidTests := true, laidLooks := .later }
def DigestJoinsUptoCardSaid : Prop := Claim7.holds Tryd.pinned (.plain (OpenSpec.upto digestJoinsSpec)) digestJoinsUptoCard

/-- THE SECOND FORM's CARD OF 'garmentlaw07.DigestChains'. -/
def digestChainsUptoCard : Claim7 := { stood := { row := digestChainsUptoRow, standIns := [], harness := (true, "554da48fc3e7a44e54d25a20204982f67e87b241ff174581b60baa49a88b571d"), looks := false }, kinds := [], alts := [], laidByText := true, laidKinds := [.data, .data, .data], laidTests := true, laidLooks := .later }
def DigestChainsUptoCardSaid : Prop := Claim7.holds Tryd.pinned (.plain (OpenSpec.upto digestChainsSpec)) digestChainsUptoCard

/-- THE SECOND FORM's CARD OF 'garmentlaw07.DigestReads'. -/
def digestReadsUptoCard : Claim7 := { stood := { row := digestReadsUptoRow, standIns := [], harness := (true, "554da48fc3e7a44e54d25a20204982f67e87b241ff174581b60baa49a88b571d"), looks := false }, kinds := [], alts := [], laidByText := true, laidKinds := [.data, .data, .data], laidTests := true, laidLooks := .later }
def DigestReadsUptoCardSaid : Prop := Claim7.holds Tryd.pinned (.plain (OpenSpec.upto digestReadsSpec)) digestReadsUptoCard

/-- THE SECOND FORM's CARD OF 'garmentlaw07.DigestBounds'. -/
def digestBoundsUptoCard : Claim7 := { stood := { row := digestBoundsUptoRow, standIns := [], harness := (true, "554da48fc3e7a44e54d25a20204982f67e87b241ff174581b60baa49a88b571d"), looks := false }, kinds := [], alts := [], laidByText := true, laidKinds := [.data, .data, .data], laidTests := true, laidLooks := .later }
def DigestBoundsUptoCardSaid : Prop := Claim7.holds Tryd.pinned (.plain (OpenSpec.upto digestBoundsSpec)) digestBoundsUptoCard

/-- THE SECOND FORM's CARD OF 'garmentlaw55.JournalReads'. -/
def journalReadsUptoCard : Claim7 := { stood := { row := journalReadsUptoRow, standIns := [], harness := (true, "554da48fc3e7a44e54d25a20204982f67e87b241ff174581b60baa49a88b571d"), looks := false }, kinds := [], alts := [], laidByText := true, laidKinds := [.data, .data, .data], laidTests := true, laidLooks := .later }
def JournalReadsUptoCardSaid : Prop := Claim7.holds Tryd.pinned (.plain (OpenSpec.upto journalReadsSpec)) journalReadsUptoCard

/-- THE SECOND FORM's CARD OF 'garmentlaw55.JournalAppends'. -/
def journalAppendsUptoCard : Claim7 := { stood := { row := journalAppendsUptoRow, standIns := [], harness := (true, "554da48fc3e7a44e54d25a20204982f67e87b241ff174581b60baa49a88b571d"), looks := false }, kinds := [], alts := [], laidByText := true, laidKinds := [.data, .data, .data], laidTests := true, laidLooks := .later }
def JournalAppendsUptoCardSaid : Prop := Claim7.holds Tryd.pinned (.plain (OpenSpec.upto journalAppendsSpec)) journalAppendsUptoCard

/-- THE SECOND FORM's CARD OF 'garmentlaw55.JournalMakes'. -/
def journalMakesUptoCard : Claim7 := { stood := { row := journalMakesUptoRow, standIns := [], harness := (true, "554da48fc3e7a44e54d25a20204982f67e87b241ff174581b60baa49a88b571d"), looks := false }, kinds := [], alts := [], laidByText := true, laidKinds := [.data, .data, .data], laidTests := true, laidLooks := .later }
def JournalMakesUptoCardSaid : Prop := Claim7.holds Tryd.pinned (.plain (OpenSpec.upto journalMakesSpec)) journalMakesUptoCard

/-- THE SECOND FORM's CARD OF 'garmentlaw55.JournalPrefix'. -/
def journalPrefixUptoCard : Claim7 := { stood := { row := journalPrefixUptoRow, standIns := [], harness := (true, "554da48fc3e7a44e54d25a20204982f67e87b241ff174581b60baa49a88b571d"), looks := false }, kinds := [], alts := [], laidByText := true, laidKinds := [.data, .data, .data], laidTests := true, laidLooks := .later }
def JournalPrefixUptoCardSaid : Prop := Claim7.holds Tryd.pinned (.plain (OpenSpec.upto journalPrefixSpec)) journalPrefixUptoCard

/-- THE SECOND FORM's CARD OF 'garmentlaw55.JournalChanges'. -/
def journalChangesUptoCard : Claim7 := { stood := { row := journalChangesUptoRow, standIns := [], harness := (true, "554da48fc3e7a44e54d25a20204982f67e87b241ff174581b60baa49a88b571d"), looks := false }, kinds := [], alts := [], laidByText := true, laidKinds := [.data, .data, .data], laidTests := true, laidLooks := .later }
def JournalChangesUptoCardSaid : Prop := Claim7.holds Tryd.pinned (.plain (OpenSpec.upto journalChangesSpec)) journalChangesUptoCard
end Rows
end Go.Proofs.YtdbijjiolknbfaaDoor
