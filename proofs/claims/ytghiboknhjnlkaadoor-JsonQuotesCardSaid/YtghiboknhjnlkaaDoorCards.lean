/-
  DERIVED. GIVEN WITH THE SEED: THE CARDS: each row of YtghiboknhjnlkaaDoorRows.lean that lists a variable, with what it lists TIED to the program's text (the seventh form; the later family's looks); each row that meets fmt, with fmt's text TOLD by the authors' own Lean function (tested against real Go, not proved from fmt's source: count such statements apart). THE CARD IS WHAT COUNTS. Prove the row's statement (the work); the ties are given (YtghiboknhjnlkaaDoorTie.lean); close each card by the builder's one call (the guide's Derived/Test/ToyasCard.lean, 'card_holds'). Laid BY PROGRAM, IN A SANDBOX (cutbox-door.mjs). By AI agents, Wed Nov 11 2026. No macro, syntax, notation, axiom, sorry.
-/
import Derived.Test.YtghiboknhjnlkaaDoorRows
import GoSem.ClaimSeven
namespace Go.Proofs.YtghiboknhjnlkaaDoor
namespace Rows

/-- THE TIED CARD OF 'stetlaw07.EscapeEntities'. -/
def escapeEntitiesCard : Claim7 := { stood := { row := escapeEntitiesRow, standIns := [], harness := (true, "1daf6fbf2de214c484968cb260568c2ab895c30c85a977665873353b9238500d"), looks := true }, kinds := [], alts := [], laidByText := true, laidKinds := [.data, .data, .data, .sentinel, .sentinel], laidTests := true, laidLooks := .later }
def EscapeEntitiesCardSaid : Prop := Claim7.holds Tryd.pinned (.plain (OpenSpec.ofChange escapeEntitiesSpec)) escapeEntitiesCard

/-- THE TIED CARD OF 'stetlaw07.EscapeTexts'. -/
def escapeTextsCard : Claim7 := { stood := { row := escapeTextsRow, standIns := [], harness := (true, "1daf6fbf2de214c484968cb260568c2ab895c30c85a977665873353b9238500d"), looks := true }, kinds := [], alts := [], laidByText := true, laidKinds := [.data, .data, .data, .sentinel, .sentinel], laidTests := true, laidLooks := .later }
def EscapeTextsCardSaid : Prop := Claim7.holds Tryd.pinned (.plain (OpenSpec.ofChange escapeTextsSpec)) escapeTextsCard

/-- THE TIED CARD OF 'stetlaw07.EscapeMarks'. -/
def escapeMarksCard : Claim7 := { stood := { row := escapeMarksRow, standIns := [], harness := (true, "1daf6fbf2de214c484968cb260568c2ab895c30c85a977665873353b9238500d"), looks := true }, kinds := [], alts := [], laidByText := true, laidKinds := [.data, .data, .data, .sentinel, .sentinel], laidTests := true, laidLooks := .later }
def EscapeMarksCardSaid : Prop := Claim7.holds Tryd.pinned (.plain (OpenSpec.ofChange escapeMarksSpec)) escapeMarksCard

/-- THE TIED CARD OF 'stetlaw07.EscapeHtml'. -/
def escapeHtmlCard : Claim7 := { stood := { row := escapeHtmlRow, standIns := [], harness := (true, "1daf6fbf2de214c484968cb260568c2ab895c30c85a977665873353b9238500d"), looks := true }, kinds := [], alts := [], laidByText := true, laidKinds := [.data, .data, .data, .sentinel, .sentinel], laidTests := true, laidLooks := .later }
def EscapeHtmlCardSaid : Prop := Claim7.holds Tryd.pinned (.plain (OpenSpec.ofChange escapeHtmlSpec)) escapeHtmlCard

/-- THE TIED CARD OF 'stetlaw07.EscapeAgain'. -/
def escapeAgainCard : Claim7 := { stood := { row := escapeAgainRow, standIns := [], harness := (true, "1daf6fbf2de214c484968cb260568c2ab895c30c85a977665873353b9238500d"), looks := true }, kinds := [], alts := [], laidByText := true, laidKinds := [.data, .data, .data, .sentinel, .sentinel], laidTests := true, laidLooks := .later }
def EscapeAgainCardSaid : Prop := Claim7.holds Tryd.pinned (.plain (OpenSpec.ofChange escapeAgainSpec)) escapeAgainCard

/-- THE TIED CARD OF 'stetlaw07.EscapeParts'. -/
def escapePartsCard : Claim7 := { stood := { row := escapePartsRow, standIns := [], harness := (true, "1daf6fbf2de214c484968cb260568c2ab895c30c85a977665873353b9238500d"), looks := true }, kinds := [], alts := [], laidByText := true, laidKinds := [.data, .data, .data, .sentinel, .sentinel], laidTests := true, laidLooks := .later }
def EscapePartsCardSaid : Prop := Claim7.holds Tryd.pinned (.plain (OpenSpec.ofChange escapePartsSpec)) escapePartsCard

/-- THE TIED CARD OF 'stetlaw17.JsonReads'. -/
def jsonReadsCard : Claim7 := { stood := { row := jsonReadsRow, standIns := [], harness := (true, "1daf6fbf2de214c484968cb260568c2ab895c30c85a977665873353b9238500d"), looks := true }, kinds := [], alts := [], laidByText := true, laidKinds := [.data, .data, .data, .data, .sentinel, .sentinel, .pinned], laidTests := true, laidLooks := .later }
def JsonReadsCardSaid : Prop := Claim7.holds Tryd.pinned (.plain (OpenSpec.ofChange jsonReadsSpec)) jsonReadsCard

/-- THE TIED CARD OF 'stetlaw17.JsonPrints'. -/
def jsonPrintsCard : Claim7 := { stood := { row := jsonPrintsRow, standIns := [], harness := (true, "1daf6fbf2de214c484968cb260568c2ab895c30c85a977665873353b9238500d"), looks := true }, kinds := [], alts := [], laidByText := true, laidKinds := [.data, .data, .data, .data, .sentinel, .sentinel, .pinned], laidTests := true, laidLooks := .later }
def JsonPrintsCardSaid : Prop := Claim7.holds Tryd.pinned (.plain (OpenSpec.ofChange jsonPrintsSpec)) jsonPrintsCard

/-- THE TIED CARD OF 'stetlaw17.JsonRound'. -/
def jsonRoundCard : Claim7 := { stood := { row := jsonRoundRow, standIns := [], harness := (true, "1daf6fbf2de214c484968cb260568c2ab895c30c85a977665873353b9238500d"), looks := true }, kinds := [], alts := [], laidByText := true, laidKinds := [.data, .data, .data, .data, .sentinel, .sentinel, .pinned], laidTests := true, laidLooks := .later }
def JsonRoundCardSaid : Prop := Claim7.holds Tryd.pinned (.plain (OpenSpec.ofChange jsonRoundSpec)) jsonRoundCard

/-- THE TIED CARD OF 'stetlaw17.JsonPrefix'. -/
def jsonPrefixCard : Claim7 := { stood := { row := jsonPrefixRow, standIns := [], harness := (true, "1daf6fbf2de214c484968cb260568c2ab895c30c85a977665873353b9238500d"), looks := true }, kinds := [], alts := [], laidByText := true, laidKinds := [.data, .data, .data, .data, .sentinel, .sentinel, .pinned], laidTests := true, laidLooks := .later }
def JsonPrefixCardSaid : Prop := Claim7.holds Tryd.pinned (.plain (OpenSpec.ofChange jsonPrefixSpec)) jsonPrefixCard

/-- THE TIED CARD OF 'stetlaw17.JsonDeep'. -/
def jsonDeepCard : Claim7 := { stood := { row := jsonDeepRow, standIns := [], harness := (true, "1daf6fbf2de214c484968cb260568c2ab895c30c85a977665873353b9238500d"), looks := true }, kinds := [], alts := [], laidByText := true, laidKinds := [.data, .data, .data, .data, .sentinel, .sentinel, .pinned], laidTests := true, laidLooks := .later }
def JsonDeepCardSaid : Prop := Claim7.holds Tryd.pinned (.plain (OpenSpec.ofChange jsonDeepSpec)) jsonDeepCard

/-- THE TIED CARD OF 'stetlaw17.JsonQuotes'. -/
def jsonQuotesCard : Claim7 := { stood := { row := jsonQuotesRow, standIns := [], harness := (true, "1daf6fbf2de214c484968cb260568c2ab895c30c85a977665873353b9238500d"), looks := true }, kinds := [], alts := [], laidByText := true, laidKinds := [.data, .data, .data, .data, .sentinel, .sentinel, .pinned], laidTests := true, laidLooks := .later }
def JsonQuotesCardSaid : Prop := Claim7.holds Tryd.pinned (.plain (OpenSpec.ofChange jsonQuotesSpec)) jsonQuotesCard

/-- THE SECOND FORM's CARD OF 'stetlaw07.EscapeEntities'. -/
def escapeEntitiesUptoCard : Claim7 := { stood := { row := escapeEntitiesUptoRow, standIns := [], harness := (true, "1daf6fbf2de214c484968cb260568c2ab895c30c85a977665873353b9238500d"), looks := true }, kinds := [], alts := [], laidByText := true, laidKinds := [.data, .data, .data, .sentinel, .sentinel], laidTests := true, laidLooks := .later }
def EscapeEntitiesUptoCardSaid : Prop := Claim7.holds Tryd.pinned (.plain (OpenSpec.upto escapeEntitiesSpec)) escapeEntitiesUptoCard

/-- THE SECOND FORM's CARD OF 'stetlaw07.EscapeTexts'. -/
def escapeTextsUptoCard : Claim7 := { stood := { row := escapeTextsUptoRow, standIns := [], harness := (true, "1daf6fbf2de214c484968cb260568c2ab895c30c85a977665873353b9238500d"), looks := true }, kinds := [], alts := [], laidByText := true, laidKinds := [.data, .data, .data, .sentinel, .sentinel], laidTests := true, laidLooks := .later }
def EscapeTextsUptoCardSaid : Prop := Claim7.holds Tryd.pinned (.plain (OpenSpec.upto escapeTextsSpec)) escapeTextsUptoCard

/-- THE SECOND FORM's CARD OF 'stetlaw07.EscapeMarks'. -/
def escapeMarksUptoCard : Claim7 := { stood := { row := escapeMarksUptoRow, standIns := [], harness := (true, "1daf6fbf2de214c484968cb260568c2ab895c30c85a977665873353b9238500d"), looks := true }, kinds := [], alts := [], laidByText := true, laidKinds := [.data, .data, .data, .sentinel, .sentinel], laidTests := true, laidLooks := .later }
def EscapeMarksUptoCardSaid : Prop := Claim7.holds Tryd.pinned (.plain (OpenSpec.upto escapeMarksSpec)) escapeMarksUptoCard

/-- THE SECOND FORM's CARD OF 'stetlaw07.EscapeHtml'. -/
def escapeHtmlUptoCard : Claim7 := { stood := { row := escapeHtmlUptoRow, standIns := [], harness := (true, "1daf6fbf2de214c484968cb260568c2ab895c30c85a977665873353b9238500d"), looks := true }, kinds := [], alts := [], laidByText := true, laidKinds := [.data, .data, .data, .sentinel, .sentinel], laidTests := true, laidLooks := .later }
def EscapeHtmlUptoCardSaid : Prop := Claim7.holds Tryd.pinned (.plain (OpenSpec.upto escapeHtmlSpec)) escapeHtmlUptoCard

/-- THE SECOND FORM's CARD OF 'stetlaw07.EscapeAgain'. -/
def escapeAgainUptoCard : Claim7 := { stood := { row := escapeAgainUptoRow, standIns := [], harness := (true, "1daf6fbf2de214c484968cb260568c2ab895c30c85a977665873353b9238500d"), looks := true }, kinds := [], alts := [], laidByText := true, laidKinds := [.data, .data, .data, .sentinel, .sentinel], laidTests := true, laidLooks := .later }
def EscapeAgainUptoCardSaid : Prop := Claim7.holds Tryd.pinned (.plain (OpenSpec.upto escapeAgainSpec)) escapeAgainUptoCard

/-- THE SECOND FORM's CARD OF 'stetlaw07.EscapeParts'. -/
def escapePartsUptoCard : Claim7 := { stood := { row := escapePartsUptoRow, standIns := [], harness := (true, "1daf6fbf2de214c484968cb260568c2ab895c30c85a977665873353b9238500d"), looks := true }, kinds := [], alts := [], laidByText := true, laidKinds := [.data, .data, .data, .sentinel, .sentinel], laidTests := true, laidLooks := .later }
def EscapePartsUptoCardSaid : Prop := Claim7.holds Tryd.pinned (.plain (OpenSpec.upto escapePartsSpec)) escapePartsUptoCard

/-- THE SECOND FORM's CARD OF 'stetlaw17.JsonReads'. -/
def jsonReadsUptoCard : Claim7 := { stood := { row := jsonReadsUptoRow, standIns := [], harness := (true, "1daf6fbf2de214c484968cb260568c2ab895c30c85a977665873353b9238500d"), looks := true }, kinds := [], alts := [], laidByText := true, laidKinds := [.data, .data, .data, .data, .sentinel, .sentinel, .pinned], laidTests := true, laidLooks := .later }
def JsonReadsUptoCardSaid : Prop := Claim7.holds Tryd.pinned (.plain (OpenSpec.upto jsonReadsSpec)) jsonReadsUptoCard

/-- THE SECOND FORM's CARD OF 'stetlaw17.JsonPrints'. -/
def jsonPrintsUptoCard : Claim7 := { stood := { row := jsonPrintsUptoRow, standIns := [], harness := (true, "1daf6fbf2de214c484968cb260568c2ab895c30c85a977665873353b9238500d"), looks := true }, kinds := [], alts := [], laidByText := true, laidKinds := [.data, .data, .data, .data, .sentinel, .sentinel, .pinned], laidTests := true, laidLooks := .later }
def JsonPrintsUptoCardSaid : Prop := Claim7.holds Tryd.pinned (.plain (OpenSpec.upto jsonPrintsSpec)) jsonPrintsUptoCard

/-- THE SECOND FORM's CARD OF 'stetlaw17.JsonRound'. -/
def jsonRoundUptoCard : Claim7 := { stood := { row := jsonRoundUptoRow, standIns := [], harness := (true, "1daf6fbf2de214c484968cb260568c2ab895c30c85a977665873353b9238500d"), looks := true }, kinds := [], alts := [], laidByText := true, laidKinds := [.data, .data, .data, .data, .sentinel, .sentinel, .pinned], laidTests := true, laidLooks := .later }
def JsonRoundUptoCardSaid : Prop := Claim7.holds Tryd.pinned (.plain (OpenSpec.upto jsonRoundSpec)) jsonRoundUptoCard

/-- THE SECOND FORM's CARD OF 'stetlaw17.JsonPrefix'. -/
def jsonPrefixUptoCard : Claim7 := { stood := { row := jsonPrefixUptoRow, standIns := [], harness := (true, "1daf6fbf2de214c484968cb260568c2ab895c30c85a977665873353b9238500d"), looks := true }, kinds := [], alts := [], laidByText := true, laidKinds := [.data, .data, .data, .data, .sentinel, .sentinel, .pinned], laidTests := true, laidLooks := .later }
def JsonPrefixUptoCardSaid : Prop := Claim7.holds Tryd.pinned (.plain (OpenSpec.upto jsonPrefixSpec)) jsonPrefixUptoCard

/-- THE SECOND FORM's CARD OF 'stetlaw17.JsonDeep'. -/
def jsonDeepUptoCard : Claim7 := { stood := { row := jsonDeepUptoRow, standIns := [], harness := (true, "1daf6fbf2de214c484968cb260568c2ab895c30c85a977665873353b9238500d"), looks := true }, kinds := [], alts := [], laidByText := true, laidKinds := [.data, .data, .data, .data, .sentinel, .sentinel, .pinned], laidTests := true, laidLooks := .later }
def JsonDeepUptoCardSaid : Prop := Claim7.holds Tryd.pinned (.plain (OpenSpec.upto jsonDeepSpec)) jsonDeepUptoCard

/-- THE SECOND FORM's CARD OF 'stetlaw17.JsonQuotes'. -/
def jsonQuotesUptoCard : Claim7 := { stood := { row := jsonQuotesUptoRow, standIns := [], harness := (true, "1daf6fbf2de214c484968cb260568c2ab895c30c85a977665873353b9238500d"), looks := true }, kinds := [], alts := [], laidByText := true, laidKinds := [.data, .data, .data, .data, .sentinel, .sentinel, .pinned], laidTests := true, laidLooks := .later }
def JsonQuotesUptoCardSaid : Prop := Claim7.holds Tryd.pinned (.plain (OpenSpec.upto jsonQuotesSpec)) jsonQuotesUptoCard
end Rows
end Go.Proofs.YtghiboknhjnlkaaDoor
