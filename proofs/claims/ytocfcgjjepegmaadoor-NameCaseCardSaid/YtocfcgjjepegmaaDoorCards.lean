/-
  DERIVED. GIVEN WITH THE SEED: THE CARDS: each row of YtocfcgjjepegmaaDoorRows.lean that lists a variable, with what it lists TIED to the program's text (the seventh form; the later family's looks); each row that meets fmt, with fmt's text TOLD by the authors' own Lean function (tested against real Go, not proved from fmt's source: count such statements apart). THE CARD IS WHAT COUNTS. Prove the row's statement (the work); the ties are given (YtocfcgjjepegmaaDoorTie.lean); close each card by the builder's one call (the guide's Derived/Test/ToyasCard.lean, 'card_holds'). Laid BY PROGRAM, IN A SANDBOX (cutbox-door.mjs). By AI agents, Wed Nov 11 2026. No macro, syntax, notation, axiom, sorry.
-/
import Derived.Test.YtocfcgjjepegmaaDoorRows
import GoSem.ClaimSeven
namespace Go.Proofs.YtocfcgjjepegmaaDoor
namespace Rows

/-- THE TIED CARD OF 'roostlaw04.StanzaWrite'. -/
def stanzaWriteCard : Claim7 := { stood := { row := stanzaWriteRow, standIns := [], harness := (true, "4bc53bd1790154cad492a8ce24e573bc55b640ed3bc293d9252d3dc7943dd7f2"), looks := true }, kinds := [], alts := [], laidByText := true, laidKinds := [.data, .pinned], laidTests := true, laidLooks := .later }
def StanzaWriteCardSaid : Prop := Claim7.holds Tryd.pinned (.plain (OpenSpec.ofChange stanzaWriteSpec)) stanzaWriteCard

/-- THE TIED CARD OF 'roostlaw04.StanzaRead'. -/
def stanzaReadCard : Claim7 := { stood := { row := stanzaReadRow, standIns := [], harness := (true, "4bc53bd1790154cad492a8ce24e573bc55b640ed3bc293d9252d3dc7943dd7f2"), looks := true }, kinds := [], alts := [], laidByText := true, laidKinds := [.data, .pinned], laidTests := true, laidLooks := .later }
def StanzaReadCardSaid : Prop := Claim7.holds Tryd.pinned (.plain (OpenSpec.ofChange stanzaReadSpec)) stanzaReadCard

/-- THE TIED CARD OF 'roostlaw04.StanzaBack'. -/
def stanzaBackCard : Claim7 := { stood := { row := stanzaBackRow, standIns := [], harness := (true, "4bc53bd1790154cad492a8ce24e573bc55b640ed3bc293d9252d3dc7943dd7f2"), looks := true }, kinds := [], alts := [], laidByText := true, laidKinds := [.data, .pinned], laidTests := true, laidLooks := .later }
def StanzaBackCardSaid : Prop := Claim7.holds Tryd.pinned (.plain (OpenSpec.ofChange stanzaBackSpec)) stanzaBackCard

/-- THE TIED CARD OF 'roostlaw04.StanzaOwn'. -/
def stanzaOwnCard : Claim7 := { stood := { row := stanzaOwnRow, standIns := [], harness := (true, "4bc53bd1790154cad492a8ce24e573bc55b640ed3bc293d9252d3dc7943dd7f2"), looks := true }, kinds := [], alts := [], laidByText := true, laidKinds := [.data, .pinned], laidTests := true, laidLooks := .later }
def StanzaOwnCardSaid : Prop := Claim7.holds Tryd.pinned (.plain (OpenSpec.ofChange stanzaOwnSpec)) stanzaOwnCard

/-- THE TIED CARD OF 'roostlaw04.StanzaParts'. -/
def stanzaPartsCard : Claim7 := { stood := { row := stanzaPartsRow, standIns := [], harness := (true, "4bc53bd1790154cad492a8ce24e573bc55b640ed3bc293d9252d3dc7943dd7f2"), looks := true }, kinds := [], alts := [], laidByText := true, laidKinds := [.data, .pinned], laidTests := true, laidLooks := .later }
def StanzaPartsCardSaid : Prop := Claim7.holds Tryd.pinned (.plain (OpenSpec.ofChange stanzaPartsSpec)) stanzaPartsCard

/-- THE TIED CARD OF 'roostlaw02.NameParts'. -/
def namePartsCard : Claim7 := { stood := { row := namePartsRow, standIns := [], harness := (true, "4bc53bd1790154cad492a8ce24e573bc55b640ed3bc293d9252d3dc7943dd7f2"), looks := true }, kinds := [], alts := [], laidByText := true, laidKinds := [.data, .pinned], laidTests := true, laidLooks := .later }
def NamePartsCardSaid : Prop := Claim7.holds Tryd.pinned (.plain (OpenSpec.ofChange namePartsSpec)) namePartsCard

/-- THE TIED CARD OF 'roostlaw02.NameCase'. -/
def nameCaseCard : Claim7 := { stood := { row := nameCaseRow, standIns := [], harness := (true, "4bc53bd1790154cad492a8ce24e573bc55b640ed3bc293d9252d3dc7943dd7f2"), looks := true }, kinds := [], alts := [], laidByText := true, laidKinds := [.data, .pinned], laidTests := true, laidLooks := .later }
def NameCaseCardSaid : Prop := Claim7.holds Tryd.pinned (.plain (OpenSpec.ofChange nameCaseSpec)) nameCaseCard

/-- THE TIED CARD OF 'roostlaw02.NameSpread'. -/
def nameSpreadCard : Claim7 := { stood := { row := nameSpreadRow, standIns := [], harness := (true, "4bc53bd1790154cad492a8ce24e573bc55b640ed3bc293d9252d3dc7943dd7f2"), looks := true }, kinds := [], alts := [], laidByText := true, laidKinds := [.data, .pinned], laidTests := true, laidLooks := .later }
def NameSpreadCardSaid : Prop := Claim7.holds Tryd.pinned (.plain (OpenSpec.ofChange nameSpreadSpec)) nameSpreadCard

/-- THE TIED CARD OF 'roostlaw02.NameParse'. -/
def nameParseCard : Claim7 := { stood := { row := nameParseRow, standIns := [], harness := (true, "4bc53bd1790154cad492a8ce24e573bc55b640ed3bc293d9252d3dc7943dd7f2"), looks := true }, kinds := [], alts := [], laidByText := true, laidKinds := [.data, .pinned], laidTests := true, laidLooks := .later }
def NameParseCardSaid : Prop := Claim7.holds Tryd.pinned (.plain (OpenSpec.ofChange nameParseSpec)) nameParseCard

/-- THE TIED CARD OF 'roostlaw02.NameBack'. -/
def nameBackCard : Claim7 := { stood := { row := nameBackRow, standIns := [], harness := (true, "4bc53bd1790154cad492a8ce24e573bc55b640ed3bc293d9252d3dc7943dd7f2"), looks := true }, kinds := [], alts := [], laidByText := true, laidKinds := [.data, .pinned], laidTests := true, laidLooks := .later }
def NameBackCardSaid : Prop := Claim7.holds Tryd.pinned (.plain (OpenSpec.ofChange nameBackSpec)) nameBackCard

/-- THE TIED CARD OF 'roostlaw08.CredsMake'. -/
def credsMakeCard : Claim7 := { stood := { row := credsMakeRow, standIns := [], harness := (true, "4bc53bd1790154cad492a8ce24e573bc55b640ed3bc293d9252d3dc7943dd7f2"), looks := true }, kinds := [], alts := [], laidByText := true, laidKinds := [.data, .pinned], laidTests := true, laidLooks := .later }
def CredsMakeCardSaid : Prop := Claim7.holds Tryd.pinned (.plain (OpenSpec.ofChange credsMakeSpec)) credsMakeCard

/-- THE TIED CARD OF 'roostlaw08.CredsCodes'. -/
def credsCodesCard : Claim7 := { stood := { row := credsCodesRow, standIns := [], harness := (true, "4bc53bd1790154cad492a8ce24e573bc55b640ed3bc293d9252d3dc7943dd7f2"), looks := true }, kinds := [], alts := [], laidByText := true, laidKinds := [.data, .pinned], laidTests := true, laidLooks := .later }
def CredsCodesCardSaid : Prop := Claim7.holds Tryd.pinned (.plain (OpenSpec.ofChange credsCodesSpec)) credsCodesCard

/-- THE SECOND FORM's CARD OF 'roostlaw04.StanzaWrite'. -/
def stanzaWriteUptoCard : Claim7 := { stood := { row := stanzaWriteUptoRow, standIns := [], harness := (true, "4bc53bd1790154cad492a8ce24e573bc55b640ed3bc293d9252d3dc7943dd7f2"), looks := true }, kinds := [], alts := [], laidByText := true, laidKinds := [.data, .pinned], laidTests := true, laidLooks := .later }
def StanzaWriteUptoCardSaid : Prop := Claim7.holds Tryd.pinned (.plain (OpenSpec.upto stanzaWriteSpec)) stanzaWriteUptoCard

/-- THE SECOND FORM's CARD OF 'roostlaw04.StanzaRead'. -/
def stanzaReadUptoCard : Claim7 := { stood := { row := stanzaReadUptoRow, standIns := [], harness := (true, "4bc53bd1790154cad492a8ce24e573bc55b640ed3bc293d9252d3dc7943dd7f2"), looks := true }, kinds := [], alts := [], laidByText := true, laidKinds := [.data, .pinned], laidTests := true, laidLooks := .later }
def StanzaReadUptoCardSaid : Prop := Claim7.holds Tryd.pinned (.plain (OpenSpec.upto stanzaReadSpec)) stanzaReadUptoCard

/-- THE SECOND FORM's CARD OF 'roostlaw04.StanzaBack'. -/
def stanzaBackUptoCard : Claim7 := { stood := { row := stanzaBackUptoRow, standIns := [], harness := (true, "4bc53bd1790154cad492a8ce24e573bc55b640ed3bc293d9252d3dc7943dd7f2"), looks := true }, kinds := [], alts := [], laidByText := true, laidKinds := [.data, .pinned], laidTests := true, laidLooks := .later }
def StanzaBackUptoCardSaid : Prop := Claim7.holds Tryd.pinned (.plain (OpenSpec.upto stanzaBackSpec)) stanzaBackUptoCard

/-- THE SECOND FORM's CARD OF 'roostlaw04.StanzaOwn'. -/
def stanzaOwnUptoCard : Claim7 := { stood := { row := stanzaOwnUptoRow, standIns := [], harness := (true, "4bc53bd1790154cad492a8ce24e573bc55b640ed3bc293d9252d3dc7943dd7f2"), looks := true }, kinds := [], alts := [], laidByText := true, laidKinds := [.data, .pinned], laidTests := true, laidLooks := .later }
def StanzaOwnUptoCardSaid : Prop := Claim7.holds Tryd.pinned (.plain (OpenSpec.upto stanzaOwnSpec)) stanzaOwnUptoCard

/-- THE SECOND FORM's CARD OF 'roostlaw04.StanzaParts'. -/
def stanzaPartsUptoCard : Claim7 := { stood := { row := stanzaPartsUptoRow, standIns := [], harness := (true, "4bc53bd1790154cad492a8ce24e573bc55b640ed3bc293d9252d3dc7943dd7f2"), looks := true }, kinds := [], alts := [], laidByText := true, laidKinds := [.data, .pinned], laidTests := true, laidLooks := .later }
def StanzaPartsUptoCardSaid : Prop := Claim7.holds Tryd.pinned (.plain (OpenSpec.upto stanzaPartsSpec)) stanzaPartsUptoCard

/-- THE SECOND FORM's CARD OF 'roostlaw02.NameParts'. -/
def namePartsUptoCard : Claim7 := { stood := { row := namePartsUptoRow, standIns := [], harness := (true, "4bc53bd1790154cad492a8ce24e573bc55b640ed3bc293d9252d3dc7943dd7f2"), looks := true }, kinds := [], alts := [], laidByText := true, laidKinds := [.data, .pinned], laidTests := true, laidLooks := .later }
def NamePartsUptoCardSaid : Prop := Claim7.holds Tryd.pinned (.plain (OpenSpec.upto namePartsSpec)) namePartsUptoCard

/-- THE SECOND FORM's CARD OF 'roostlaw02.NameCase'. -/
def nameCaseUptoCard : Claim7 := { stood := { row := nameCaseUptoRow, standIns := [], harness := (true, "4bc53bd1790154cad492a8ce24e573bc55b640ed3bc293d9252d3dc7943dd7f2"), looks := true }, kinds := [], alts := [], laidByText := true, laidKinds := [.data, .pinned], laidTests := true, laidLooks := .later }
def NameCaseUptoCardSaid : Prop := Claim7.holds Tryd.pinned (.plain (OpenSpec.upto nameCaseSpec)) nameCaseUptoCard

/-- THE SECOND FORM's CARD OF 'roostlaw02.NameSpread'. -/
def nameSpreadUptoCard : Claim7 := { stood := { row := nameSpreadUptoRow, standIns := [], harness := (true, "4bc53bd1790154cad492a8ce24e573bc55b640ed3bc293d9252d3dc7943dd7f2"), looks := true }, kinds := [], alts := [], laidByText := true, laidKinds := [.data, .pinned], laidTests := true, laidLooks := .later }
def NameSpreadUptoCardSaid : Prop := Claim7.holds Tryd.pinned (.plain (OpenSpec.upto nameSpreadSpec)) nameSpreadUptoCard

/-- THE SECOND FORM's CARD OF 'roostlaw02.NameParse'. -/
def nameParseUptoCard : Claim7 := { stood := { row := nameParseUptoRow, standIns := [], harness := (true, "4bc53bd1790154cad492a8ce24e573bc55b640ed3bc293d9252d3dc7943dd7f2"), looks := true }, kinds := [], alts := [], laidByText := true, laidKinds := [.data, .pinned], laidTests := true, laidLooks := .later }
def NameParseUptoCardSaid : Prop := Claim7.holds Tryd.pinned (.plain (OpenSpec.upto nameParseSpec)) nameParseUptoCard

/-- THE SECOND FORM's CARD OF 'roostlaw02.NameBack'. -/
def nameBackUptoCard : Claim7 := { stood := { row := nameBackUptoRow, standIns := [], harness := (true, "4bc53bd1790154cad492a8ce24e573bc55b640ed3bc293d9252d3dc7943dd7f2"), looks := true }, kinds := [], alts := [], laidByText := true, laidKinds := [.data, .pinned], laidTests := true, laidLooks := .later }
def NameBackUptoCardSaid : Prop := Claim7.holds Tryd.pinned (.plain (OpenSpec.upto nameBackSpec)) nameBackUptoCard

/-- THE SECOND FORM's CARD OF 'roostlaw08.CredsMake'. -/
def credsMakeUptoCard : Claim7 := { stood := { row := credsMakeUptoRow, standIns := [], harness := (true, "4bc53bd1790154cad492a8ce24e573bc55b640ed3bc293d9252d3dc7943dd7f2"), looks := true }, kinds := [], alts := [], laidByText := true, laidKinds := [.data, .pinned], laidTests := true, laidLooks := .later }
def CredsMakeUptoCardSaid : Prop := Claim7.holds Tryd.pinned (.plain (OpenSpec.upto credsMakeSpec)) credsMakeUptoCard

/-- THE SECOND FORM's CARD OF 'roostlaw08.CredsCodes'. -/
def credsCodesUptoCard : Claim7 := { stood := { row := credsCodesUptoRow, standIns := [], harness := (true, "4bc53bd1790154cad492a8ce24e573bc55b640ed3bc293d9252d3dc7943dd7f2"), looks := true }, kinds := [], alts := [], laidByText := true, laidKinds := [.data, .pinned], laidTests := true, laidLooks := .later }
def CredsCodesUptoCardSaid : Prop := Claim7.holds Tryd.pinned (.plain (OpenSpec.upto credsCodesSpec)) credsCodesUptoCard
end Rows
end Go.Proofs.YtocfcgjjepegmaaDoor
