/-
  DERIVED. GIVEN WITH THE SEED: THE CARDS: each row of YtfnlcnjflloecaaDoorRows.lean that lists a variable, with what it lists TIED to the program's text (the seventh form; the later family's looks); each row that meets fmt, with fmt's text TOLD by the authors' own Lean function (tested against real Go, not proved from fmt's source: count such statements apart). THE CARD IS WHAT COUNTS. Prove the row's statement (the work); the ties are given (YtfnlcnjflloecaaDoorTie.lean); close each card by the builder's one call (the guide's Derived/Test/ToyasCard.lean, 'card_holds'). Laid BY PROGRAM, IN A SANDBOX (cutbox-door.mjs). By AI agents, Wed Nov 11 2026. No macro, syntax, notation, axiom, sorry.
-/
import Derived.Test.YtfnlcnjflloecaaDoorRows
import GoSem.ClaimSeven
namespace Go.Proofs.YtfnlcnjflloecaaDoor
namespace Rows

/-- THE TIED CARD OF 'roostlaw02.NameParse'. -/
def nameParseCard : Claim7 := { stood := { row := nameParseRow, standIns := [], harness := (true, "e3ca46050ae7ce233a3fc35a0e212710d24a5369c5b19e4335996e839b5426c4"), looks := true }, kinds := [], alts := [], laidByText := true, laidKinds := [.data, .pinned], laidTests := true, laidLooks := .later }
def NameParseCardSaid : Prop := Claim7.holds Tryd.pinned (.plain (OpenSpec.ofChange nameParseSpec)) nameParseCard

/-- THE TIED CARD OF 'roostlaw02.NameBack'. -/
def nameBackCard : Claim7 := { stood := { row := nameBackRow, standIns := [], harness := (true, "e3ca46050ae7ce233a3fc35a0e212710d24a5369c5b19e4335996e839b5426c4"), looks := true }, kinds := [], alts := [], laidByText := true, laidKinds := [.data, .pinned], laidTests := true, laidLooks := .later }
def NameBackCardSaid : Prop := Claim7.holds Tryd.pinned (.plain (OpenSpec.ofChange nameBackSpec)) nameBackCard

/-- THE TIED CARD OF 'roostlaw08.CredsMake'. -/
def credsMakeCard : Claim7 := { stood := { row := credsMakeRow, standIns := [], harness := (true, "e3ca46050ae7ce233a3fc35a0e212710d24a5369c5b19e4335996e839b5426c4"), looks := true }, kinds := [], alts := [], laidByText := true, laidKinds := [.data, .pinned], laidTests := true, laidLooks := .later }
def CredsMakeCardSaid : Prop := Claim7.holds Tryd.pinned (.plain (OpenSpec.ofChange credsMakeSpec)) credsMakeCard

/-- THE TIED CARD OF 'roostlaw08.CredsCodes'. -/
def credsCodesCard : Claim7 := { stood := { row := credsCodesRow, standIns := [], harness := (true, "e3ca46050ae7ce233a3fc35a0e212710d24a5369c5b19e4335996e839b5426c4"), looks := true }, kinds := [], alts := [], laidByText := true, laidKinds := [.data, .pinned], laidTests := true, laidLooks := .later }
def CredsCodesCardSaid : Prop := Claim7.holds Tryd.pinned (.plain (OpenSpec.ofChange credsCodesSpec)) credsCodesCard

/-- THE TIED CARD OF 'roostlaw08.CredsBack'. -/
def credsBackCard : Claim7 := { stood := { row := credsBackRow, standIns := [], harness := (true, "e3ca46050ae7ce233a3fc35a0e212710d24a5369c5b19e4335996e839b5426c4"), looks := true }, kinds := [], alts := [], laidByText := true, laidKinds := [.data, .pinned], laidTests := true, laidLooks := .later }
def CredsBackCardSaid : Prop := Claim7.holds Tryd.pinned (.plain (OpenSpec.ofChange credsBackSpec)) credsBackCard

/-- THE TIED CARD OF 'roostlaw07.ScramKeys'. -/
def scramKeysCard : Claim7 := { stood := { row := scramKeysRow, standIns := [], harness := (true, "e3ca46050ae7ce233a3fc35a0e212710d24a5369c5b19e4335996e839b5426c4"), looks := true }, kinds := [], alts := [], laidByText := true, laidKinds := [.data, .data, .data, .data, .pinned], laidTests := true, laidLooks := .later }
def ScramKeysCardSaid : Prop := Claim7.holds Tryd.pinned (.plain (OpenSpec.ofChange scramKeysSpec)) scramKeysCard

/-- THE SECOND FORM's CARD OF 'roostlaw02.NameParse'. -/
def nameParseUptoCard : Claim7 := { stood := { row := nameParseUptoRow, standIns := [], harness := (true, "e3ca46050ae7ce233a3fc35a0e212710d24a5369c5b19e4335996e839b5426c4"), looks := true }, kinds := [], alts := [], laidByText := true, laidKinds := [.data, .pinned], laidTests := true, laidLooks := .later }
def NameParseUptoCardSaid : Prop := Claim7.holds Tryd.pinned (.plain (OpenSpec.upto nameParseSpec)) nameParseUptoCard

/-- THE SECOND FORM's CARD OF 'roostlaw02.NameBack'. -/
def nameBackUptoCard : Claim7 := { stood := { row := nameBackUptoRow, standIns := [], harness := (true, "e3ca46050ae7ce233a3fc35a0e212710d24a5369c5b19e4335996e839b5426c4"), looks := true }, kinds := [], alts := [], laidByText := true, laidKinds := [.data, .pinned], laidTests := true, laidLooks := .later }
def NameBackUptoCardSaid : Prop := Claim7.holds Tryd.pinned (.plain (OpenSpec.upto nameBackSpec)) nameBackUptoCard

/-- THE SECOND FORM's CARD OF 'roostlaw08.CredsMake'. -/
def credsMakeUptoCard : Claim7 := { stood := { row := credsMakeUptoRow, standIns := [], harness := (true, "e3ca46050ae7ce233a3fc35a0e212710d24a5369c5b19e4335996e839b5426c4"), looks := true }, kinds := [], alts := [], laidByText := true, laidKinds := [.data, .pinned], laidTests := true, laidLooks := .later }
def CredsMakeUptoCardSaid : Prop := Claim7.holds Tryd.pinned (.plain (OpenSpec.upto credsMakeSpec)) credsMakeUptoCard

/-- THE SECOND FORM's CARD OF 'roostlaw08.CredsCodes'. -/
def credsCodesUptoCard : Claim7 := { stood := { row := credsCodesUptoRow, standIns := [], harness := (true, "e3ca46050ae7ce233a3fc35a0e212710d24a5369c5b19e4335996e839b5426c4"), looks := true }, kinds := [], alts := [], laidByText := true, laidKinds := [.data, .pinned], laidTests := true, laidLooks := .later }
def CredsCodesUptoCardSaid : Prop := Claim7.holds Tryd.pinned (.plain (OpenSpec.upto credsCodesSpec)) credsCodesUptoCard

/-- THE SECOND FORM's CARD OF 'roostlaw08.CredsBack'. -/
def credsBackUptoCard : Claim7 := { stood := { row := credsBackUptoRow, standIns := [], harness := (true, "e3ca46050ae7ce233a3fc35a0e212710d24a5369c5b19e4335996e839b5426c4"), looks := true }, kinds := [], alts := [], laidByText := true, laidKinds := [.data, .pinned], laidTests := true, laidLooks := .later }
def CredsBackUptoCardSaid : Prop := Claim7.holds Tryd.pinned (.plain (OpenSpec.upto credsBackSpec)) credsBackUptoCard

/-- THE SECOND FORM's CARD OF 'roostlaw07.ScramKeys'. -/
def scramKeysUptoCard : Claim7 := { stood := { row := scramKeysUptoRow, standIns := [], harness := (true, "e3ca46050ae7ce233a3fc35a0e212710d24a5369c5b19e4335996e839b5426c4"), looks := true }, kinds := [], alts := [], laidByText := true, laidKinds := [.data, .data, .data, .data, .pinned], laidTests := true, laidLooks := .later }
def ScramKeysUptoCardSaid : Prop := Claim7.holds Tryd.pinned (.plain (OpenSpec.upto scramKeysSpec)) scramKeysUptoCard
end Rows
end Go.Proofs.YtfnlcnjflloecaaDoor
