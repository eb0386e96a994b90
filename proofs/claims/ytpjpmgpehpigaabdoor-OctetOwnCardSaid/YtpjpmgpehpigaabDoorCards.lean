/-
  DERIVED. GIVEN WITH THE SEED: THE CARDS: each row of YtpjpmgpehpigaabDoorRows.lean that lists a variable, with what it lists TIED to the program's text (the seventh form; the later family's looks); each row that meets fmt, with fmt's text TOLD by the authors' own Lean function (tested against real Go, not proved from fmt's source: count such statements apart). THE CARD IS WHAT COUNTS. Prove the row's statement (the work); the ties are given (YtpjpmgpehpigaabDoorTie.lean); close each card by the builder's one call (the guide's Derived/Test/ToyasCard.lean, 'card_holds'). Laid BY PROGRAM, IN A SANDBOX (cutbox-door.mjs). By AI agents, Wed Nov 11 2026. No macro, syntax, notation, axiom, sorry.
-/
import Derived.Test.YtpjpmgpehpigaabDoorRows
import GoSem.ClaimSeven
namespace Go.Proofs.YtpjpmgpehpigaabDoor
namespace Rows

/-- THE TIED CARD OF 'roostlaw01.OctetReads'. -/
def octetReadsCard : Claim7 := { stood := { row := octetReadsRow, standIns := [], harness := (true, "f708a0815b13be0cb7523825dc77db167538078e1692f9d9b397022f03afbe6f"), looks := false }, kinds := [], alts := [], laidByText := true, laidKinds := [.data, .pinned], laidTests := true, laidLooks := .later }
def OctetReadsCardSaid : Prop := Claim7.holds Tryd.pinned (.plain (OpenSpec.ofChange octetReadsSpec)) octetReadsCard

/-- THE TIED CARD OF 'roostlaw01.OctetBack'. -/
def octetBackCard : Claim7 := { stood := { row := octetBackRow, standIns := [], harness := (true, "f708a0815b13be0cb7523825dc77db167538078e1692f9d9b397022f03afbe6f"), looks := false }, kinds := [], alts := [], laidByText := true, laidKinds := [.data, .pinned], laidTests := true, laidLooks := .later }
def OctetBackCardSaid : Prop := Claim7.holds Tryd.pinned (.plain (OpenSpec.ofChange octetBackSpec)) octetBackCard

/-- THE TIED CARD OF 'roostlaw01.OctetOwn'. -/
def octetOwnCard : Claim7 := { stood := { row := octetOwnRow, standIns := [], harness := (true, "f708a0815b13be0cb7523825dc77db167538078e1692f9d9b397022f03afbe6f"), looks := false }, kinds := [], alts := [], laidByText := true, laidKinds := [.data, .pinned], laidTests := true, laidLooks := .later }
def OctetOwnCardSaid : Prop := Claim7.holds Tryd.pinned (.plain (OpenSpec.ofChange octetOwnSpec)) octetOwnCard

/-- THE TIED CARD OF 'roostlaw06.Base64Both'. -/
def base64BothCard : Claim7 := { stood := { row := base64BothRow, standIns := [], harness := (true, "f708a0815b13be0cb7523825dc77db167538078e1692f9d9b397022f03afbe6f"), looks := false }, kinds := [], alts := [], laidByText := true, laidKinds := [.data, .pinned], laidTests := true, laidLooks := .later }
def Base64BothCardSaid : Prop := Claim7.holds Tryd.pinned (.plain (OpenSpec.ofChange base64BothSpec)) base64BothCard

/-- THE TIED CARD OF 'roostlaw06.Base64Back'. -/
def base64BackCard : Claim7 := { stood := { row := base64BackRow, standIns := [], harness := (true, "f708a0815b13be0cb7523825dc77db167538078e1692f9d9b397022f03afbe6f"), looks := false }, kinds := [], alts := [], laidByText := true, laidKinds := [.data, .pinned], laidTests := true, laidLooks := .later }
def Base64BackCardSaid : Prop := Claim7.holds Tryd.pinned (.plain (OpenSpec.ofChange base64BackSpec)) base64BackCard

/-- THE TIED CARD OF 'roostlaw06.Base64Own'. -/
def base64OwnCard : Claim7 := { stood := { row := base64OwnRow, standIns := [], harness := (true, "f708a0815b13be0cb7523825dc77db167538078e1692f9d9b397022f03afbe6f"), looks := false }, kinds := [], alts := [], laidByText := true, laidKinds := [.data, .pinned], laidTests := true, laidLooks := .later }
def Base64OwnCardSaid : Prop := Claim7.holds Tryd.pinned (.plain (OpenSpec.ofChange base64OwnSpec)) base64OwnCard

/-- THE TIED CARD OF 'roostlaw06.Base64Joins'. -/
def base64JoinsCard : Claim7 := { stood := { row := base64JoinsRow, standIns := [], harness := (true, "f708a0815b13be0cb7523825dc77db167538078e1692f9d9b397022f03afbe6f"), looks := false }, kinds := [], alts := [], laidByText := true, laidKinds := [.data, .pinned], laidTests := true, laidLooks := .later }
def Base64JoinsCardSaid : Prop := Claim7.holds Tryd.pinned (.plain (OpenSpec.ofChange base64JoinsSpec)) base64JoinsCard

/-- THE SECOND FORM's CARD OF 'roostlaw01.OctetReads'. -/
def octetReadsUptoCard : Claim7 := { stood := { row := octetReadsUptoRow, standIns := [], harness := (true, "f708a0815b13be0cb7523825dc77db167538078e1692f9d9b397022f03afbe6f"), looks := false }, kinds := [], alts := [], laidByText := true, laidKinds := [.data, .pinned], laidTests := true, laidLooks := .later }
def OctetReadsUptoCardSaid : Prop := Claim7.holds Tryd.pinned (.plain (OpenSpec.upto octetReadsSpec)) octetReadsUptoCard

/-- THE SECOND FORM's CARD OF 'roostlaw01.OctetBack'. -/
def octetBackUptoCard : Claim7 := { stood := { row := octetBackUptoRow, standIns := [], harness := (true, "f708a0815b13be0cb7523825dc77db167538078e1692f9d9b397022f03afbe6f"), looks := false }, kinds := [], alts := [], laidByText := true, laidKinds := [.data, .pinned], laidTests := true, laidLooks := .later }
def OctetBackUptoCardSaid : Prop := Claim7.holds Tryd.pinned (.plain (OpenSpec.upto octetBackSpec)) octetBackUptoCard

/-- THE SECOND FORM's CARD OF 'roostlaw01.OctetOwn'. -/
def octetOwnUptoCard : Claim7 := { stood := { row := octetOwnUptoRow, standIns := [], harness := (true, "f708a0815b13be0cb7523825dc77db167538078e1692f9d9b397022f03afbe6f"), looks := false }, kinds := [], alts := [], laidByText := true, laidKinds := [.data, .pinned], laidTests := true, laidLooks := .later }
def OctetOwnUptoCardSaid : Prop := Claim7.holds Tryd.pinned (.plain (OpenSpec.upto octetOwnSpec)) octetOwnUptoCard

/-- THE SECOND FORM's CARD OF 'roostlaw06.Base64Both'. -/
def base64BothUptoCard : Claim7 := { stood := { row := base64BothUptoRow, standIns := [], harness := (true, "f708a0815b13be0cb7523825dc77db167538078e1692f9d9b397022f03afbe6f"), looks := false }, kinds := [], alts := [], laidByText := true, laidKinds := [.data, .pinned], laidTests := true, laidLooks := .later }
def Base64BothUptoCardSaid : Prop := Claim7.holds Tryd.pinned (.plain (OpenSpec.upto base64BothSpec)) base64BothUptoCard

/-- THE SECOND FORM's CARD OF 'roostlaw06.Base64Back'. -/
def base64BackUptoCard : Claim7 := { stood := { row := base64BackUptoRow, standIns := [], harness := (true, "f708a0815b13be0cb7523825dc77db167538078e1692f9d9b397022f03afbe6f"), looks := false }, kinds := [], alts := [], laidByText := true, laidKinds := [.data, .pinned], laidTests := true, laidLooks := .later }
def Base64BackUptoCardSaid : Prop := Claim7.holds Tryd.pinned (.plain (OpenSpec.upto base64BackSpec)) base64BackUptoCard

/-- THE SECOND FORM's CARD OF 'roostlaw06.Base64Own'. -/
def base64OwnUptoCard : Claim7 := { stood := { row := base64OwnUptoRow, standIns := [], harness := (true, "f708a0815b13be0cb7523825dc77db167538078e1692f9d9b397022f03afbe6f"), looks := false }, kinds := [], alts := [], laidByText := true, laidKinds := [.data, .pinned], laidTests := true, laidLooks := .later }
def Base64OwnUptoCardSaid : Prop := Claim7.holds Tryd.pinned (.plain (OpenSpec.upto base64OwnSpec)) base64OwnUptoCard

/-- THE SECOND FORM's CARD OF 'roostlaw06.Base64Joins'. -/
def base64JoinsUptoCard : Claim7 := { stood := { row := base64JoinsUptoRow, standIns := [], harness := (true, "f708a0815b13be0cb7523825dc77db167538078e1692f9d9b397022f03afbe6f"), looks := false }, kinds := [], alts := [], laidByText := true, laidKinds := [.data, .pinned], laidTests := true, laidLooks := .later }
def Base64JoinsUptoCardSaid : Prop := Claim7.holds Tryd.pinned (.plain (OpenSpec.upto base64JoinsSpec)) base64JoinsUptoCard
end Rows
end Go.Proofs.YtpjpmgpehpigaabDoor
