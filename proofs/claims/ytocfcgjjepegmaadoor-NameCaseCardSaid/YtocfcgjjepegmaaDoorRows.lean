/-
  NARROWER THAN 'FOR EVERY INPUT', by the rows' own cells (each row's printed sentence says how): StanzaWrite: laid · StanzaRead: laid · StanzaBack: laid · StanzaOwn: laid · StanzaParts: laid · NameParts: laid · NameCase: laid · NameSpread: laid · NameParse: laid · NameBack: laid · CredsMake: laid · CredsCodes: laid.
  DERIVED. THE GIVEN ROWS OF THIS SEAT. 12 by the template 'for every input the law returns true; each argument reads behind the call as it read before'; 0 by the template 'total and deterministic' (their statements: YtocfcgjjepegmaaDoorTotals.lean).
  GIVEN WITH THE SEED: the statements are not yours to turn. If you find one false, say at which input.
  Laid BY PROGRAM, IN A SANDBOX (cutbox-rows.mjs): the forced cells as the released guide's own fill.sh prints them over the translation d304f7945eb58618… (all of the seat's roots in one cut). By AI agents, Wed Nov 11 2026. No macro, syntax, notation, axiom, sorry.
-/
import Derived.Test.YtocfcgjjepegmaaDoorChecked
import GoSem.PinnedTables
import GoSem.Claim
import GoSem.ClaimJoined
import GoSem.ClaimMapViews
import Derived.JoinedTies
import Derived.KernelRfl
namespace Go.Proofs.YtocfcgjjepegmaaDoor
/- THE CELL 'sum', in the pinned program and in every row, IS THE sha256 OF THE DUMP (.gsa) THAT YtocfcgjjepegmaaDoorProg.lean LOADS. Nothing in Lean hashes anything: it is a label: what it is worth is what the hold of that sum in a sandbox is worth. -/
noncomputable def Tryd.pinned : Pinned := { name := "ytocfcgjjepegmaadoor", sum := "d304f7945eb58618e2f470f4837d38656a440950b0ac1335f0c4abbf887b27af", checked := Tryd.checked }
namespace Rows
def none {H : Type} : Left H := { results := [], args := [] }

/- WHAT THE LISTED PACKAGE-LEVEL VARIABLES READ AS WHEN THE CALL BEGINS. Each datum BY PROGRAM (the guide's laid-datum.mjs) off the statement by which the dump's own 'gosem.cut.vars' lays the variable. In a bare row this is a premise. The card (YtocfcgjjepegmaaDoorCards.lean) ties it to the program's text. -/
def laid_unicode_utf8_acceptRanges {H : Type} : DataW H := .agg [.agg [.lit (.int .u8 128), .lit (.int .u8 191)], .agg [.lit (.int .u8 160), .lit (.int .u8 191)], .agg [.lit (.int .u8 128), .lit (.int .u8 159)], .agg [.lit (.int .u8 144), .lit (.int .u8 191)], .agg [.lit (.int .u8 128), .lit (.int .u8 143)], .agg [.lit (.int .u8 0), .lit (.int .u8 0)], .agg [.lit (.int .u8 0), .lit (.int .u8 0)], .agg [.lit (.int .u8 0), .lit (.int .u8 0)], .agg [.lit (.int .u8 0), .lit (.int .u8 0)], .agg [.lit (.int .u8 0), .lit (.int .u8 0)], .agg [.lit (.int .u8 0), .lit (.int .u8 0)], .agg [.lit (.int .u8 0), .lit (.int .u8 0)], .agg [.lit (.int .u8 0), .lit (.int .u8 0)], .agg [.lit (.int .u8 0), .lit (.int .u8 0)], .agg [.lit (.int .u8 0), .lit (.int .u8 0)], .agg [.lit (.int .u8 0), .lit (.int .u8 0)]]
/-- One of Go's own tables, pinned by name: the form's constant. -/
def laid_unicode_utf8_first : DataW Unit := Go.Pinned.utf8First

/-- 'roostlaw04.StanzaWrite': WHATEVER THE INPUT: true; the input reads as it did. -/
def stanzaWriteSpec : ChangeSpec := { name := "stanzaWrite", fn := fun _ => fun
  | [d] => { results := [.lit (.bool true)], args := [d] }
  | _ => none }
def stanzaWriteRow : OpenClaim := { program := "ytocfcgjjepegmaadoor", sum := "d304f7945eb58618e2f470f4837d38656a440950b0ac1335f0c4abbf887b27af", func := "roost/roostlaw04.StanzaWrite", spec := "stanzaWrite", inPlace := ["math.Float64bits", "math.Float64frombits"], unfollowed := true, recurses := true, named := ["unicode/utf8.first", "unicode/utf8.acceptRanges"], apart := false, laid := [("unicode/utf8.acceptRanges", laid_unicode_utf8_acceptRanges), ("unicode/utf8.first", laid_unicode_utf8_first)] }
def StanzaWriteSaid : Prop := stanzaWriteRow.holds Tryd.pinned (OpenSpec.ofChange stanzaWriteSpec)

/-- ITS FALSE NEIGHBOUR: 'it returns false'. Refute it at one input. -/
def stanzaWriteWrong : ChangeSpec := { name := "stanzaWrite", fn := fun _ => fun
  | [d] => { results := [.lit (.bool false)], args := [d] }
  | _ => none }
def StanzaWriteWrongFalsely : Prop := stanzaWriteRow.holds Tryd.pinned (OpenSpec.ofChange stanzaWriteWrong)

/-- 'roostlaw04.StanzaRead': WHATEVER THE INPUT: true; the input reads as it did. -/
def stanzaReadSpec : ChangeSpec := { name := "stanzaRead", fn := fun _ => fun
  | [d] => { results := [.lit (.bool true)], args := [d] }
  | _ => none }
def stanzaReadRow : OpenClaim := { program := "ytocfcgjjepegmaadoor", sum := "d304f7945eb58618e2f470f4837d38656a440950b0ac1335f0c4abbf887b27af", func := "roost/roostlaw04.StanzaRead", spec := "stanzaRead", inPlace := ["math.Float64frombits", "math.Float64bits"], unfollowed := true, recurses := true, named := ["unicode/utf8.first", "unicode/utf8.acceptRanges"], apart := false, laid := [("unicode/utf8.acceptRanges", laid_unicode_utf8_acceptRanges), ("unicode/utf8.first", laid_unicode_utf8_first)] }
def StanzaReadSaid : Prop := stanzaReadRow.holds Tryd.pinned (OpenSpec.ofChange stanzaReadSpec)

/-- ITS FALSE NEIGHBOUR: 'it returns false'. Refute it at one input. -/
def stanzaReadWrong : ChangeSpec := { name := "stanzaRead", fn := fun _ => fun
  | [d] => { results := [.lit (.bool false)], args := [d] }
  | _ => none }
def StanzaReadWrongFalsely : Prop := stanzaReadRow.holds Tryd.pinned (OpenSpec.ofChange stanzaReadWrong)

/-- 'roostlaw04.StanzaBack': WHATEVER THE INPUT: true; the input reads as it did. -/
def stanzaBackSpec : ChangeSpec := { name := "stanzaBack", fn := fun _ => fun
  | [d1, d2, d3] => { results := [.lit (.bool true)], args := [d1, d2, d3] }
  | _ => none }
def stanzaBackRow : OpenClaim := { program := "ytocfcgjjepegmaadoor", sum := "d304f7945eb58618e2f470f4837d38656a440950b0ac1335f0c4abbf887b27af", func := "roost/roostlaw04.StanzaBack", spec := "stanzaBack", inPlace := ["math.Float64bits", "math.Float64frombits"], unfollowed := true, recurses := true, named := ["unicode/utf8.first", "unicode/utf8.acceptRanges"], apart := false, laid := [("unicode/utf8.acceptRanges", laid_unicode_utf8_acceptRanges), ("unicode/utf8.first", laid_unicode_utf8_first)] }
def StanzaBackSaid : Prop := stanzaBackRow.holds Tryd.pinned (OpenSpec.ofChange stanzaBackSpec)

/-- ITS FALSE NEIGHBOUR: 'it returns false'. Refute it at one input. -/
def stanzaBackWrong : ChangeSpec := { name := "stanzaBack", fn := fun _ => fun
  | [d1, d2, d3] => { results := [.lit (.bool false)], args := [d1, d2, d3] }
  | _ => none }
def StanzaBackWrongFalsely : Prop := stanzaBackRow.holds Tryd.pinned (OpenSpec.ofChange stanzaBackWrong)

/-- 'roostlaw04.StanzaOwn': WHATEVER THE INPUT: true; the input reads as it did. -/
def stanzaOwnSpec : ChangeSpec := { name := "stanzaOwn", fn := fun _ => fun
  | [d1, d2] => { results := [.lit (.bool true)], args := [d1, d2] }
  | _ => none }
def stanzaOwnRow : OpenClaim := { program := "ytocfcgjjepegmaadoor", sum := "d304f7945eb58618e2f470f4837d38656a440950b0ac1335f0c4abbf887b27af", func := "roost/roostlaw04.StanzaOwn", spec := "stanzaOwn", inPlace := ["math.Float64bits", "math.Float64frombits"], unfollowed := true, recurses := true, named := ["unicode/utf8.first", "unicode/utf8.acceptRanges"], apart := false, laid := [("unicode/utf8.acceptRanges", laid_unicode_utf8_acceptRanges), ("unicode/utf8.first", laid_unicode_utf8_first)] }
def StanzaOwnSaid : Prop := stanzaOwnRow.holds Tryd.pinned (OpenSpec.ofChange stanzaOwnSpec)

/-- ITS FALSE NEIGHBOUR: 'it returns false'. Refute it at one input. -/
def stanzaOwnWrong : ChangeSpec := { name := "stanzaOwn", fn := fun _ => fun
  | [d1, d2] => { results := [.lit (.bool false)], args := [d1, d2] }
  | _ => none }
def StanzaOwnWrongFalsely : Prop := stanzaOwnRow.holds Tryd.pinned (OpenSpec.ofChange stanzaOwnWrong)

/-- 'roostlaw04.StanzaParts': WHATEVER THE INPUT: true; the input reads as it did. -/
def stanzaPartsSpec : ChangeSpec := { name := "stanzaParts", fn := fun _ => fun
  | [d1, d2] => { results := [.lit (.bool true)], args := [d1, d2] }
  | _ => none }
def stanzaPartsRow : OpenClaim := { program := "ytocfcgjjepegmaadoor", sum := "d304f7945eb58618e2f470f4837d38656a440950b0ac1335f0c4abbf887b27af", func := "roost/roostlaw04.StanzaParts", spec := "stanzaParts", inPlace := ["math.Float64bits", "math.Float64frombits"], unfollowed := true, recurses := true, named := ["unicode/utf8.first", "unicode/utf8.acceptRanges"], apart := false, laid := [("unicode/utf8.acceptRanges", laid_unicode_utf8_acceptRanges), ("unicode/utf8.first", laid_unicode_utf8_first)] }
def StanzaPartsSaid : Prop := stanzaPartsRow.holds Tryd.pinned (OpenSpec.ofChange stanzaPartsSpec)

/-- ITS FALSE NEIGHBOUR: 'it returns false'. Refute it at one input. -/
def stanzaPartsWrong : ChangeSpec := { name := "stanzaParts", fn := fun _ => fun
  | [d1, d2] => { results := [.lit (.bool false)], args := [d1, d2] }
  | _ => none }
def StanzaPartsWrongFalsely : Prop := stanzaPartsRow.holds Tryd.pinned (OpenSpec.ofChange stanzaPartsWrong)

/-- 'roostlaw02.NameParts': WHATEVER THE INPUT: true; the input reads as it did. -/
def namePartsSpec : ChangeSpec := { name := "nameParts", fn := fun _ => fun
  | [d] => { results := [.lit (.bool true)], args := [d] }
  | _ => none }
def namePartsRow : OpenClaim := { program := "ytocfcgjjepegmaadoor", sum := "d304f7945eb58618e2f470f4837d38656a440950b0ac1335f0c4abbf887b27af", func := "roost/roostlaw02.NameParts", spec := "nameParts", inPlace := ["internal/abi.NoEscape", "internal/bytealg.MakeNoZero", "internal/bytealg.CountString", "internal/bytealg.IndexByteString", "internal/bytealg.IndexString"], unfollowed := true, recurses := true, named := ["unicode/utf8.first", "unicode/utf8.acceptRanges", "internal/bytealg.MaxLen"], apart := false, laid := [("unicode/utf8.acceptRanges", laid_unicode_utf8_acceptRanges), ("unicode/utf8.first", laid_unicode_utf8_first)] }
def NamePartsSaid : Prop := namePartsRow.holds Tryd.pinned (OpenSpec.ofChange namePartsSpec)

/-- ITS FALSE NEIGHBOUR: 'it returns false'. Refute it at one input. -/
def namePartsWrong : ChangeSpec := { name := "nameParts", fn := fun _ => fun
  | [d] => { results := [.lit (.bool false)], args := [d] }
  | _ => none }
def NamePartsWrongFalsely : Prop := namePartsRow.holds Tryd.pinned (OpenSpec.ofChange namePartsWrong)

/-- 'roostlaw02.NameCase': WHATEVER THE INPUT: true; the input reads as it did. -/
def nameCaseSpec : ChangeSpec := { name := "nameCase", fn := fun _ => fun
  | [d1, d2] => { results := [.lit (.bool true)], args := [d1, d2] }
  | _ => none }
def nameCaseRow : OpenClaim := { program := "ytocfcgjjepegmaadoor", sum := "d304f7945eb58618e2f470f4837d38656a440950b0ac1335f0c4abbf887b27af", func := "roost/roostlaw02.NameCase", spec := "nameCase", inPlace := ["internal/abi.NoEscape", "internal/bytealg.MakeNoZero", "internal/bytealg.CountString", "internal/bytealg.IndexByteString", "internal/bytealg.IndexString"], unfollowed := true, recurses := true, named := ["unicode/utf8.first", "unicode/utf8.acceptRanges", "internal/bytealg.MaxLen"], apart := false, laid := [("unicode/utf8.acceptRanges", laid_unicode_utf8_acceptRanges), ("unicode/utf8.first", laid_unicode_utf8_first)] }
def NameCaseSaid : Prop := nameCaseRow.holds Tryd.pinned (OpenSpec.ofChange nameCaseSpec)

/-- ITS FALSE NEIGHBOUR: 'it returns false'. Refute it at one input. -/
def nameCaseWrong : ChangeSpec := { name := "nameCase", fn := fun _ => fun
  | [d1, d2] => { results := [.lit (.bool false)], args := [d1, d2] }
  | _ => none }
def NameCaseWrongFalsely : Prop := nameCaseRow.holds Tryd.pinned (OpenSpec.ofChange nameCaseWrong)

/-- 'roostlaw02.NameSpread': WHATEVER THE INPUT: true; the input reads as it did. -/
def nameSpreadSpec : ChangeSpec := { name := "nameSpread", fn := fun _ => fun
  | [d1, d2] => { results := [.lit (.bool true)], args := [d1, d2] }
  | _ => none }
def nameSpreadRow : OpenClaim := { program := "ytocfcgjjepegmaadoor", sum := "d304f7945eb58618e2f470f4837d38656a440950b0ac1335f0c4abbf887b27af", func := "roost/roostlaw02.NameSpread", spec := "nameSpread", inPlace := ["internal/bytealg.IndexByteString", "internal/bytealg.IndexString", "internal/abi.NoEscape", "internal/bytealg.MakeNoZero", "internal/bytealg.CountString"], unfollowed := true, recurses := true, named := ["internal/bytealg.MaxLen", "unicode/utf8.first", "unicode/utf8.acceptRanges"], apart := false, laid := [("unicode/utf8.acceptRanges", laid_unicode_utf8_acceptRanges), ("unicode/utf8.first", laid_unicode_utf8_first)] }
def NameSpreadSaid : Prop := nameSpreadRow.holds Tryd.pinned (OpenSpec.ofChange nameSpreadSpec)

/-- ITS FALSE NEIGHBOUR: 'it returns false'. Refute it at one input. -/
def nameSpreadWrong : ChangeSpec := { name := "nameSpread", fn := fun _ => fun
  | [d1, d2] => { results := [.lit (.bool false)], args := [d1, d2] }
  | _ => none }
def NameSpreadWrongFalsely : Prop := nameSpreadRow.holds Tryd.pinned (OpenSpec.ofChange nameSpreadWrong)

/-- 'roostlaw02.NameParse': WHATEVER THE INPUT: true; the input reads as it did. -/
def nameParseSpec : ChangeSpec := { name := "nameParse", fn := fun _ => fun
  | [d1, d2] => { results := [.lit (.bool true)], args := [d1, d2] }
  | _ => none }
def nameParseRow : OpenClaim := { program := "ytocfcgjjepegmaadoor", sum := "d304f7945eb58618e2f470f4837d38656a440950b0ac1335f0c4abbf887b27af", func := "roost/roostlaw02.NameParse", spec := "nameParse", inPlace := ["internal/bytealg.IndexByteString", "internal/bytealg.IndexString", "internal/abi.NoEscape", "internal/bytealg.MakeNoZero", "internal/bytealg.CountString"], unfollowed := true, recurses := true, named := ["internal/bytealg.MaxLen", "unicode/utf8.first", "unicode/utf8.acceptRanges"], apart := false, laid := [("unicode/utf8.acceptRanges", laid_unicode_utf8_acceptRanges), ("unicode/utf8.first", laid_unicode_utf8_first)] }
def NameParseSaid : Prop := nameParseRow.holds Tryd.pinned (OpenSpec.ofChange nameParseSpec)

/-- ITS FALSE NEIGHBOUR: 'it returns false'. Refute it at one input. -/
def nameParseWrong : ChangeSpec := { name := "nameParse", fn := fun _ => fun
  | [d1, d2] => { results := [.lit (.bool false)], args := [d1, d2] }
  | _ => none }
def NameParseWrongFalsely : Prop := nameParseRow.holds Tryd.pinned (OpenSpec.ofChange nameParseWrong)

/-- 'roostlaw02.NameBack': WHATEVER THE INPUT: true; the input reads as it did. -/
def nameBackSpec : ChangeSpec := { name := "nameBack", fn := fun _ => fun
  | [d1, d2] => { results := [.lit (.bool true)], args := [d1, d2] }
  | _ => none }
def nameBackRow : OpenClaim := { program := "ytocfcgjjepegmaadoor", sum := "d304f7945eb58618e2f470f4837d38656a440950b0ac1335f0c4abbf887b27af", func := "roost/roostlaw02.NameBack", spec := "nameBack", inPlace := ["internal/abi.NoEscape", "internal/bytealg.MakeNoZero", "internal/bytealg.CountString", "internal/bytealg.IndexByteString", "internal/bytealg.IndexString"], unfollowed := true, recurses := true, named := ["unicode/utf8.first", "unicode/utf8.acceptRanges", "internal/bytealg.MaxLen"], apart := false, laid := [("unicode/utf8.acceptRanges", laid_unicode_utf8_acceptRanges), ("unicode/utf8.first", laid_unicode_utf8_first)] }
def NameBackSaid : Prop := nameBackRow.holds Tryd.pinned (OpenSpec.ofChange nameBackSpec)

/-- ITS FALSE NEIGHBOUR: 'it returns false'. Refute it at one input. -/
def nameBackWrong : ChangeSpec := { name := "nameBack", fn := fun _ => fun
  | [d1, d2] => { results := [.lit (.bool false)], args := [d1, d2] }
  | _ => none }
def NameBackWrongFalsely : Prop := nameBackRow.holds Tryd.pinned (OpenSpec.ofChange nameBackWrong)

/-- 'roostlaw08.CredsMake': WHATEVER THE INPUT: true; the input reads as it did. -/
def credsMakeSpec : ChangeSpec := { name := "credsMake", fn := fun _ => fun
  | [d] => { results := [.lit (.bool true)], args := [d] }
  | _ => none }
def credsMakeRow : OpenClaim := { program := "ytocfcgjjepegmaadoor", sum := "d304f7945eb58618e2f470f4837d38656a440950b0ac1335f0c4abbf887b27af", func := "roost/roostlaw08.CredsMake", spec := "credsMake", inPlace := ["internal/abi.NoEscape", "internal/bytealg.MakeNoZero", "math.Float64frombits"], unfollowed := true, recurses := true, named := ["unicode/utf8.first", "unicode/utf8.acceptRanges"], apart := false, laid := [("unicode/utf8.acceptRanges", laid_unicode_utf8_acceptRanges), ("unicode/utf8.first", laid_unicode_utf8_first)] }
def CredsMakeSaid : Prop := credsMakeRow.holds Tryd.pinned (OpenSpec.ofChange credsMakeSpec)

/-- ITS FALSE NEIGHBOUR: 'it returns false'. Refute it at one input. -/
def credsMakeWrong : ChangeSpec := { name := "credsMake", fn := fun _ => fun
  | [d] => { results := [.lit (.bool false)], args := [d] }
  | _ => none }
def CredsMakeWrongFalsely : Prop := credsMakeRow.holds Tryd.pinned (OpenSpec.ofChange credsMakeWrong)

/-- 'roostlaw08.CredsCodes': WHATEVER THE INPUT: true; the input reads as it did. -/
def credsCodesSpec : ChangeSpec := { name := "credsCodes", fn := fun _ => fun
  | [d1, d2] => { results := [.lit (.bool true)], args := [d1, d2] }
  | _ => none }
def credsCodesRow : OpenClaim := { program := "ytocfcgjjepegmaadoor", sum := "d304f7945eb58618e2f470f4837d38656a440950b0ac1335f0c4abbf887b27af", func := "roost/roostlaw08.CredsCodes", spec := "credsCodes", inPlace := ["internal/abi.NoEscape", "internal/bytealg.MakeNoZero", "math.Float64frombits"], unfollowed := true, recurses := true, named := ["unicode/utf8.first", "unicode/utf8.acceptRanges"], apart := false, laid := [("unicode/utf8.acceptRanges", laid_unicode_utf8_acceptRanges), ("unicode/utf8.first", laid_unicode_utf8_first)] }
def CredsCodesSaid : Prop := credsCodesRow.holds Tryd.pinned (OpenSpec.ofChange credsCodesSpec)

/-- ITS FALSE NEIGHBOUR: 'it returns false'. Refute it at one input. -/
def credsCodesWrong : ChangeSpec := { name := "credsCodes", fn := fun _ => fun
  | [d1, d2] => { results := [.lit (.bool false)], args := [d1, d2] }
  | _ => none }
def CredsCodesWrongFalsely : Prop := credsCodesRow.holds Tryd.pinned (OpenSpec.ofChange credsCodesWrong)

/- THE SECOND FORM. 'bulk': how many values and letters a reading holds, each counted each time it is reached (what is shared counts as often as it is met; a slice's spare places count too). A statement '..UptoSaid' is the law's where the arguments, and the package variables that the reading takes, are together of bulk at most 1048576: NARROWER than '..Said'. Prove '..Said' where nothing that the law and all that it calls make is longer than what came in: it says more and counts as full. Else prove '..UptoSaid'. A law counts once. -/
mutual
def uptoBulk {H : Type} : DataW H → Nat
  | .lit (.string bytes) => bytes.length + 1
  | .lit _ => 1
  | .nil => 1
  | .ptr d => uptoBulk d + 1
  | .slice elems spare => uptoBulkAll elems + uptoBulkAll spare + 1
  | .agg parts => uptoBulkAll parts + 1
  | .iface _ d => uptoBulk d + 1
  | .map entries => uptoBulkEntries entries + 1
  | .held _ => 1
def uptoBulkAll {H : Type} : List (DataW H) → Nat
  | [] => 0
  | d :: r => uptoBulk d + uptoBulkAll r
def uptoBulkEntries {H : Type} : List (Lit × DataW H) → Nat
  | [] => 0
  | x :: r => uptoBulkEntry x + uptoBulkEntries r
def uptoBulkEntry {H : Type} : Lit × DataW H → Nat
  | (.string bytes, d) => bytes.length + uptoBulk d + 1
  | (_, d) => uptoBulk d + 1
 end
def uptoSmall : (H : Type) → List (DataW H) → Bool := fun _ ds => decide (uptoBulkAll ds ≤ 1048576)
def OpenSpec.upto (s : _root_.Go.ChangeSpec) : _root_.Go.OpenSpec := { _root_.Go.OpenSpec.ofChange s with cond := some uptoSmall }

/-- 'roostlaw04.StanzaWrite', WHERE WHAT IT READS IS OF BULK AT MOST 1048576: true; the input reads as it did. -/
def stanzaWriteUptoRow : OpenClaim := { program := "ytocfcgjjepegmaadoor", sum := "d304f7945eb58618e2f470f4837d38656a440950b0ac1335f0c4abbf887b27af", func := "roost/roostlaw04.StanzaWrite", spec := "stanzaWrite", inPlace := ["math.Float64bits", "math.Float64frombits"], unfollowed := true, recurses := true, named := ["unicode/utf8.first", "unicode/utf8.acceptRanges"], apart := false, laid := [("unicode/utf8.acceptRanges", laid_unicode_utf8_acceptRanges), ("unicode/utf8.first", laid_unicode_utf8_first)], narrowed := true }
def StanzaWriteUptoSaid : Prop := stanzaWriteUptoRow.holds Tryd.pinned (OpenSpec.upto stanzaWriteSpec)

/-- 'roostlaw04.StanzaRead', WHERE WHAT IT READS IS OF BULK AT MOST 1048576: true; the input reads as it did. -/
def stanzaReadUptoRow : OpenClaim := { program := "ytocfcgjjepegmaadoor", sum := "d304f7945eb58618e2f470f4837d38656a440950b0ac1335f0c4abbf887b27af", func := "roost/roostlaw04.StanzaRead", spec := "stanzaRead", inPlace := ["math.Float64frombits", "math.Float64bits"], unfollowed := true, recurses := true, named := ["unicode/utf8.first", "unicode/utf8.acceptRanges"], apart := false, laid := [("unicode/utf8.acceptRanges", laid_unicode_utf8_acceptRanges), ("unicode/utf8.first", laid_unicode_utf8_first)], narrowed := true }
def StanzaReadUptoSaid : Prop := stanzaReadUptoRow.holds Tryd.pinned (OpenSpec.upto stanzaReadSpec)

/-- 'roostlaw04.StanzaBack', WHERE WHAT IT READS IS OF BULK AT MOST 1048576: true; the input reads as it did. -/
def stanzaBackUptoRow : OpenClaim := { program := "ytocfcgjjepegmaadoor", sum := "d304f7945eb58618e2f470f4837d38656a440950b0ac1335f0c4abbf887b27af", func := "roost/roostlaw04.StanzaBack", spec := "stanzaBack", inPlace := ["math.Float64bits", "math.Float64frombits"], unfollowed := true, recurses := true, named := ["unicode/utf8.first", "unicode/utf8.acceptRanges"], apart := false, laid := [("unicode/utf8.acceptRanges", laid_unicode_utf8_acceptRanges), ("unicode/utf8.first", laid_unicode_utf8_first)], narrowed := true }
def StanzaBackUptoSaid : Prop := stanzaBackUptoRow.holds Tryd.pinned (OpenSpec.upto stanzaBackSpec)

/-- 'roostlaw04.StanzaOwn', WHERE WHAT IT READS IS OF BULK AT MOST 1048576: true; the input reads as it did. -/
def stanzaOwnUptoRow : OpenClaim := { program := "ytocfcgjjepegmaadoor", sum := "d304f7945eb58618e2f470f4837d38656a440950b0ac1335f0c4abbf887b27af", func := "roost/roostlaw04.StanzaOwn", spec := "stanzaOwn", inPlace := ["math.Float64bits", "math.Float64frombits"], unfollowed := true, recurses := true, named := ["unicode/utf8.first", "unicode/utf8.acceptRanges"], apart := false, laid := [("unicode/utf8.acceptRanges", laid_unicode_utf8_acceptRanges), ("unicode/utf8.first", laid_unicode_utf8_first)], narrowed := true }
def StanzaOwnUptoSaid : Prop := stanzaOwnUptoRow.holds Tryd.pinned (OpenSpec.upto stanzaOwnSpec)

/-- 'roostlaw04.StanzaParts', WHERE WHAT IT READS IS OF BULK AT MOST 1048576: true; the input reads as it did. -/
def stanzaPartsUptoRow : OpenClaim := { program := "ytocfcgjjepegmaadoor", sum := "d304f7945eb58618e2f470f4837d38656a440950b0ac1335f0c4abbf887b27af", func := "roost/roostlaw04.StanzaParts", spec := "stanzaParts", inPlace := ["math.Float64bits", "math.Float64frombits"], unfollowed := true, recurses := true, named := ["unicode/utf8.first", "unicode/utf8.acceptRanges"], apart := false, laid := [("unicode/utf8.acceptRanges", laid_unicode_utf8_acceptRanges), ("unicode/utf8.first", laid_unicode_utf8_first)], narrowed := true }
def StanzaPartsUptoSaid : Prop := stanzaPartsUptoRow.holds Tryd.pinned (OpenSpec.upto stanzaPartsSpec)

/-- 'roostlaw02.NameParts', WHERE WHAT IT READS IS OF BULK AT MOST 1048576: true; the input reads as it did. -/
def namePartsUptoRow : OpenClaim := { program := "ytocfcgjjepegmaadoor", sum := "d304f7945eb58618e2f470f4837d38656a440950b0ac1335f0c4abbf887b27af", func := "roost/roostlaw02.NameParts", spec := "nameParts", inPlace := ["internal/abi.NoEscape", "internal/bytealg.MakeNoZero", "internal/bytealg.CountString", "internal/bytealg.IndexByteString", "internal/bytealg.IndexString"], unfollowed := true, recurses := true, named := ["unicode/utf8.first", "unicode/utf8.acceptRanges", "internal/bytealg.MaxLen"], apart := false, laid := [("unicode/utf8.acceptRanges", laid_unicode_utf8_acceptRanges), ("unicode/utf8.first", laid_unicode_utf8_first)], narrowed := true }
def NamePartsUptoSaid : Prop := namePartsUptoRow.holds Tryd.pinned (OpenSpec.upto namePartsSpec)

/-- 'roostlaw02.NameCase', WHERE WHAT IT READS IS OF BULK AT MOST 1048576: true; the input reads as it did. -/
def nameCaseUptoRow : OpenClaim := { program := "ytocfcgjjepegmaadoor", sum := "d304f7945eb58618e2f470f4837d38656a440950b0ac1335f0c4abbf887b27af", func := "roost/roostlaw02.NameCase", spec := "nameCase", inPlace := ["internal/abi.NoEscape", "internal/bytealg.MakeNoZero", "internal/bytealg.CountString", "internal/bytealg.IndexByteString", "internal/bytealg.IndexString"], unfollowed := true, recurses := true, named := ["unicode/utf8.first", "unicode/utf8.acceptRanges", "internal/bytealg.MaxLen"], apart := false, laid := [("unicode/utf8.acceptRanges", laid_unicode_utf8_acceptRanges), ("unicode/utf8.first", laid_unicode_utf8_first)], narrowed := true }
def NameCaseUptoSaid : Prop := nameCaseUptoRow.holds Tryd.pinned (OpenSpec.upto nameCaseSpec)

/-- 'roostlaw02.NameSpread', WHERE WHAT IT READS IS OF BULK AT MOST 1048576: true; the input reads as it did. -/
def nameSpreadUptoRow : OpenClaim := { program := "ytocfcgjjepegmaadoor", sum := "d304f7945eb58618e2f470f4837d38656a440950b0ac1335f0c4abbf887b27af", func := "roost/roostlaw02.NameSpread", spec := "nameSpread", inPlace := ["internal/bytealg.IndexByteString", "internal/bytealg.IndexString", "internal/abi.NoEscape", "internal/bytealg.MakeNoZero", "internal/bytealg.CountString"], unfollowed := true, recurses := true, named := ["internal/bytealg.MaxLen", "unicode/utf8.first", "unicode/utf8.acceptRanges"], apart := false, laid := [("unicode/utf8.acceptRanges", laid_unicode_utf8_acceptRanges), ("unicode/utf8.first", laid_unicode_utf8_first)], narrowed := true }
def NameSpreadUptoSaid : Prop := nameSpreadUptoRow.holds Tryd.pinned (OpenSpec.upto nameSpreadSpec)

/-- 'roostlaw02.NameParse', WHERE WHAT IT READS IS OF BULK AT MOST 1048576: true; the input reads as it did. -/
def nameParseUptoRow : OpenClaim := { program := "ytocfcgjjepegmaadoor", sum := "d304f7945eb58618e2f470f4837d38656a440950b0ac1335f0c4abbf887b27af", func := "roost/roostlaw02.NameParse", spec := "nameParse", inPlace := ["internal/bytealg.IndexByteString", "internal/bytealg.IndexString", "internal/abi.NoEscape", "internal/bytealg.MakeNoZero", "internal/bytealg.CountString"], unfollowed := true, recurses := true, named := ["internal/bytealg.MaxLen", "unicode/utf8.first", "unicode/utf8.acceptRanges"], apart := false, laid := [("unicode/utf8.acceptRanges", laid_unicode_utf8_acceptRanges), ("unicode/utf8.first", laid_unicode_utf8_first)], narrowed := true }
def NameParseUptoSaid : Prop := nameParseUptoRow.holds Tryd.pinned (OpenSpec.upto nameParseSpec)

/-- 'roostlaw02.NameBack', WHERE WHAT IT READS IS OF BULK AT MOST 1048576: true; the input reads as it did. -/
def nameBackUptoRow : OpenClaim := { program := "ytocfcgjjepegmaadoor", sum := "d304f7945eb58618e2f470f4837d38656a440950b0ac1335f0c4abbf887b27af", func := "roost/roostlaw02.NameBack", spec := "nameBack", inPlace := ["internal/abi.NoEscape", "internal/bytealg.MakeNoZero", "internal/bytealg.CountString", "internal/bytealg.IndexByteString", "internal/bytealg.IndexString"], unfollowed := true, recurses := true, named := ["unicode/utf8.first", "unicode/utf8.acceptRanges", "internal/bytealg.MaxLen"], apart := false, laid := [("unicode/utf8.acceptRanges", laid_unicode_utf8_acceptRanges), ("unicode/utf8.first", laid_unicode_utf8_first)], narrowed := true }
def NameBackUptoSaid : Prop := nameBackUptoRow.holds Tryd.pinned (OpenSpec.upto nameBackSpec)

/-- 'roostlaw08.CredsMake', WHERE WHAT IT READS IS OF BULK AT MOST 1048576: true; the input reads as it did. -/
def credsMakeUptoRow : OpenClaim := { program := "ytocfcgjjepegmaadoor", sum := "d304f7945eb58618e2f470f4837d38656a440950b0ac1335f0c4abbf887b27af", func := "roost/roostlaw08.CredsMake", spec := "credsMake", inPlace := ["internal/abi.NoEscape", "internal/bytealg.MakeNoZero", "math.Float64frombits"], unfollowed := true, recurses := true, named := ["unicode/utf8.first", "unicode/utf8.acceptRanges"], apart := false, laid := [("unicode/utf8.acceptRanges", laid_unicode_utf8_acceptRanges), ("unicode/utf8.first", laid_unicode_utf8_first)], narrowed := true }
def CredsMakeUptoSaid : Prop := credsMakeUptoRow.holds Tryd.pinned (OpenSpec.upto credsMakeSpec)

/-- 'roostlaw08.CredsCodes', WHERE WHAT IT READS IS OF BULK AT MOST 1048576: true; the input reads as it did. -/
def credsCodesUptoRow : OpenClaim := { program := "ytocfcgjjepegmaadoor", sum := "d304f7945eb58618e2f470f4837d38656a440950b0ac1335f0c4abbf887b27af", func := "roost/roostlaw08.CredsCodes", spec := "credsCodes", inPlace := ["internal/abi.NoEscape", "internal/bytealg.MakeNoZero", "math.Float64frombits"], unfollowed := true, recurses := true, named := ["unicode/utf8.first", "unicode/utf8.acceptRanges"], apart := false, laid := [("unicode/utf8.acceptRanges", laid_unicode_utf8_acceptRanges), ("unicode/utf8.first", laid_unicode_utf8_first)], narrowed := true }
def CredsCodesUptoSaid : Prop := credsCodesUptoRow.holds Tryd.pinned (OpenSpec.upto credsCodesSpec)

end Rows
end Go.Proofs.YtocfcgjjepegmaaDoor
