/-
  No cell of these rows narrows 'for every input' (looked for: loops, veiled, ifaces, maps, wideKeys, modest, calm, conditions, laid).
  DERIVED. THE GIVEN ROWS OF THIS SEAT. 12 by the template 'for every input the law returns true; each argument reads behind the call as it read before'; 0 by the template 'total and deterministic' (their statements: YtpjpmgpehpigaaaTotals.lean).
  GIVEN WITH THE SEED: the statements are not yours to turn. If you find one false, say at which input.
  Laid BY PROGRAM, IN A SANDBOX (cutbox-rows.mjs): the forced cells as the released guide's own fill.sh prints them over the translation 929d9d51a8327ab1… (all of the seat's roots in one cut). By AI agents, Wed Nov 11 2026. No macro, syntax, notation, axiom, sorry.
-/
import Derived.Test.YtpjpmgpehpigaaaChecked
import GoSem.Claim
import GoSem.ClaimJoined
import GoSem.ClaimMapViews
import Derived.JoinedTies
import Derived.KernelRfl
namespace Go.Proofs.Ytpjpmgpehpigaaa
/- THE CELL 'sum', in the pinned program and in every row, IS THE sha256 OF THE DUMP (.gsa) THAT YtpjpmgpehpigaaaProg.lean LOADS. Nothing in Lean hashes anything: it is a label: what it is worth is what the hold of that sum in a sandbox is worth. -/
noncomputable def Try.pinned : Pinned := { name := "ytpjpmgpehpigaaa", sum := "929d9d51a8327ab12cf025ef19c935f4cf91e46fe4b2c9ec5999e9afe6235c7c", checked := Try.checked }
namespace Rows
def none {H : Type} : Left H := { results := [], args := [] }

/-- 'roostlaw09.CrcBoth': WHATEVER THE INPUT: true; the input reads as it did. -/
def crcBothSpec : ChangeSpec := { name := "crcBoth", fn := fun _ => fun
  | [d1, d2] => { results := [.lit (.bool true)], args := [d1, d2] }
  | _ => none }
def crcBothRow : OpenClaim := { program := "ytpjpmgpehpigaaa", sum := "929d9d51a8327ab12cf025ef19c935f4cf91e46fe4b2c9ec5999e9afe6235c7c", func := "roost/roostlaw09.CrcBoth", spec := "crcBoth", apart := false }
def CrcBothSaid : Prop := crcBothRow.holds Try.pinned (OpenSpec.ofChange crcBothSpec)

/-- ITS FALSE NEIGHBOUR: 'it returns false'. Refute it at one input. -/
def crcBothWrong : ChangeSpec := { name := "crcBoth", fn := fun _ => fun
  | [d1, d2] => { results := [.lit (.bool false)], args := [d1, d2] }
  | _ => none }
def CrcBothWrongFalsely : Prop := crcBothRow.holds Try.pinned (OpenSpec.ofChange crcBothWrong)

/-- 'roostlaw09.CrcCuts': WHATEVER THE INPUT: true; the input reads as it did. -/
def crcCutsSpec : ChangeSpec := { name := "crcCuts", fn := fun _ => fun
  | [d1, d2] => { results := [.lit (.bool true)], args := [d1, d2] }
  | _ => none }
def crcCutsRow : OpenClaim := { program := "ytpjpmgpehpigaaa", sum := "929d9d51a8327ab12cf025ef19c935f4cf91e46fe4b2c9ec5999e9afe6235c7c", func := "roost/roostlaw09.CrcCuts", spec := "crcCuts", apart := false }
def CrcCutsSaid : Prop := crcCutsRow.holds Try.pinned (OpenSpec.ofChange crcCutsSpec)

/-- ITS FALSE NEIGHBOUR: 'it returns false'. Refute it at one input. -/
def crcCutsWrong : ChangeSpec := { name := "crcCuts", fn := fun _ => fun
  | [d1, d2] => { results := [.lit (.bool false)], args := [d1, d2] }
  | _ => none }
def CrcCutsWrongFalsely : Prop := crcCutsRow.holds Try.pinned (OpenSpec.ofChange crcCutsWrong)

/-- 'roostlaw09.CrcBurst': WHATEVER THE INPUT: true; the input reads as it did. -/
def crcBurstSpec : ChangeSpec := { name := "crcBurst", fn := fun _ => fun
  | [d1, d2, d3] => { results := [.lit (.bool true)], args := [d1, d2, d3] }
  | _ => none }
def crcBurstRow : OpenClaim := { program := "ytpjpmgpehpigaaa", sum := "929d9d51a8327ab12cf025ef19c935f4cf91e46fe4b2c9ec5999e9afe6235c7c", func := "roost/roostlaw09.CrcBurst", spec := "crcBurst", apart := false }
def CrcBurstSaid : Prop := crcBurstRow.holds Try.pinned (OpenSpec.ofChange crcBurstSpec)

/-- ITS FALSE NEIGHBOUR: 'it returns false'. Refute it at one input. -/
def crcBurstWrong : ChangeSpec := { name := "crcBurst", fn := fun _ => fun
  | [d1, d2, d3] => { results := [.lit (.bool false)], args := [d1, d2, d3] }
  | _ => none }
def CrcBurstWrongFalsely : Prop := crcBurstRow.holds Try.pinned (OpenSpec.ofChange crcBurstWrong)

/-- 'roostlaw09.CrcXor': WHATEVER THE INPUT: true; the input reads as it did. -/
def crcXorSpec : ChangeSpec := { name := "crcXor", fn := fun _ => fun
  | [d1, d2, d3] => { results := [.lit (.bool true)], args := [d1, d2, d3] }
  | _ => none }
def crcXorRow : OpenClaim := { program := "ytpjpmgpehpigaaa", sum := "929d9d51a8327ab12cf025ef19c935f4cf91e46fe4b2c9ec5999e9afe6235c7c", func := "roost/roostlaw09.CrcXor", spec := "crcXor", apart := false }
def CrcXorSaid : Prop := crcXorRow.holds Try.pinned (OpenSpec.ofChange crcXorSpec)

/-- ITS FALSE NEIGHBOUR: 'it returns false'. Refute it at one input. -/
def crcXorWrong : ChangeSpec := { name := "crcXor", fn := fun _ => fun
  | [d1, d2, d3] => { results := [.lit (.bool false)], args := [d1, d2, d3] }
  | _ => none }
def CrcXorWrongFalsely : Prop := crcXorRow.holds Try.pinned (OpenSpec.ofChange crcXorWrong)

/-- 'roostlaw05.DigestSha': WHATEVER THE INPUT: true; the input reads as it did. -/
def digestShaSpec : ChangeSpec := { name := "digestSha", fn := fun _ => fun
  | [d] => { results := [.lit (.bool true)], args := [d] }
  | _ => none }
def digestShaRow : OpenClaim := { program := "ytpjpmgpehpigaaa", sum := "929d9d51a8327ab12cf025ef19c935f4cf91e46fe4b2c9ec5999e9afe6235c7c", func := "roost/roostlaw05.DigestSha", spec := "digestSha", apart := false }
def DigestShaSaid : Prop := digestShaRow.holds Try.pinned (OpenSpec.ofChange digestShaSpec)

/-- ITS FALSE NEIGHBOUR: 'it returns false'. Refute it at one input. -/
def digestShaWrong : ChangeSpec := { name := "digestSha", fn := fun _ => fun
  | [d] => { results := [.lit (.bool false)], args := [d] }
  | _ => none }
def DigestShaWrongFalsely : Prop := digestShaRow.holds Try.pinned (OpenSpec.ofChange digestShaWrong)

/-- 'roostlaw05.DigestEqual': WHATEVER THE INPUT: true; the input reads as it did. -/
def digestEqualSpec : ChangeSpec := { name := "digestEqual", fn := fun _ => fun
  | [d1, d2, d3] => { results := [.lit (.bool true)], args := [d1, d2, d3] }
  | _ => none }
def digestEqualRow : OpenClaim := { program := "ytpjpmgpehpigaaa", sum := "929d9d51a8327ab12cf025ef19c935f4cf91e46fe4b2c9ec5999e9afe6235c7c", func := "roost/roostlaw05.DigestEqual", spec := "digestEqual", apart := false }
def DigestEqualSaid : Prop := digestEqualRow.holds Try.pinned (OpenSpec.ofChange digestEqualSpec)

/-- ITS FALSE NEIGHBOUR: 'it returns false'. Refute it at one input. -/
def digestEqualWrong : ChangeSpec := { name := "digestEqual", fn := fun _ => fun
  | [d1, d2, d3] => { results := [.lit (.bool false)], args := [d1, d2, d3] }
  | _ => none }
def DigestEqualWrongFalsely : Prop := digestEqualRow.holds Try.pinned (OpenSpec.ofChange digestEqualWrong)

/-- 'roostlaw05.DigestHmac': WHATEVER THE INPUT: true; the input reads as it did. -/
def digestHmacSpec : ChangeSpec := { name := "digestHmac", fn := fun _ => fun
  | [d1, d2] => { results := [.lit (.bool true)], args := [d1, d2] }
  | _ => none }
def digestHmacRow : OpenClaim := { program := "ytpjpmgpehpigaaa", sum := "929d9d51a8327ab12cf025ef19c935f4cf91e46fe4b2c9ec5999e9afe6235c7c", func := "roost/roostlaw05.DigestHmac", spec := "digestHmac", apart := false }
def DigestHmacSaid : Prop := digestHmacRow.holds Try.pinned (OpenSpec.ofChange digestHmacSpec)

/-- ITS FALSE NEIGHBOUR: 'it returns false'. Refute it at one input. -/
def digestHmacWrong : ChangeSpec := { name := "digestHmac", fn := fun _ => fun
  | [d1, d2] => { results := [.lit (.bool false)], args := [d1, d2] }
  | _ => none }
def DigestHmacWrongFalsely : Prop := digestHmacRow.holds Try.pinned (OpenSpec.ofChange digestHmacWrong)

/-- 'roostlaw05.DigestLong': WHATEVER THE INPUT: true; the input reads as it did. -/
def digestLongSpec : ChangeSpec := { name := "digestLong", fn := fun _ => fun
  | [d1, d2] => { results := [.lit (.bool true)], args := [d1, d2] }
  | _ => none }
def digestLongRow : OpenClaim := { program := "ytpjpmgpehpigaaa", sum := "929d9d51a8327ab12cf025ef19c935f4cf91e46fe4b2c9ec5999e9afe6235c7c", func := "roost/roostlaw05.DigestLong", spec := "digestLong", apart := false }
def DigestLongSaid : Prop := digestLongRow.holds Try.pinned (OpenSpec.ofChange digestLongSpec)

/-- ITS FALSE NEIGHBOUR: 'it returns false'. Refute it at one input. -/
def digestLongWrong : ChangeSpec := { name := "digestLong", fn := fun _ => fun
  | [d1, d2] => { results := [.lit (.bool false)], args := [d1, d2] }
  | _ => none }
def DigestLongWrongFalsely : Prop := digestLongRow.holds Try.pinned (OpenSpec.ofChange digestLongWrong)

/-- 'roostlaw05.DigestHi': WHATEVER THE INPUT: true; the input reads as it did. -/
def digestHiSpec : ChangeSpec := { name := "digestHi", fn := fun _ => fun
  | [d1, d2, d3] => { results := [.lit (.bool true)], args := [d1, d2, d3] }
  | _ => none }
def digestHiRow : OpenClaim := { program := "ytpjpmgpehpigaaa", sum := "929d9d51a8327ab12cf025ef19c935f4cf91e46fe4b2c9ec5999e9afe6235c7c", func := "roost/roostlaw05.DigestHi", spec := "digestHi", apart := false }
def DigestHiSaid : Prop := digestHiRow.holds Try.pinned (OpenSpec.ofChange digestHiSpec)

/-- ITS FALSE NEIGHBOUR: 'it returns false'. Refute it at one input. -/
def digestHiWrong : ChangeSpec := { name := "digestHi", fn := fun _ => fun
  | [d1, d2, d3] => { results := [.lit (.bool false)], args := [d1, d2, d3] }
  | _ => none }
def DigestHiWrongFalsely : Prop := digestHiRow.holds Try.pinned (OpenSpec.ofChange digestHiWrong)

/-- 'roostlaw05.DigestRounds': WHATEVER THE INPUT: true; the input reads as it did. -/
def digestRoundsSpec : ChangeSpec := { name := "digestRounds", fn := fun _ => fun
  | [d1, d2, d3] => { results := [.lit (.bool true)], args := [d1, d2, d3] }
  | _ => none }
def digestRoundsRow : OpenClaim := { program := "ytpjpmgpehpigaaa", sum := "929d9d51a8327ab12cf025ef19c935f4cf91e46fe4b2c9ec5999e9afe6235c7c", func := "roost/roostlaw05.DigestRounds", spec := "digestRounds", apart := false }
def DigestRoundsSaid : Prop := digestRoundsRow.holds Try.pinned (OpenSpec.ofChange digestRoundsSpec)

/-- ITS FALSE NEIGHBOUR: 'it returns false'. Refute it at one input. -/
def digestRoundsWrong : ChangeSpec := { name := "digestRounds", fn := fun _ => fun
  | [d1, d2, d3] => { results := [.lit (.bool false)], args := [d1, d2, d3] }
  | _ => none }
def DigestRoundsWrongFalsely : Prop := digestRoundsRow.holds Try.pinned (OpenSpec.ofChange digestRoundsWrong)

/-- 'roostlaw05.DigestOwn': WHATEVER THE INPUT: true; the input reads as it did. -/
def digestOwnSpec : ChangeSpec := { name := "digestOwn", fn := fun _ => fun
  | [d1, d2] => { results := [.lit (.bool true)], args := [d1, d2] }
  | _ => none }
def digestOwnRow : OpenClaim := { program := "ytpjpmgpehpigaaa", sum := "929d9d51a8327ab12cf025ef19c935f4cf91e46fe4b2c9ec5999e9afe6235c7c", func := "roost/roostlaw05.DigestOwn", spec := "digestOwn", apart := false }
def DigestOwnSaid : Prop := digestOwnRow.holds Try.pinned (OpenSpec.ofChange digestOwnSpec)

/-- ITS FALSE NEIGHBOUR: 'it returns false'. Refute it at one input. -/
def digestOwnWrong : ChangeSpec := { name := "digestOwn", fn := fun _ => fun
  | [d1, d2] => { results := [.lit (.bool false)], args := [d1, d2] }
  | _ => none }
def DigestOwnWrongFalsely : Prop := digestOwnRow.holds Try.pinned (OpenSpec.ofChange digestOwnWrong)

/-- 'roostlaw08.CredsApart': WHATEVER THE INPUT: true; the input reads as it did. -/
def credsApartSpec : ChangeSpec := { name := "credsApart", fn := fun _ => fun
  | [d] => { results := [.lit (.bool true)], args := [d] }
  | _ => none }
def credsApartRow : OpenClaim := { program := "ytpjpmgpehpigaaa", sum := "929d9d51a8327ab12cf025ef19c935f4cf91e46fe4b2c9ec5999e9afe6235c7c", func := "roost/roostlaw08.CredsApart", spec := "credsApart", inPlace := ["math.Float64frombits"], apart := false }
def CredsApartSaid : Prop := credsApartRow.holds Try.pinned (OpenSpec.ofChange credsApartSpec)

/-- ITS FALSE NEIGHBOUR: 'it returns false'. Refute it at one input. -/
def credsApartWrong : ChangeSpec := { name := "credsApart", fn := fun _ => fun
  | [d] => { results := [.lit (.bool false)], args := [d] }
  | _ => none }
def CredsApartWrongFalsely : Prop := credsApartRow.holds Try.pinned (OpenSpec.ofChange credsApartWrong)

/- THE SECOND FORM. 'bulk': how many values and letters a reading holds, each counted each time it is reached (what is shared counts as often as it is met; a slice's spare places count too). A statement '..UptoSaid' is the law's where the arguments, and the package variables that the reading takes, are together of bulk at most 1048576: NARROWER than '..Said'. Prove '..Said' where nothing that the law and all that it calls make is longer than what came in: it says more and counts as full. Else prove '..UptoSaid'. A law counts once. -/
mutual
def uptoBulk {H : Type} : DataW H → Nat
  | .lit (.string bytes) => bytes.length + 1
  | .lit _ => 1
  | .nil => 1
  | .ptr d => uptoBulk d + 1
  | .slice elems spare => uptoBulkAll elems + uptoBulkAll spare + 1
  | .agg parts => uptoBulkAll parts + 1
  | .iface _ d => uptoBulk d + 1
  | .map entries => uptoBulkEntries entries + 1
  | .held _ => 1
def uptoBulkAll {H : Type} : List (DataW H) → Nat
  | [] => 0
  | d :: r => uptoBulk d + uptoBulkAll r
def uptoBulkEntries {H : Type} : List (Lit × DataW H) → Nat
  | [] => 0
  | x :: r => uptoBulkEntry x + uptoBulkEntries r
def uptoBulkEntry {H : Type} : Lit × DataW H → Nat
  | (.string bytes, d) => bytes.length + uptoBulk d + 1
  | (_, d) => uptoBulk d + 1
 end
def uptoSmall : (H : Type) → List (DataW H) → Bool := fun _ ds => decide (uptoBulkAll ds ≤ 1048576)
def OpenSpec.upto (s : _root_.Go.ChangeSpec) : _root_.Go.OpenSpec := { _root_.Go.OpenSpec.ofChange s with cond := some uptoSmall }

/-- 'roostlaw09.CrcBoth', WHERE WHAT IT READS IS OF BULK AT MOST 1048576: true; the input reads as it did. -/
def crcBothUptoRow : OpenClaim := { program := "ytpjpmgpehpigaaa", sum := "929d9d51a8327ab12cf025ef19c935f4cf91e46fe4b2c9ec5999e9afe6235c7c", func := "roost/roostlaw09.CrcBoth", spec := "crcBoth", apart := false, narrowed := true }
def CrcBothUptoSaid : Prop := crcBothUptoRow.holds Try.pinned (OpenSpec.upto crcBothSpec)

/-- 'roostlaw09.CrcCuts', WHERE WHAT IT READS IS OF BULK AT MOST 1048576: true; the input reads as it did. -/
def crcCutsUptoRow : OpenClaim := { program := "ytpjpmgpehpigaaa", sum := "929d9d51a8327ab12cf025ef19c935f4cf91e46fe4b2c9ec5999e9afe6235c7c", func := "roost/roostlaw09.CrcCuts", spec := "crcCuts", apart := false, narrowed := true }
def CrcCutsUptoSaid : Prop := crcCutsUptoRow.holds Try.pinned (OpenSpec.upto crcCutsSpec)

/-- 'roostlaw09.CrcBurst', WHERE WHAT IT READS IS OF BULK AT MOST 1048576: true; the input reads as it did. -/
def crcBurstUptoRow : OpenClaim := { program := "ytpjpmgpehpigaaa", sum := "929d9d51a8327ab12cf025ef19c935f4cf91e46fe4b2c9ec5999e9afe6235c7c", func := "roost/roostlaw09.CrcBurst", spec := "crcBurst", apart := false, narrowed := true }
def CrcBurstUptoSaid : Prop := crcBurstUptoRow.holds Try.pinned (OpenSpec.upto crcBurstSpec)

/-- 'roostlaw09.CrcXor', WHERE WHAT IT READS IS OF BULK AT MOST 1048576: true; the input reads as it did. -/
def crcXorUptoRow : OpenClaim := { program := "ytpjpmgpehpigaaa", sum := "929d9d51a8327ab12cf025ef19c935f4cf91e46fe4b2c9ec5999e9afe6235c7c", func := "roost/roostlaw09.CrcXor", spec := "crcXor", apart := false, narrowed := true }
def CrcXorUptoSaid : Prop := crcXorUptoRow.holds Try.pinned (OpenSpec.upto crcXorSpec)

/-- 'roostlaw05.DigestSha', WHERE WHAT IT READS IS OF BULK AT MOST 1048576: true; the input reads as it did. -/
def digestShaUptoRow : OpenClaim := { program := "ytpjpmgpehpigaaa", sum := "929d9d51a8327ab12cf025ef19c935f4cf91e46fe4b2c9ec5999e9afe6235c7c", func := "roost/roostlaw05.DigestSha", spec := "digestSha", apart := false, narrowed := true }
def DigestShaUptoSaid : Prop := digestShaUptoRow.holds Try.pinned (OpenSpec.upto digestShaSpec)

/-- 'roostlaw05.DigestEqual', WHERE WHAT IT READS IS OF BULK AT MOST 1048576: true; the input reads as it did. -/
def digestEqualUptoRow : OpenClaim := { program := "ytpjpmgpehpigaaa", sum := "929d9d51a8327ab12cf025ef19c935f4cf91e46fe4b2c9ec5999e9afe6235c7c", func := "roost/roostlaw05.DigestEqual", spec := "digestEqual", apart := false, narrowed := true }
def DigestEqualUptoSaid : Prop := digestEqualUptoRow.holds Try.pinned (OpenSpec.upto digestEqualSpec)

/-- 'roostlaw05.DigestHmac', WHERE WHAT IT READS IS OF BULK AT MOST 1048576: true; the input reads as it did. -/
def digestHmacUptoRow : OpenClaim := { program := "ytpjpmgpehpigaaa", sum := "929d9d51a8327ab12cf025ef19c935f4cf91e46fe4b2c9ec5999e9afe6235c7c", func := "roost/roostlaw05.DigestHmac", spec := "digestHmac", apart := false, narrowed := true }
def DigestHmacUptoSaid : Prop := digestHmacUptoRow.holds Try.pinned (OpenSpec.upto digestHmacSpec)

/-- 'roostlaw05.DigestLong', WHERE WHAT IT READS IS OF BULK AT MOST 1048576: true; the input reads as it did. -/
def digestLongUptoRow : OpenClaim := { program := "ytpjpmgpehpigaaa", sum := "929d9d51a8327ab12cf025ef19c935f4cf91e46fe4b2c9ec5999e9afe6235c7c", func := "roost/roostlaw05.DigestLong", spec := "digestLong", apart := false, narrowed := true }
def DigestLongUptoSaid : Prop := digestLongUptoRow.holds Try.pinned (OpenSpec.upto digestLongSpec)

/-- 'roostlaw05.DigestHi', WHERE WHAT IT READS IS OF BULK AT MOST 1048576: true; the input reads as it did. -/
def digestHiUptoRow : OpenClaim := { program := "ytpjpmgpehpigaaa", sum := "929d9d51a8327ab12cf025ef19c935f4cf91e46fe4b2c9ec5999e9afe6235c7c", func := "roost/roostlaw05.DigestHi", spec := "digestHi", apart := false, narrowed := true }
def DigestHiUptoSaid : Prop := digestHiUptoRow.holds Try.pinned (OpenSpec.upto digestHiSpec)

/-- 'roostlaw05.DigestRounds', WHERE WHAT IT READS IS OF BULK AT MOST 1048576: true; the input reads as it did. -/
def digestRoundsUptoRow : OpenClaim := { program := "ytpjpmgpehpigaaa", sum := "929d9d51a8327ab12cf025ef19c935f4cf91e46fe4b2c9ec5999e9afe6235c7c", func := "roost/roostlaw05.DigestRounds", spec := "digestRounds", apart := false, narrowed := true }
def DigestRoundsUptoSaid : Prop := digestRoundsUptoRow.holds Try.pinned (OpenSpec.upto digestRoundsSpec)

/-- 'roostlaw05.DigestOwn', WHERE WHAT IT READS IS OF BULK AT MOST 1048576: true; the input reads as it did. -/
def digestOwnUptoRow : OpenClaim := { program := "ytpjpmgpehpigaaa", sum := "929d9d51a8327ab12cf025ef19c935f4cf91e46fe4b2c9ec5999e9afe6235c7c", func := "roost/roostlaw05.DigestOwn", spec := "digestOwn", apart := false, narrowed := true }
def DigestOwnUptoSaid : Prop := digestOwnUptoRow.holds Try.pinned (OpenSpec.upto digestOwnSpec)

/-- 'roostlaw08.CredsApart', WHERE WHAT IT READS IS OF BULK AT MOST 1048576: true; the input reads as it did. -/
def credsApartUptoRow : OpenClaim := { program := "ytpjpmgpehpigaaa", sum := "929d9d51a8327ab12cf025ef19c935f4cf91e46fe4b2c9ec5999e9afe6235c7c", func := "roost/roostlaw08.CredsApart", spec := "credsApart", inPlace := ["math.Float64frombits"], apart := false, narrowed := true }
def CredsApartUptoSaid : Prop := credsApartUptoRow.holds Try.pinned (OpenSpec.upto credsApartSpec)

end Rows
end Go.Proofs.Ytpjpmgpehpigaaa
