/- How the arguments of a law are read: what the walks are told of them. -/
import Derived.Test.YtfnlcnjflloecaaBase
import Derived.ProofKit
import Derived.OpenShut
import Derived.ShutString
import Derived.ChangeOld
import Derived.Below
set_option linter.unusedVariables false
set_option linter.unusedSimpArgs false
namespace Go.Proofs.Ytfnlcnjflloecaa
open Go.ChangeShapes Go.WideShapes Go.ChangeAt Go.RowKit
theorem row_own : ownKnob Try.prog.godebug = none := by kernel_rfl
theorem row_laidOut : laidOutB Try.prog = true := by kernel_rfl
def IsRow (k : IntKind) (w : World) (a : Option Addr) (len cap : Nat) (zs : List Int) : Prop :=
  (a = none ∧ len = 0 ∧ cap = 0 ∧ zs = []) ∨
  ∃ x, a = some x ∧ len ≤ cap ∧ cap ≤ maxLen ∧ zs.length = cap ∧ (∀ i, i < zs.length → w.cell? (x.add i) = some (.int k (zs.getD i 0))) ∧ ∀ n ∈ zs, (Lit.int k n).wf = true
theorem wf_u8 {n : Int} (h : (Lit.int .u8 n).wf = true) : 0 ≤ n ∧ n < 256 := by
  simp [Lit.wf, IntKind.min, IntKind.max, IntKind.signed, IntKind.bits] at h; omega
theorem wf_u32 {n : Int} (h : (Lit.int .u32 n).wf = true) : 0 ≤ n ∧ n < 4294967296 := by
  simp [Lit.wf, IntKind.min, IntKind.max, IntKind.signed, IntKind.bits] at h; omega
theorem wf_u64 {n : Int} (h : (Lit.int .u64 n).wf = true) : 0 ≤ n ∧ n < 18446744073709551616 := by
  simp [Lit.wf, IntKind.min, IntKind.max, IntKind.signed, IntKind.bits] at h; omega
theorem wf_i64 {n : Int} (h : (Lit.int .i64 n).wf = true) : -9223372036854775808 ≤ n ∧ n ≤ 9223372036854775807 := by
  simp [Lit.wf, IntKind.min, IntKind.max, IntKind.signed, IntKind.bits] at h; omega
theorem isRow_open {k : IntKind} {w : World} {a : Option Addr} {len cap : Nat} {zs : List Int} (h : IsRow k w a len cap zs) :
    len ≤ cap ∧ cap ≤ maxLen ∧ len ≤ zs.length ∧ (∀ n ∈ zs, (Lit.int k n).wf = true) ∧ (0 < len → ∃ b off, a = some ⟨b, off, none⟩ ∧ ∀ j, j < len → w.cell? ⟨b, off + j, none⟩ = some (.int k (zs.getD j 0))) := by
  rcases h with ⟨rfl, rfl, rfl, rfl⟩ | ⟨x, rfl, hl, hm, hz, hc, hw⟩
  · exact ⟨by simp, by simp [maxLen], by simp, by simp, fun h => by omega⟩
  · refine ⟨hl, hm, by omega, hw, fun hp => ?_⟩
    obtain ⟨b, off, spot⟩ := x
    have hc0 := hc 0 (by omega)
    have hspot : spot = none := by simpa [Addr.add] using World.cell?_spot hc0
    subst hspot
    refine ⟨b, off, rfl, fun j hj => ?_⟩
    have := hc j (by omega)
    unfold Addr.add at this
    split at this
    · rename_i h; subst h; simpa using this
    · simpa using this
theorem rd_of_row {w : World} {a : Option Addr} {len cap : Nat} {zs : List Int} (h : IsRow .u8 w a len cap zs) : ∃ l, Rd w (.slice a len cap) l ∧ l.length = len := by
  obtain ⟨h1, h2, h3, hw, hc⟩ := isRow_open h
  have hl : ((zs.take len).map fun z => UInt8.ofNat z.toNat).length = len := by simp; omega
  refine ⟨(zs.take len).map fun z => UInt8.ofNat z.toNat, Rd.mk hl.symm h1 h2 fun hp => ?_, hl⟩
  obtain ⟨b, off, rfl, hcc⟩ := hc (by omega)
  refine ⟨b, off, rfl, fun j hj => ?_⟩
  rw [hcc j hj, bt_get _ _ (by omega)]
  have hz : j < zs.length := by omega
  have := wf_u8 (hw zs[j] (List.getElem_mem hz))
  simp only [List.getElem_map, List.getElem_take, List.getD_eq_getElem?_getD, List.getElem?_eq_getElem hz, Option.getD_some]
  have e : (UInt8.ofNat zs[j].toNat).toNat = zs[j].toNat := by simp; omega
  rw [e]
  congr 2
  omega
/-- A slice of int that is read. -/
def ivs (l : List Int) : List Value := l.map (.int .i64)
def RdI (w : World) (v : Value) (l : List Int) : Prop := RdW w 1 v l.length (ivs l) ∧ ∀ z ∈ l, -9223372036854775808 ≤ z ∧ z ≤ 9223372036854775807
theorem RdI.below {w w' : World} {v : Value} {l : List Int} (h : RdI w v l) (hb : Below w.heap.size w w') : RdI w' v l := ⟨RdW.below h.1 hb, h.2⟩
theorem rdi_of_row {w : World} {a : Option Addr} {len cap : Nat} {zs : List Int} (h : IsRow .i64 w a len cap zs) : ∃ l, RdI w (.slice a len cap) l := by
  obtain ⟨h1, h2, h3, hw, hc⟩ := isRow_open h
  have hl : (zs.take len).length = len := by simp; omega
  refine ⟨zs.take len, ⟨by simp [ivs], a, cap, by rw [hl], by omega, h2, fun hp => ?_⟩, fun z hz => wf_i64 (hw z (List.mem_of_mem_take hz))⟩
  obtain ⟨b, off, rfl, hcc⟩ := hc (by omega)
  refine ⟨b, off, rfl, fun j u hu => ?_⟩
  have hj : j < len := by have := (List.getElem?_eq_some_iff.1 hu).1; simp [ivs] at this; omega
  have hz : j < zs.length := by omega
  simp [ivs, List.getElem?_take, hj, List.getElem?_eq_getElem hz] at hu
  subst hu
  rw [hcc j hj]
  simp [List.getD_eq_getElem?_getD, List.getElem?_eq_getElem hz]
end Go.Proofs.Ytfnlcnjflloecaa
