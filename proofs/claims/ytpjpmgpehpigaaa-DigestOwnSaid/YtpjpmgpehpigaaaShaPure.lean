/- SHA-256's message: padding, blocks, bytes out; plain. -/
import Derived.Test.YtpjpmgpehpigaaaDig3
set_option linter.unusedVariables false
set_option linter.unusedSimpArgs false
namespace Go.Proofs.Ytpjpmgpehpigaaa
open Go.RowKit
/-- How many zeros follow the mark. -/
def zc (n : Nat) : Nat := (119 - n % 64) % 64
/-- The length's j-th byte, of eight. -/
def lenB (n j : Nat) : UInt8 := UInt8.ofNat (8 * n / 2 ^ (56 - 8 * j) % 256)
def lenBs (n j : Nat) : List UInt8 := (List.range j).map (lenB n)
def padI (b : List UInt8) : List UInt8 := b ++ [128] ++ List.replicate (zc b.length) 0 ++ lenBs b.length 8
theorem padI_len (b : List UInt8) : (padI b).length = b.length + 9 + zc b.length := by simp [padI, lenBs]; omega
theorem padI_mod (b : List UInt8) : (padI b).length % 64 = 0 := by rw [padI_len]; unfold zc; omega
theorem padI_le (b : List UInt8) : (padI b).length ≤ b.length + 72 := by rw [padI_len]; unfold zc; omega
theorem lenBs_succ (n j : Nat) : lenBs n (j + 1) = lenBs n j ++ [lenB n j] := by simp [lenBs, List.range_succ]
theorem lenB_val (n j : Nat) (h : 8 * n < 18446744073709551616) : (lenB n j).toNat = 8 * n / 2 ^ (56 - 8 * j) % 256 := by
  unfold lenB; simp
def S0 : S8 := ⟨1779033703, 3144134277, 1013904242, 2773480762, 1359893119, 2600822924, 528734635, 1541459225⟩
theorem S0_ok : S0.ok := by unfold S8.ok S0 U32; simp
theorem S0_l : S0.l = hI := rfl
/-- The state after so many blocks. -/
def stI (p : List UInt8) : Nat → S8
  | 0 => S0
  | i + 1 => mixS (stI p i) ((p.drop (64 * i)).take 64)
theorem mixS_ok (s : S8) (b : List UInt8) : (mixS s b).ok := S8.add_ok _ _
theorem stI_ok (p : List UInt8) (i : Nat) : (stI p i).ok := by
  cases i with
  | zero => exact S0_ok
  | succ i => exact mixS_ok _ _
/-- The state's j-th byte. -/
def outB (s : S8) (j : Nat) : UInt8 := UInt8.ofNat ((s.l.getD (j / 4) 0).toNat / 2 ^ (24 - j % 4 * 8) % 256)
def outS (s : S8) (j : Nat) : List UInt8 := (List.range j).map (outB s)
theorem outS_len (s : S8) (j : Nat) : (outS s j).length = j := by simp [outS]
def outZ (s : S8) (j : Nat) : List UInt8 := outS s j ++ List.replicate (32 - j) 0
theorem outZ_len (s : S8) (j : Nat) (h : j ≤ 32) : (outZ s j).length = 32 := by simp [outZ, outS_len]; omega
theorem outZ_set (s : S8) (j : Nat) (h : j < 32) : (outZ s j).set j (outB s j) = outZ s (j + 1) := by
  obtain ⟨m, hm⟩ : ∃ m, 32 - j = m + 1 := ⟨32 - j - 1, by omega⟩
  unfold outZ
  rw [hm, show 32 - (j + 1) = m from by omega, List.replicate_succ, List.set_append_right _ _ (by rw [outS_len]; omega), outS_len]
  simp [outS, List.range_succ]
def shaI (b : List UInt8) : List UInt8 := outS (stI (padI b) ((padI b).length / 64)) 32
theorem shaI_len (b : List UInt8) : (shaI b).length = 32 := outS_len _ _
theorem shaI_Z (b : List UInt8) : outZ (stI (padI b) ((padI b).length / 64)) 32 = shaI b := by simp [outZ, shaI]
end Go.Proofs.Ytpjpmgpehpigaaa
