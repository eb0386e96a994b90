/- The plain side of the check sum: one step, a byte, a row of bytes; over natural numbers. -/
import Derived.Laws.BitsAllLaws
import Derived.WalkKit
set_option linter.unusedVariables false
namespace Go.Proofs.Ytpjpmgpehpigaaa
open Go.RowKit

def stepN (r : Nat) : Nat := if r % 2 = 1 then (r / 2) ^^^ 3988292384 else r / 2
def iterN : Nat → Nat → Nat
  | 0, r => r
  | k + 1, r => stepN (iterN k r)
def byteN (r : Nat) (b : UInt8) : Nat := iterN 8 (r ^^^ b.toNat)
def foldN (r : Nat) (l : List UInt8) : Nat := l.foldl byteN r
def moreN (s : Nat) (l : List UInt8) : Nat := 4294967295 - foldN (4294967295 - s) l
theorem stepN_lt {r : Nat} (h : r < 4294967296) : stepN r < 4294967296 := by
  unfold stepN
  split
  · exact Nat.xor_lt_two_pow (n := 32) (by omega) (by omega)
  · omega
theorem iterN_lt {r : Nat} (k : Nat) (h : r < 4294967296) : iterN k r < 4294967296 := by
  induction k with
  | zero => exact h
  | succ k ih => exact stepN_lt ih
theorem xorb_lt {r : Nat} (b : UInt8) (h : r < 4294967296) : r ^^^ b.toNat < 4294967296 := Nat.xor_lt_two_pow (n := 32) h (by have := b.toNat_lt; omega)
theorem byteN_lt {r : Nat} (b : UInt8) (h : r < 4294967296) : byteN r b < 4294967296 := iterN_lt 8 (xorb_lt b h)
theorem foldN_lt {r : Nat} (l : List UInt8) (h : r < 4294967296) : foldN r l < 4294967296 := by
  induction l generalizing r with
  | nil => exact h
  | cons b l ih => exact ih (byteN_lt b h)
theorem foldN_snoc (r : Nat) (l : List UInt8) (k : Nat) (h : k < l.length) : foldN r (l.take (k + 1)) = byteN (foldN r (l.take k)) (l.getD k 0) := by
  unfold foldN
  rw [List.take_succ_eq_append_getElem h, List.foldl_append]
  simp [List.getD_eq_getElem?_getD, List.getElem?_eq_getElem h]
/-- The code's own turns. -/
theorem cbit_eq (r : Nat) (h : r < 4294967296) : bits .xor .u32 ((r : Int) / 2) (3988292384 * bits .and .u32 (r : Int) 1 % 4294967296) = ((stepN r : Nat) : Int) := by
  have h1 : bits .and .u32 (r : Int) 1 = ((r % 2 : Nat) : Int) := by
    have := u32_and_nat r 1 h (by omega)
    rw [nat_mask1] at this
    exact this
  rw [h1]
  have e : (3988292384 * ((r % 2 : Nat) : Int) % 4294967296) = ((3988292384 * (r % 2) : Nat) : Int) := by omega
  rw [e, show ((r : Int) / 2) = ((r / 2 : Nat) : Int) from by omega, u32_xor_nat _ _ (by omega) (by omega)]
  unfold stepN
  rcases Nat.mod_two_eq_zero_or_one r with h2 | h2 <;> simp [h2]
theorem rbit1_eq (r : Nat) (h : r < 4294967296) (h2 : r % 2 = 1) : bits .xor .u32 ((r : Int) / 2) 3988292384 = ((stepN r : Nat) : Int) := by
  rw [show ((r : Int) / 2) = ((r / 2 : Nat) : Int) from by omega, show (3988292384 : Int) = ((3988292384 : Nat) : Int) from rfl, u32_xor_nat _ _ (by omega) (by omega)]
  unfold stepN; simp [h2]
theorem rbit0_eq (r : Nat) (h2 : ¬ r % 2 = 1) : ((r : Int) / 2) = ((stepN r : Nat) : Int) := by
  unfold stepN; simp [h2]
theorem and1_eq (r : Nat) (h : r < 4294967296) : bits .and .u32 (r : Int) 1 = ((r % 2 : Nat) : Int) := by
  have := u32_and_nat r 1 h (by omega)
  rw [nat_mask1] at this
  exact this
theorem not_eq (r : Nat) (h : r < 4294967296) : bits .xor .u32 IntKind.u32.max (r : Int) = ((4294967295 - r : Nat) : Int) := by
  rw [show IntKind.u32.max = ((4294967295 : Nat) : Int) from rfl, u32_xor_nat _ _ (by omega) h]
  congr 1
  have := congrArg BitVec.toNat (BitVec.allOnes_xor (x := BitVec.ofNat 32 r))
  simp only [BitVec.toNat_xor, BitVec.toNat_not, BitVec.toNat_allOnes, BitVec.toNat_ofNat, Nat.mod_eq_of_lt (show r < 2 ^ 32 from h)] at this
  simpa using this
theorem xorb_eq (r : Nat) (b : Nat) (h : r < 4294967296) (hb : b < 256) : bits .xor .u32 (r : Int) ((b : Int) % 4294967296) = ((r ^^^ b : Nat) : Int) := by
  rw [show ((b : Int) % 4294967296) = (b : Int) from by omega, u32_xor_nat _ _ h (by omega)]
end Go.Proofs.Ytpjpmgpehpigaaa
