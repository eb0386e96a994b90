/- octet.Int, octet.Float; the reference's Uint, Int, Float, Same. -/
import Derived.Test.YtfnlcnjflloecaaOct3
import Derived.Test.YtfnlcnjflloecaaMore2
import Derived.Laws.Concat
/-! ### Oct4 -/
set_option linter.unusedVariables false
set_option linter.unusedSimpArgs false
namespace Go.Proofs.Ytfnlcnjflloecaa
open Go.RowKit
/-- The number that a signed one is written as. -/
def zig (n : Int) : Nat := if 0 ≤ n then (2 * n).toNat else (-2 * n - 1).toNat
theorem zig_lt (n : Int) (h : -9223372036854775808 ≤ n ∧ n ≤ 9223372036854775807) : zig n < 18446744073709551616 := by unfold zig; split <;> omega
theorem xor_ones (a : Nat) (h : a < 18446744073709551616) : bits .xor .u64 (a : Int) 18446744073709551615 = ((18446744073709551615 - a : Nat) : Int) := by
  have h2 : (BitVec.ofInt 64 (a : Int)).toNat = a := by rw [BitVec.ofInt_natCast, BitVec.toNat_ofNat]; exact Nat.mod_eq_of_lt (by omega)
  show IntKind.u64.wrap ((BitVec.ofInt 64 (a : Int) ^^^ BitVec.ofInt 64 18446744073709551615).toNat : Int) = _
  rw [show BitVec.ofInt 64 18446744073709551615 = BitVec.allOnes 64 from by decide, BitVec.xor_allOnes, BitVec.toNat_not, h2, IntKind.wrap_u64]
  omega
theorem xor_zero (a : Nat) (h : a < 18446744073709551616) : bits .xor .u64 (a : Int) 0 = (a : Int) := by
  have h2 : (BitVec.ofInt 64 (a : Int)).toNat = a := by rw [BitVec.ofInt_natCast, BitVec.toNat_ofNat]; exact Nat.mod_eq_of_lt (by omega)
  show IntKind.u64.wrap ((BitVec.ofInt 64 (a : Int) ^^^ BitVec.ofInt 64 0).toNat : Int) = _
  rw [show BitVec.ofInt 64 0 = 0#64 from by decide, BitVec.xor_zero, h2, IntKind.wrap_u64]
  omega
def beB (n j : Nat) : UInt8 := UInt8.ofNat (n / 2 ^ (56 - 8 * j) % 256)
def beBs (n j : Nat) : List UInt8 := (List.range j).map (beB n)
theorem beBs_succ (n j : Nat) : beBs n (j + 1) = beBs n j ++ [beB n j] := by simp [beBs, List.range_succ]
theorem beB_int (n j : Nat) (hj : j < 8) : (n : Int) / 2 ^ (56 - 8 * j) % 256 = ((beB n j).toNat : Int) := by
  unfold beB
  have e : (UInt8.ofNat (n / 2 ^ (56 - 8 * j) % 256)).toNat = n / 2 ^ (56 - 8 * j) % 256 := by rw [UInt8.toNat_ofNat']; exact Nat.mod_mod _ _
  rw [e, Int.natCast_emod, Int.natCast_ediv, Int.natCast_pow]
  rfl
def PfRel (w : World) (n : Nat) (pre : List UInt8) (f v s : Value) (wr : World) : Prop :=
  ∃ j : Nat, j ≤ 8 ∧ s = .int .i64 (56 - 8 * (j : Int)) ∧ Own8 wr w.heap.size 5 v (pre ++ beBs n j) ∧ Below w.heap.size w wr
def PfRel2 (w : World) (n : Nat) (pre : List UInt8) (v s : Value) (wr : World) : Prop :=
  ∃ j : Nat, j ≤ 8 ∧ s = .int .i64 (7 - (j : Int)) ∧ Own8 wr w.heap.size 5 v (pre ++ beBs n j) ∧ Below w.heap.size w wr
theorem byteCells_strB (l : List UInt8) : byteCells (strB l) = bvs l := by unfold byteCells strB bvs bv; simp
end Go.Proofs.Ytfnlcnjflloecaa
/-! ### Oct5 -/
set_option linter.unusedVariables false
set_option linter.unusedSimpArgs false
namespace Go.Proofs.Ytfnlcnjflloecaa
open Go.RowKit
/-- The number with a sign that a zigzag number says. -/
def unzig (n : Nat) : Int := if n % 2 = 0 then ((n / 2 : Nat) : Int) else -((n / 2 : Nat) : Int) - 1
theorem unzig_zig (n : Int) : unzig (zig n) = n := by unfold unzig zig; split <;> split <;> omega
def intI (l : List UInt8) : Int × List UInt8 × Int := if (numI l).2.2 = 0 then (unzig (numI l).1, l.drop (numI l).2.1, 0) else (0, [], (numI l).2.2)
def GivesI (w : World) (r : Int × List UInt8 × Int) (e : Ending) (w' : World) : Prop := ∃ v, e = .returned (.tuple #[.int .i64 r.1, v, .int .i64 r.2.2]) ∧ Own8 w' w.heap.size 5 v r.2.1 ∧ Below w.heap.size w w'
theorem numG_lt : ∀ (l : List UInt8) (i n : Nat), i ≤ 9 → n < 2 ^ (7 * i) → (numG l i n).1 < 18446744073709551616
  | [], i, n, _, _ => by simp [numG]
  | c :: r, i, n, hi, hn => by
    unfold numG
    split
    · simp
    · rename_i h9
      have hs := stepN n i c hn hi (fun e => by
        by_cases h1 : 1 < c.toNat
        · exact absurd ⟨e, h1⟩ h9
        · omega)
      split
      · split
        · simp
        · exact hs.2.2
      · rename_i h128
        exact numG_lt r (i + 1) _ (by
          rcases Nat.lt_or_ge i 9 with h | h
          · omega
          · have : i = 9 := by omega
            exact absurd ⟨this, by omega⟩ h9) hs.2.1
theorem numI_lt (l : List UInt8) : (numI l).1 < 18446744073709551616 := numG_lt l 0 0 (by omega) (by simp)
theorem xor_i64 (h : Nat) (hh : h < 9223372036854775808) : bits .xor .i64 (h : Int) (-1) = -(h : Int) - 1 := by
  have h2 : (BitVec.ofInt 64 (h : Int)).toNat = h := by rw [BitVec.ofInt_natCast, BitVec.toNat_ofNat]; exact Nat.mod_eq_of_lt (by omega)
  show IntKind.i64.wrap ((BitVec.ofInt 64 (h : Int) ^^^ BitVec.ofInt 64 (-1)).toNat : Int) = _
  rw [show BitVec.ofInt 64 (-1) = BitVec.allOnes 64 from by decide, BitVec.xor_allOnes, BitVec.toNat_not, h2, IntKind.wrap_i64]
  omega
theorem xor_i64z (h : Nat) (hh : h < 9223372036854775808) : bits .xor .i64 (h : Int) 0 = (h : Int) := by
  have h2 : (BitVec.ofInt 64 (h : Int)).toNat = h := by rw [BitVec.ofInt_natCast, BitVec.toNat_ofNat]; exact Nat.mod_eq_of_lt (by omega)
  show IntKind.i64.wrap ((BitVec.ofInt 64 (h : Int) ^^^ BitVec.ofInt 64 0).toNat : Int) = _
  rw [show BitVec.ofInt 64 0 = 0#64 from by decide, BitVec.xor_zero, h2, IntKind.wrap_i64]
  omega
theorem and1 (n : Nat) (h : n < 18446744073709551616) : bits .and .u64 (n : Int) 1 = ((n % 2 : Nat) : Int) := by
  have := u64_and_nat n 1 h (by omega)
  rw [Nat.and_one_is_mod] at this
  exact this
/-- The number that bytes spell, the greatest first. -/
def beN : List UInt8 → Nat := fun l => l.foldl (fun n c => n * 256 + c.toNat) 0
def nanF : Nat := 9221120237041090560
def floatI (l : List UInt8) : Nat × List UInt8 × Int := if l.length < 8 then (0, [], 2) else if fnan (beN (l.take 8)) = true ∧ beN (l.take 8) ≠ nanF then (0, [], 2) else (beN (l.take 8), l.drop 8, 0)
def GivesF (w : World) (r : Nat × List UInt8 × Int) (e : Ending) (w' : World) : Prop := ∃ v, e = .returned (.tuple #[.float .f64 r.1, v, .int .i64 r.2.2]) ∧ Own8 w' w.heap.size 5 v r.2.1 ∧ Below w.heap.size w w'
theorem beN_succ (l : List UInt8) (j : Nat) (h : j < l.length) : beN (l.take (j + 1)) = beN (l.take j) * 256 + (l.getD j 0).toNat := by
  unfold beN
  rw [List.take_add_one, List.getElem?_eq_getElem h, List.foldl_append]
  simp [List.getD_eq_getElem?_getD, List.getElem?_eq_getElem h]
theorem beN_lt (l : List UInt8) (j : Nat) (h : j ≤ l.length) : beN (l.take j) < 256 ^ j := by
  induction j with
  | zero => simp [beN]
  | succ j ih =>
    have h1 := ih (by omega)
    have h2 := (l.getD j 0).toNat_lt
    rw [beN_succ l j (by omega), Nat.pow_succ]; omega
theorem orU64 (a b k : Nat) (h : a * 2 ^ k + b < 18446744073709551616) (hb : b < 2 ^ k) : bits .or .u64 ((a * 2 ^ k : Nat) : Int) (b : Int) = ((a * 2 ^ k + b : Nat) : Int) := by
  rw [u64_or_nat (a * 2 ^ k) b (by omega) (by omega), ← Nat.shiftLeft_eq, ← Nat.shiftLeft_add_eq_or_of_lt hb a]
def FlR (w : World) (l : List UInt8) (n i : Value) (wr : World) : Prop := ∃ j : Nat, j ≤ 8 ∧ n = .int .u64 (beN (l.take j) : Int) ∧ i = .int .i64 (j : Int) ∧ wr = w
theorem be_step (l : List UInt8) (j : Nat) (h : j < 8) (hl : 8 ≤ l.length) : bits .or .u64 ((beN (l.take j) : Int) * 256) (bt l j) = (beN (l.take (j + 1)) : Int) ∧ beN (l.take j) < 72057594037927936 := by
  have h1 := beN_lt l j (by omega)
  have h2 : 256 ^ j ≤ 256 ^ 7 := Nat.pow_le_pow_right (by omega) (by omega)
  have h3 : (256 : Nat) ^ 7 = 72057594037927936 := by decide
  have hc := (l.getD j 0).toNat_lt
  have := orU64 (beN (l.take j)) (l.getD j 0).toNat 8 (by omega) (by omega)
  rw [beN_succ l j (by omega)]
  refine ⟨?_, by omega⟩
  unfold bt
  rw [show ((beN (l.take j) : Int) * 256) = ((beN (l.take j) * 2 ^ 8 : Nat) : Int) from by omega]
  exact this
theorem fnan_zero : fnan 0 = false := by decide
end Go.Proofs.Ytfnlcnjflloecaa
