/- octet.PutInt, PutFloat, PutText, and the reference's; roostkeep.Text. -/
import Derived.Test.YtfnlcnjflloecaaDoorOct3
import Derived.Laws.Concat
set_option linter.unusedVariables false
set_option linter.unusedSimpArgs false
namespace Go.Proofs.YtfnlcnjflloecaaDoor
open Go.RowKit
/-- The number that a signed one is written as. -/
def zig (n : Int) : Nat := if 0 ≤ n then (2 * n).toNat else (-2 * n - 1).toNat
theorem zig_lt (n : Int) (h : -9223372036854775808 ≤ n ∧ n ≤ 9223372036854775807) : zig n < 18446744073709551616 := by unfold zig; split <;> omega
theorem xor_ones (a : Nat) (h : a < 18446744073709551616) : bits .xor .u64 (a : Int) 18446744073709551615 = ((18446744073709551615 - a : Nat) : Int) := by
  have h2 : (BitVec.ofInt 64 (a : Int)).toNat = a := by rw [BitVec.ofInt_natCast, BitVec.toNat_ofNat]; exact Nat.mod_eq_of_lt (by omega)
  show IntKind.u64.wrap ((BitVec.ofInt 64 (a : Int) ^^^ BitVec.ofInt 64 18446744073709551615).toNat : Int) = _
  rw [show BitVec.ofInt 64 18446744073709551615 = BitVec.allOnes 64 from by decide, BitVec.xor_allOnes, BitVec.toNat_not, h2, IntKind.wrap_u64]
  omega
theorem xor_zero (a : Nat) (h : a < 18446744073709551616) : bits .xor .u64 (a : Int) 0 = (a : Int) := by
  have h2 : (BitVec.ofInt 64 (a : Int)).toNat = a := by rw [BitVec.ofInt_natCast, BitVec.toNat_ofNat]; exact Nat.mod_eq_of_lt (by omega)
  show IntKind.u64.wrap ((BitVec.ofInt 64 (a : Int) ^^^ BitVec.ofInt 64 0).toNat : Int) = _
  rw [show BitVec.ofInt 64 0 = 0#64 from by decide, BitVec.xor_zero, h2, IntKind.wrap_u64]
  omega
def beB (n j : Nat) : UInt8 := UInt8.ofNat (n / 2 ^ (56 - 8 * j) % 256)
def beBs (n j : Nat) : List UInt8 := (List.range j).map (beB n)
theorem beBs_succ (n j : Nat) : beBs n (j + 1) = beBs n j ++ [beB n j] := by simp [beBs, List.range_succ]
theorem beB_int (n j : Nat) (hj : j < 8) : (n : Int) / 2 ^ (56 - 8 * j) % 256 = ((beB n j).toNat : Int) := by
  unfold beB
  have e : (UInt8.ofNat (n / 2 ^ (56 - 8 * j) % 256)).toNat = n / 2 ^ (56 - 8 * j) % 256 := by rw [UInt8.toNat_ofNat']; exact Nat.mod_mod _ _
  rw [e, Int.natCast_emod, Int.natCast_ediv, Int.natCast_pow]
  rfl
def PfRel (w : World) (n : Nat) (pre : List UInt8) (f v s : Value) (wr : World) : Prop :=
  ∃ j : Nat, j ≤ 8 ∧ s = .int .i64 (56 - 8 * (j : Int)) ∧ Own8 wr w.heap.size 5 v (pre ++ beBs n j) ∧ Below w.heap.size w wr
def PfRel2 (w : World) (n : Nat) (pre : List UInt8) (v s : Value) (wr : World) : Prop :=
  ∃ j : Nat, j ≤ 8 ∧ s = .int .i64 (7 - (j : Int)) ∧ Own8 wr w.heap.size 5 v (pre ++ beBs n j) ∧ Below w.heap.size w wr
theorem byteCells_strB (l : List UInt8) : byteCells (strB l) = bvs l := by unfold byteCells strB bvs bv; simp
set_option maxHeartbeats 800000 in
theorem puttext_c (v : Value) (l k : List UInt8) (w : World) (h : Rd w v l) (hl : l.length ≤ 1000000) (hk : k.length ≤ 1000000) :
    Calls Tryd.prog 64 #[v, .string (strB k)] w (Gives8 5 w (l ++ formU k.length ++ k)) := by
  have P := putuint_c v l k.length w h hl (by omega)
  have hz : (strB k).size = k.length := rfl
  have hfl := formU_len64 k.length (by omega)
  go_enter Tryd.func64, Tryd.ntmps64
  have c0 : True := trivial
  go_wp2_with (first
    | (have _t := c0; go_at_call 63; refine P.mono ?_; rintro e w1 ⟨v1, rfl, ho1, hb1⟩; have hbs := hb1.size; clear c0; have c1 : True := trivial)
    | (have _t := c1; at_builtin; refine wpList_app8 rfl _ _ rfl st8 (by with_unfolding_all (conv => lhs; whnf)) ho1 rfl (by have := Src.ofString (P := Tryd.prog) (w := w1) Tryd.underlying9 (strB k); rw [byteCells_strB, hz] at this; exact this) (by simp; omega) (by omega) ?_; intro v2 w2 ho2 hg2 hb2; clear c1; have c2 : True := trivial))
  have hw := app_step0 hb1 ho1 (Nat.le_refl _) hg2
  go_ret
  exact ⟨_, rfl, ho2, hw.1⟩
set_option maxHeartbeats 800000 in
theorem refputtext_c (v : Value) (l k : List UInt8) (w : World) (h : Rd w v l) (hl : l.length ≤ 1000000) (hk : k.length ≤ 1000000) :
    Calls Tryd.prog 66 #[v, .string (strB k)] w (Gives8 5 w (l ++ formU k.length ++ k)) := by
  have P := refputuint_c v l k.length w h hl (by omega)
  have hz : (strB k).size = k.length := rfl
  have hfl := formU_len64 k.length (by omega)
  go_enter Tryd.func66, Tryd.ntmps66
  have c0 : True := trivial
  go_wp2_with (first
    | (have _t := c0; go_at_call 67; refine P.mono ?_; rintro e w1 ⟨v1, rfl, ho1, hb1⟩; have hbs := hb1.size; clear c0; have c1 : True := trivial)
    | (have _t := c1; at_builtin; refine wpList_app8 rfl _ _ rfl st8 (by with_unfolding_all (conv => lhs; whnf)) ho1 rfl (by have := Src.ofString (P := Tryd.prog) (w := w1) Tryd.underlying9 (strB k); rw [byteCells_strB, hz] at this; exact this) (by simp; omega) (by omega) ?_; intro v2 w2 ho2 hg2 hb2; clear c1; have c2 : True := trivial))
  have hw := app_step0 hb1 ho1 (Nat.le_refl _) hg2
  go_ret
  exact ⟨_, rfl, ho2, hw.1⟩
theorem text_c (k : List UInt8) (m : Nat) (w : World) (hk : k.length ≤ 9223372036854775807) (hm : m ≤ 1000000) :
    Calls Tryd.prog 9 #[.string (strB k), .int .i64 (m : Int)] w fun e w' => e = .returned (.string (strB (k.take m))) ∧ w = w' := by
  have hz : (strB k).size = k.length := rfl
  go_enter Tryd.func9, Tryd.ntmps9
  by_cases h : m < k.length
  · have q : (m : Int) < k.length := by omega
    have q2 : (m : Int) ≤ k.length := by omega
    have q3 : (0 : Int) ≤ m := by omega
    have hx : (strB k).extract 0 m = strB (k.take m) := by
      apply ByteArray.ext
      unfold strB
      simp [ByteArray.data_extract]
    go_wp2
    go_ret
    exact ⟨by rw [← hx]; rfl, rfl⟩
  · have q : ¬ (m : Int) < k.length := by omega
    go_wp2
    go_ret
    exact ⟨by rw [List.take_of_length_le (by omega)]; rfl, rfl⟩
end Go.Proofs.YtfnlcnjflloecaaDoor
