/- Floats: their bits, NaN, sign, comparisons; octet.Order and the reference's. -/
import Derived.Test.YtfnlcnjflloecaaDoorFloatOrd
import Derived.Test.YtfnlcnjflloecaaDoorMore
import Derived.Laws.Externs
import Derived.Laws.Cover2
import Derived.Laws.Bits64
set_option linter.unusedVariables false
set_option linter.unusedSimpArgs false
namespace Go.Proofs.YtfnlcnjflloecaaDoor
open Go.RowKit
theorem f64frombits (w : World) (n : Int) : (callFunc 155 #[.int .u64 n]).run Tryd.prog w = .ok (.value (.float .f64 n.toNat)) w := by
  rw [run_callFunc_extern (e := Extern.MathFloatBits.float64frombits) Tryd.func155 (by kernel_rfl) (by kernel_rfl) (by kernel_rfl) (by kernel_rfl)]
  rfl
def fcmp (x y : Nat) : Option Ordering := FloatKind.f64.format.order x y
theorem fcmp_eq (x y : Nat) : FloatKind.f64.format.order x y = if fnan x = true ∨ fnan y = true then none else some (compare (fkey x) (fkey y)) := order_double x y
@[go_sem] theorem f_ne_self (x : Nat) : (FloatKind.f64.format.order x x != some .eq) = fnan x := by
  rw [fcmp_eq]
  cases h : fnan x
  · simp
  · simp
@[go_sem] theorem f_eq_self (x : Nat) : (FloatKind.f64.format.order x x == some .eq) = !fnan x := by
  rw [fcmp_eq]
  cases h : fnan x
  · simp
  · simp
@[go_sem] theorem f_lt (x y : Nat) : (FloatKind.f64.format.order x y == some .lt) = (!fnan x && !fnan y && decide (fkey x < fkey y)) := by
  rw [fcmp_eq]
  cases h : fnan x <;> cases h2 : fnan y <;> simp
  rw [Bool.eq_iff_iff]
  simp [Int.compare_eq_lt]
@[go_sem] theorem f_gt (x y : Nat) : (FloatKind.f64.format.order x y == some .gt) = (!fnan x && !fnan y && decide (fkey y < fkey x)) := by
  rw [fcmp_eq]
  cases h : fnan x <;> cases h2 : fnan y <;> simp
  rw [Bool.eq_iff_iff]
  simp [Int.compare_eq_gt]
@[go_sem] theorem f_eq (x y : Nat) : (FloatKind.f64.format.order x y == some .eq) = (!fnan x && !fnan y && decide (fkey x = fkey y)) := by
  rw [fcmp_eq]
  cases h : fnan x <;> cases h2 : fnan y <;> simp
  rw [Bool.eq_iff_iff]
  simp [Int.compare_eq_eq]
theorem isnan_c (x : Nat) (w : World) : Calls Tryd.prog 106 #[.float .f64 x] w fun e w' => e = .returned (.bool (fnan x)) ∧ w = w' := by
  go_enter Tryd.func106, Tryd.ntmps106
  go_wp2
  go_ret
  exact ⟨rfl, rfl⟩
def cmpI (a b : Int) : Int := if a < b then -1 else if b < a then 1 else 0
theorem i64_neg (x : Nat) (h : x < 18446744073709551616) : wrap64 (x : Int) < 0 ↔ 9223372036854775808 ≤ x := by unfold wrap64; omega
/-- A float's place in the order: NaN last, -0 ahead of 0. -/
def okey (x : Nat) : Int := if fnan x then 18446744073709551616 else if 9223372036854775808 ≤ x then fkey x - 1 else fkey x
def ordI (x y : Nat) : Int := cmpI (okey x) (okey y)
theorem fkey_neg (x : Nat) (h : x < 18446744073709551616) (hs : 9223372036854775808 ≤ x) : fkey x ≤ 0 := by unfold fkey; rw [if_pos (by omega)]; omega
theorem fkey_pos (x : Nat) (h : x < 18446744073709551616) (hs : ¬ 9223372036854775808 ≤ x) : 0 ≤ fkey x := by unfold fkey; rw [if_neg (by omega)]; omega
theorem ordI_nan (x y : Nat) : (fnan x = true → fnan y = true → ordI x y = 0) ∧ (fnan x = true → fnan y = false → ordI x y = 1) ∧ (fnan x = false → fnan y = true → ordI x y = -1) := by
  have hx := fkey_bound x
  have hy := fkey_bound y
  unfold ordI okey cmpI
  refine ⟨fun h1 h2 => ?_, fun h1 h2 => ?_, fun h1 h2 => ?_⟩ <;> simp only [h1, h2, if_true, if_false, Bool.false_eq_true] <;> (repeat' split) <;> omega
theorem ordI_zero (x y : Nat) (hx : x < 18446744073709551616) (hy : y < 18446744073709551616) (h1 : fnan x = false) (h2 : fnan y = false) (z1 : fkey x = 0) (z2 : fkey y = 0) :
    ordI x y = cmpI (if 9223372036854775808 ≤ x then -1 else 0) (if 9223372036854775808 ≤ y then -1 else 0) := by
  unfold ordI okey
  rw [h1, h2, z1, z2]
  simp only [if_false, Bool.false_eq_true]
  rfl
theorem ordI_num (x y : Nat) (hx : x < 18446744073709551616) (hy : y < 18446744073709551616) (h1 : fnan x = false) (h2 : fnan y = false) (z : ¬ (fkey x = 0 ∧ fkey y = 0)) :
    ordI x y = cmpI (fkey x) (fkey y) := by
  have a := fkey_neg x hx
  have b := fkey_pos x hx
  have c := fkey_neg y hy
  have d := fkey_pos y hy
  unfold ordI okey cmpI
  rw [h1, h2]
  simp only [if_false, Bool.false_eq_true]
  repeat' split
  all_goals omega
def bitsI (x : Nat) : Nat := if fnan x then 9221120237041090560 else x
def rkey (x : Nat) : Int := if fnan x then 18446744073709551615 else if 9223372036854775808 ≤ x then 9223372036854775807 - ((x : Int) - 9223372036854775808) else (x : Int) + 9223372036854775808
theorem rkey_ord (x y : Nat) (hx : x < 18446744073709551616) (hy : y < 18446744073709551616) : cmpI (rkey x) (rkey y) = ordI x y := by
  have e : ∀ z, z < 18446744073709551616 → (fnan z = true ∧ rkey z = 18446744073709551615 ∧ okey z = 18446744073709551616) ∨ (fnan z = false ∧ rkey z = okey z + 9223372036854775808 ∧ rkey z < 18446744073709551615) := by
    intro z hz
    cases hn : fnan z
    · refine .inr ⟨rfl, ?_⟩
      unfold fnan at hn
      rw [decide_eq_false_iff_not] at hn
      have hn2 : fnan z = false := by unfold fnan; rw [decide_eq_false_iff_not]; exact hn
      unfold rkey okey fkey
      rw [hn2]
      simp only [if_false, Bool.false_eq_true]
      repeat' split
      all_goals omega
    · left
      unfold rkey okey
      rw [hn]
      exact ⟨rfl, rfl, rfl⟩
  unfold ordI cmpI
  rcases e x hx with ⟨_, a1, a2⟩ | ⟨_, a1, a2⟩ <;> rcases e y hy with ⟨_, b1, b2⟩ | ⟨_, b1, b2⟩
  all_goals (repeat' split)
  all_goals omega
end Go.Proofs.YtfnlcnjflloecaaDoor
