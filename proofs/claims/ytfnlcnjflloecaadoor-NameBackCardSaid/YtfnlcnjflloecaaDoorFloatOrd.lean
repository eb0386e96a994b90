/- How two floats stand to each other, by their bits. -/
import Ieee.Arith
set_option linter.unusedVariables false
set_option linter.unusedSimpArgs false
namespace Go.Proofs.YtfnlcnjflloecaaDoor
def fnan (x : Nat) : Bool := decide (9218868437227405312 < x % 9223372036854775808)
def fkey (x : Nat) : Int := if x / 9223372036854775808 % 2 = 1 then -((x % 9223372036854775808 : Nat) : Int) else ((x % 9223372036854775808 : Nat) : Int)
def fval (r : Nat) : Nat := if r < 4503599627370496 then r else (4503599627370496 + r % 4503599627370496) * 2 ^ (r / 4503599627370496 - 1)
theorem fval_succ (r : Nat) : fval r < fval (r + 1) := by
  unfold fval
  by_cases h1 : r + 1 < 4503599627370496
  · rw [if_pos h1, if_pos (by omega)]; omega
  · rw [if_neg h1]
    by_cases h2 : r < 4503599627370496
    · rw [if_pos h2]
      obtain rfl : r = 4503599627370495 := by omega
      decide
    · rw [if_neg h2]
      by_cases h3 : r % 4503599627370496 = 4503599627370495
      · have e1 : (r + 1) % 4503599627370496 = 0 := by omega
        have e2 : (r + 1) / 4503599627370496 - 1 = (r / 4503599627370496 - 1) + 1 := by omega
        rw [e1, e2, h3, Nat.pow_succ]
        have hp : 0 < 2 ^ (r / 4503599627370496 - 1) := Nat.two_pow_pos _
        generalize 2 ^ (r / 4503599627370496 - 1) = P at *
        omega
      · have e1 : (r + 1) % 4503599627370496 = r % 4503599627370496 + 1 := by omega
        have e2 : (r + 1) / 4503599627370496 = r / 4503599627370496 := by omega
        rw [e1, e2]
        exact Nat.mul_lt_mul_of_pos_right (by omega) (Nat.two_pow_pos _)
theorem fval_lt {a b : Nat} (h : a < b) : fval a < fval b := by
  induction b with
  | zero => omega
  | succ b ih =>
    rcases Nat.lt_succ_iff_lt_or_eq.1 h with h1 | rfl
    · exact Nat.lt_trans (ih h1) (fval_succ b)
    · exact fval_succ _
theorem fval_zero : fval 0 = 0 := rfl
def sgn (s : Bool) (n : Nat) : Int := if s then -(n : Int) else (n : Int)
theorem cmp_mono {a b c d : Int} (h1 : a < b ↔ c < d) (h2 : a = b ↔ c = d) : compare a b = compare c d := by
  have e : ∀ x y : Int, compare x y = if x < y then .lt else if x = y then .eq else .gt := fun x y => rfl
  rw [e, e]
  by_cases p : a < b
  · rw [if_pos p, if_pos (h1.1 p)]
  · rw [if_neg p, if_neg (fun q => p (h1.2 q))]
    by_cases q : a = b
    · rw [if_pos q, if_pos (h2.1 q)]
    · rw [if_neg q, if_neg (fun r => q (h2.2 r))]
theorem cmp_fval (s t : Bool) (a b : Nat) : compare (sgn s (fval a)) (sgn t (fval b)) = compare (sgn s a) (sgn t b) := by
  have za : fval a = 0 ↔ a = 0 := by
    constructor
    · intro h
      rcases Nat.eq_zero_or_pos a with h1 | h1
      · exact h1
      · have := fval_lt h1; omega
    · rintro rfl; rfl
  have zb : fval b = 0 ↔ b = 0 := by
    constructor
    · intro h
      rcases Nat.eq_zero_or_pos b with h1 | h1
      · exact h1
      · have := fval_lt h1; omega
    · rintro rfl; rfl
  have hl : fval a < fval b ↔ a < b := by
    constructor
    · intro h
      rcases Nat.lt_trichotomy a b with h1 | rfl | h1
      · exact h1
      · omega
      · have := fval_lt h1; omega
    · exact fval_lt
  have hg : fval b < fval a ↔ b < a := by
    constructor
    · intro h
      rcases Nat.lt_trichotomy a b with h1 | rfl | h1
      · have := fval_lt h1; omega
      · omega
      · exact h1
    · exact fval_lt
  apply cmp_mono <;> cases s <;> cases t <;> simp only [sgn, if_true, if_false, Bool.false_eq_true] <;> omega
theorem signed_sgn (s : Bool) (m k : Nat) : Ieee.signed s m k = sgn s (m * 2 ^ k) := by
  unfold Ieee.signed sgn
  rw [Nat.shiftLeft_eq]
theorem cmp_scale (s t : Bool) (a b k : Nat) : compare (sgn s (a * 2 ^ k)) (sgn t (b * 2 ^ k)) = compare (sgn s a) (sgn t b) := by
  have hp : 0 < 2 ^ k := Nat.two_pow_pos k
  generalize 2 ^ k = P at *
  have hl : a * P < b * P ↔ a < b := Nat.mul_lt_mul_right hp
  have hg : b * P < a * P ↔ b < a := Nat.mul_lt_mul_right hp
  have za : a * P = 0 ↔ a = 0 := by rw [Nat.mul_eq_zero]; omega
  have zb : b * P = 0 ↔ b = 0 := by rw [Nat.mul_eq_zero]; omega
  generalize a * P = A at *
  generalize b * P = B at *
  apply cmp_mono <;> cases s <;> cases t <;> simp only [sgn, if_true, if_false, Bool.false_eq_true] <;> omega
theorem read_double (x : Nat) : Ieee.double.read x =
    if x % 9223372036854775808 < 4503599627370496 then .number (x / 9223372036854775808 % 2 == 1) (x % 9223372036854775808) (-1074)
    else if x % 9223372036854775808 < 9218868437227405312 then .number (x / 9223372036854775808 % 2 == 1) (4503599627370496 + x % 9223372036854775808 % 4503599627370496) (-1074 + ((x % 9223372036854775808 / 4503599627370496 - 1 : Nat) : Int))
    else if x % 9223372036854775808 = 9218868437227405312 then .infinity (x / 9223372036854775808 % 2 == 1) else .nan (x / 9223372036854775808 % 2 == 1) (x % 9223372036854775808 - 9218868437227405312) := by
  have e1 : (2 : Nat) ^ (11 + 52) = 9223372036854775808 := by decide
  have e2 : (2 : Nat) ^ 52 = 4503599627370496 := by decide
  have e3 : ((2 : Nat) ^ 11 - 1) * 4503599627370496 = 9218868437227405312 := by decide
  have e4 : (2 : Int) - 2 ^ (11 - 1) - ((52 : Nat) : Int) = -1074 := by decide
  show Ieee.Format.read ⟨11, 52⟩ x = _
  unfold Ieee.Format.read
  simp only [Ieee.Format.signWeight, Ieee.Format.binade, Ieee.Format.infRung, Ieee.Format.leastPlace, e1, e2, e3, e4]
/-- A finite number: its rung gives its magnitude. -/
theorem read_num (x : Nat) (h : x % 9223372036854775808 < 9218868437227405312) : ∃ m : Nat, ∃ k : Nat, Ieee.double.read x = .number (x / 9223372036854775808 % 2 == 1) m (-1074 + (k : Int)) ∧ fval (x % 9223372036854775808) = m * 2 ^ k := by
  rw [read_double]
  by_cases h1 : x % 9223372036854775808 < 4503599627370496
  · rw [if_pos h1]
    exact ⟨_, 0, rfl, by unfold fval; rw [if_pos h1]; simp⟩
  · rw [if_neg h1, if_pos h]
    exact ⟨_, _, rfl, by unfold fval; rw [if_neg h1]⟩
theorem read_inf (x : Nat) (h : x % 9223372036854775808 = 9218868437227405312) : Ieee.double.read x = .infinity (x / 9223372036854775808 % 2 == 1) := by
  rw [read_double, if_neg (by omega), if_neg (by omega), if_pos h]
theorem read_nan (x : Nat) (h : 9218868437227405312 < x % 9223372036854775808) : ∃ t, Ieee.double.read x = .nan (x / 9223372036854775808 % 2 == 1) t := by
  rw [read_double, if_neg (by omega), if_neg (by omega), if_neg (by omega)]
  exact ⟨_, rfl⟩
theorem fkey_sgn (x : Nat) : fkey x = sgn (x / 9223372036854775808 % 2 == 1) (x % 9223372036854775808) := by
  unfold fkey sgn
  by_cases h : x / 9223372036854775808 % 2 = 1 <;> simp [h]
theorem cmp_lt {a b : Int} (h : a < b) : compare a b = .lt := by
  show (if a < b then Ordering.lt else if a = b then .eq else .gt) = _
  rw [if_pos h]
theorem cmp_gt {a b : Int} (h : b < a) : compare a b = .gt := by
  show (if a < b then Ordering.lt else if a = b then .eq else .gt) = _
  rw [if_neg (by omega), if_neg (by omega)]
/-- The order of doubles is the order of their keys. -/
theorem order_double (x y : Nat) : Ieee.double.order x y = if fnan x = true ∨ fnan y = true then none else some (compare (fkey x) (fkey y)) := by
  unfold Ieee.Format.order
  rw [fkey_sgn, fkey_sgn]
  unfold fnan
  simp only [decide_eq_true_eq]
  by_cases nx : 9218868437227405312 < x % 9223372036854775808
  · obtain ⟨t, e⟩ := read_nan x nx
    rw [e, if_pos (.inl nx)]
    rfl
  by_cases ny : 9218868437227405312 < y % 9223372036854775808
  · obtain ⟨t, e⟩ := read_nan y ny
    rw [e, if_pos (.inr ny)]
    cases Ieee.double.read x <;> rfl
  rw [if_neg (by omega)]
  by_cases ix : x % 9223372036854775808 = 9218868437227405312
  · rw [read_inf x ix, ix]
    generalize (x / 9223372036854775808 % 2 == 1) = s
    by_cases iy : y % 9223372036854775808 = 9218868437227405312
    · rw [read_inf y iy, iy]
      generalize (y / 9223372036854775808 % 2 == 1) = t
      cases s <;> cases t <;> rfl
    · obtain ⟨m, k, e, _⟩ := read_num y (by omega)
      rw [e]
      generalize (y / 9223372036854775808 % 2 == 1) = t
      have hb : y % 9223372036854775808 < 9218868437227405312 := by omega
      generalize y % 9223372036854775808 = b at *
      cases s
      · show some (Ordering.gt) = _
        rw [cmp_gt]
        cases t <;> simp only [sgn, if_true, if_false, Bool.false_eq_true] <;> omega
      · show some (Ordering.lt) = _
        rw [cmp_lt]
        cases t <;> simp only [sgn, if_true, if_false, Bool.false_eq_true] <;> omega
  · obtain ⟨m, k, e, hv⟩ := read_num x (by omega)
    rw [e]
    generalize (x / 9223372036854775808 % 2 == 1) = s
    have ha : x % 9223372036854775808 < 9218868437227405312 := by omega
    generalize x % 9223372036854775808 = a at *
    by_cases iy : y % 9223372036854775808 = 9218868437227405312
    · rw [read_inf y iy, iy]
      generalize (y / 9223372036854775808 % 2 == 1) = t
      cases t
      · show some (Ordering.lt) = _
        rw [cmp_lt]
        cases s <;> simp only [sgn, if_true, if_false, Bool.false_eq_true] <;> omega
      · show some (Ordering.gt) = _
        rw [cmp_gt]
        cases s <;> simp only [sgn, if_true, if_false, Bool.false_eq_true] <;> omega
    · obtain ⟨n, l, e2, hw⟩ := read_num y (by omega)
      rw [e2]
      generalize (y / 9223372036854775808 % 2 == 1) = t
      generalize y % 9223372036854775808 = b at *
      show some (compare (Ieee.signed s m (-1074 + (k : Int) - min (-1074 + (k : Int)) (-1074 + (l : Int))).toNat) (Ieee.signed t n (-1074 + (l : Int) - min (-1074 + (k : Int)) (-1074 + (l : Int))).toNat)) = _
      rw [show (-1074 + (k : Int) - min (-1074 + (k : Int)) (-1074 + (l : Int))).toNat = k - min k l by omega, show (-1074 + (l : Int) - min (-1074 + (k : Int)) (-1074 + (l : Int))).toNat = l - min k l by omega]
      rw [signed_sgn, signed_sgn, ← cmp_scale s t _ _ (min k l), Nat.mul_assoc, Nat.mul_assoc, ← Nat.pow_add, ← Nat.pow_add, Nat.sub_add_cancel (Nat.min_le_left k l), Nat.sub_add_cancel (Nat.min_le_right k l), ← hv, ← hw, cmp_fval]
theorem fkey_bound (x : Nat) : -9223372036854775808 < fkey x ∧ fkey x < 9223372036854775808 := by
  unfold fkey
  split <;> omega
end Go.Proofs.YtfnlcnjflloecaaDoor
