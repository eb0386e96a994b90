/- octet.Uint; the octet laws' helpers: few, wakes. -/
import Derived.Test.YtfnlcnjflloecaaMore
import Derived.Test.YtfnlcnjflloecaaMore2
import Derived.Laws.BitsAllLaws
import Ieee.Arith
import Derived.Laws.Externs
import Derived.Laws.Cover2
import Derived.Laws.Bits64
/-! ### Oct1 -/
set_option linter.unusedVariables false
set_option linter.unusedSimpArgs false
namespace Go.Proofs.Ytfnlcnjflloecaa
open Go.RowKit
theorem L8_make0 {P : Program} {w : World} {ops : Array Oper} {rest : List Oper} {a : Act} {Q : Exit → Act → World → Prop} {d : Nat} {ty : TypeId} {pos : String} {after : Array Edge} {t e : TypeId} {ol oc : Operand} {base : Nat}
    (ST : SlTy P t e 1 1 (.int .u8 0)) {n : Nat} {C : Int} {kl kc : IntKind} (hl : a.eval ol = .int kl 0) (hc : a.eval oc = .int kc C) (hC : C = (n : Int)) (hn : n ≤ 281474976710656) (hb : base ≤ w.heap.size)
    (h : ∀ v w', Own8 w' base e v [] → v.ownBlock = some w.heap.size → w.grownBy w' none → wpList P ops Q rest (a.put (some d) v) w') :
    wpList P ops Q ({ dst := some d, op := .makeSlice t ol oc, type := ty, pos := pos, after := after, guard := none } :: rest) a w := by
  obtain ⟨i, hi, hz, hs, hby⟩ := ST.info
  exact wpList_make_own w rfl ol oc t rfl base e i _ 1 ST.under hi hz hs kl kc C n hl hc hC (by rw [hby]; omega) (by unfold maxLen; omega) hb fun w' h1 h2 => h _ w' h1 rfl h2
def loB (m : Nat) : UInt8 := UInt8.ofNat (m % 128 + 128)
/-- A number's form. -/
def formU (n : Nat) : List UInt8 := if n < 128 then [UInt8.ofNat n] else loB n :: formU (n / 128)
decreasing_by omega
theorem formU_lt {n : Nat} (h : n < 128) : formU n = [UInt8.ofNat n] := by rw [formU]; exact if_pos h
theorem formU_ge {n : Nat} (h : 128 ≤ n) : formU n = loB n :: formU (n / 128) := by rw [formU]; exact if_neg (by omega)
theorem formU_len (n : Nat) : ∀ k, 1 ≤ k → n < 128 ^ k → (formU n).length ≤ k := by
  intro k
  induction k generalizing n with
  | zero => intro h; omega
  | succ k ih =>
    intro _ hn
    by_cases h : n < 128
    · rw [formU_lt h]; simp
    · rw [formU_ge (by omega)]
      rcases Nat.eq_zero_or_pos k with rfl | hk
      · simp at hn; omega
      · have := ih (n / 128) hk (Nat.div_lt_of_lt_mul (by rw [Nat.pow_succ] at hn; omega))
        simpa using this
theorem formU_len64 (n : Nat) (h : n < 18446744073709551616) : (formU n).length ≤ 10 := formU_len n 10 (by omega) (Nat.lt_of_lt_of_le h (by decide +kernel))
def PuRel (w : World) (n0 : Nat) (base : Nat) (pre : List UInt8) (v n : Value) (wr : World) : Prop := ∃ (m : Nat) (f : List UInt8), m ≤ n0 ∧ n = .int .u64 (m : Int) ∧ f.length ≤ 20 ∧ (f.length + (formU m).length ≤ 20) ∧ f ++ formU m = formU n0 ∧ Own8 wr base 5 v (pre ++ f) ∧ Below w.heap.size w wr
theorem or128 (m : Nat) : bits .or .u8 ((m : Int) % 256) 128 = (((loB m).toNat : Nat) : Int) := by
  unfold loB
  have h2 : ∀ x : Fin 256, (x.val ||| 128) = x.val % 128 + 128 := by decide +kernel
  have h3 := h2 ⟨m % 256, by omega⟩
  simp only at h3
  have e : (m : Int) % 256 = ((m % 256 : Nat) : Int) := by omega
  rw [e]
  have := (bits_nat .u8 8 (by decide) wraps_u8 (m % 256) 128 (by omega) (by omega)).2
  rw [show (128 : Int) = ((128 : Nat) : Int) from rfl, this, h3]
  simp
  omega
end Go.Proofs.Ytfnlcnjflloecaa
/-! ### Oct2 -/
set_option linter.unusedVariables false
set_option linter.unusedSimpArgs false
namespace Go.Proofs.Ytfnlcnjflloecaa
open Go.RowKit
theorem loB_nat (m : Nat) : (loB m).toNat = m % 128 + 128 := by unfold loB; simp; omega
/-- A number read from place i on, n its bits so far. -/
def numG : List UInt8 → Nat → Nat → Nat × Nat × Int
  | [], _, _ => (0, 0, 2)
  | c :: r, i, n =>
    if i = 9 ∧ 1 < c.toNat then (0, 0, 3)
    else if c.toNat < 128 then if c.toNat = 0 ∧ 0 < i then (0, 0, 2) else (n + c.toNat % 128 * 2 ^ (7 * i), i + 1, 0)
    else numG r (i + 1) (n + c.toNat % 128 * 2 ^ (7 * i))
def numI (l : List UInt8) : Nat × Nat × Int := numG l 0 0
def GivesN (w : World) (r : Nat × Nat × Int) (e : Ending) (w' : World) : Prop := e = .returned (.tuple #[.int .u64 (r.1 : Int), .int .i64 (r.2.1 : Int), .int .i64 r.2.2]) ∧ Below w.heap.size w w'
def NuRel (w : World) (l : List UInt8) (n a : Value) (wr : World) : Prop :=
  ∃ i m : Nat, i ≤ l.length ∧ i ≤ 9 ∧ m < 2 ^ (7 * i) ∧ n = .int .u64 (m : Int) ∧ a = .int .i64 (i : Int) ∧ numG (l.drop i) i m = numI l ∧ wr = w
theorem wraps64 (n : Int) (h0 : 0 ≤ n) (h1 : n < 2 ^ 64) : IntKind.u64.wrap n = n := by rw [IntKind.wrap_u64]; omega
theorem or_add (m x k : Nat) (h : m < 2 ^ k) (hx : x * 2 ^ k < 18446744073709551616) (hm : m < 18446744073709551616) : bits .or .u64 (m : Int) ((x * 2 ^ k : Nat) : Int) = ((m + x * 2 ^ k : Nat) : Int) := by
  have := (bits_nat .u64 64 (by decide) wraps64 m (x * 2 ^ k) (by omega) (by omega)).2
  rw [this, Nat.or_comm, Nat.mul_comm x, ← Nat.two_pow_add_eq_or_of_lt h, Nat.add_comm]
theorem andNot128 (c : UInt8) : bits .andNot .u8 (c.toNat : Int) 128 = ((c.toNat % 128 : Nat) : Int) := by
  have h : ∀ x : Fin 256, bits .andNot .u8 (x.val : Int) 128 = ((x.val % 128 : Nat) : Int) := by decide +kernel
  exact h ⟨c.toNat, c.toNat_lt⟩
theorem and128 (c : UInt8) : bits .and .u8 (c.toNat : Int) 128 = if c.toNat < 128 then 0 else 128 := by
  have h : ∀ x : Fin 256, bits .and .u8 (x.val : Int) 128 = if x.val < 128 then 0 else 128 := by decide +kernel
  exact h ⟨c.toNat, c.toNat_lt⟩
theorem stepN (m i : Nat) (c : UInt8) (hm : m < 2 ^ (7 * i)) (hi : i ≤ 9) (h9 : i = 9 → c.toNat ≤ 1) :
    bits .or .u64 (m : Int) (IntKind.u64.wrap (IntKind.u64.wrap (bits .andNot .u8 (c.toNat : Int) 128) * 2 ^ (7 * i))) = ((m + c.toNat % 128 * 2 ^ (7 * i) : Nat) : Int) ∧ m + c.toNat % 128 * 2 ^ (7 * i) < 2 ^ (7 * (i + 1)) ∧ m + c.toNat % 128 * 2 ^ (7 * i) < 18446744073709551616 := by
  have e1 : 2 ^ (7 * (i + 1)) = 128 * 2 ^ (7 * i) := by rw [show 7 * (i + 1) = 7 + 7 * i by omega, Nat.pow_add]
  have hx : c.toNat % 128 < 128 := by omega
  have hP : 0 < 2 ^ (7 * i) := Nat.two_pow_pos _
  have hb : m + c.toNat % 128 * 2 ^ (7 * i) < 18446744073709551616 ∧ m < 18446744073709551616 := by
    rcases Nat.lt_or_eq_of_le hi with h | h
    · have : 2 ^ (7 * i) ≤ 2 ^ 56 := Nat.pow_le_pow_right (by omega) (by omega)
      have h2 : c.toNat % 128 * 2 ^ (7 * i) ≤ 127 * 2 ^ (7 * i) := Nat.mul_le_mul_right _ (by omega)
      omega
    · have h1 := h9 h
      subst h
      have h2 : c.toNat % 128 * 2 ^ (7 * 9) ≤ 1 * 2 ^ (7 * 9) := Nat.mul_le_mul_right _ (by omega)
      omega
  refine ⟨?_, ?_, hb.1⟩
  · rw [andNot128, wraps64 ((c.toNat % 128 : Nat) : Int) (by omega) (by omega)]
    have e2 : ((c.toNat % 128 : Nat) : Int) * 2 ^ (7 * i) = ((c.toNat % 128 * 2 ^ (7 * i) : Nat) : Int) := by rw [Int.natCast_mul, Int.natCast_pow]; rfl
    rw [e2, wraps64 _ (by omega) (by omega)]
    exact or_add m _ _ hm (by omega) hb.2
  · rw [e1]
    have h2 : c.toNat % 128 * 2 ^ (7 * i) ≤ 127 * 2 ^ (7 * i) := Nat.mul_le_mul_right _ (by omega)
    omega
end Go.Proofs.Ytfnlcnjflloecaa
/-! ### FloatOrd -/
set_option linter.unusedVariables false
set_option linter.unusedSimpArgs false
namespace Go.Proofs.Ytfnlcnjflloecaa
def fnan (x : Nat) : Bool := decide (9218868437227405312 < x % 9223372036854775808)
def fkey (x : Nat) : Int := if x / 9223372036854775808 % 2 = 1 then -((x % 9223372036854775808 : Nat) : Int) else ((x % 9223372036854775808 : Nat) : Int)
def fval (r : Nat) : Nat := if r < 4503599627370496 then r else (4503599627370496 + r % 4503599627370496) * 2 ^ (r / 4503599627370496 - 1)
theorem fval_succ (r : Nat) : fval r < fval (r + 1) := by
  unfold fval
  by_cases h1 : r + 1 < 4503599627370496
  · rw [if_pos h1, if_pos (by omega)]; omega
  · rw [if_neg h1]
    by_cases h2 : r < 4503599627370496
    · rw [if_pos h2]
      obtain rfl : r = 4503599627370495 := by omega
      decide
    · rw [if_neg h2]
      by_cases h3 : r % 4503599627370496 = 4503599627370495
      · have e1 : (r + 1) % 4503599627370496 = 0 := by omega
        have e2 : (r + 1) / 4503599627370496 - 1 = (r / 4503599627370496 - 1) + 1 := by omega
        rw [e1, e2, h3, Nat.pow_succ]
        have hp : 0 < 2 ^ (r / 4503599627370496 - 1) := Nat.two_pow_pos _
        generalize 2 ^ (r / 4503599627370496 - 1) = P at *
        omega
      · have e1 : (r + 1) % 4503599627370496 = r % 4503599627370496 + 1 := by omega
        have e2 : (r + 1) / 4503599627370496 = r / 4503599627370496 := by omega
        rw [e1, e2]
        exact Nat.mul_lt_mul_of_pos_right (by omega) (Nat.two_pow_pos _)
theorem fval_lt {a b : Nat} (h : a < b) : fval a < fval b := by
  induction b with
  | zero => omega
  | succ b ih =>
    rcases Nat.lt_succ_iff_lt_or_eq.1 h with h1 | rfl
    · exact Nat.lt_trans (ih h1) (fval_succ b)
    · exact fval_succ _
theorem fval_zero : fval 0 = 0 := rfl
def sgn (s : Bool) (n : Nat) : Int := if s then -(n : Int) else (n : Int)
theorem cmp_mono {a b c d : Int} (h1 : a < b ↔ c < d) (h2 : a = b ↔ c = d) : compare a b = compare c d := by
  have e : ∀ x y : Int, compare x y = if x < y then .lt else if x = y then .eq else .gt := fun x y => rfl
  rw [e, e]
  by_cases p : a < b
  · rw [if_pos p, if_pos (h1.1 p)]
  · rw [if_neg p, if_neg (fun q => p (h1.2 q))]
    by_cases q : a = b
    · rw [if_pos q, if_pos (h2.1 q)]
    · rw [if_neg q, if_neg (fun r => q (h2.2 r))]
theorem cmp_fval (s t : Bool) (a b : Nat) : compare (sgn s (fval a)) (sgn t (fval b)) = compare (sgn s a) (sgn t b) := by
  have za : fval a = 0 ↔ a = 0 := by
    constructor
    · intro h
      rcases Nat.eq_zero_or_pos a with h1 | h1
      · exact h1
      · have := fval_lt h1; omega
    · rintro rfl; rfl
  have zb : fval b = 0 ↔ b = 0 := by
    constructor
    · intro h
      rcases Nat.eq_zero_or_pos b with h1 | h1
      · exact h1
      · have := fval_lt h1; omega
    · rintro rfl; rfl
  have hl : fval a < fval b ↔ a < b := by
    constructor
    · intro h
      rcases Nat.lt_trichotomy a b with h1 | rfl | h1
      · exact h1
      · omega
      · have := fval_lt h1; omega
    · exact fval_lt
  have hg : fval b < fval a ↔ b < a := by
    constructor
    · intro h
      rcases Nat.lt_trichotomy a b with h1 | rfl | h1
      · have := fval_lt h1; omega
      · omega
      · exact h1
    · exact fval_lt
  apply cmp_mono <;> cases s <;> cases t <;> simp only [sgn, if_true, if_false, Bool.false_eq_true] <;> omega
theorem signed_sgn (s : Bool) (m k : Nat) : Ieee.signed s m k = sgn s (m * 2 ^ k) := by
  unfold Ieee.signed sgn
  rw [Nat.shiftLeft_eq]
theorem cmp_scale (s t : Bool) (a b k : Nat) : compare (sgn s (a * 2 ^ k)) (sgn t (b * 2 ^ k)) = compare (sgn s a) (sgn t b) := by
  have hp : 0 < 2 ^ k := Nat.two_pow_pos k
  generalize 2 ^ k = P at *
  have hl : a * P < b * P ↔ a < b := Nat.mul_lt_mul_right hp
  have hg : b * P < a * P ↔ b < a := Nat.mul_lt_mul_right hp
  have za : a * P = 0 ↔ a = 0 := by rw [Nat.mul_eq_zero]; omega
  have zb : b * P = 0 ↔ b = 0 := by rw [Nat.mul_eq_zero]; omega
  generalize a * P = A at *
  generalize b * P = B at *
  apply cmp_mono <;> cases s <;> cases t <;> simp only [sgn, if_true, if_false, Bool.false_eq_true] <;> omega
theorem read_double (x : Nat) : Ieee.double.read x =
    if x % 9223372036854775808 < 4503599627370496 then .number (x / 9223372036854775808 % 2 == 1) (x % 9223372036854775808) (-1074)
    else if x % 9223372036854775808 < 9218868437227405312 then .number (x / 9223372036854775808 % 2 == 1) (4503599627370496 + x % 9223372036854775808 % 4503599627370496) (-1074 + ((x % 9223372036854775808 / 4503599627370496 - 1 : Nat) : Int))
    else if x % 9223372036854775808 = 9218868437227405312 then .infinity (x / 9223372036854775808 % 2 == 1) else .nan (x / 9223372036854775808 % 2 == 1) (x % 9223372036854775808 - 9218868437227405312) := by
  have e1 : (2 : Nat) ^ (11 + 52) = 9223372036854775808 := by decide
  have e2 : (2 : Nat) ^ 52 = 4503599627370496 := by decide
  have e3 : ((2 : Nat) ^ 11 - 1) * 4503599627370496 = 9218868437227405312 := by decide
  have e4 : (2 : Int) - 2 ^ (11 - 1) - ((52 : Nat) : Int) = -1074 := by decide
  show Ieee.Format.read ⟨11, 52⟩ x = _
  unfold Ieee.Format.read
  simp only [Ieee.Format.signWeight, Ieee.Format.binade, Ieee.Format.infRung, Ieee.Format.leastPlace, e1, e2, e3, e4]
/-- A finite number: its rung gives its magnitude. -/
theorem read_num (x : Nat) (h : x % 9223372036854775808 < 9218868437227405312) : ∃ m : Nat, ∃ k : Nat, Ieee.double.read x = .number (x / 9223372036854775808 % 2 == 1) m (-1074 + (k : Int)) ∧ fval (x % 9223372036854775808) = m * 2 ^ k := by
  rw [read_double]
  by_cases h1 : x % 9223372036854775808 < 4503599627370496
  · rw [if_pos h1]
    exact ⟨_, 0, rfl, by unfold fval; rw [if_pos h1]; simp⟩
  · rw [if_neg h1, if_pos h]
    exact ⟨_, _, rfl, by unfold fval; rw [if_neg h1]⟩
theorem read_inf (x : Nat) (h : x % 9223372036854775808 = 9218868437227405312) : Ieee.double.read x = .infinity (x / 9223372036854775808 % 2 == 1) := by
  rw [read_double, if_neg (by omega), if_neg (by omega), if_pos h]
theorem read_nan (x : Nat) (h : 9218868437227405312 < x % 9223372036854775808) : ∃ t, Ieee.double.read x = .nan (x / 9223372036854775808 % 2 == 1) t := by
  rw [read_double, if_neg (by omega), if_neg (by omega), if_neg (by omega)]
  exact ⟨_, rfl⟩
theorem fkey_sgn (x : Nat) : fkey x = sgn (x / 9223372036854775808 % 2 == 1) (x % 9223372036854775808) := by
  unfold fkey sgn
  by_cases h : x / 9223372036854775808 % 2 = 1 <;> simp [h]
theorem cmp_lt {a b : Int} (h : a < b) : compare a b = .lt := by
  show (if a < b then Ordering.lt else if a = b then .eq else .gt) = _
  rw [if_pos h]
theorem cmp_gt {a b : Int} (h : b < a) : compare a b = .gt := by
  show (if a < b then Ordering.lt else if a = b then .eq else .gt) = _
  rw [if_neg (by omega), if_neg (by omega)]
/-- The order of doubles is the order of their keys. -/
theorem order_double (x y : Nat) : Ieee.double.order x y = if fnan x = true ∨ fnan y = true then none else some (compare (fkey x) (fkey y)) := by
  unfold Ieee.Format.order
  rw [fkey_sgn, fkey_sgn]
  unfold fnan
  simp only [decide_eq_true_eq]
  by_cases nx : 9218868437227405312 < x % 9223372036854775808
  · obtain ⟨t, e⟩ := read_nan x nx
    rw [e, if_pos (.inl nx)]
    rfl
  by_cases ny : 9218868437227405312 < y % 9223372036854775808
  · obtain ⟨t, e⟩ := read_nan y ny
    rw [e, if_pos (.inr ny)]
    cases Ieee.double.read x <;> rfl
  rw [if_neg (by omega)]
  by_cases ix : x % 9223372036854775808 = 9218868437227405312
  · rw [read_inf x ix, ix]
    generalize (x / 9223372036854775808 % 2 == 1) = s
    by_cases iy : y % 9223372036854775808 = 9218868437227405312
    · rw [read_inf y iy, iy]
      generalize (y / 9223372036854775808 % 2 == 1) = t
      cases s <;> cases t <;> rfl
    · obtain ⟨m, k, e, _⟩ := read_num y (by omega)
      rw [e]
      generalize (y / 9223372036854775808 % 2 == 1) = t
      have hb : y % 9223372036854775808 < 9218868437227405312 := by omega
      generalize y % 9223372036854775808 = b at *
      cases s
      · show some (Ordering.gt) = _
        rw [cmp_gt]
        cases t <;> simp only [sgn, if_true, if_false, Bool.false_eq_true] <;> omega
      · show some (Ordering.lt) = _
        rw [cmp_lt]
        cases t <;> simp only [sgn, if_true, if_false, Bool.false_eq_true] <;> omega
  · obtain ⟨m, k, e, hv⟩ := read_num x (by omega)
    rw [e]
    generalize (x / 9223372036854775808 % 2 == 1) = s
    have ha : x % 9223372036854775808 < 9218868437227405312 := by omega
    generalize x % 9223372036854775808 = a at *
    by_cases iy : y % 9223372036854775808 = 9218868437227405312
    · rw [read_inf y iy, iy]
      generalize (y / 9223372036854775808 % 2 == 1) = t
      cases t
      · show some (Ordering.lt) = _
        rw [cmp_lt]
        cases s <;> simp only [sgn, if_true, if_false, Bool.false_eq_true] <;> omega
      · show some (Ordering.gt) = _
        rw [cmp_gt]
        cases s <;> simp only [sgn, if_true, if_false, Bool.false_eq_true] <;> omega
    · obtain ⟨n, l, e2, hw⟩ := read_num y (by omega)
      rw [e2]
      generalize (y / 9223372036854775808 % 2 == 1) = t
      generalize y % 9223372036854775808 = b at *
      show some (compare (Ieee.signed s m (-1074 + (k : Int) - min (-1074 + (k : Int)) (-1074 + (l : Int))).toNat) (Ieee.signed t n (-1074 + (l : Int) - min (-1074 + (k : Int)) (-1074 + (l : Int))).toNat)) = _
      rw [show (-1074 + (k : Int) - min (-1074 + (k : Int)) (-1074 + (l : Int))).toNat = k - min k l by omega, show (-1074 + (l : Int) - min (-1074 + (k : Int)) (-1074 + (l : Int))).toNat = l - min k l by omega]
      rw [signed_sgn, signed_sgn, ← cmp_scale s t _ _ (min k l), Nat.mul_assoc, Nat.mul_assoc, ← Nat.pow_add, ← Nat.pow_add, Nat.sub_add_cancel (Nat.min_le_left k l), Nat.sub_add_cancel (Nat.min_le_right k l), ← hv, ← hw, cmp_fval]
theorem fkey_bound (x : Nat) : -9223372036854775808 < fkey x ∧ fkey x < 9223372036854775808 := by
  unfold fkey
  split <;> omega
end Go.Proofs.Ytfnlcnjflloecaa
/-! ### Flo -/
set_option linter.unusedVariables false
set_option linter.unusedSimpArgs false
namespace Go.Proofs.Ytfnlcnjflloecaa
open Go.RowKit
def fcmp (x y : Nat) : Option Ordering := FloatKind.f64.format.order x y
theorem fcmp_eq (x y : Nat) : FloatKind.f64.format.order x y = if fnan x = true ∨ fnan y = true then none else some (compare (fkey x) (fkey y)) := order_double x y
@[go_sem] theorem f_ne_self (x : Nat) : (FloatKind.f64.format.order x x != some .eq) = fnan x := by
  rw [fcmp_eq]
  cases h : fnan x
  · simp
  · simp
@[go_sem] theorem f_eq_self (x : Nat) : (FloatKind.f64.format.order x x == some .eq) = !fnan x := by
  rw [fcmp_eq]
  cases h : fnan x
  · simp
  · simp
@[go_sem] theorem f_lt (x y : Nat) : (FloatKind.f64.format.order x y == some .lt) = (!fnan x && !fnan y && decide (fkey x < fkey y)) := by
  rw [fcmp_eq]
  cases h : fnan x <;> cases h2 : fnan y <;> simp
  rw [Bool.eq_iff_iff]
  simp [Int.compare_eq_lt]
@[go_sem] theorem f_gt (x y : Nat) : (FloatKind.f64.format.order x y == some .gt) = (!fnan x && !fnan y && decide (fkey y < fkey x)) := by
  rw [fcmp_eq]
  cases h : fnan x <;> cases h2 : fnan y <;> simp
  rw [Bool.eq_iff_iff]
  simp [Int.compare_eq_gt]
@[go_sem] theorem f_eq (x y : Nat) : (FloatKind.f64.format.order x y == some .eq) = (!fnan x && !fnan y && decide (fkey x = fkey y)) := by
  rw [fcmp_eq]
  cases h : fnan x <;> cases h2 : fnan y <;> simp
  rw [Bool.eq_iff_iff]
  simp [Int.compare_eq_eq]
def cmpI (a b : Int) : Int := if a < b then -1 else if b < a then 1 else 0
theorem i64_neg (x : Nat) (h : x < 18446744073709551616) : wrap64 (x : Int) < 0 ↔ 9223372036854775808 ≤ x := by unfold wrap64; omega
/-- A float's place in the order: NaN last, -0 ahead of 0. -/
def okey (x : Nat) : Int := if fnan x then 18446744073709551616 else if 9223372036854775808 ≤ x then fkey x - 1 else fkey x
def ordI (x y : Nat) : Int := cmpI (okey x) (okey y)
theorem fkey_neg (x : Nat) (h : x < 18446744073709551616) (hs : 9223372036854775808 ≤ x) : fkey x ≤ 0 := by unfold fkey; rw [if_pos (by omega)]; omega
theorem fkey_pos (x : Nat) (h : x < 18446744073709551616) (hs : ¬ 9223372036854775808 ≤ x) : 0 ≤ fkey x := by unfold fkey; rw [if_neg (by omega)]; omega
theorem ordI_nan (x y : Nat) : (fnan x = true → fnan y = true → ordI x y = 0) ∧ (fnan x = true → fnan y = false → ordI x y = 1) ∧ (fnan x = false → fnan y = true → ordI x y = -1) := by
  have hx := fkey_bound x
  have hy := fkey_bound y
  unfold ordI okey cmpI
  refine ⟨fun h1 h2 => ?_, fun h1 h2 => ?_, fun h1 h2 => ?_⟩ <;> simp only [h1, h2, if_true, if_false, Bool.false_eq_true] <;> (repeat' split) <;> omega
theorem ordI_zero (x y : Nat) (hx : x < 18446744073709551616) (hy : y < 18446744073709551616) (h1 : fnan x = false) (h2 : fnan y = false) (z1 : fkey x = 0) (z2 : fkey y = 0) :
    ordI x y = cmpI (if 9223372036854775808 ≤ x then -1 else 0) (if 9223372036854775808 ≤ y then -1 else 0) := by
  unfold ordI okey
  rw [h1, h2, z1, z2]
  simp only [if_false, Bool.false_eq_true]
  rfl
theorem ordI_num (x y : Nat) (hx : x < 18446744073709551616) (hy : y < 18446744073709551616) (h1 : fnan x = false) (h2 : fnan y = false) (z : ¬ (fkey x = 0 ∧ fkey y = 0)) :
    ordI x y = cmpI (fkey x) (fkey y) := by
  have a := fkey_neg x hx
  have b := fkey_pos x hx
  have c := fkey_neg y hy
  have d := fkey_pos y hy
  unfold ordI okey cmpI
  rw [h1, h2]
  simp only [if_false, Bool.false_eq_true]
  repeat' split
  all_goals omega
def bitsI (x : Nat) : Nat := if fnan x then 9221120237041090560 else x
def rkey (x : Nat) : Int := if fnan x then 18446744073709551615 else if 9223372036854775808 ≤ x then 9223372036854775807 - ((x : Int) - 9223372036854775808) else (x : Int) + 9223372036854775808
theorem rkey_ord (x y : Nat) (hx : x < 18446744073709551616) (hy : y < 18446744073709551616) : cmpI (rkey x) (rkey y) = ordI x y := by
  have e : ∀ z, z < 18446744073709551616 → (fnan z = true ∧ rkey z = 18446744073709551615 ∧ okey z = 18446744073709551616) ∨ (fnan z = false ∧ rkey z = okey z + 9223372036854775808 ∧ rkey z < 18446744073709551615) := by
    intro z hz
    cases hn : fnan z
    · refine .inr ⟨rfl, ?_⟩
      unfold fnan at hn
      rw [decide_eq_false_iff_not] at hn
      have hn2 : fnan z = false := by unfold fnan; rw [decide_eq_false_iff_not]; exact hn
      unfold rkey okey fkey
      rw [hn2]
      simp only [if_false, Bool.false_eq_true]
      repeat' split
      all_goals omega
    · left
      unfold rkey okey
      rw [hn]
      exact ⟨rfl, rfl, rfl⟩
  unfold ordI cmpI
  rcases e x hx with ⟨_, a1, a2⟩ | ⟨_, a1, a2⟩ <;> rcases e y hy with ⟨_, b1, b2⟩ | ⟨_, b1, b2⟩
  all_goals (repeat' split)
  all_goals omega
end Go.Proofs.Ytfnlcnjflloecaa
/-! ### Oct3 -/
set_option linter.unusedVariables false
set_option linter.unusedSimpArgs false
namespace Go.Proofs.Ytfnlcnjflloecaa
open Go.RowKit
theorem numG_at (l : List UInt8) : ∀ i n, (numG l i n).2.1 ≤ i + l.length := by
  induction l with
  | nil => intro i n; simp [numG]
  | cons c r ih =>
    intro i n
    unfold numG
    split
    · simp
    · split
      · split
        · simp
        · simp
      · have := ih (i + 1) (n + c.toNat % 128 * 2 ^ (7 * i))
        simp only [List.length_cons]; omega
theorem numI_at (l : List UInt8) : (numI l).2.1 ≤ l.length := by have := numG_at l 0 0; unfold numI; omega
def uintI (l : List UInt8) : Nat × List UInt8 × Int := if (numI l).2.2 = 0 then ((numI l).1, l.drop (numI l).2.1, 0) else (0, [], (numI l).2.2)
def GivesU (w : World) (r : Nat × List UInt8 × Int) (e : Ending) (w' : World) : Prop := ∃ v, e = .returned (.tuple #[.int .u64 (r.1 : Int), v, .int .i64 r.2.2]) ∧ Own8 w' w.heap.size 5 v r.2.1 ∧ Below w.heap.size w w'
theorem str_toList (l : List UInt8) : (strB l).toList = l := by rw [ByteArray.toList_eq]; rfl
theorem uint_ex : uintI [172, 2, 9] = (300, [9], 0) := by decide +kernel
theorem form_ex : formU 300 = [172, 2] := by rw [formU_ge (by omega), formU_lt (by omega)]; rfl
theorem ord_ex : ordI 4607182418800017408 4611686018427387904 = -1 := by decide +kernel
end Go.Proofs.Ytfnlcnjflloecaa
