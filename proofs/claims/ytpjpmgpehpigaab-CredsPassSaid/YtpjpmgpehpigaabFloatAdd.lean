/- Rounding is monotone: what 'nearest' gives for an exact magnitude. -/
import Derived.Test.YtpjpmgpehpigaabFloatOrd
set_option linter.unusedVariables false
set_option linter.unusedSimpArgs false
namespace Go.Proofs.Ytpjpmgpehpigaab
theorem fval_at (L k : Nat) (hk : k ≤ 9007199254740992) (hL : L = 0 ∨ 4503599627370496 ≤ k) : fval (L * 4503599627370496 + k) = k * 2 ^ L := by
  unfold fval
  by_cases h0 : L * 4503599627370496 + k < 4503599627370496
  · rw [if_pos h0]
    have : L = 0 := by omega
    subst this
    simp
  · rw [if_neg h0]
    rcases Nat.lt_or_eq_of_le hk with h | h
    · have e1 : (L * 4503599627370496 + k) / 4503599627370496 - 1 = L := by omega
      have e2 : 4503599627370496 + (L * 4503599627370496 + k) % 4503599627370496 = k := by omega
      rw [e1, e2]
    · subst h
      have e1 : (L * 4503599627370496 + 9007199254740992) / 4503599627370496 - 1 = L + 1 := by omega
      have e2 : 4503599627370496 + (L * 4503599627370496 + 9007199254740992) % 4503599627370496 = 4503599627370496 := by omega
      rw [e1, e2, Nat.pow_succ]
      omega
theorem fval_le_iff (a b : Nat) : fval a ≤ fval b ↔ a ≤ b := by
  constructor
  · intro h
    rcases Nat.lt_or_ge b a with h1 | h1
    · have := fval_lt h1; omega
    · exact h1
  · intro h
    rcases Nat.lt_or_eq_of_le h with h1 | rfl
    · exact Nat.le_of_lt (fval_lt h1)
    · exact Nat.le_refl _
/-- Cutting: the whole part, or one more where something is left over. -/
theorem cut_cases (neg : Bool) (n drop : Nat) : Ieee.Toward.cut .even neg n drop = n / 2 ^ drop ∨ (Ieee.Toward.cut .even neg n drop = n / 2 ^ drop + 1 ∧ 0 < n % 2 ^ drop) := by
  unfold Ieee.Toward.cut
  rw [Nat.one_shiftLeft]
  by_cases hd : drop ≤ n.log2 + 2
  · rw [Nat.min_eq_left hd]
    generalize 2 ^ drop = g
    simp only
    by_cases hm : (decide (g < 2 * (n % g)) || (g == 2 * (n % g) && n / g % 2 == 1)) = true
    · rw [hm]
      refine .inr ⟨rfl, ?_⟩
      rcases Nat.eq_zero_or_pos (n % g) with h0 | h0
      · rw [h0] at hm
        simp at hm
        obtain ⟨h1, h2⟩ := hm
        subst h1
        simp at h0
        subst h0
        simp at h2
      · exact h0
    · rw [Bool.not_eq_true] at hm
      rw [hm]
      exact .inl rfl
  · rw [Nat.min_eq_right (by omega)]
    have hn : n < 2 ^ (n.log2 + 1) := Nat.lt_log2_self
    have h1 : n < 2 ^ (n.log2 + 2) := by rw [Nat.pow_succ]; omega
    have h2 : n < 2 ^ drop := Nat.lt_of_lt_of_le h1 (Nat.pow_le_pow_right (by omega) (by omega))
    have e1 : n / 2 ^ drop = 0 := Nat.div_eq_of_lt h2
    have e2 : n / 2 ^ (n.log2 + 2) = 0 := Nat.div_eq_of_lt h1
    have e3 : n % 2 ^ (n.log2 + 2) = n := Nat.mod_eq_of_lt h1
    have h3 : 2 * n < 2 ^ (n.log2 + 2) := by rw [Nat.pow_succ]; omega
    simp only [e1, e2, e3]
    generalize 2 ^ (n.log2 + 2) = g at *
    have hm : (decide (g < 2 * n) || (g == 2 * n && 0 % 2 == 1)) = false := by simp; omega
    rw [hm]
    exact .inl rfl
/-- The rung that 'nearest' finds for mag * 2 ^ P (in units of the least place). -/
def rungN (neg : Bool) (mag P : Nat) : Nat := (P + mag.log2 - 52) * 4503599627370496 + Ieee.Toward.cut .even neg (mag * 2 ^ (P - (P + mag.log2 - 52))) ((P + mag.log2 - 52) - P)
theorem nearest_double (neg : Bool) (mag P : Nat) (hm : mag ≠ 0) : Ieee.double.nearest neg mag (-1074 + (P : Int)) = Ieee.double.word neg (min (rungN neg mag P) 9218868437227405312) := by
  have e1 : Ieee.double.binade = 4503599627370496 := by decide
  have e2 : Ieee.double.infRung = 9218868437227405312 := by decide
  have e3 : Ieee.double.leastPlace = -1074 := by decide
  have e4 : Ieee.double.fractionBits = 52 := rfl
  unfold Ieee.Format.nearest rungN
  rw [if_neg hm, e1, e2, e3, e4]
  have h1 : (max (-1074 + (P : Int) + (mag.log2 : Int) - ((52 : Nat) : Int)) (-1074)) = -1074 + ((P + mag.log2 - 52 : Nat) : Int) := by omega
  simp only [h1]
  generalize P + mag.log2 - 52 = L
  rw [show (-1074 + (L : Int) - -1074).toNat = L by omega, show (-1074 + (P : Int) - (-1074 + (L : Int))).toNat = P - L by omega, show (-1074 + (L : Int) - (-1074 + (P : Int))).toNat = L - P by omega, Nat.shiftLeft_eq]
theorem rungN_spec (neg : Bool) (mag P : Nat) (hm : mag ≠ 0) : (∀ r, fval r ≤ mag * 2 ^ P → r ≤ rungN neg mag P) ∧ (∀ r, mag * 2 ^ P ≤ fval r → rungN neg mag P ≤ r) := by
  unfold rungN
  have hlo : 2 ^ mag.log2 ≤ mag := Nat.log2_self_le hm
  have hhi : mag < 2 ^ (mag.log2 + 1) := Nat.lt_log2_self
  generalize hL : P + mag.log2 - 52 = L at *
  -- the whole part
  have hq : mag * 2 ^ (P - L) / 2 ^ (L - P) = mag * 2 ^ P / 2 ^ L := by
    rcases Nat.le_total L P with h | h
    · rw [Nat.sub_eq_zero_of_le h, Nat.pow_zero, Nat.div_one]
      have : 2 ^ P = 2 ^ (P - L) * 2 ^ L := by rw [← Nat.pow_add]; congr 1; omega
      rw [this, ← Nat.mul_assoc, Nat.mul_div_cancel _ (Nat.two_pow_pos L)]
    · rw [Nat.sub_eq_zero_of_le h, Nat.pow_zero, Nat.mul_one]
      have : 2 ^ L = 2 ^ (L - P) * 2 ^ P := by rw [← Nat.pow_add]; congr 1; omega
      rw [this, Nat.mul_div_mul_right _ _ (Nat.two_pow_pos P)]
  have hX1 : mag * 2 ^ P < 2 ^ (L + 53) := by
    have h1 : mag * 2 ^ P < 2 ^ (mag.log2 + 1) * 2 ^ P := Nat.mul_lt_mul_of_pos_right hhi (Nat.two_pow_pos P)
    rw [← Nat.pow_add] at h1
    exact Nat.lt_of_lt_of_le h1 (Nat.pow_le_pow_right (by omega) (by omega))
  have hX2 : L = 0 ∨ 2 ^ (L + 52) ≤ mag * 2 ^ P := by
    rcases Nat.eq_zero_or_pos L with h | h
    · exact .inl h
    · refine .inr ?_
      have h1 : 2 ^ mag.log2 * 2 ^ P ≤ mag * 2 ^ P := Nat.mul_le_mul_right _ hlo
      rw [← Nat.pow_add] at h1
      rw [show L + 52 = mag.log2 + P by omega]
      exact h1
  generalize hXX : mag * 2 ^ P = X at *
  have hP : 0 < 2 ^ L := Nat.two_pow_pos L
  have hd := Nat.div_add_mod X (2 ^ L)
  have hml := Nat.mod_lt X hP
  have hq1 : X / 2 ^ L < 9007199254740992 := by
    rw [Nat.div_lt_iff_lt_mul hP]
    rw [Nat.pow_add] at hX1
    have : (2 : Nat) ^ 53 = 9007199254740992 := by decide
    rw [this, Nat.mul_comm] at hX1
    exact hX1
  have hq2 : L = 0 ∨ 4503599627370496 ≤ X / 2 ^ L := by
    rcases hX2 with h | h
    · exact .inl h
    · refine .inr ?_
      rw [Nat.le_div_iff_mul_le hP]
      rw [Nat.pow_add] at h
      have : (2 : Nat) ^ 52 = 4503599627370496 := by decide
      rw [this, Nat.mul_comm] at h
      exact h
  generalize hQ : X / 2 ^ L = q at *
  have f1 := fval_at L q (by omega) hq2
  have f2 := fval_at L (q + 1) (by omega) (by omega)
  have f3 : q * 2 ^ L ≤ X := by rw [Nat.mul_comm]; omega
  have f4 : X < (q + 1) * 2 ^ L := by rw [Nat.mul_comm, Nat.mul_add, Nat.mul_one]; omega
  have hcut := cut_cases neg (mag * 2 ^ (P - L)) (L - P)
  rw [hq] at hcut
  refine ⟨fun r hr => ?_, fun r hr => ?_⟩
  · have h1 : r < L * 4503599627370496 + (q + 1) := by
      rcases Nat.lt_or_ge r (L * 4503599627370496 + (q + 1)) with h | h
      · exact h
      · have := (fval_le_iff _ _).2 h
        omega
    rcases hcut with h | ⟨h, _⟩ <;> rw [h] <;> omega
  · rcases hcut with h | ⟨h, hrest⟩
    · rw [h]
      apply (fval_le_iff _ _).1
      rw [f1]; omega
    · rw [h]
      have h3 : q * 2 ^ L < X := by
        have hLP : P < L := by
          rcases Nat.lt_or_ge P L with h | h
          · exact h
          · rw [Nat.sub_eq_zero_of_le h, Nat.pow_zero, Nat.mod_one] at hrest; omega
        rw [Nat.sub_eq_zero_of_le (Nat.le_of_lt hLP), Nat.pow_zero, Nat.mul_one] at hrest
        have hne : X % 2 ^ L ≠ 0 := by
          have e : 2 ^ L = 2 ^ (L - P) * 2 ^ P := by rw [← Nat.pow_add]; congr 1; omega
          rw [← hXX, e, Nat.mul_mod_mul_right]
          exact Nat.ne_of_gt (Nat.mul_pos hrest (Nat.two_pow_pos P))
        rw [Nat.mul_comm]; omega
      rcases Nat.lt_or_ge (L * 4503599627370496 + q) r with h4 | h4
      · omega
      · have := (fval_le_iff _ _).2 h4
        omega
theorem fval_step (r : Nat) : fval (r + 1) ≤ fval r + 2 ^ (r / 4503599627370496) := by
  unfold fval
  by_cases h1 : r + 1 < 4503599627370496
  · rw [if_pos h1, if_pos (by omega)]
    have := Nat.two_pow_pos (r / 4503599627370496)
    omega
  · rw [if_neg h1]
    by_cases h2 : r < 4503599627370496
    · rw [if_pos h2]
      obtain rfl : r = 4503599627370495 := by omega
      decide
    · rw [if_neg h2]
      obtain ⟨e, he⟩ : ∃ e, r / 4503599627370496 = e + 1 := ⟨r / 4503599627370496 - 1, by omega⟩
      have hp : 0 < 2 ^ e := Nat.two_pow_pos e
      by_cases h3 : r % 4503599627370496 = 4503599627370495
      · have e1 : (r + 1) % 4503599627370496 = 0 := by omega
        have e2 : (r + 1) / 4503599627370496 = e + 2 := by omega
        rw [e1, e2, he, h3, show e + 2 - 1 = e + 1 by omega, show e + 1 - 1 = e by omega, Nat.pow_succ]
        generalize 2 ^ e = P at *
        omega
      · have e1 : (r + 1) % 4503599627370496 = r % 4503599627370496 + 1 := by omega
        have e2 : (r + 1) / 4503599627370496 = e + 1 := by omega
        rw [e1, e2, he, show e + 1 - 1 = e by omega, Nat.pow_succ, show 4503599627370496 + (r % 4503599627370496 + 1) = (4503599627370496 + r % 4503599627370496) + 1 by omega, Nat.add_mul, Nat.one_mul]
        omega
theorem sgn_mul (s : Bool) (a b : Nat) : sgn s (a * b) = sgn s a * (b : Int) := by
  unfold sgn
  cases s
  · simp
  · simp only [if_true]; rw [Int.natCast_mul, Int.neg_mul]
theorem pow_cut (a b e k : Nat) (he : e ≤ a + b) (hk : 2 ^ b ≤ k) : 2 ^ e ≤ k * 2 ^ a := by
  refine Nat.le_trans (Nat.pow_le_pow_right (Nat.succ_pos 1) he) ?_
  rw [Nat.pow_add, Nat.mul_comm]
  exact Nat.mul_le_mul_right _ hk
theorem fvD (e : Nat) (he : e ≤ 1053) : 2 ^ e ≤ fval 4696837146684686336 := by
  obtain ⟨L, hL⟩ : ∃ L, L = 1041 := ⟨_, rfl⟩
  have h := fval_at L 8589934592000000 (by decide) (.inr (by decide))
  have e1 : L * 4503599627370496 + 8589934592000000 = 4696837146684686336 := by omega
  rw [e1] at h
  rw [h]
  exact pow_cut L 12 e _ (by omega) (by decide)
theorem add_core (t D rt m k mD kD FD : Nat) (s : Bool) (e1 : Ieee.double.read t = .number s m (-1074 + (k : Int))) (e2 : Ieee.double.read D = .number false mD (-1074 + (kD : Int))) (hv : fval rt = m * 2 ^ k) (hvD : FD = mD * 2 ^ kD) (hD0 : 0 < FD)
    (hstep : ∀ r, r ≤ 4741671816366391296 → fval (r + 1) ≤ fval r + FD) (hb : rt ≤ 4741671816366391296) : ∃ r, Ieee.double.add t D = some r ∧ fnan r = false ∧ sgn s rt < fkey r := by
  unfold Ieee.Format.add
  rw [e1, e2]
  clear e1 e2
  simp only [Ieee.Datum.sum, Option.map_some]
  generalize hP : min k kD = P
  have hmin : min (-1074 + (k : Int)) (-1074 + (kD : Int)) = -1074 + (P : Int) := by omega
  rw [hmin, show (-1074 + (k : Int) - (-1074 + (P : Int))).toNat = k - P by omega, show (-1074 + (kD : Int) - (-1074 + (P : Int))).toNat = kD - P by omega, signed_sgn, signed_sgn]
  generalize hT : sgn s (m * 2 ^ (k - P)) + sgn false (mD * 2 ^ (kD - P)) = T
  -- the exact sum, in units of the least place
  have hsum : T * ((2 ^ P : Nat) : Int) = sgn s (fval rt) + (FD : Int) := by
    rw [← hT, Int.add_mul, ← sgn_mul, ← sgn_mul, Nat.mul_assoc, Nat.mul_assoc, ← Nat.pow_add, ← Nat.pow_add, Nat.sub_add_cancel (by omega), Nat.sub_add_cancel (by omega), ← hv, ← hvD]
    rfl
  have hP0 : 0 < 2 ^ P := Nat.two_pow_pos P
  refine ⟨_, rfl, ?_⟩
  simp only [Ieee.Format.write]
  have fw : ∀ R, R ≤ 9218868437227405312 → fnan (Ieee.double.word false R) = false ∧ fkey (Ieee.double.word false R) = (R : Int) := fun R hR => by
    have e : Ieee.double.word false R = R := rfl
    rw [e]
    unfold fnan fkey
    rw [decide_eq_false_iff_not, if_neg (by omega)]
    exact ⟨by omega, by omega⟩
  have fwn : ∀ R, R ≤ 9218868437227405312 → fnan (Ieee.double.word true R) = false ∧ fkey (Ieee.double.word true R) = -(R : Int) := fun R hR => by
    have e : Ieee.double.word true R = 9223372036854775808 + R := rfl
    rw [e]
    unfold fnan fkey
    rw [decide_eq_false_iff_not, if_pos (by omega)]
    exact ⟨by omega, by omega⟩
  rcases Int.lt_trichotomy T 0 with hneg | hz | hpos
  · -- below nought
    have hX : T.natAbs * 2 ^ P = fval rt - FD ∧ FD < fval rt ∧ s = true := by
      have h1 : T * ((2 ^ P : Nat) : Int) < 0 := Int.mul_neg_of_neg_of_pos hneg (by omega)
      rw [hsum] at h1
      have h2 : ((T.natAbs * 2 ^ P : Nat) : Int) = -(T * ((2 ^ P : Nat) : Int)) := by
        rw [Int.natCast_mul, show ((T.natAbs : Nat) : Int) = -T by omega, Int.neg_mul]
      rw [hsum] at h2
      cases s
      · simp only [sgn, if_false, Bool.false_eq_true] at h1; omega
      · simp only [sgn, if_true] at h1 h2
        exact ⟨by omega, by omega, rfl⟩
    obtain ⟨hX1, hX2, rfl⟩ := hX
    rw [if_neg (by omega), decide_eq_true hneg, nearest_double _ _ _ (by omega)]
    have hs := rungN_spec true T.natAbs P (by omega)
    rw [hX1] at hs
    have hrt : 0 < rt := by
      rcases Nat.eq_zero_or_pos rt with h | h
      · rw [h] at hX2; simp [fval_zero] at hX2
      · exact h
    have hle := hs.2 (rt - 1) (by have := hstep (rt - 1) (by omega); rw [Nat.sub_add_cancel hrt] at this; omega)
    generalize rungN true T.natAbs P = R at *
    clear hX1 hs fw
    obtain ⟨a, b⟩ := fwn (min R 9218868437227405312) (Nat.min_le_right _ _)
    refine ⟨a, ?_⟩
    rw [b]
    simp only [sgn, if_true]
    omega
  · subst hz
    have hX : fval rt = FD ∧ s = true := by
      rw [Int.zero_mul] at hsum
      cases s
      · simp only [sgn, if_false, Bool.false_eq_true] at hsum; omega
      · simp only [sgn, if_true] at hsum; exact ⟨by omega, rfl⟩
    obtain ⟨hX, rfl⟩ := hX
    have hrt : 0 < rt := by
      rcases Nat.eq_zero_or_pos rt with h | h
      · rw [h, fval_zero] at hX; omega
      · exact h
    have e : ∀ (b : Bool) (pl : Int), Ieee.double.nearest b 0 pl = Ieee.double.word b 0 := fun b pl => by unfold Ieee.Format.nearest; exact if_pos rfl
    rw [if_pos rfl, Int.natAbs_zero, Bool.and_false, e]
    obtain ⟨a, b⟩ := fw 0 (by omega)
    refine ⟨a, ?_⟩
    rw [b]
    simp only [sgn, if_true]
    omega
  · have hX : ((T.natAbs * 2 ^ P : Nat) : Int) = sgn s (fval rt) + (FD : Int) := by
      rw [Int.natCast_mul, show ((T.natAbs : Nat) : Int) = T by omega, hsum]
    rw [if_neg (by omega), decide_eq_false (by omega), nearest_double _ _ _ (by omega)]
    have hs := rungN_spec false T.natAbs P (by omega)
    have hXp : 0 < T.natAbs * 2 ^ P := Nat.mul_pos (by omega) hP0
    generalize T.natAbs * 2 ^ P = X at *
    have hv1 : fval 1 = 1 := by decide
    have h1 := hs.1 1 (by omega)
    generalize rungN false T.natAbs P = R at *
    obtain ⟨a, b⟩ := fw (min R 9218868437227405312) (Nat.min_le_right _ _)
    refine ⟨a, ?_⟩
    rw [b]
    cases s
    · simp only [sgn, if_false, Bool.false_eq_true] at hX ⊢
      have := hs.1 (rt + 1) (by have := hstep rt hb; omega)
      omega
    · simp only [sgn, if_true]
      omega
theorem stepD (r : Nat) (hr : r ≤ 4741671816366391296) : fval (r + 1) ≤ fval r + fval 4696837146684686336 :=
  Nat.le_trans (fval_step r) (Nat.add_le_add_left (fvD _ (by omega)) _)
/-- What is at most 10^9 and 10^6: the sum is greater. -/
theorem add_gt (t : Nat) (hb : t % 9223372036854775808 ≤ 4741671816366391296) :
    ∃ r, Ieee.double.add t 4696837146684686336 = some r ∧ fnan r = false ∧ fkey t < fkey r := by
  obtain ⟨m, k, e1, hv⟩ := read_num t (by omega)
  obtain ⟨mD, kD, e2, hvD⟩ := read_num 4696837146684686336 (by decide)
  rw [fkey_sgn t]
  exact add_core t _ _ m k mD kD _ _ e1 e2 hv hvD (Nat.lt_of_lt_of_le (Nat.two_pow_pos 0) (fvD 0 (by omega))) stepD hb
end Go.Proofs.Ytpjpmgpehpigaab
