/- The plain laws of the check sum: sums go by xor; a burst of four bytes is seen. -/
import Derived.Test.YtpjpmgpehpigaaaCrcBurst
import Derived.Test.YtpjpmgpehpigaaaCrcXor
set_option linter.unusedVariables false
namespace Go.Proofs.Ytpjpmgpehpigaaa
theorem xor_lc (a b c : Nat) : a ^^^ (b ^^^ c) = b ^^^ (a ^^^ c) := by rw [← Nat.xor_assoc, Nat.xor_comm a b, Nat.xor_assoc]
theorem xor_cc (a b : Nat) : a ^^^ (a ^^^ b) = b := by rw [← Nat.xor_assoc, Nat.xor_self, Nat.zero_xor]
theorem xor_div2 (a b : Nat) : (a ^^^ b) / 2 = a / 2 ^^^ b / 2 := by
  have := Nat.shiftRight_xor_distrib (a := a) (b := b) (i := 1)
  simpa [Nat.shiftRight_eq_div_pow] using this
theorem xor_mod2 (a b : Nat) : (a ^^^ b) % 2 = (a % 2 + b % 2) % 2 := by
  have h := Nat.testBit_xor a b 0
  simp only [Nat.testBit_zero] at h
  rcases Nat.mod_two_eq_zero_or_one a with ha | ha <;> rcases Nat.mod_two_eq_zero_or_one b with hb | hb <;> rcases Nat.mod_two_eq_zero_or_one (a ^^^ b) with hc | hc <;> simp_all
theorem stepN_xor (a b : Nat) : stepN (a ^^^ b) = stepN a ^^^ stepN b := by
  unfold stepN
  rw [xor_div2, xor_mod2]
  rcases Nat.mod_two_eq_zero_or_one a with ha | ha <;> rcases Nat.mod_two_eq_zero_or_one b with hb | hb <;> simp [ha, hb, Nat.xor_assoc, Nat.xor_comm, xor_lc, xor_cc]
theorem iterN_xor (k a b : Nat) : iterN k (a ^^^ b) = iterN k a ^^^ iterN k b := by
  induction k with
  | zero => rfl
  | succ k ih => simp only [iterN, ih, stepN_xor]
theorem byteN_xor (a b : Nat) (c d : UInt8) : byteN (a ^^^ b) (c ^^^ d) = byteN a c ^^^ byteN b d := by
  unfold byteN
  rw [UInt8.toNat_xor, show a ^^^ b ^^^ (c.toNat ^^^ d.toNat) = (a ^^^ c.toNat) ^^^ (b ^^^ d.toNat) from by simp [Nat.xor_assoc, Nat.xor_comm, xor_lc], iterN_xor]
theorem foldN_xor (x y : List UInt8) (h : x.length = y.length) (a b : Nat) : foldN a x ^^^ foldN b y = foldN (a ^^^ b) (List.zipWith (· ^^^ ·) x y) := by
  induction x generalizing y a b with
  | nil => cases y <;> simp_all [foldN]
  | cons c x ih =>
    cases y with
    | nil => simp at h
    | cons d y =>
      have := ih y (by simpa using h) (byteN a c) (byteN b d)
      simp only [foldN, List.foldl_cons, List.zipWith_cons_cons] at this ⊢
      rw [byteN_xor]; exact this
theorem compl_xor (r : Nat) (h : r < 4294967296) : 4294967295 - r = 4294967295 ^^^ r := by
  have := congrArg BitVec.toNat (BitVec.allOnes_xor (x := BitVec.ofNat 32 r))
  simp only [BitVec.toNat_xor, BitVec.toNat_not, BitVec.toNat_allOnes, BitVec.toNat_ofNat, Nat.mod_eq_of_lt (show r < 2 ^ 32 from h)] at this
  simpa using this.symm
theorem xor3_zip (x y z : List UInt8) (n : Nat) (hx : n ≤ x.length) (hy : n ≤ y.length) (hz : n ≤ z.length) :
    xor3 x y z n = List.zipWith (· ^^^ ·) (List.zipWith (· ^^^ ·) (x.take n) (y.take n)) (z.take n) := by
  induction n with
  | zero => simp [xor3]
  | succ n ih =>
    rw [xor3, ih (by omega) (by omega) (by omega), List.take_succ_eq_append_getElem (by omega : n < x.length), List.take_succ_eq_append_getElem (by omega : n < y.length), List.take_succ_eq_append_getElem (by omega : n < z.length)]
    have l1 : (x.take n).length = (y.take n).length := by simp; omega
    rw [List.zipWith_append l1, List.zipWith_append (by simp; omega)]
    simp [List.getD_eq_getElem?_getD, List.getElem?_eq_getElem (by omega : n < x.length), List.getElem?_eq_getElem (by omega : n < y.length), List.getElem?_eq_getElem (by omega : n < z.length)]
theorem moreN0 (l : List UInt8) : moreN 0 l = 4294967295 ^^^ foldN 4294967295 l := by
  unfold moreN
  rw [show 4294967295 - 0 = 4294967295 from rfl, compl_xor _ (foldN_lt l (by omega))]
theorem xorPure : XorPure := by
  intro x y z n hx hy hz
  have l1 : (x.take n).length = (y.take n).length := by simp; omega
  rw [moreN0, moreN0, moreN0, moreN0, xor3_zip x y z n hx hy hz]
  have e1 := foldN_xor (x.take n) (y.take n) l1 4294967295 4294967295
  have e2 := foldN_xor (List.zipWith (· ^^^ ·) (x.take n) (y.take n)) (z.take n) (by simp; omega) (4294967295 ^^^ 4294967295) 4294967295
  rw [← e1] at e2
  rw [show 4294967295 ^^^ 4294967295 ^^^ 4294967295 = 4294967295 from by decide] at e2
  rw [← e2]
  generalize foldN 4294967295 (x.take n) = A
  generalize foldN 4294967295 (y.take n) = B
  generalize foldN 4294967295 (z.take n) = C
  simp [Nat.xor_assoc, Nat.xor_comm, xor_lc, xor_cc]
/-! ### a burst -/
theorem stepN_back {r : Nat} (h : r < 4294967296) (ht : stepN r < 2147483648) : r = 2 * stepN r := by
  unfold stepN at ht ⊢
  split at ht
  · rename_i ho
    exfalso
    have h1 : (r / 2 ^^^ 3988292384) / 2147483648 = r / 2 / 2147483648 ^^^ 3988292384 / 2147483648 := by
      have := Nat.shiftRight_xor_distrib (a := r / 2) (b := 3988292384) (i := 31)
      simpa [Nat.shiftRight_eq_div_pow] using this
    rw [show r / 2 / 2147483648 = 0 from by omega, show 3988292384 / 2147483648 = 1 from rfl] at h1
    simp at h1
    omega
  · rename_i ho
    rw [if_neg ho]; omega
theorem iterN_back (k : Nat) {r : Nat} (h : r < 4294967296) (ht : iterN k r * 2 ^ k < 4294967296) : r = iterN k r * 2 ^ k := by
  induction k with
  | zero => simp [iterN]
  | succ k ih =>
    have hl := iterN_lt k h
    simp only [iterN] at ht ⊢
    have hp : 0 < 2 ^ k := Nat.two_pow_pos k
    have h2 : stepN (iterN k r) < 2147483648 := by
      have : stepN (iterN k r) * 2 ≤ stepN (iterN k r) * 2 ^ (k + 1) := Nat.mul_le_mul_left _ (by rw [Nat.pow_succ]; omega)
      omega
    have e := stepN_back hl h2
    have e2 : iterN k r * 2 ^ k = stepN (iterN k r) * 2 ^ (k + 1) := by
      rw [Nat.pow_succ, Nat.mul_comm (2 ^ k) 2, ← Nat.mul_assoc, Nat.mul_comm (stepN (iterN k r)) 2, ← e]
    rw [← e2] at ht ⊢
    exact ih ht
theorem byteN_back {d : Nat} {e : UInt8} (hd : d < 4294967296) (h : byteN d e < 16777216) : d ^^^ e.toNat = byteN d e * 256 := by
  have h' : iterN 8 (d ^^^ e.toNat) < 16777216 := h
  have := iterN_back 8 (xorb_lt e hd) (by rw [show 2 ^ 8 = 256 from rfl]; omega)
  unfold byteN; exact this
theorem byteN_zero {d : Nat} {e : UInt8} (hd : d < 4294967296) (h : byteN d e = 0) : d = e.toNat := by
  have h1 := byteN_back (e := e) hd (by omega)
  rw [h, Nat.zero_mul] at h1
  have := xor_cc e.toNat d
  rw [Nat.xor_comm e.toNat d, h1] at this
  simpa using this.symm
theorem xor_eq_mul {d t : Nat} {e : UInt8} {n : Nat} (h : d ^^^ e.toNat = t * 256) (ht : t * 256 < 2 ^ n) (hn : 8 ≤ n) : d < 2 ^ n := by
  have := xor_cc e.toNat d
  rw [Nat.xor_comm e.toNat d, h] at this
  rw [← this]
  refine Nat.xor_lt_two_pow ?_ ht
  have h1 := e.toNat_lt
  have h2 : 2 ^ 8 ≤ 2 ^ n := Nat.pow_le_pow_right (by omega) hn
  omega
theorem four_bytes (a b c d : UInt8) (h : foldN 0 [a, b, c, d] = 0) : a.toNat = 0 ∧ b.toNat = 0 ∧ c.toNat = 0 ∧ d.toNat = 0 := by
  simp only [foldN, List.foldl_cons, List.foldl_nil] at h
  have l0 : (0 : Nat) < 4294967296 := by omega
  have l1 := byteN_lt a l0
  have l2 := byteN_lt b l1
  have l3 := byteN_lt c l2
  have ha := a.toNat_lt
  have hb := b.toNat_lt
  have hc := c.toNat_lt
  have hd := d.toNat_lt
  have e3 := byteN_zero l3 h
  have x3 := byteN_back (e := c) l2 (by omega)
  have b2 : byteN (byteN 0 a) b < 65536 := xor_eq_mul (n := 16) x3 (by omega) (by omega)
  have x2 := byteN_back (e := b) l1 (by omega)
  have b1 : byteN 0 a < 16777216 := xor_eq_mul (n := 24) x2 (by omega) (by omega)
  have x1 := byteN_back l0 b1
  rw [Nat.zero_xor] at x1
  generalize byteN (byteN (byteN 0 a) b) c = D3 at *
  generalize byteN (byteN 0 a) b = D2 at *
  generalize byteN 0 a = D1 at *
  have z1 : D1 = 0 := by omega
  rw [z1, Nat.zero_xor] at x2
  have z2 : D2 = 0 := by omega
  rw [z2, Nat.zero_xor] at x3
  omega
theorem foldN_zeros (r n : Nat) (h : r < 4294967296) : foldN r (List.replicate n 0) = 0 → r = 0 := by
  induction n generalizing r with
  | zero => intro h; exact h
  | succ n ih =>
    intro h0
    have h1 := ih (byteN r 0) (byteN_lt 0 h) h0
    have := byteN_zero h h1
    simpa using this
theorem zero_foldN (n : Nat) : foldN 0 (List.replicate n 0) = 0 := by
  induction n with
  | zero => rfl
  | succ n ih =>
    have : byteN 0 0 = 0 := by decide
    simp only [foldN, List.replicate_succ, List.foldl_cons, this] at ih ⊢
    exact ih
theorem burst_get (x : List UInt8) (k by_ i j : Nat) (hk : k + i ≤ x.length) (hj : j < x.length) :
    (burst x k by_ i).getD j 0 = if k ≤ j ∧ j < k + i then x.getD j 0 ^^^ UInt8.ofNat (by_ / 256 ^ (j - k)) else x.getD j 0 := by
  induction i with
  | zero => rw [if_neg (by omega)]; rfl
  | succ i ih =>
    have hl := burst_len x k by_ i
    have ih' := ih (by omega)
    simp only [burst]
    rw [List.getD_eq_getElem?_getD, List.getElem?_set]
    by_cases e : k + i = j
    · subst e
      have hii := ih
      rw [if_pos rfl, if_pos (by omega), if_pos (by omega), Option.getD_some, ih', if_neg (by omega), show k + i - k = i from by omega]
    · rw [if_neg e, ← List.getD_eq_getElem?_getD, ih']
      by_cases c : k ≤ j ∧ j < k + i
      · have c' : k ≤ j ∧ j < k + (i + 1) := ⟨c.1, by omega⟩
        rw [if_pos c, if_pos c']
      · have c' : ¬ (k ≤ j ∧ j < k + (i + 1)) := by omega
        rw [if_neg c, if_neg c']
theorem burst_zip (x : List UInt8) (k by_ : Nat) (hk : k + 4 ≤ x.length) :
    List.zipWith (· ^^^ ·) x (burst x k by_ 4) = List.replicate k 0 ++ ([UInt8.ofNat by_, UInt8.ofNat (by_ / 256), UInt8.ofNat (by_ / 65536), UInt8.ofNat (by_ / 16777216)] ++ List.replicate (x.length - (k + 4)) 0) := by
  have hl := burst_len x k by_ 4
  apply List.ext_getElem
  · simp [hl]; omega
  · intro j h1 h2
    have hj : j < x.length := by simp at h1; omega
    have hg := burst_get x k by_ 4 j hk hj
    rw [List.getD_eq_getElem?_getD, List.getElem?_eq_getElem (by omega), Option.getD_some, List.getD_eq_getElem?_getD, List.getElem?_eq_getElem hj, Option.getD_some] at hg
    rw [List.getElem_zipWith, hg]
    by_cases c1 : j < k
    · rw [if_neg (by omega), List.getElem_append_left (by simpa using c1)]
      simp
    · rw [List.getElem_append_right (by simp; omega)]
      by_cases c2 : j < k + 4
      · rw [if_pos (by omega), List.getElem_append_left (by simp; omega)]
        have hc : j - k = 0 ∨ j - k = 1 ∨ j - k = 2 ∨ j - k = 3 := by omega
        rw [← UInt8.xor_assoc, UInt8.xor_self, UInt8.zero_xor]
        rcases hc with hc | hc | hc | hc <;> simp [hc]
      · rw [if_neg (by omega), List.getElem_append_right (by simp; omega)]
        simp
theorem burstPure : BurstPure := by
  intro x k by_ hx hk h0 hb he
  rw [moreN0, moreN0] at he
  have h1 : foldN 4294967295 x = foldN 4294967295 (burst x k by_ 4) := by
    have := congrArg (4294967295 ^^^ ·) he
    simpa [xor_cc] using this
  have h2 := foldN_xor x (burst x k by_ 4) (burst_len x k by_ 4).symm 4294967295 4294967295
  rw [h1, Nat.xor_self, Nat.xor_self, burst_zip x k by_ hk] at h2
  have split : ∀ (r : Nat) (a b : List UInt8), foldN r (a ++ b) = foldN (foldN r a) b := fun r a b => by unfold foldN; rw [List.foldl_append]
  rw [split, zero_foldN, split] at h2
  have h3 := foldN_zeros _ _ (foldN_lt _ (by omega)) h2.symm
  have h4 := four_bytes _ _ _ _ h3
  simp at h4
  omega
open Go.RowKit
theorem crcBurst_w (w : World) (v : Value) (l : List UInt8) (h : Rd w v l) (a1 : Int) (b1 : -9223372036854775808 ≤ a1 ∧ a1 ≤ 9223372036854775807) (a2 : Int) (b2 : 0 ≤ a2 ∧ a2 < 4294967296) :
    Calls Try.prog 5 #[v, .int .i64 a1, .int .u32 a2] w (Ok w) := by
  obtain ⟨n, rfl⟩ := Int.eq_ofNat_of_zero_le b2.1
  exact crcBurst_c burstPure w v l h a1 b1 n (by omega)
theorem crcXor_w (w : World) (va : Value) (la : List UInt8) (ha : Rd w va la) (vb : Value) (lb : List UInt8) (hb : Rd w vb lb) (vc : Value) (lc : List UInt8) (hc : Rd w vc lc) :
    Calls Try.prog 6 #[va, vb, vc] w (Ok w) := crcXor_c xorPure w va vb vc la lb lc ha hb hc
end Go.Proofs.Ytpjpmgpehpigaaa
