/- Octet, plain: what is written is read again; what is read is written again. -/
import Derived.Test.YtfnlcnjflloecaaDoorOct8
set_option linter.unusedVariables false
set_option linter.unusedSimpArgs false
namespace Go.Proofs.YtfnlcnjflloecaaDoor
open Go.RowKit
theorem numG_form (b : List UInt8) : ∀ (i n m : Nat), i ≤ 9 → n < 2 ^ (64 - 7 * i) → (0 < i → 0 < n) → numG (formU n ++ b) i m = (m + n * 2 ^ (7 * i), i + (formU n).length, 0) := by
  intro i n
  induction n using Nat.strongRecOn generalizing i with
  | ind n ih =>
    intro m hi hn hp
    have h9 : i = 9 → n < 2 := fun e => by subst e; simpa using hn
    by_cases h : n < 128
    · rw [formU_lt h]
      have hc : (UInt8.ofNat n).toNat = n := by simp; omega
      simp only [List.cons_append, List.nil_append]
      rw [numG, hc, if_neg (fun hh => by have := h9 hh.1; omega), if_pos h, if_neg (fun hh => by have := hp hh.2; omega), Nat.mod_eq_of_lt h]
      simp
    · rw [formU_ge (by omega)]
      have hc := loB_nat n
      have hi8 : i ≤ 8 := by
        by_cases e : i = 9
        · have := h9 e; omega
        · omega
      rw [List.cons_append, numG, hc, if_neg (fun hh => by omega), if_neg (by omega), show (n % 128 + 128) % 128 = n % 128 by omega]
      have hn2 : n / 128 < 2 ^ (64 - 7 * (i + 1)) := by
        rw [Nat.div_lt_iff_lt_mul (by omega)]
        have e : 2 ^ (64 - 7 * i) = 2 ^ (64 - 7 * (i + 1)) * 128 := by rw [show 64 - 7 * i = (64 - 7 * (i + 1)) + 7 by omega, Nat.pow_add]
        omega
      rw [ih (n / 128) (by omega) (i + 1) _ (by omega) hn2 (fun _ => by omega)]
      have e2 : 2 ^ (7 * (i + 1)) = 128 * 2 ^ (7 * i) := by rw [show 7 * (i + 1) = 7 + 7 * i by omega, Nat.pow_add]
      rw [e2]
      generalize 2 ^ (7 * i) = P
      refine Prod.ext ?_ (Prod.ext ?_ rfl)
      · show m + n % 128 * P + n / 128 * (128 * P) = m + n * P
        have : n * P = (n % 128) * P + n / 128 * (128 * P) := by
          conv => lhs; rw [← Nat.mod_add_div n 128]
          rw [Nat.add_mul, Nat.mul_comm 128, Nat.mul_assoc]
        omega
      · show i + 1 + (formU (n / 128)).length = i + (loB n :: formU (n / 128)).length
        simp; omega
theorem uintI_form (n : Nat) (hn : n < 18446744073709551616) (b : List UInt8) : uintI (formU n ++ b) = (n, b, 0) := by
  have h := numG_form b 0 n 0 (by omega) (by simpa using hn) (by omega)
  have e : numI (formU n ++ b) = (n, (formU n).length, 0) := by unfold numI; rw [h]; simp
  unfold uintI
  rw [e]
  simp
theorem intI_form (i : Int) (hi : -9223372036854775808 ≤ i ∧ i ≤ 9223372036854775807) (b : List UInt8) : intI (formU (zig i) ++ b) = (i, b, 0) := by
  have h := numG_form b 0 (zig i) 0 (by omega) (by simpa using zig_lt i hi) (by omega)
  have e : numI (formU (zig i) ++ b) = (zig i, (formU (zig i)).length, 0) := by unfold numI; rw [h]; simp
  unfold intI
  rw [e]
  simp [unzig_zig]
theorem numG_back : ∀ (l : List UInt8) (i m : Nat), (numG l i m).2.2 = 0 → ∃ q, (numG l i m).1 = m + q * 2 ^ (7 * i) ∧ (numG l i m).2.1 = i + (formU q).length ∧ l = formU q ++ l.drop (formU q).length ∧ (0 < i → 0 < q)
  | [], i, m, h => by simp [numG] at h
  | c :: r, i, m, h => by
    unfold numG at h ⊢
    split at h
    · simp at h
    · rename_i h9
      rw [if_neg h9]
      have hc := c.toNat_lt
      split at h
      · rename_i h128
        rw [if_pos h128]
        split at h
        · simp at h
        · rename_i h0
          rw [if_neg h0]
          refine ⟨c.toNat, by rw [Nat.mod_eq_of_lt h128], by rw [formU_lt h128]; rfl, by rw [formU_lt h128]; simp, fun hi => ?_⟩
          rcases Nat.eq_zero_or_pos c.toNat with e | e
          · exact absurd ⟨e, hi⟩ h0
          · exact e
      · rename_i h128
        rw [if_neg h128]
        obtain ⟨q, h1, h2, h3, h4⟩ := numG_back r (i + 1) _ h
        have hq := h4 (by omega)
        have hge : ¬ c.toNat % 128 + 128 * q < 128 := by omega
        have hlo : loB (c.toNat % 128 + 128 * q) = c := by
          apply UInt8.toNat_inj.1
          rw [loB_nat]; omega
        have hdv : (c.toNat % 128 + 128 * q) / 128 = q := by omega
        have hf : formU (c.toNat % 128 + 128 * q) = c :: formU q := by rw [formU_ge (by omega), hlo, hdv]
        have e2 : 2 ^ (7 * (i + 1)) = 128 * 2 ^ (7 * i) := by rw [show 7 * (i + 1) = 7 + 7 * i by omega, Nat.pow_add]
        refine ⟨c.toNat % 128 + 128 * q, ?_, by rw [h2, hf]; simp; omega, ?_, fun _ => by omega⟩
        · rw [h1, e2, Nat.add_mul, Nat.mul_assoc 128, Nat.mul_left_comm]; omega
        · rw [hf]; simp only [List.length_cons, List.drop_succ_cons, List.cons_append]; rw [← h3]
theorem numI_back (l : List UInt8) (h : (numI l).2.2 = 0) : (numI l).2.1 = (formU (numI l).1).length ∧ l = formU (numI l).1 ++ l.drop (numI l).2.1 := by
  obtain ⟨q, h1, h2, h3, _⟩ := numG_back l 0 0 h
  have e : (numI l).1 = q := by unfold numI; rw [h1]; simp
  have e2 : (numI l).2.1 = (formU q).length := by unfold numI; rw [h2]; simp
  rw [e, e2]
  exact ⟨rfl, h3⟩
theorem uintI_back (l : List UInt8) (h : (uintI l).2.2 = 0) : formU (uintI l).1 ++ (uintI l).2.1 = l := by
  unfold uintI at h ⊢
  split at h
  · rename_i h0
    rw [if_pos h0]
    exact (numI_back l h0).2.symm
  · rename_i h0
    exact absurd h h0
theorem textI_back (l : List UInt8) (m : Nat) (h : (textI l m).2.2 = 0) : formU (textI l m).1.length ++ (textI l m).1 ++ (textI l m).2.1 = l := by
  unfold textI at h ⊢
  split at h
  · rename_i h0
    rw [if_pos h0]
    split at h
    · simp at h
    · rename_i h1
      rw [if_neg h1]
      split at h
      · simp at h
      · rename_i h2
        rw [if_neg h2]
        split at h
        · rename_i h3
          rw [if_pos h3]
          have hb := numI_back l h0
          have hlen : ((l.drop (numI l).2.1).take (numI l).1).length = (numI l).1 := by rw [List.length_take, List.length_drop]; omega
          simp only
          rw [hlen, List.append_assoc, ← List.drop_drop, List.take_append_drop]
          exact hb.2.symm
        · simp at h
  · rename_i h0
    exact absurd h h0
theorem textI_len (l : List UInt8) (m : Nat) : (textI l m).1.length ≤ l.length := by
  unfold textI
  split
  · split
    · simp
    · split
      · simp
      · split
        · simp; omega
        · simp
  · simp
theorem bitsI_nan (f : Nat) (h : fnan (bitsI f) = true) : bitsI f = nanF := by
  unfold bitsI at h ⊢
  split at h
  · rename_i h1; rw [if_pos h1]; rfl
  · rename_i h1; exact absurd h h1
theorem beN_beBs (n : Nat) (h : n < 18446744073709551616) : beN (beBs n 8) = n := by
  simp [beN, beBs, List.range_succ, beB]
  omega
theorem floatI_form (n : Nat) (h : n < 18446744073709551616) (hn : fnan n = true → n = nanF) (b : List UInt8) : floatI (beBs n 8 ++ b) = (n, b, 0) := by
  have hl : (beBs n 8).length = 8 := by simp [beBs]
  have ht : (beBs n 8 ++ b).take 8 = beBs n 8 := by rw [List.take_append_of_le_length (by omega), List.take_of_length_le (by omega)]
  have hd : (beBs n 8 ++ b).drop 8 = b := by rw [List.drop_append_of_le_length (by omega), List.drop_of_length_le (by omega)]; rfl
  unfold floatI
  rw [if_neg (by simp; omega), ht, beN_beBs n h, if_neg (fun hh => hh.2 (hn hh.1)), hd]
theorem floatI_back (l : List UInt8) (h : (floatI l).2.2 = 0) : beBs (bitsI (floatI l).1) 8 ++ (floatI l).2.1 = l ∧ (floatI l).1 < 18446744073709551616 := by
  unfold floatI at h ⊢
  split at h
  · simp at h
  · rename_i h8
    rw [if_neg h8]
    split at h
    · simp at h
    · rename_i hn
      rw [if_neg hn]
      simp only
      have hb : bitsI (beN (l.take 8)) = beN (l.take 8) := by
        unfold bitsI
        split
        · rename_i hf
          by_cases e : beN (l.take 8) = nanF
          · rw [e]; rfl
          · exact absurd ⟨hf, e⟩ hn
        · rfl
      have hlt := beN_lt l 8 (by omega)
      refine ⟨?_, by simpa using hlt⟩
      rw [hb]
      have hl8 : beBs (beN (l.take 8)) 8 = l.take 8 := by
        obtain ⟨x0, x1, x2, x3, x4, x5, x6, x7, r, rfl⟩ : ∃ x0 x1 x2 x3 x4 x5 x6 x7 r, l = x0 :: x1 :: x2 :: x3 :: x4 :: x5 :: x6 :: x7 :: r := by
          match l, h8 with
          | x0 :: x1 :: x2 :: x3 :: x4 :: x5 :: x6 :: x7 :: r, _ => exact ⟨x0, x1, x2, x3, x4, x5, x6, x7, r, rfl⟩
          | [], h8 => simp at h8
          | [_], h8 => simp at h8
          | [_, _], h8 => simp at h8
          | [_, _, _], h8 => simp at h8
          | [_, _, _, _], h8 => simp at h8
          | [_, _, _, _, _], h8 => simp at h8
          | [_, _, _, _, _, _], h8 => simp at h8
          | [_, _, _, _, _, _, _], h8 => simp at h8
        have h0 := x0.toNat_lt
        have h1 := x1.toNat_lt
        have h2 := x2.toNat_lt
        have h3 := x3.toNat_lt
        have h4 := x4.toNat_lt
        have h5 := x5.toNat_lt
        have h6 := x6.toNat_lt
        have h7 := x7.toNat_lt
        have key : ∀ (u : UInt8) (k : Nat), k % 256 = u.toNat → UInt8.ofNat k = u := fun u k hk => UInt8.toNat_inj.1 (by rw [UInt8.toNat_ofNat']; exact hk)
        simp only [beN, List.take_succ_cons, List.take_zero, List.foldl_cons, List.foldl_nil, beBs, List.range_succ, List.range_zero, List.nil_append, List.map_append, List.map_cons, List.map_nil, List.cons_append, beB]
        rw [key x0, key x1, key x2, key x3, key x4, key x5, key x6, key x7] <;> omega
      rw [hl8, List.take_append_drop]
end Go.Proofs.YtfnlcnjflloecaaDoor
