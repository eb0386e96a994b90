/- UTF-8, plain: what the reference's byte-by-byte reading asks at each lead byte, against the decoder's own word. -/
import Derived.Lib.ValidLaws
import Derived.Lib.ValidAsc
set_option linter.unusedVariables false
set_option linter.unusedSimpArgs false
namespace Go.Proofs.YtfnlcnjflloecaaDoor
open Go
def okAt (t : List UInt8) (lo hi j : Nat) : Prop := j < t.length ∧ (if j = 1 then lo else 128) ≤ (t.getD j 0).toNat ∧ (t.getD j 0).toNat ≤ (if j = 1 then hi else 191)
/-- The lead bytes: how many follow, and between what the first of them lies. -/
def Lead (c n lo hi : Nat) : Prop := 1 ≤ n ∧ n ≤ 3 ∧ Lib.firstT c % 8 = n + 1 ∧ Lib.accLo (Lib.firstT c / 16) = lo ∧ Lib.accHi (Lib.firstT c / 16) = hi
theorem valid_bad (c : UInt8) (r : List UInt8) (h : (128 ≤ c.toNat ∧ c.toNat < 194) ∨ 245 ≤ c.toNat) : Lib.validD (c :: r) = false := by
  have h0 := c.toNat_lt
  have hl := Lib.validD_lead (c :: r) (by simp) (by simp; omega)
  have e : Lib.firstT c.toNat = 241 := by
    unfold Lib.firstT
    repeat' split
    all_goals first | rfl | (exfalso; omega)
  rw [hl]
  simp only [List.getD_cons_zero, e]
  simp [Lib.checkN]
theorem valid_lead (t : List UInt8) (n lo hi : Nat) (hne : t ≠ []) (h0 : 128 ≤ (t.getD 0 0).toNat) (hL : Lead (t.getD 0 0).toNat n lo hi) :
    ((∀ j, 1 ≤ j → j ≤ n → okAt t lo hi j) → Lib.validD t = Lib.validD (t.drop (n + 1))) ∧ ((∃ j, 1 ≤ j ∧ j ≤ n ∧ ¬ okAt t lo hi j) → Lib.validD t = false) := by
  obtain ⟨hn1, hn3, h1, h2, h3⟩ := hL
  have hv := Lib.validD_lead t hne h0
  rw [h1, h2, h3] at hv
  have hcase : n = 1 ∨ n = 2 ∨ n = 3 := by omega
  rcases hcase with rfl | rfl | rfl
  · simp only [Lib.checkN, Nat.reduceEqDiff, Nat.reduceAdd, if_true, if_false] at hv
    refine ⟨fun h => ?_, fun ⟨j, a, b, c⟩ => ?_⟩
    · have o1 := h 1 (by omega) (by omega)
      simp only [okAt, if_pos] at o1
      rw [hv, if_neg (by omega)]
    · have e1 : j = 1 := by omega
      subst e1
      simp only [okAt, if_pos] at c
      rw [hv, if_pos (by omega)]
  · simp only [Lib.checkN, Nat.reduceEqDiff, Nat.reduceAdd, if_true, if_false] at hv
    refine ⟨fun h => ?_, fun ⟨j, a, b, c⟩ => ?_⟩
    · have o1 := h 1 (by omega) (by omega)
      have o2 := h 2 (by omega) (by omega)
      simp only [okAt, if_pos, Nat.reduceEqDiff, if_false] at o1 o2
      rw [hv, if_neg (by omega)]
    · have e1 : j = 1 ∨ j = 2 := by omega
      rcases e1 with rfl | rfl
      · simp only [okAt, if_pos] at c
        rw [hv, if_pos (by omega)]
      · simp only [okAt, Nat.reduceEqDiff, if_false] at c
        rw [hv, if_pos (by omega)]
  · simp only [Lib.checkN, Nat.reduceEqDiff, Nat.reduceAdd, if_true, if_false] at hv
    refine ⟨fun h => ?_, fun ⟨j, a, b, c⟩ => ?_⟩
    · have o1 := h 1 (by omega) (by omega)
      have o2 := h 2 (by omega) (by omega)
      have o3 := h 3 (by omega) (by omega)
      simp only [okAt, if_pos, Nat.reduceEqDiff, if_false] at o1 o2 o3
      rw [hv, if_neg (by omega)]
    · have e1 : j = 1 ∨ j = 2 ∨ j = 3 := by omega
      rcases e1 with rfl | rfl | rfl
      · simp only [okAt, if_pos] at c
        rw [hv, if_pos (by omega)]
      · simp only [okAt, Nat.reduceEqDiff, if_false] at c
        rw [hv, if_pos (by omega)]
      · simp only [okAt, Nat.reduceEqDiff, if_false] at c
        rw [hv, if_pos (by omega)]
theorem lead_C2 (c : Nat) (h : 194 ≤ c ∧ c < 224) : Lead c 1 128 191 := by
  have e : Lib.firstT c = 2 := by
    unfold Lib.firstT
    repeat' split
    all_goals first | rfl | (exfalso; omega)
  unfold Lead; rw [e]; decide
theorem lead_E0 : Lead 224 2 160 191 := by unfold Lead; decide
theorem lead_E1 (c : Nat) (h : (225 ≤ c ∧ c < 237) ∨ (238 ≤ c ∧ c < 240)) : Lead c 2 128 191 := by
  have e : Lib.firstT c = 3 := by
    unfold Lib.firstT
    repeat' split
    all_goals first | rfl | (exfalso; omega)
  unfold Lead; rw [e]; decide
theorem lead_ED : Lead 237 2 128 159 := by unfold Lead; decide
theorem lead_F0 : Lead 240 3 144 191 := by unfold Lead; decide
theorem lead_F1 (c : Nat) (h : 241 ≤ c ∧ c < 244) : Lead c 3 128 191 := by
  have e : Lib.firstT c = 4 := by
    unfold Lib.firstT
    repeat' split
    all_goals first | rfl | (exfalso; omega)
  unfold Lead; rw [e]; decide
theorem lead_F4 : Lead 244 3 128 143 := by unfold Lead; decide
end Go.Proofs.YtfnlcnjflloecaaDoor
