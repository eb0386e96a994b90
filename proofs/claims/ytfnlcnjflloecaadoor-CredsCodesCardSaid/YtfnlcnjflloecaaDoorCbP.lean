/- creds: what is written is read again, what is read is written again: the plain law. -/
import Derived.Test.YtfnlcnjflloecaaDoorRd2
import Derived.Test.YtfnlcnjflloecaaDoorOctBackP
set_option linter.unusedVariables false
set_option linter.unusedSimpArgs false
namespace Go.Proofs.YtfnlcnjflloecaaDoor
theorem textI_form (u r : List UInt8) (m : Nat) (hm : u.length ≤ m) (hl : u.length < 18446744073709551616) (hv : Lib.validD u = true) : textI (formU u.length ++ (u ++ r)) m = (u, r, 0) := by
  have h := numG_form (u ++ r) 0 u.length 0 (by omega) (by simpa using hl) (by omega)
  have e : numI (formU u.length ++ (u ++ r)) = (u.length, (formU u.length).length, 0) := by unfold numI; rw [h]; simp
  have e2 : (formU u.length ++ (u ++ r)).drop ((formU u.length).length + u.length) = r := by
    rw [← List.drop_drop]; simp
  unfold textI
  rw [e]
  simp only [if_true]
  rw [if_neg (by omega), if_neg (by simp), if_pos (by simp [hv]), e2]
  simp
theorem rightB_true2 {u s : List UInt8} {n : Int} (h : rightB u s n = true) : u.length ≤ 64 ∧ Lib.validD u = true ∧ 1 ≤ s.length ∧ s.length ≤ 32 ∧ 1 ≤ n ∧ n ≤ 4096 := by
  unfold rightB saltB at h
  simp only [Bool.and_eq_true, decide_eq_true_eq] at h
  obtain ⟨⟨⟨h1, h2, h3⟩, h4⟩, h5⟩ := h
  have hz : sizedI u = 0 := by
    unfold localI at h1
    split at h1
    · rename_i h0
      have := congrArg Prod.snd h1
      exact absurd this h0
    · omega
  obtain ⟨k1, _, k2⟩ := sizedI_zero.1 hz
  exact ⟨k1, k2, h2, h3, h4, h5⟩
theorem readI_write {u s A B : List UInt8} {n : Int} (h : rightB u s n = true) (hA : A.length = 32) (hB : B.length = 32) : readI (writeR u s n A B) = ⟨u, s, n, A, B, 0⟩ := by
  obtain ⟨h1, h2, h3, h4, h5, h6⟩ := rightB_true2 h
  have e0 : writeR u s n A B = formU u.length ++ (u ++ (formU s.length ++ (s ++ (formU n.toNat ++ (A ++ B))))) := by unfold writeR; simp [List.append_assoc]
  have en : ((n.toNat : Nat) : Int) = n := by omega
  have e1 := textI_form u (formU s.length ++ (s ++ (formU n.toNat ++ (A ++ B)))) 64 h1 (by omega) h2
  have e2 := uintI_form s.length (by omega) (s ++ (formU n.toNat ++ (A ++ B)))
  have e3 := uintI_form n.toNat (by omega) (A ++ B)
  unfold readI
  rw [e0, e1]
  simp only
  rw [e2]
  simp only [List.drop_left, List.take_left]
  rw [e3]
  simp only
  rw [if_neg (by simp), if_neg (by simp; omega), if_neg (by simp [hA, hB]; omega), en, if_pos h, ← hA]
  simp
theorem readI_cases (l : List UInt8) : readI l = badR 2 ∨ ∃ u s n A B, readI l = ⟨u, s, n, A, B, 0⟩ ∧ A.length = 32 ∧ B.length = 32 ∧ rightB u s n = true ∧ writeR u s n A B = l := by
  have b1 := textI_back l 64
  have b2 := uintI_back (textI l 64).2.1
  have b3 := uintI_back ((uintI (textI l 64).2.1).2.1.drop (uintI (textI l 64).2.1).1)
  unfold readI
  simp only
  generalize textI l 64 = T at *
  obtain ⟨u, r1, e1⟩ := T
  simp only at *
  generalize uintI r1 = N at *
  obtain ⟨n, r2, e2⟩ := N
  simp only at *
  generalize uintI (r2.drop n) = M at *
  obtain ⟨m, r3, e3⟩ := M
  simp only at *
  split
  · exact .inl rfl
  · rename_i k1
    split
    · exact .inl rfl
    · rename_i k2
      split
      · exact .inl rfl
      · rename_i k3
        split
        · rename_i k4
          right
          have z1 : e1 = 0 := by simpa using k1
          have z2 : e2 = 0 ∧ n ≤ 32 ∧ n ≤ r2.length := by
            refine ⟨Classical.byContradiction fun h => k2 (.inl h), ?_, ?_⟩ <;> omega
          have z3 : e3 = 0 ∧ m ≤ 4096 ∧ r3.length = 64 := by
            refine ⟨Classical.byContradiction fun h => k3 (.inl h), ?_, ?_⟩ <;> omega
          refine ⟨u, r2.take n, m, r3.take 32, r3.drop 32, rfl, by simp; omega, by simp; omega, k4, ?_⟩
          have c1 := b1 z1
          have c2 := b2 z2.1
          have c3 := b3 z3.1
          have el : (r2.take n).length = n := by simp; omega
          unfold writeR
          rw [el, Int.toNat_natCast]
          rw [List.append_assoc _ (r3.take 32), List.take_append_drop, List.append_assoc _ (formU m), c3, List.append_assoc _ (r2.take n), List.take_append_drop, List.append_assoc _ (formU n), c2, c1]
        · exact .inl rfl
end Go.Proofs.YtfnlcnjflloecaaDoor
