/- roostref10: right, power, New; the reference's disk in memory. -/
import Derived.Test.YtfnlcnjflloecaaDskX
set_option linter.unusedVariables false
set_option linter.unusedSimpArgs false
set_option linter.unnecessarySimpa false
namespace Go.Proofs.Ytfnlcnjflloecaa
open Go.RowKit
theorem bt_nm (s : List UInt8) (j : Nat) (h : j < s.length) : bt s j = (s[j].toNat : Int) := bt_get s j h
def RgRel (w : World) (s : List UInt8) (R : Bool) (i : Value) (wr : World) : Prop := ∃ j : Nat, j ≤ s.length ∧ i = .int .i64 (j : Int) ∧ (s.drop j).all (fun c => nmB c.toNat) = R ∧ wr = w
set_option maxRecDepth 100000 in
set_option maxHeartbeats 3200000 in
theorem refright_c (s : List UInt8) (w : World) (hs : s.length ≤ 9223372036854775807) : Calls Try.prog 50 #[.string (strB s)] w fun e w' => e = .returned (.bool (rightD s)) ∧ w = w' := by
  have hsz := strB_size s
  obtain ⟨R, hR⟩ : ∃ R, (s.all fun c => nmB c.toNat) = R := ⟨_, rfl⟩
  have hd : rightD s = (decide (s ≠ []) && decide (s.length ≤ 64) && R) := by rw [← hR]; rfl
  rw [hd]
  replace hR := Go.Lib.hid hR
  clear hd
  have hix : ∀ j (h : j < s.length), (strB s).data[j]? = some s[j] := fun j h => by simp [strB, h]
  obtain ⟨S, hS⟩ : ∃ S, strB s = S := ⟨_, rfl⟩
  rw [hS] at hsz hix ⊢
  replace hS := Go.Lib.hid hS
  go_enter Try.func50, Try.ntmps50
  go_wp2_with fail
  go_loopw [3] (RgRel w s R) (fun i _ => s.length - (intOf i).toNat)
  case atStart => exact ⟨0, by omega, rfl, hR.out, rfl⟩
  case round =>
    clear hR
    obtain ⟨j, hj, rfl, hE, rfl⟩ := hrel
    by_cases hlt : j < s.length
    · have q1 : (j : Int) < (S.size : Int) := by omega
      have q2 : (j : Int) < (s.length : Int) := by omega
      have hxj := hix j hlt
      rw [List.drop_eq_getElem_cons hlt, List.all_cons] at hE
      go_upto_region 5 with fail
      have hsj : S[j]'(by omega) = s[j] := by
        have h0 := hix j hlt
        have h1 : S.data[j]? = some (S.data[j]'(by have : S.data.size = S.size := rfl; omega)) := Array.getElem?_eq_getElem _
        rw [h1] at h0
        exact Option.some.inj h0
      rw [hsj]
      clear hsj
      generalize s[j] = b at *
      obtain ⟨x, hx⟩ : ∃ x, b.toNat = x := ⟨_, rfl⟩
      rw [hx] at hE
      obtain ⟨X, hX⟩ : ∃ X : Int, ((b.toNat : Nat) : Int) = X := ⟨_, rfl⟩
      rw [hX]
      have hxl : x < 256 := by rw [← hx]; exact b.toNat_lt
      go_cut [36] (fun v wx => v = .bool (!nmB x) ∧ wx = wr)
      case first =>
        replace hx := Go.Lib.hid hx
        clear hE hxj q1 q2
        rcases (by omega : (97 ≤ x ∧ x ≤ 122) ∨ (123 ≤ x) ∨ (58 ≤ x ∧ x < 97) ∨ (48 ≤ x ∧ x ≤ 57) ∨ (x = 46) ∨ (x = 45) ∨ (x < 48 ∧ x ≠ 46 ∧ x ≠ 45)) with h | h | h | h | h | h | h
        · have hR : nmB x = true := by unfold nmB; exact decide_eq_true (by have := hx.out; omega)
          replace hR := Go.Lib.hid hR
          have pd1 : (97 : Int) ≤ X := by have := hx.out; omega
          have d1 : decide ((97 : Int) ≤ X) = true := decide_eq_true pd1
          have pd2 : X ≤ 122 := by have := hx.out; omega
          have d2 : decide (X ≤ 122) = true := decide_eq_true pd2
          clear h hX hx
          go_wp2_with fail
          go_meet
          exact ⟨by rw [hR.out]; rfl, rfl⟩
        · have hR : nmB x = false := by unfold nmB; exact decide_eq_false (by have := hx.out; omega)
          replace hR := Go.Lib.hid hR
          have pd1 : (97 : Int) ≤ X := by have := hx.out; omega
          have d1 : decide ((97 : Int) ≤ X) = true := decide_eq_true pd1
          have pd2 : ¬ X ≤ 122 := by have := hx.out; omega
          have d2 : decide (X ≤ 122) = false := decide_eq_false pd2
          have pd3 : (48 : Int) ≤ X := by have := hx.out; omega
          have d3 : decide ((48 : Int) ≤ X) = true := decide_eq_true pd3
          have pd4 : ¬ X ≤ 57 := by have := hx.out; omega
          have d4 : decide (X ≤ 57) = false := decide_eq_false pd4
          have e5 : (X == 46) = false := beq_eq_false_iff_ne.2 (by have := hx.out; omega)
          have e6 : (X == 45) = false := beq_eq_false_iff_ne.2 (by have := hx.out; omega)
          clear h hX hx
          go_wp2_with fail
          go_meet
          exact ⟨by rw [hR.out]; rfl, rfl⟩
        · have hR : nmB x = false := by unfold nmB; exact decide_eq_false (by have := hx.out; omega)
          replace hR := Go.Lib.hid hR
          have pd1 : ¬ (97 : Int) ≤ X := by have := hx.out; omega
          have d1 : decide ((97 : Int) ≤ X) = false := decide_eq_false pd1
          have pd3 : (48 : Int) ≤ X := by have := hx.out; omega
          have d3 : decide ((48 : Int) ≤ X) = true := decide_eq_true pd3
          have pd4 : ¬ X ≤ 57 := by have := hx.out; omega
          have d4 : decide (X ≤ 57) = false := decide_eq_false pd4
          have e5 : (X == 46) = false := beq_eq_false_iff_ne.2 (by have := hx.out; omega)
          have e6 : (X == 45) = false := beq_eq_false_iff_ne.2 (by have := hx.out; omega)
          clear h hX hx
          go_wp2_with fail
          go_meet
          exact ⟨by rw [hR.out]; rfl, rfl⟩
        · have hR : nmB x = true := by unfold nmB; exact decide_eq_true (by have := hx.out; omega)
          replace hR := Go.Lib.hid hR
          have pd1 : ¬ (97 : Int) ≤ X := by have := hx.out; omega
          have d1 : decide ((97 : Int) ≤ X) = false := decide_eq_false pd1
          have pd3 : (48 : Int) ≤ X := by have := hx.out; omega
          have d3 : decide ((48 : Int) ≤ X) = true := decide_eq_true pd3
          have pd4 : X ≤ 57 := by have := hx.out; omega
          have d4 : decide (X ≤ 57) = true := decide_eq_true pd4
          clear h hX hx
          go_wp2_with fail
          go_meet
          exact ⟨by rw [hR.out]; rfl, rfl⟩
        · have hR : nmB x = true := by unfold nmB; exact decide_eq_true (by have := hx.out; omega)
          replace hR := Go.Lib.hid hR
          have pd1 : ¬ (97 : Int) ≤ X := by have := hx.out; omega
          have d1 : decide ((97 : Int) ≤ X) = false := decide_eq_false pd1
          have pd3 : ¬ (48 : Int) ≤ X := by have := hx.out; omega
          have d3 : decide ((48 : Int) ≤ X) = false := decide_eq_false pd3
          have e5 : (X == 46) = true := beq_iff_eq.2 (by have := hx.out; omega)
          clear h hX hx
          go_wp2_with fail
          go_meet
          exact ⟨by rw [hR.out]; rfl, rfl⟩
        · have hR : nmB x = true := by unfold nmB; exact decide_eq_true (by have := hx.out; omega)
          replace hR := Go.Lib.hid hR
          have pd1 : ¬ (97 : Int) ≤ X := by have := hx.out; omega
          have d1 : decide ((97 : Int) ≤ X) = false := decide_eq_false pd1
          have pd3 : ¬ (48 : Int) ≤ X := by have := hx.out; omega
          have d3 : decide ((48 : Int) ≤ X) = false := decide_eq_false pd3
          have e5 : (X == 46) = false := beq_eq_false_iff_ne.2 (by have := hx.out; omega)
          have e6 : (X == 45) = true := beq_iff_eq.2 (by have := hx.out; omega)
          clear h hX hx
          go_wp2_with fail
          go_meet
          exact ⟨by rw [hR.out]; rfl, rfl⟩
        · have hR : nmB x = false := by unfold nmB; exact decide_eq_false (by have := hx.out; omega)
          replace hR := Go.Lib.hid hR
          have pd1 : ¬ (97 : Int) ≤ X := by have := hx.out; omega
          have d1 : decide ((97 : Int) ≤ X) = false := decide_eq_false pd1
          have pd3 : ¬ (48 : Int) ≤ X := by have := hx.out; omega
          have d3 : decide ((48 : Int) ≤ X) = false := decide_eq_false pd3
          have e5 : (X == 46) = false := beq_eq_false_iff_ne.2 (by have := hx.out; omega)
          have e6 : (X == 45) = false := beq_eq_false_iff_ne.2 (by have := hx.out; omega)
          clear h hX hx
          go_wp2_with fail
          go_meet
          exact ⟨by rw [hR.out]; rfl, rfl⟩
      case rest =>
        obtain ⟨rfl, rfl⟩ := hcut
        cases hn : nmB x
        · rw [hn] at hE
          have hE2 : R = false := hE.symm
          subst hE2
          go_wp2_with fail
          go_ret
          exact ⟨by simp, rfl⟩
        · rw [hn, Bool.true_and] at hE
          replace hE := Go.Lib.hid hE
          go_wp2_with fail
          exact ⟨⟨j + 1, by omega, by go_num, hE.out, rfl⟩, by simp [intOf]; omega⟩
    · have q1 : ¬ (j : Int) < (S.size : Int) := by omega
      have q2 : ¬ (j : Int) < (s.length : Int) := by omega
      rw [List.drop_eq_nil_of_le (by omega)] at hE
      have hE2 : R = true := hE.symm
      subst hE2
      clear hix
      by_cases h1 : s = []
      · have q3 : ¬ (1 : Int) ≤ (S.size : Int) := by have h2 := congrArg List.length h1; rw [List.length_nil] at h2; omega
        have q4 : decide ((1 : Int) ≤ (S.size : Int)) = false := decide_eq_false q3
        go_wp2_with fail
        go_ret
        exact ⟨by simp [h1], rfl⟩
      · have hl1 : 1 ≤ s.length := by cases s with | nil => exact absurd rfl h1 | cons a r => simp
        have q3 : (1 : Int) ≤ (S.size : Int) := by omega
        have q4 : decide ((1 : Int) ≤ (S.size : Int)) = true := decide_eq_true q3
        have q6 : decide ((S.size : Int) ≤ 64) = decide (s.length ≤ 64) := by
          by_cases h : s.length ≤ 64
          · rw [decide_eq_true h]; exact decide_eq_true (by omega)
          · rw [decide_eq_false h]; exact decide_eq_false (by omega)
        by_cases h64 : s.length ≤ 64
        · have q5 : (S.size : Int) ≤ 64 := by omega
          have q7 : decide ((S.size : Int) ≤ 64) = true := decide_eq_true q5
          clear q6
          go_wp2_with fail
          go_ret
          exact ⟨by simp [h1, h64] <;> omega, rfl⟩
        · have q5 : ¬ (S.size : Int) ≤ 64 := by omega
          have q7 : decide ((S.size : Int) ≤ 64) = false := decide_eq_false q5
          clear q6
          go_wp2_with fail
          go_ret
          exact ⟨by simp [h64] <;> omega, rfl⟩
end Go.Proofs.Ytfnlcnjflloecaa
