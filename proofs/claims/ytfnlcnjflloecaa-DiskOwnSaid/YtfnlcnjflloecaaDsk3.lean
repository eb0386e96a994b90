/- disk.right, disk.named. -/
import Derived.Test.YtfnlcnjflloecaaDsk2
import Derived.Test.YtfnlcnjflloecaaShelfD
import Derived.Test.YtfnlcnjflloecaaNamQ
import Derived.Test.YtfnlcnjflloecaaStrs
set_option linter.unusedVariables false
set_option linter.unusedSimpArgs false
set_option linter.unnecessarySimpa false
namespace Go.Proofs.Ytfnlcnjflloecaa
open Go.RowKit
def nmB (n : Nat) : Bool := decide ((97 ≤ n ∧ n ≤ 122) ∨ (48 ≤ n ∧ n ≤ 57) ∨ n = 46 ∨ n = 45)
theorem right_p (x : Nat) (w : World) : Calls Try.prog 55 #[.int .i32 (x : Int)] w fun e w' => e = .returned (.bool (!nmB x)) ∧ w = w' := by
  rcases (by omega : (97 ≤ x ∧ x ≤ 122) ∨ (123 ≤ x) ∨ (58 ≤ x ∧ x < 97) ∨ (48 ≤ x ∧ x ≤ 57) ∨ (x = 46) ∨ (x = 45) ∨ (x < 48 ∧ x ≠ 46 ∧ x ≠ 45)) with h | h | h | h | h | h | h
  · have hR : nmB x = true := by unfold nmB; exact decide_eq_true (by omega)
    rw [hR]
    have pd1 : (97 : Int) ≤ (x : Int) := by omega
    have d1 : decide ((97 : Int) ≤ (x : Int)) = true := decide_eq_true pd1
    have pd2 : (x : Int) ≤ 122 := by omega
    have d2 : decide ((x : Int) ≤ 122) = true := decide_eq_true pd2
    clear h hR
    generalize (x : Int) = X at *
    go_enter Try.func55, Try.ntmps55
    go_wp2_with fail
    go_ret
    exact ⟨rfl, rfl⟩
  · have hR : nmB x = false := by unfold nmB; exact decide_eq_false (by omega)
    rw [hR]
    have pd1 : (97 : Int) ≤ (x : Int) := by omega
    have d1 : decide ((97 : Int) ≤ (x : Int)) = true := decide_eq_true pd1
    have pd2 : ¬ (x : Int) ≤ 122 := by omega
    have d2 : decide ((x : Int) ≤ 122) = false := decide_eq_false pd2
    have pd3 : (48 : Int) ≤ (x : Int) := by omega
    have d3 : decide ((48 : Int) ≤ (x : Int)) = true := decide_eq_true pd3
    have pd4 : ¬ (x : Int) ≤ 57 := by omega
    have d4 : decide ((x : Int) ≤ 57) = false := decide_eq_false pd4
    have e5 : ((x : Int) == 46) = false := beq_eq_false_iff_ne.2 (by omega)
    have e6 : ((x : Int) == 45) = false := beq_eq_false_iff_ne.2 (by omega)
    clear h hR
    generalize (x : Int) = X at *
    go_enter Try.func55, Try.ntmps55
    go_wp2_with fail
    go_ret
    exact ⟨rfl, rfl⟩
  · have hR : nmB x = false := by unfold nmB; exact decide_eq_false (by omega)
    rw [hR]
    have pd1 : ¬ (97 : Int) ≤ (x : Int) := by omega
    have d1 : decide ((97 : Int) ≤ (x : Int)) = false := decide_eq_false pd1
    have pd3 : (48 : Int) ≤ (x : Int) := by omega
    have d3 : decide ((48 : Int) ≤ (x : Int)) = true := decide_eq_true pd3
    have pd4 : ¬ (x : Int) ≤ 57 := by omega
    have d4 : decide ((x : Int) ≤ 57) = false := decide_eq_false pd4
    have e5 : ((x : Int) == 46) = false := beq_eq_false_iff_ne.2 (by omega)
    have e6 : ((x : Int) == 45) = false := beq_eq_false_iff_ne.2 (by omega)
    clear h hR
    generalize (x : Int) = X at *
    go_enter Try.func55, Try.ntmps55
    go_wp2_with fail
    go_ret
    exact ⟨rfl, rfl⟩
  · have hR : nmB x = true := by unfold nmB; exact decide_eq_true (by omega)
    rw [hR]
    have pd1 : ¬ (97 : Int) ≤ (x : Int) := by omega
    have d1 : decide ((97 : Int) ≤ (x : Int)) = false := decide_eq_false pd1
    have pd3 : (48 : Int) ≤ (x : Int) := by omega
    have d3 : decide ((48 : Int) ≤ (x : Int)) = true := decide_eq_true pd3
    have pd4 : (x : Int) ≤ 57 := by omega
    have d4 : decide ((x : Int) ≤ 57) = true := decide_eq_true pd4
    clear h hR
    generalize (x : Int) = X at *
    go_enter Try.func55, Try.ntmps55
    go_wp2_with fail
    go_ret
    exact ⟨rfl, rfl⟩
  · have hR : nmB x = true := by unfold nmB; exact decide_eq_true (by omega)
    rw [hR]
    have pd1 : ¬ (97 : Int) ≤ (x : Int) := by omega
    have d1 : decide ((97 : Int) ≤ (x : Int)) = false := decide_eq_false pd1
    have pd3 : ¬ (48 : Int) ≤ (x : Int) := by omega
    have d3 : decide ((48 : Int) ≤ (x : Int)) = false := decide_eq_false pd3
    have e5 : ((x : Int) == 46) = true := beq_iff_eq.2 (by omega)
    clear h hR
    generalize (x : Int) = X at *
    go_enter Try.func55, Try.ntmps55
    go_wp2_with fail
    go_ret
    exact ⟨rfl, rfl⟩
  · have hR : nmB x = true := by unfold nmB; exact decide_eq_true (by omega)
    rw [hR]
    have pd1 : ¬ (97 : Int) ≤ (x : Int) := by omega
    have d1 : decide ((97 : Int) ≤ (x : Int)) = false := decide_eq_false pd1
    have pd3 : ¬ (48 : Int) ≤ (x : Int) := by omega
    have d3 : decide ((48 : Int) ≤ (x : Int)) = false := decide_eq_false pd3
    have e5 : ((x : Int) == 46) = false := beq_eq_false_iff_ne.2 (by omega)
    have e6 : ((x : Int) == 45) = true := beq_iff_eq.2 (by omega)
    clear h hR
    generalize (x : Int) = X at *
    go_enter Try.func55, Try.ntmps55
    go_wp2_with fail
    go_ret
    exact ⟨rfl, rfl⟩
  · have hR : nmB x = false := by unfold nmB; exact decide_eq_false (by omega)
    rw [hR]
    have pd1 : ¬ (97 : Int) ≤ (x : Int) := by omega
    have d1 : decide ((97 : Int) ≤ (x : Int)) = false := decide_eq_false pd1
    have pd3 : ¬ (48 : Int) ≤ (x : Int) := by omega
    have d3 : decide ((48 : Int) ≤ (x : Int)) = false := decide_eq_false pd3
    have e5 : ((x : Int) == 46) = false := beq_eq_false_iff_ne.2 (by omega)
    have e6 : ((x : Int) == 45) = false := beq_eq_false_iff_ne.2 (by omega)
    clear h hR
    generalize (x : Int) = X at *
    go_enter Try.func55, Try.ntmps55
    go_wp2_with fail
    go_ret
    exact ⟨rfl, rfl⟩
theorem below_eqd {w w' : World} (h : w = w') : Below w.heap.size w w' := by subst h; exact Below.refl _ _
theorem s_ned (s : List UInt8) (h : s ≠ []) : (strB s).toList.isEmpty = false := by
  rw [strB_toList]
  cases s with
  | nil => exact absurd rfl h
  | cons b r => rfl
theorem nm_all (s : List UInt8) : allD (fun r => !!nmB r.toNat) s = s.all fun c => nmB c.toNat := by
  rw [allD_low (fun r => !!nmB r.toNat) (fun r hr => by
    simp only [Int.toNat_natCast, Bool.not_not] at hr
    unfold nmB at hr
    have := of_decide_eq_true hr
    omega) s.length s (Nat.le_refl _)]
  simp
theorem right_idx (s : List UInt8) : decide (0 ≤ Lib.idxFunc (fun x => !nmB x) true (strB s)) = !(s.all fun c => nmB c.toNat) := by
  have hI := idx_all0 (fun x => !nmB x) (strB s)
  have hd : (strB s).data.toList = s := rfl
  rw [hd, nm_all] at hI
  rw [← hI]
  by_cases h : Lib.idxFunc (fun x => !nmB x) true (strB s) < 0
  · rw [decide_eq_true h, decide_eq_false (by omega)]; rfl
  · rw [decide_eq_false h, decide_eq_true (by omega)]; rfl
theorem rightD_eq (s : List UInt8) : rightD s = (decide (s ≠ []) && decide (s.length ≤ 64) && s.all fun c => nmB c.toNat) := rfl
set_option maxHeartbeats 1600000 in
theorem right_c (s : List UInt8) (w : World) (hs : s.length ≤ 9223372036854775807) : Calls Try.prog 49 #[.string (strB s)] w fun e w' => e = .returned (.bool (rightD s)) ∧ Below w.heap.size w w' := by
  have eg : ∀ args w, (callFunc 55 args).run Try.prog w = .ok (.enter 55 args) w := enters_of Try.func55 (by kernel_rfl) rfl
  have CF := fun w1 => Try.strings_ContainsFunc_grows 55 #[] eg (fun x => !nmB x) (strB s) w1 (fun W x hx hbW => (right_p x W).mono fun e w' h => ⟨h.1, below_eqd h.2⟩)
  rw [right_idx s] at CF
  have hsz := strB_size s
  have hd := rightD_eq s
  by_cases hne : s = []
  · rw [hne] at hd
    have hd2 : rightD [] = false := hd
    have hem : (strB s).toList.isEmpty = true := by rw [strB_toList, hne]; rfl
    rw [hne, hd2, ← hne]
    clear hd hd2 hsz CF eg hne
    generalize strB s = S at *
    go_enter Try.func49, Try.ntmps49
    go_wp2_with fail
    go_ret
    exact ⟨rfl, Below.refl _ _⟩
  have hem := s_ned s hne
  by_cases hl : s.length ≤ 64
  · have hR : rightD s = (s.all fun c => nmB c.toNat) := by rw [hd]; simp [hne, hl]
    rw [hR]
    generalize (s.all fun c => nmB c.toNat) = R at *
    have q1 : ((strB s).size : Int) ≤ 64 := by omega
    have q2 : decide (((strB s).size : Int) ≤ 64) = true := decide_eq_true q1
    clear hd hR hne hl hsz
    generalize strB s = S at *
    go_enter Try.func49, Try.ntmps49
    go_wp2_with fail
    refine (CF _).mono ?_; rintro e w1 ⟨rfl, hb⟩
    go_wp2_with fail
    go_ret
    exact ⟨by simp, hb⟩
  · have hR : rightD s = false := by rw [hd]; simp [hl]
    rw [hR]
    have q1 : ¬ ((strB s).size : Int) ≤ 64 := by omega
    have q2 : decide (((strB s).size : Int) ≤ 64) = false := decide_eq_false q1
    clear hd hR hne hl hsz CF
    generalize strB s = S at *
    go_enter Try.func49, Try.ntmps49
    go_wp2_with fail
    go_ret
    exact ⟨rfl, Below.refl _ _⟩
end Go.Proofs.Ytfnlcnjflloecaa
