/- name: what is asked of runes, and how they are folded. -/
import Derived.Test.YtfnlcnjflloecaaDoorBase
import Derived.Test.YtfnlcnjflloecaaDoorNamQ
set_option linter.unusedVariables false
set_option linter.unusedSimpArgs false
namespace Go.Proofs.YtfnlcnjflloecaaDoor
open Go.RowKit
def wB (r a b : Int) : Bool := decide (a ≤ r) && decide (r ≤ b)
theorem wB_t {r a b : Int} : wB r a b = true ↔ a ≤ r ∧ r ≤ b := by unfold wB; simp
theorem wB_f {r a b : Int} : wB r a b = false ↔ ¬ (a ≤ r ∧ r ≤ b) := by rw [← wB_t]; simp
theorem within_c (r a b : Int) (w : World) : Calls Tryd.prog 52 #[.int .i32 r, .int .i32 a, .int .i32 b] w fun e w' => e = .returned (.bool (wB r a b)) ∧ w = w' := by
  by_cases h1 : a ≤ r <;> by_cases h2 : r ≤ b
  all_goals
    go_enter Tryd.func52, Tryd.ntmps52
    go_wp2
    go_ret
    exact ⟨by simp [wB, h1, h2], rfl⟩
def digB (r : Int) : Bool := wB r 97 122 || wB r 48 57
theorem digit_c (r : Int) (w : World) : Calls Tryd.prog 101 #[.int .i32 r] w fun e w' => e = .returned (.bool (digB r)) ∧ w = w' := by
  unfold digB
  cases h1 : wB r 97 122 <;> cases h2 : wB r 48 57
  all_goals
    go_enter Tryd.func101, Tryd.ntmps101
    go_wp2_with (go_at_call 52; refine (within_c _ _ _ _).mono ?_; rintro e w1 ⟨rfl, rfl⟩)
    go_ret
    exact ⟨rfl, rfl⟩
theorem fold_cases (r : Int) :
    (wB r 65 90 = true ∧ foldI r = r + 32) ∨
    (wB r 65 90 = false ∧ wB r 192 222 = true ∧ (r != 215) = true ∧ foldI r = r + 32) ∨
    (wB r 65 90 = false ∧ wB r 192 222 = true ∧ (r != 215) = false ∧ wB r 913 937 = false ∧ wB r 1040 1071 = false ∧ foldI r = r) ∨
    (wB r 65 90 = false ∧ wB r 192 222 = false ∧ wB r 913 937 = true ∧ (r != 930) = true ∧ foldI r = r + 32) ∨
    (wB r 65 90 = false ∧ wB r 192 222 = false ∧ wB r 913 937 = true ∧ (r != 930) = false ∧ wB r 1040 1071 = false ∧ foldI r = r) ∨
    (wB r 65 90 = false ∧ wB r 192 222 = false ∧ wB r 913 937 = false ∧ wB r 1040 1071 = true ∧ foldI r = r + 32) ∨
    (wB r 65 90 = false ∧ wB r 192 222 = false ∧ wB r 913 937 = false ∧ wB r 1040 1071 = false ∧ foldI r = r) := by
  have e1 : (r != 215) = true ↔ r ≠ 215 := bne_iff_ne
  have e2 : (r != 215) = false ↔ r = 215 := by simp
  have e3 : (r != 930) = true ↔ r ≠ 930 := bne_iff_ne
  have e4 : (r != 930) = false ↔ r = 930 := by simp
  simp only [wB_t, wB_f, e1, e2, e3, e4]
  unfold foldI
  split <;> omega
set_option maxHeartbeats 1600000 in
theorem fold_c (r : Int) (h0 : 0 ≤ r) (h1 : r ≤ 1114111) (w : World) : Calls Tryd.prog 48 #[.int .i32 r] w fun e w' => e = .returned (.int .i32 (foldI r)) ∧ w = w' := by
  rcases fold_cases r with ⟨a, f⟩ | ⟨a, b, c, f⟩ | ⟨a, b, c, d, g, f⟩ | ⟨a, b, c, d, f⟩ | ⟨a, b, c, d, g, f⟩ | ⟨a, b, c, d, f⟩ | ⟨a, b, c, d, f⟩
  all_goals
    replace f := Go.Lib.hid f
    go_enter Tryd.func48, Tryd.ntmps48
    go_wp2_with (go_at_call 52; refine (within_c _ _ _ _).mono ?_; rintro e w1 ⟨rfl, rfl⟩)
    go_ret
    rw [f.out]
    exact ⟨rfl, rfl⟩
theorem let_cases (r : Int) :
    (digB r = true ∧ lttI r = true) ∨
    (digB r = false ∧ (r == 46) = true ∧ lttI r = true) ∨
    (digB r = false ∧ (r == 46) = false ∧ (r == 45) = true ∧ lttI r = true) ∨
    (digB r = false ∧ (r == 46) = false ∧ (r == 45) = false ∧ (r == 95) = true ∧ lttI r = true) ∨
    (digB r = false ∧ (r == 46) = false ∧ (r == 45) = false ∧ (r == 95) = false ∧ wB r 223 255 = true ∧ (r != 247) = true ∧ lttI r = true) ∨
    (digB r = false ∧ (r == 46) = false ∧ (r == 45) = false ∧ (r == 95) = false ∧ wB r 223 255 = true ∧ (r != 247) = false ∧ wB r 945 969 = false ∧ wB r 1072 1103 = false ∧ lttI r = false) ∨
    (digB r = false ∧ (r == 46) = false ∧ (r == 45) = false ∧ (r == 95) = false ∧ wB r 223 255 = false ∧ wB r 945 969 = true ∧ lttI r = true) ∨
    (digB r = false ∧ (r == 46) = false ∧ (r == 45) = false ∧ (r == 95) = false ∧ wB r 223 255 = false ∧ wB r 945 969 = false ∧ wB r 1072 1103 = true ∧ lttI r = true) ∨
    (digB r = false ∧ (r == 46) = false ∧ (r == 45) = false ∧ (r == 95) = false ∧ wB r 223 255 = false ∧ wB r 945 969 = false ∧ wB r 1072 1103 = false ∧ lttI r = false) := by
  have hl : lttI r = (digB r || (r == 46) || (r == 45) || (r == 95) || (wB r 223 255 && (r != 247)) || wB r 945 969 || wB r 1072 1103) := by
    unfold lttI digB wB
    simp only [Bool.decide_and]
  have h6 : (r != 247) = false → wB r 945 969 = false ∧ wB r 1072 1103 = false := by
    intro h
    have : r = 247 := by simpa using h
    subst this
    decide
  rw [hl]
  clear hl
  revert h6
  generalize digB r = a
  generalize (r == 46) = b
  generalize (r == 45) = c
  generalize (r == 95) = d
  generalize wB r 223 255 = e
  generalize (r != 247) = f
  generalize wB r 945 969 = g
  generalize wB r 1072 1103 = h
  revert a b c d e f g h
  decide +kernel
set_option maxHeartbeats 1600000 in
theorem local_p (r : Int) (h0 : 0 ≤ r) (h1 : r ≤ 1114111) (w : World) : Calls Tryd.prog 50 #[.int .i32 r] w fun e w' => e = .returned (.bool (lttI r)) ∧ w = w' := by
  rcases let_cases r with ⟨a, f⟩ | ⟨a, b, f⟩ | ⟨a, b, c, f⟩ | ⟨a, b, c, d, f⟩ | ⟨a, b, c, d, g, h, f⟩ | ⟨a, b, c, d, g, h, i, j, f⟩ | ⟨a, b, c, d, g, h, f⟩ | ⟨a, b, c, d, g, h, i, f⟩ | ⟨a, b, c, d, g, h, i, f⟩
  all_goals
    replace f := Go.Lib.hid f
    go_enter Tryd.func50, Tryd.ntmps50
    go_wp2_with (first | (go_at_call 52; refine (within_c _ _ _ _).mono ?_; rintro e w1 ⟨rfl, rfl⟩) | (go_at_call 101; refine (digit_c _ _).mono ?_; rintro e w1 ⟨rfl, rfl⟩))
    go_ret
    rw [f.out]
    exact ⟨rfl, rfl⟩
theorem label_p (r : Int) (h0 : 0 ≤ r) (h1 : r ≤ 1114111) (w : World) : Calls Tryd.prog 103 #[.int .i32 r] w fun e w' => e = .returned (.bool (ddI r)) ∧ w = w' := by
  have hd : ddI r = (digB r || (r == 45)) := rfl
  rw [hd]
  cases ha : digB r <;> cases hb : (r == 45)
  all_goals
    go_enter Tryd.func103, Tryd.ntmps103
    go_wp2_with (go_at_call 101; refine (digit_c _ _).mono ?_; rintro e w1 ⟨rfl, rfl⟩)
    go_ret
    exact ⟨rfl, rfl⟩
theorem host_f (r : Int) (h0 : 0 ≤ r) (h1 : r ≤ 1114111) (w : World) : Calls Tryd.prog 51 #[.int .i32 r] w fun e w' => e = .returned (.int .i32 (capI r)) ∧ w = w' := by
  cases ha : wB r 65 90
  · have hf := Go.Lib.hid (show capI r = r by unfold capI; rw [if_neg (wB_f.1 ha)])
    go_enter Tryd.func51, Tryd.ntmps51
    go_wp2_with (go_at_call 52; refine (within_c _ _ _ _).mono ?_; rintro e w1 ⟨rfl, rfl⟩)
    go_ret
    rw [hf.out]
    exact ⟨rfl, rfl⟩
  · have hf := Go.Lib.hid (show foldI r = capI r by unfold capI foldI; rw [if_pos (wB_t.1 ha), if_pos (.inl (wB_t.1 ha))])
    go_enter Tryd.func51, Tryd.ntmps51
    go_wp2_with (first | (go_at_call 52; refine (within_c _ _ _ _).mono ?_; rintro e w1 ⟨rfl, rfl⟩) | (go_at_call 48; refine (fold_c _ h0 h1 _).mono ?_; rintro e w1 ⟨rfl, rfl⟩))
    go_ret
    rw [hf.out]
    exact ⟨rfl, rfl⟩
theorem vis_p (r : Int) (h0 : 0 ≤ r) (h1 : r ≤ 1114111) (w : World) : Calls Tryd.prog 88 #[.int .i32 r] w fun e w' => e = .returned (.bool (visI r)) ∧ w = w' := by
  have hd : visI r = (decide (32 ≤ r) && !wB r 127 159 && (r != 65534) && (r != 65535)) := by
    unfold visI wB
    rw [Bool.decide_and]
  by_cases h32 : 32 ≤ r
  · rw [hd, decide_eq_true h32]
    cases ha : wB r 127 159 <;> cases hb : (r != 65534) <;> cases hc : (r != 65535)
    all_goals
      clear hd
      go_enter Tryd.func88, Tryd.ntmps88
      go_wp2_with (go_at_call 52; refine (within_c _ _ _ _).mono ?_; rintro e w1 ⟨rfl, rfl⟩)
      go_ret
      exact ⟨rfl, rfl⟩
  · have h32' : decide (32 ≤ r) = false := decide_eq_false h32
    rw [hd, h32']
    clear hd
    go_enter Tryd.func88, Tryd.ntmps88
    go_wp2_with fail
    go_ret
    exact ⟨rfl, rfl⟩
theorem all1_c (g : Nat) (p : Nat → Bool) (eg : ∀ args w, (callFunc g args).run Tryd.prog w = .ok (.enter g args) w) (hp : ∀ (W : World) (x : Nat), x ≤ 1114111 → Calls Tryd.prog g #[.int .i32 (x : Int)] W fun e w' => e = .returned (.bool (p x)) ∧ W = w')
    (B : Nat) (w : World) (hc : w.cell? ⟨B, 0, none⟩ = some (.func (.func g) #[] #[])) (x : Nat) (hx : x ≤ 1114111) :
    Calls Tryd.prog 100 #[.int .i32 (x : Int), .pointer (some ⟨B, 0, none⟩)] w fun e w' => e = .returned (.bool (!p x)) ∧ w = w' := by
  have H := Go.Lib.hid (hp w x hx)
  clear hp
  generalize p x = px at *
  go_enter Tryd.func100, Tryd.ntmps100
  go_wp2_with (go_at_fn g; refine H.out.mono ?_; rintro e w1 ⟨rfl, rfl⟩)
  go_ret
  exact ⟨rfl, rfl⟩
end Go.Proofs.YtfnlcnjflloecaaDoor
