/- stanza: which parts a kind has: the program's table and the reference's. -/
import Derived.Test.YtocfcgjjepegmaaDoorStzPure
import Derived.Test.YtocfcgjjepegmaaDoorStz0
set_option linter.unusedVariables false
set_option linter.unusedSimpArgs false
namespace Go.Proofs.YtocfcgjjepegmaaDoor
open Go.RowKit
def kindsK : List Int := [5, 1, 10, 11, 12, 13, 14, 16, 17, 18, 42, 43, 44, 45, 2, 3, 7, 32, 33, 4, 6, 8, 34, 35, 36, 39, 46, 9, 15, 19, 31, 37, 40, 38, 41]
theorem partsI_none (k : Int) (h : ∀ c ∈ kindsK, ¬ k = c) : partsI k = -1 := by
  unfold partsI
  by_cases hr : 0 ≤ k ∧ k < 47
  · rw [if_pos hr]
    have H : ∀ x : Fin 47, (∀ c ∈ kindsK, ¬ (x.val : Int) = c) → partsT.getD x.val (-1) = -1 := by decide
    have := H ⟨k.toNat, by omega⟩ (fun c hc e => h c hc (by simp only at e; omega))
    exact this
  · rw [if_neg hr]
def GivesK (w : World) (p : Int) (e : Ending) (w' : World) : Prop := e = .returned (.tuple #[.int .u8 (if p < 0 then 0 else p), .bool (decide (0 ≤ p))]) ∧ w = w'
set_option maxRecDepth 100000 in
set_option maxHeartbeats 1600000 in
theorem parts_c (k : Int) (w : World) : Calls Tryd.prog 64 #[.int .i64 k] w (GivesK w (partsI k)) := by
  by_cases hN : ∀ c ∈ kindsK, ¬ k = c
  · rw [partsI_none k hN]
    simp only [kindsK, List.mem_cons, List.not_mem_nil, or_false, forall_eq_or_imp, forall_eq] at hN
    obtain ⟨_, _, _, _, _, _, _, _, _, _, _, _, _, _, _, _, _, _, _, _, _, _, _, _, _, _, _, _, _, _, _, _, _, _, _⟩ := hN
    go_enter Tryd.func64, Tryd.ntmps64
    go_wp2_with fail
    go_ret2
    exact ⟨rfl, rfl⟩
  · obtain ⟨c, hc, rfl⟩ : ∃ c ∈ kindsK, k = c := by
      apply Decidable.byContradiction
      intro h
      exact hN fun c hc e => h ⟨c, hc, e⟩
    clear hN
    simp only [kindsK, List.mem_cons, List.not_mem_nil, or_false] at hc
    rcases hc with rfl | rfl | rfl | rfl | rfl | rfl | rfl | rfl | rfl | rfl | rfl | rfl | rfl | rfl | rfl | rfl | rfl | rfl | rfl | rfl | rfl | rfl | rfl | rfl | rfl | rfl | rfl | rfl | rfl | rfl | rfl | rfl | rfl | rfl | rfl
    all_goals
      go_enter Tryd.func64, Tryd.ntmps64
      go_wp2_with fail
      go_ret2
      exact ⟨rfl, rfl⟩
set_option maxRecDepth 100000 in
set_option maxHeartbeats 1600000 in
theorem refparts_c (k : Int) (w : World) : Calls Tryd.prog 61 #[.int .i64 k] w fun e w' => e = .returned (.int .i64 (partsI k)) ∧ w = w' := by
  by_cases hN : ∀ c ∈ kindsK, ¬ k = c
  · rw [partsI_none k hN]
    simp only [kindsK, List.mem_cons, List.not_mem_nil, or_false, forall_eq_or_imp, forall_eq] at hN
    obtain ⟨_, _, _, _, _, _, _, _, _, _, _, _, _, _, _, _, _, _, _, _, _, _, _, _, _, _, _, _, _, _, _, _, _, _, _⟩ := hN
    go_enter Tryd.func61, Tryd.ntmps61
    go_wp2_with fail
    go_ret
    exact ⟨rfl, rfl⟩
  · obtain ⟨c, hc, rfl⟩ : ∃ c ∈ kindsK, k = c := by
      apply Decidable.byContradiction
      intro h
      exact hN fun c hc e => h ⟨c, hc, e⟩
    clear hN
    simp only [kindsK, List.mem_cons, List.not_mem_nil, or_false] at hc
    rcases hc with rfl | rfl | rfl | rfl | rfl | rfl | rfl | rfl | rfl | rfl | rfl | rfl | rfl | rfl | rfl | rfl | rfl | rfl | rfl | rfl | rfl | rfl | rfl | rfl | rfl | rfl | rfl | rfl | rfl | rfl | rfl | rfl | rfl | rfl | rfl
    all_goals
      go_enter Tryd.func61, Tryd.ntmps61
      go_wp2_with fail
      go_ret
      exact ⟨rfl, rfl⟩
set_option maxRecDepth 100000 in
theorem reft_c (s : List UInt8) (w : World) (hl : s.length ≤ 1000000000) : Calls Tryd.prog 63 #[.string (strB s)] w fun e w' => e = .returned (.int .i64 (textE s)) ∧ w = w' := by
  have hz := strB_size s
  have V := refvalid_c s w hl
  have hE : textE s = if 1024 < s.length then 5 else if Lib.validD s = true then 0 else 4 := rfl
  generalize textE s = E at *
  by_cases h1 : 1024 < s.length
  · rw [if_pos h1] at hE
    subst hE
    have q : (1024 : Int) < s.length := by omega
    go_enter Tryd.func63, Tryd.ntmps63
    go_wp2_with fail
    go_ret
    exact ⟨rfl, rfl⟩
  · rw [if_neg h1] at hE
    have q : ¬ (1024 : Int) < s.length := by omega
    by_cases h2 : Lib.validD s = true
    · rw [if_pos h2] at hE
      subst hE
      rw [h2] at V
      go_enter Tryd.func63, Tryd.ntmps63
      have c0 : True := trivial
      go_wp2_with (first
        | (have _t := c0; go_at_call 93; refine V.mono ?_; rintro e w1 ⟨rfl, rfl⟩; clear c0; have c1 : True := trivial))
      go_ret
      exact ⟨rfl, rfl⟩
    · rw [if_neg h2] at hE
      subst hE
      rw [Bool.eq_false_iff.2 h2] at V
      go_enter Tryd.func63, Tryd.ntmps63
      have c0 : True := trivial
      go_wp2_with (first
        | (have _t := c0; go_at_call 93; refine V.mono ?_; rintro e w1 ⟨rfl, rfl⟩; clear c0; have c1 : True := trivial))
      go_ret
      exact ⟨rfl, rfl⟩
end Go.Proofs.YtocfcgjjepegmaaDoor
