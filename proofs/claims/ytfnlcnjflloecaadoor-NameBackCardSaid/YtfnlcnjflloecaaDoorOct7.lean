/- The reference's Uint, Int, Float, Same. -/
import Derived.Test.YtfnlcnjflloecaaDoorOct5
set_option linter.unusedVariables false
set_option linter.unusedSimpArgs false
namespace Go.Proofs.YtfnlcnjflloecaaDoor
open Go.RowKit
theorem stepR (m i : Nat) (c : UInt8) (hm : m < 2 ^ (7 * i)) (hi : i ≤ 9) (h9 : i = 9 → c.toNat ≤ 1) :
    bits .or .u64 (m : Int) (IntKind.u64.wrap (((c.toNat : Int) % 128) * 2 ^ (7 * i))) = ((m + c.toNat % 128 * 2 ^ (7 * i) : Nat) : Int) := by
  have h := (stepN m i c hm hi h9).1
  rw [andNot128, wraps64 ((c.toNat % 128 : Nat) : Int) (by omega) (by omega)] at h
  rw [← h]
  congr 1
set_option maxRecDepth 100000 in
set_option maxHeartbeats 1600000 in
theorem refuint_c (v : Value) (l : List UInt8) (w : World) (h : Rd w v l) (hl : l.length ≤ 10000000) : Calls Tryd.prog 73 #[v] w (GivesU w (uintI l)) := by
  have hI : uintI l = if (numI l).2.2 = 0 then ((numI l).1, l.drop (numI l).2.1, 0) else (0, [], (numI l).2.2) := rfl
  generalize uintI l = I at *
  replace hI := Go.Lib.hid hI
  go_enter Tryd.func73, Tryd.ntmps73
  go_wp2_with fail
  go_loopw [5, 6] (fun n a wr => NuRel w l n a wr) (fun _ a _ => l.length - (intOf a).toNat)
  case atStart => exact ⟨0, 0, by omega, by omega, by decide, rfl, rfl, rfl, rfl⟩
  case round =>
    obtain ⟨i, m, hi, hi9, hm, rfl, rfl, he, rfl⟩ := hrel
    by_cases hlt : i < l.length
    · have hd : l.drop i = l[i] :: l.drop (i + 1) := List.drop_eq_getElem_cons hlt
      have hb : bt l i = (l[i].toNat : Int) := bt_get l i hlt
      rw [hd] at he
      unfold numG at he
      generalize l[i] = c at *
      have hc := c.toNat_lt
      have q1 : (i : Int) < l.length := by omega
      have q10 : ((i : Int) == 10) = false := by simp; omega
      have c0 : (0 : Int) ≤ (c.toNat : Int) := by omega
      have c1 : (c.toNat : Int) < 256 := by omega
      by_cases hbad : i = 9 ∧ 1 < c.toNat
      · rw [if_pos hbad] at he
        have q2 : ((i : Int) == 9) = true := by simp [hbad.1]
        have q3 : (1 : Int) < c.toNat := by omega
        replace hbad := Go.Lib.hid hbad
        have e1 : I = (0, [], 3) := by rw [hI.out, ← he]; rfl
        replace he := Go.Lib.hid he
        go_wp2_with (first | (with_reducible refine G_len ?_; refine L8_len Tryd.underlying37 (by with_unfolding_all (conv => lhs; whnf)) (by assumption) ?_) | ((with_reducible refine G_index ?_; refine L8_index st8 (i := i) (by with_unfolding_all (conv => lhs; whnf)) (by assumption) (by with_unfolding_all (conv => lhs; whnf)) (by omega) (by omega) ?_); intro b o hbo hcl; rw [hb] at hcl))
        go_ret3
        exact ⟨_, by first | rfl | (rw [e1]; rfl), by first | exact Own8.nil _ _ _ | (rw [e1]; exact Own8.nil _ _ _), Below.refl _ _⟩
      · rw [if_neg hbad] at he
        have hS := stepR m i c hm hi9 (fun e => by
          by_cases h1 : 1 < c.toNat
          · exact absurd ⟨e, h1⟩ hbad
          · omega)
        have hT := stepN m i c hm hi9 (fun e => by
          by_cases h1 : 1 < c.toNat
          · exact absurd ⟨e, h1⟩ hbad
          · omega)
        have hS1 := Go.Lib.hid hS
        have hS2 := Go.Lib.hid hT.2
        clear hS hT
        have q9 : ((i : Int) == 9) = decide (i = 9) := by by_cases e : i = 9 <;> simp [e]; omega
        have q93 : i = 9 → ¬ (1 : Int) < c.toNat := fun e h => hbad ⟨e, by omega⟩
        by_cases h128 : c.toNat < 128
        · rw [if_pos h128] at he
          have q6 : (c.toNat : Int) < 128 := by omega
          by_cases hc0 : c.toNat = 0 ∧ 0 < i
          · rw [if_pos hc0] at he
            have q7 : ((c.toNat : Int) == 0) = true := by simp [hc0.1]
            have q8 : (0 : Int) < i := by omega
            have q8' : 0 < i := hc0.2
            by_cases h9 : i = 9
            · have q2 : ((i : Int) == 9) = true := by simp [h9]
              have q3 := q93 h9
              clear q9 q93
              replace h9 := Go.Lib.hid h9
              replace hc0 := Go.Lib.hid hc0
              have e1 : I = (0, [], 2) := by rw [hI.out, ← he]; rfl
              replace he := Go.Lib.hid he
              replace h128 := Go.Lib.hid h128
              go_wp2_with (first | (with_reducible refine G_len ?_; refine L8_len Tryd.underlying37 (by with_unfolding_all (conv => lhs; whnf)) (by assumption) ?_) | ((with_reducible refine G_index ?_; refine L8_index st8 (i := i) (by with_unfolding_all (conv => lhs; whnf)) (by assumption) (by with_unfolding_all (conv => lhs; whnf)) (by omega) (by omega) ?_); intro b o hbo hcl; rw [hb] at hcl))
              go_ret3
              exact ⟨_, by first | rfl | (rw [e1]; rfl), by first | exact Own8.nil _ _ _ | (rw [e1]; exact Own8.nil _ _ _), Below.refl _ _⟩
            · have q2 : ((i : Int) == 9) = false := by simp; omega
              clear q9 q93
              replace hc0 := Go.Lib.hid hc0
              have e1 : I = (0, [], 2) := by rw [hI.out, ← he]; rfl
              replace he := Go.Lib.hid he
              replace h128 := Go.Lib.hid h128
              go_wp2_with (first | (with_reducible refine G_len ?_; refine L8_len Tryd.underlying37 (by with_unfolding_all (conv => lhs; whnf)) (by assumption) ?_) | ((with_reducible refine G_index ?_; refine L8_index st8 (i := i) (by with_unfolding_all (conv => lhs; whnf)) (by assumption) (by with_unfolding_all (conv => lhs; whnf)) (by omega) (by omega) ?_); intro b o hbo hcl; rw [hb] at hcl))
              go_ret3
              exact ⟨_, by first | rfl | (rw [e1]; rfl), by first | exact Own8.nil _ _ _ | (rw [e1]; exact Own8.nil _ _ _), Below.refl _ _⟩
          · rw [if_neg hc0] at he
            by_cases hz : c.toNat = 0
            · have q7 : ((c.toNat : Int) == 0) = true := by simp [hz]
              have q8 : ¬ (0 : Int) < i := fun h => hc0 ⟨hz, by omega⟩
              have q8' : ¬ 0 < i := fun h => hc0 ⟨hz, h⟩
              have q2 : ((i : Int) == 9) = false := by simp; omega
              clear q9 q93
              replace hz := Go.Lib.hid hz
              replace hc0 := Go.Lib.hid hc0
              replace he := Go.Lib.hid he
              have hdl : (l.drop (i + 1)).length = l.length - (i + 1) := by simp
              replace h128 := Go.Lib.hid h128
              have tok0 : True := trivial
              go_wp2_with (first
                | ((with_reducible refine G_len ?_; refine L8_len Tryd.underlying37 (by with_unfolding_all (conv => lhs; whnf)) (by assumption) ?_))
                | (have _t := tok0; (with_reducible refine G_index ?_; refine L8_index st8 (i := i) (by with_unfolding_all (conv => lhs; whnf)) (by assumption) (by with_unfolding_all (conv => lhs; whnf)) (by omega) (by omega) ?_); intro b o hbo hcl; rw [hb] at hcl; clear tok0; have tok1 : True := trivial)
                | (have _t := tok1; (with_reducible refine G_slice ?_; refine L8_slice_l st8 (lo := (i + 1)) (by with_unfolding_all (conv => lhs; whnf)) (by assumption) (by with_unfolding_all (conv => lhs; whnf)) (by omega) (by omega) ?_); intro v9 r9 _; clear tok1; have tok2 : True := trivial)
                | (have _t := tok2; (at_builtin; refine wpList_cp8 rfl _ _ rfl st8 Tryd.underlying37 rfl rfl r9 (by omega) ?_); intro v10 w10 o10 g10; clear tok2; have tok3 : True := trivial))
              go_ret3
              have e1 : I = (m + c.toNat % 128 * 2 ^ (7 * i), l.drop (i + 1), 0) := by rw [hI.out, ← he.out]; rfl
              exact ⟨_, by rw [e1]; simp only [← hS1.out]; first | rfl | simp, by rw [e1]; exact o10, g10⟩
            · have q7 : ((c.toNat : Int) == 0) = false := by simp; omega
              clear hc0
              by_cases h9 : i = 9
              · have q2 : ((i : Int) == 9) = true := by simp [h9]
                have q3 := q93 h9
                clear q9 q93
                replace h9 := Go.Lib.hid h9
                replace he := Go.Lib.hid he
                have hdl : (l.drop (i + 1)).length = l.length - (i + 1) := by simp
                replace h128 := Go.Lib.hid h128
                have tok0 : True := trivial
                go_wp2_with (first
                  | ((with_reducible refine G_len ?_; refine L8_len Tryd.underlying37 (by with_unfolding_all (conv => lhs; whnf)) (by assumption) ?_))
                  | (have _t := tok0; (with_reducible refine G_index ?_; refine L8_index st8 (i := i) (by with_unfolding_all (conv => lhs; whnf)) (by assumption) (by with_unfolding_all (conv => lhs; whnf)) (by omega) (by omega) ?_); intro b o hbo hcl; rw [hb] at hcl; clear tok0; have tok1 : True := trivial)
                  | (have _t := tok1; (with_reducible refine G_slice ?_; refine L8_slice_l st8 (lo := (i + 1)) (by with_unfolding_all (conv => lhs; whnf)) (by assumption) (by with_unfolding_all (conv => lhs; whnf)) (by omega) (by omega) ?_); intro v9 r9 _; clear tok1; have tok2 : True := trivial)
                  | (have _t := tok2; (at_builtin; refine wpList_cp8 rfl _ _ rfl st8 Tryd.underlying37 rfl rfl r9 (by omega) ?_); intro v10 w10 o10 g10; clear tok2; have tok3 : True := trivial))
                go_ret3
                have e1 : I = (m + c.toNat % 128 * 2 ^ (7 * i), l.drop (i + 1), 0) := by rw [hI.out, ← he.out]; rfl
                exact ⟨_, by rw [e1]; simp only [← hS1.out]; first | rfl | simp, by rw [e1]; exact o10, g10⟩
              · have q2 : ((i : Int) == 9) = false := by simp; omega
                clear q9 q93
                replace he := Go.Lib.hid he
                have hdl : (l.drop (i + 1)).length = l.length - (i + 1) := by simp
                replace h128 := Go.Lib.hid h128
                have tok0 : True := trivial
                go_wp2_with (first
                  | ((with_reducible refine G_len ?_; refine L8_len Tryd.underlying37 (by with_unfolding_all (conv => lhs; whnf)) (by assumption) ?_))
                  | (have _t := tok0; (with_reducible refine G_index ?_; refine L8_index st8 (i := i) (by with_unfolding_all (conv => lhs; whnf)) (by assumption) (by with_unfolding_all (conv => lhs; whnf)) (by omega) (by omega) ?_); intro b o hbo hcl; rw [hb] at hcl; clear tok0; have tok1 : True := trivial)
                  | (have _t := tok1; (with_reducible refine G_slice ?_; refine L8_slice_l st8 (lo := (i + 1)) (by with_unfolding_all (conv => lhs; whnf)) (by assumption) (by with_unfolding_all (conv => lhs; whnf)) (by omega) (by omega) ?_); intro v9 r9 _; clear tok1; have tok2 : True := trivial)
                  | (have _t := tok2; (at_builtin; refine wpList_cp8 rfl _ _ rfl st8 Tryd.underlying37 rfl rfl r9 (by omega) ?_); intro v10 w10 o10 g10; clear tok2; have tok3 : True := trivial))
                go_ret3
                have e1 : I = (m + c.toNat % 128 * 2 ^ (7 * i), l.drop (i + 1), 0) := by rw [hI.out, ← he.out]; rfl
                exact ⟨_, by rw [e1]; simp only [← hS1.out]; first | rfl | simp, by rw [e1]; exact o10, g10⟩
        · rw [if_neg h128] at he
          have q6 : ¬ (c.toNat : Int) < 128 := by omega
          have h9 : ¬ i = 9 := fun e => by have := q93 e; omega
          have q2 : ((i : Int) == 9) = false := by simp; omega
          clear q9 q93
          replace he := Go.Lib.hid he
          go_wp2_with (first | (with_reducible refine G_len ?_; refine L8_len Tryd.underlying37 (by with_unfolding_all (conv => lhs; whnf)) (by assumption) ?_) | ((with_reducible refine G_index ?_; refine L8_index st8 (i := i) (by with_unfolding_all (conv => lhs; whnf)) (by assumption) (by with_unfolding_all (conv => lhs; whnf)) (by omega) (by omega) ?_); intro b o hbo hcl; rw [hb] at hcl))
          exact ⟨⟨i + 1, _, by omega, by omega, hS2.out.1, by rw [hS1.out], by go_num, he.out, rfl⟩, by simp only [intOf]; omega⟩
    · have q1 : ¬ (i : Int) < l.length := by omega
      obtain rfl : i = l.length := by omega
      have he2 : numI l = (0, 0, 2) := by rw [← he, List.drop_length]; rfl
      have e1 : I = (0, [], 2) := by rw [hI.out, he2]; rfl
      clear he he2
      go_wp2_with (first | (with_reducible refine G_len ?_; refine L8_len Tryd.underlying37 (by with_unfolding_all (conv => lhs; whnf)) (by assumption) ?_))
      go_ret3
      exact ⟨_, by first | rfl | (rw [e1]; rfl), by first | exact Own8.nil _ _ _ | (rw [e1]; exact Own8.nil _ _ _), Below.refl _ _⟩
def RfR (w : World) (l : List UInt8) (n i : Value) (wr : World) : Prop := ∃ j : Nat, j ≤ 8 ∧ n = .int .u64 (beN (l.take j) : Int) ∧ i = .int .i64 (j : Int) ∧ wr = w
end Go.Proofs.YtfnlcnjflloecaaDoor
