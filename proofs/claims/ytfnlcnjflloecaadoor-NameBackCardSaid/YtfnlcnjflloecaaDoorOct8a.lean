/- What a text reads as; the reference's Text. -/
import Derived.Test.YtfnlcnjflloecaaDoorOct7
import Derived.Test.YtfnlcnjflloecaaDoorOct6
set_option linter.unusedVariables false
set_option linter.unusedSimpArgs false
namespace Go.Proofs.YtfnlcnjflloecaaDoor
open Go.RowKit
def textI (l : List UInt8) (most : Nat) : List UInt8 × List UInt8 × Int :=
  if (numI l).2.2 = 0 then
    if most < (numI l).1 then ([], [], 5)
    else if l.length - (numI l).2.1 < (numI l).1 then ([], [], 2)
    else if Lib.validD ((l.drop (numI l).2.1).take (numI l).1) = true then ((l.drop (numI l).2.1).take (numI l).1, l.drop ((numI l).2.1 + (numI l).1), 0) else ([], [], 4)
  else ([], [], (numI l).2.2)
def GivesT (w : World) (r : List UInt8 × List UInt8 × Int) (e : Ending) (w' : World) : Prop := ∃ v, e = .returned (.tuple #[.string (strB r.1), v, .int .i64 r.2.2]) ∧ Own8 w' w.heap.size 5 v r.2.1 ∧ Below w.heap.size w w'
theorem slice_run_lh {W : World} {v : Value} {l : List UInt8} (h : Rd W v l) (lo hi : Nat) (hl : lo ≤ hi) (hh : hi ≤ l.length) : ∃ v', (∀ w, (Instr.sliceAt 37 v (some (.int .i64 (lo : Int))) (some (.int .i64 (hi : Int))) none).run Tryd.prog w = .ok v' w) ∧ Rd W v' ((l.take hi).drop lo) ∧ v'.ownBlock = v.ownBlock := by
  obtain ⟨A, c, rfl, h1, _, _⟩ := h.open
  exact ⟨_, fun w => (run_sliced (w := w) st8 A l.length c lo hi hl hh h1 .i64 .i64).1, h.piece lo hi hl hh, sliced_block ..⟩
set_option maxRecDepth 100000 in
set_option maxHeartbeats 1600000 in
theorem reftext_c (v : Value) (l : List UInt8) (most : Int) (w : World) (h : Rd w v l) (hl : l.length ≤ 10000000) (hm : -9223372036854775808 ≤ most ∧ most ≤ 9223372036854775807) :
    Calls Tryd.prog 72 #[v, .int .i64 most] w (GivesT w (textI l most.toNat)) := by
  have U := refuint_c v l w h hl
  have hn := numI_lt l
  have ha := numI_at l
  have hI : textI l most.toNat = if (numI l).2.2 = 0 then
    if most.toNat < (numI l).1 then ([], [], 5)
    else if l.length - (numI l).2.1 < (numI l).1 then ([], [], 2)
    else if Lib.validD ((l.drop (numI l).2.1).take (numI l).1) = true then ((l.drop (numI l).2.1).take (numI l).1, l.drop ((numI l).2.1 + (numI l).1), 0) else ([], [], 4)
  else ([], [], (numI l).2.2) := rfl
  unfold uintI at U
  unfold GivesU at U
  generalize textI l most.toNat = I at *
  generalize (numI l).1 = n at *
  generalize (numI l).2.1 = a at *
  generalize (numI l).2.2 = r at *
  have hdl : (l.drop a).length = l.length - a := by simp
  have hdd : l.drop (a + n) = (l.drop a).drop n := by rw [List.drop_drop]
  rw [hdd] at hI
  generalize l.drop a = d at *
  clear hdd
  rw [← hdl] at hI
  have hdl2 : d.length ≤ 10000000 := by omega
  clear hdl ha h hl
  obtain ⟨M, hM⟩ : ∃ M, most.toNat = M := ⟨_, rfl⟩
  rw [hM] at hI
  replace hI := Go.Lib.hid hI
  go_enter Tryd.func72, Tryd.ntmps72
  by_cases hr : r = 0
  · rw [if_pos hr] at U
    subst hr
    replace hI := hI.out
    rw [if_pos rfl] at hI
    replace hI := Go.Lib.hid hI
    by_cases hneg : most < 0
    · have q1 : most < 0 := hneg
      obtain rfl : M = 0 := by omega
      clear hM hm
      by_cases hA : 0 < n
      · have qA : (0 : Int) < (n : Int) := by omega
        have e1 : I = ([], [], 5) := by rw [hI.out, if_pos hA]
        clear hI
        have c0 : True := trivial
        go_wp2_with (first
          | (have _t := c0; go_at_call 73; refine U.mono ?_; rintro e w1 ⟨v1, rfl, ho1, hb1⟩; clear c0; have c1 : True := trivial))
        go_ret3
        exact ⟨_, by first | rfl | (rw [e1]; rfl), by first | exact Own8.nil _ _ _ | (rw [e1]; exact Own8.nil _ _ _), hb1⟩
      have qA : ¬ (0 : Int) < (n : Int) := by omega
      by_cases hB : d.length < n
      · have qB : (d.length : Int) < (n : Int) := by omega
        have e1 : I = ([], [], 2) := by rw [hI.out, if_neg hA, if_pos hB]
        clear hI
        have c0 : True := trivial
        go_wp2_with (first
          | (have _t := c0; go_at_call 73; refine U.mono ?_; rintro e w1 ⟨v1, rfl, ho1, hb1⟩; have r1 := ho1.rd; clear c0; have c1 : True := trivial)
          | (have _t := c1; (with_reducible refine G_len ?_; refine L8_len Tryd.underlying37 (by with_unfolding_all (conv => lhs; whnf)) (by assumption) ?_); clear c1; have c2 : True := trivial))
        go_ret3
        exact ⟨_, by first | rfl | (rw [e1]; rfl), by first | exact Own8.nil _ _ _ | (rw [e1]; exact Own8.nil _ _ _), hb1⟩
      have qB : ¬ (d.length : Int) < (n : Int) := by omega
      have hI2 : I = if Lib.validD (d.take n) = true then (d.take n, d.drop n, 0) else ([], [], 4) := by rw [hI.out, if_neg hA, if_neg hB]
      clear hI
      have hdn : (d.drop n).length = d.length - n := by simp
      have RV := fun w => refvalid_c (d.take n) w (by simp; omega)
      obtain ⟨S, hS⟩ : ∃ S, strB (d.take n) = S := ⟨_, rfl⟩
      rw [hS] at RV
      by_cases hV : Lib.validD (d.take n) = true
      · rw [hV] at RV
        have e1 : I = (d.take n, d.drop n, 0) := by rw [hI2, if_pos hV]
        clear hI2
        have c0 : True := trivial
        go_wp2_with (first
          | (have _t := c0; go_at_call 73; refine U.mono ?_; rintro e w1 ⟨v1, rfl, ho1, hb1⟩; have r1 := ho1.rd; clear c0; have c1 : True := trivial)
          | (have _t := c1; (with_reducible refine G_len ?_; refine L8_len Tryd.underlying37 (by with_unfolding_all (conv => lhs; whnf)) (by assumption) ?_); clear c1; have c2 : True := trivial)
          | (have _t := c2; (with_reducible refine G_slice ?_; refine L8_slice_h st8 (hi := n) (by with_unfolding_all (conv => lhs; whnf)) (by assumption) (by with_unfolding_all (conv => lhs; whnf)) (by omega) (by omega) ?_); intro v2 r2 _; have hc2 := convert_str r2; rw [hS] at hc2; clear c2; have c3 : True := trivial))
        refine (RV _).mono ?_
        rintro e w' ⟨rfl, rfl⟩
        have c0 : True := trivial
        go_wp2_with (first
          | (have _t := c0; clear r2; (with_reducible refine G_slice ?_; refine L8_slice_l st8 (lo := n) (by with_unfolding_all (conv => lhs; whnf)) (by assumption) (by with_unfolding_all (conv => lhs; whnf)) (by omega) (by omega) ?_); intro v3 r3 _; clear c0; have c1 : True := trivial)
          | (have _t := c1; (at_builtin; refine wpList_cp8 rfl _ _ rfl st8 Tryd.underlying37 rfl rfl r3 (by omega) ?_); intro v4 w4 o4 g4; clear c1; have c2 : True := trivial))
        go_ret3
        exact ⟨_, by first | rfl | (rw [e1, ← hS]; rfl) | (rw [e1]; simp only [hS]; rfl), by first | exact o4.mono hb1.size | (rw [e1]; exact o4.mono hb1.size), below_below hb1 g4⟩
      · have hV' : Lib.validD (d.take n) = false := by simpa using hV
        rw [hV'] at RV
        have e1 : I = ([], [], 4) := by rw [hI2, if_neg hV]
        clear hI2
        have c0 : True := trivial
        go_wp2_with (first
          | (have _t := c0; go_at_call 73; refine U.mono ?_; rintro e w1 ⟨v1, rfl, ho1, hb1⟩; have r1 := ho1.rd; clear c0; have c1 : True := trivial)
          | (have _t := c1; (with_reducible refine G_len ?_; refine L8_len Tryd.underlying37 (by with_unfolding_all (conv => lhs; whnf)) (by assumption) ?_); clear c1; have c2 : True := trivial)
          | (have _t := c2; (with_reducible refine G_slice ?_; refine L8_slice_h st8 (hi := n) (by with_unfolding_all (conv => lhs; whnf)) (by assumption) (by with_unfolding_all (conv => lhs; whnf)) (by omega) (by omega) ?_); intro v2 r2 _; have hc2 := convert_str r2; rw [hS] at hc2; clear c2; have c3 : True := trivial))
        refine (RV _).mono ?_
        rintro e w' ⟨rfl, rfl⟩
        go_wp2_with fail
        go_ret3
        exact ⟨_, by first | rfl | (rw [e1]; rfl), by first | exact Own8.nil _ _ _ | (rw [e1]; exact Own8.nil _ _ _), hb1⟩
    · have q1 : ¬ most < 0 := hneg
      obtain rfl : most = (M : Int) := by omega
      have hM2 : M ≤ 9223372036854775807 := by omega
      clear hM hm
      by_cases hA : M < n
      · have qA : (M : Int) < (n : Int) := by omega
        have e1 : I = ([], [], 5) := by rw [hI.out, if_pos hA]
        clear hI
        have c0 : True := trivial
        go_wp2_with (first
          | (have _t := c0; go_at_call 73; refine U.mono ?_; rintro e w1 ⟨v1, rfl, ho1, hb1⟩; clear c0; have c1 : True := trivial))
        go_ret3
        exact ⟨_, by first | rfl | (rw [e1]; rfl), by first | exact Own8.nil _ _ _ | (rw [e1]; exact Own8.nil _ _ _), hb1⟩
      have qA : ¬ (M : Int) < (n : Int) := by omega
      by_cases hB : d.length < n
      · have qB : (d.length : Int) < (n : Int) := by omega
        have e1 : I = ([], [], 2) := by rw [hI.out, if_neg hA, if_pos hB]
        clear hI
        have c0 : True := trivial
        go_wp2_with (first
          | (have _t := c0; go_at_call 73; refine U.mono ?_; rintro e w1 ⟨v1, rfl, ho1, hb1⟩; have r1 := ho1.rd; clear c0; have c1 : True := trivial)
          | (have _t := c1; (with_reducible refine G_len ?_; refine L8_len Tryd.underlying37 (by with_unfolding_all (conv => lhs; whnf)) (by assumption) ?_); clear c1; have c2 : True := trivial))
        go_ret3
        exact ⟨_, by first | rfl | (rw [e1]; rfl), by first | exact Own8.nil _ _ _ | (rw [e1]; exact Own8.nil _ _ _), hb1⟩
      have qB : ¬ (d.length : Int) < (n : Int) := by omega
      have hI2 : I = if Lib.validD (d.take n) = true then (d.take n, d.drop n, 0) else ([], [], 4) := by rw [hI.out, if_neg hA, if_neg hB]
      clear hI
      have hdn : (d.drop n).length = d.length - n := by simp
      have RV := fun w => refvalid_c (d.take n) w (by simp; omega)
      obtain ⟨S, hS⟩ : ∃ S, strB (d.take n) = S := ⟨_, rfl⟩
      rw [hS] at RV
      by_cases hV : Lib.validD (d.take n) = true
      · rw [hV] at RV
        have e1 : I = (d.take n, d.drop n, 0) := by rw [hI2, if_pos hV]
        clear hI2
        have c0 : True := trivial
        go_wp2_with (first
          | (have _t := c0; go_at_call 73; refine U.mono ?_; rintro e w1 ⟨v1, rfl, ho1, hb1⟩; have r1 := ho1.rd; clear c0; have c1 : True := trivial)
          | (have _t := c1; (with_reducible refine G_len ?_; refine L8_len Tryd.underlying37 (by with_unfolding_all (conv => lhs; whnf)) (by assumption) ?_); clear c1; have c2 : True := trivial)
          | (have _t := c2; (with_reducible refine G_slice ?_; refine L8_slice_h st8 (hi := n) (by with_unfolding_all (conv => lhs; whnf)) (by assumption) (by with_unfolding_all (conv => lhs; whnf)) (by omega) (by omega) ?_); intro v2 r2 _; have hc2 := convert_str r2; rw [hS] at hc2; clear c2; have c3 : True := trivial))
        refine (RV _).mono ?_
        rintro e w' ⟨rfl, rfl⟩
        have c0 : True := trivial
        go_wp2_with (first
          | (have _t := c0; clear r2; (with_reducible refine G_slice ?_; refine L8_slice_l st8 (lo := n) (by with_unfolding_all (conv => lhs; whnf)) (by assumption) (by with_unfolding_all (conv => lhs; whnf)) (by omega) (by omega) ?_); intro v3 r3 _; clear c0; have c1 : True := trivial)
          | (have _t := c1; (at_builtin; refine wpList_cp8 rfl _ _ rfl st8 Tryd.underlying37 rfl rfl r3 (by omega) ?_); intro v4 w4 o4 g4; clear c1; have c2 : True := trivial))
        go_ret3
        exact ⟨_, by first | rfl | (rw [e1, ← hS]; rfl) | (rw [e1]; simp only [hS]; rfl), by first | exact o4.mono hb1.size | (rw [e1]; exact o4.mono hb1.size), below_below hb1 g4⟩
      · have hV' : Lib.validD (d.take n) = false := by simpa using hV
        rw [hV'] at RV
        have e1 : I = ([], [], 4) := by rw [hI2, if_neg hV]
        clear hI2
        have c0 : True := trivial
        go_wp2_with (first
          | (have _t := c0; go_at_call 73; refine U.mono ?_; rintro e w1 ⟨v1, rfl, ho1, hb1⟩; have r1 := ho1.rd; clear c0; have c1 : True := trivial)
          | (have _t := c1; (with_reducible refine G_len ?_; refine L8_len Tryd.underlying37 (by with_unfolding_all (conv => lhs; whnf)) (by assumption) ?_); clear c1; have c2 : True := trivial)
          | (have _t := c2; (with_reducible refine G_slice ?_; refine L8_slice_h st8 (hi := n) (by with_unfolding_all (conv => lhs; whnf)) (by assumption) (by with_unfolding_all (conv => lhs; whnf)) (by omega) (by omega) ?_); intro v2 r2 _; have hc2 := convert_str r2; rw [hS] at hc2; clear c2; have c3 : True := trivial))
        refine (RV _).mono ?_
        rintro e w' ⟨rfl, rfl⟩
        go_wp2_with fail
        go_ret3
        exact ⟨_, by first | rfl | (rw [e1]; rfl), by first | exact Own8.nil _ _ _ | (rw [e1]; exact Own8.nil _ _ _), hb1⟩
  · rw [if_neg hr] at U
    have e1 : I = ([], [], r) := by rw [hI.out, if_neg hr]
    have c0 : True := trivial
    go_wp2_with (first
      | (have _t := c0; go_at_call 73; refine U.mono ?_; rintro e w1 ⟨v1, rfl, ho1, hb1⟩; clear c0; have c1 : True := trivial))
    go_ret3
    exact ⟨_, by first | rfl | (rw [e1]; rfl), by first | exact Own8.nil _ _ _ | (rw [e1]; exact Own8.nil _ _ _), hb1⟩
end Go.Proofs.YtfnlcnjflloecaaDoor
