/- octet.Text. -/
import Derived.Test.YtfnlcnjflloecaaDoorOct8a
import Derived.Test.YtfnlcnjflloecaaDoorValid
set_option linter.unusedVariables false
set_option linter.unusedSimpArgs false
namespace Go.Proofs.YtfnlcnjflloecaaDoor
open Go.RowKit
set_option maxRecDepth 100000 in
set_option maxHeartbeats 3200000 in
theorem octtext_c (v : Value) (l : List UInt8) (most : Int) (w : World) (h : Rd w v l) (hl : l.length ≤ 10000000) (hm : -9223372036854775808 ≤ most ∧ most ≤ 9223372036854775807) (hT : Tabs w) :
    Calls Tryd.prog 69 #[v, .int .i64 most] w (GivesT w (textI l most.toNat)) := by
  have N := number_c v l w h
  have hn := numI_lt l
  have ha := numI_at l
  have hI : textI l most.toNat = if (numI l).2.2 = 0 then
    if most.toNat < (numI l).1 then ([], [], 5)
    else if l.length - (numI l).2.1 < (numI l).1 then ([], [], 2)
    else if Lib.validD ((l.drop (numI l).2.1).take (numI l).1) = true then ((l.drop (numI l).2.1).take (numI l).1, l.drop ((numI l).2.1 + (numI l).1), 0) else ([], [], 4)
  else ([], [], (numI l).2.2) := rfl
  unfold GivesN at N
  generalize textI l most.toNat = I at *
  generalize (numI l).1 = n at *
  generalize (numI l).2.1 = a at *
  generalize (numI l).2.2 = r at *
  obtain ⟨M, hM⟩ : ∃ M, most.toNat = M := ⟨_, rfl⟩
  rw [hM] at hI
  have hmx : max most 0 = (M : Int) := by omega
  have hM2 : M ≤ 9223372036854775807 := by omega
  replace hI := Go.Lib.hid hI
  clear hM
  go_enter Tryd.func69, Tryd.ntmps69
  by_cases hr : r = 0
  · subst hr
    replace hI := hI.out
    rw [if_pos rfl] at hI
    replace hI := Go.Lib.hid hI
    by_cases hneg : most < 0
    · have q1 : most < 0 := hneg
      obtain rfl : M = 0 := by omega
      clear hmx hm
      by_cases hA : 0 < n
      · have qA : (0 : Int) < (n : Int) := by omega
        have e1 : I = ([], [], 5) := by rw [hI.out, if_pos hA]
        clear hI
        have c0 : True := trivial
        go_wp2_with (first
          | (have _t := c0; go_at_call 109; refine N.mono ?_; rintro e w1 ⟨rfl, hb1⟩; clear c0; have c1 : True := trivial))
        go_ret3
        exact ⟨_, by first | rfl | (rw [e1]; rfl), by first | exact Own8.nil _ _ _ | (rw [e1]; exact Own8.nil _ _ _), hb1⟩
      have qA : ¬ (0 : Int) < (n : Int) := by omega
      have la : a ≤ l.length := ha
      have qla : (a : Int) ≤ (l.length : Int) := by omega
      have hsub : (l.length : Int) - (a : Int) = ((l.length - a : Nat) : Int) := by omega
      by_cases hB : l.length - a < n
      · have qB : ((l.length - a : Nat) : Int) < (n : Int) := by omega
        have e1 : I = ([], [], 2) := by rw [hI.out, if_neg hA, if_pos hB]
        clear hI
        generalize l.length - a = D at *
        have hD : D ≤ 10000000 := by omega
        have c0 : True := trivial
        go_wp2_with (first
          | (have _t := c0; go_at_call 109; refine N.mono ?_; rintro e w1 ⟨rfl, hb1⟩; have r1 := h.below hb1; clear c0; have c1 : True := trivial)
          | (have _t := c1; (with_reducible refine G_len ?_; refine L8_len Tryd.underlying37 (by with_unfolding_all (conv => lhs; whnf)) (by assumption) ?_); clear c1; have c2 : True := trivial))
        all_goals go_ret3
        all_goals exact ⟨_, by first | rfl | (rw [e1]; rfl), by first | exact Own8.nil _ _ _ | (rw [e1]; exact Own8.nil _ _ _), hb1⟩
      have hI2 : I = if Lib.validD ((l.drop a).take n) = true then ((l.drop a).take n, l.drop (a + n), 0) else ([], [], 4) := by rw [hI.out, if_neg hA, if_neg hB]
      clear hI
      obtain ⟨E, hE⟩ : ∃ E, a + n = E := ⟨_, rfl⟩
      have hEI : (a : Int) + (n : Int) = (E : Int) := by omega
      have hEl : E ≤ l.length := by omega
      have hnE : (n : Int) ≤ 10000000 := by omega
      obtain ⟨v1, hv1, r1, _⟩ := slice_run_lh h a E (by omega) hEl
      obtain ⟨v2, hv2, r2, _⟩ := slice_run_l h E hEl
      have hde : (l.take E).drop a = (l.drop a).take n := by rw [List.drop_take, show E - a = n by omega]
      rw [hde] at r1
      rw [hE] at hI2
      have hdl2 : (l.drop E).length = l.length - E := by simp
      generalize (l.drop a).take n = s at *
      have qB : ¬ ((l.length - a : Nat) : Int) < (n : Int) := by omega
      generalize l.length - a = D at *
      have hD : D ≤ 10000000 := by omega
      replace hE := Go.Lib.hid hE
      by_cases hV : Lib.validD s = true
      · have e1 : I = (s, l.drop E, 0) := by rw [hI2, if_pos hV]
        clear hI2
        have c0 : True := trivial
        go_upto_region 11 with (first
          | (have _t := c0; go_at_call 109; refine N.mono ?_; rintro e w1 ⟨rfl, hb1⟩; have r3 := h.below hb1; clear c0; have c1 : True := trivial)
          | (have _t := c1; (with_reducible refine G_len ?_; refine L8_len Tryd.underlying37 (by with_unfolding_all (conv => lhs; whnf)) (by assumption) ?_); clear c1; have c2 : True := trivial)
          | (have _t := c2; go_at_call 110; refine (valid_c v1 s _ (r1.below hb1) (hT.below hb1)).mono ?_; rintro e w2 ⟨rfl, hb2⟩; rw [hV]; have hb := below_below hb1 hb2; clear c2; have c3 : True := trivial))
        have g1 := r1.below hb
        have g2 := r2.below hb
        refine region_making 12 (fun _ => []) (fun | 8 => some fun _ => new8 5 (l.drop E) | _ => none) (by kernel_rfl) (by kernel_rfl) ?_ ?_
        · intro i' S' h' e v'
          match i', h' with
          | 8, h' => cases h'; exact new8_loc _ _ _ _
        simp only [List.take_succ_cons, List.take_zero, List.drop_succ_cons, List.drop_zero]
        (apply wpG_pure; (focus rfl); (focus (intro wg Bg hbg hBg hFg; go_simp; (try go_bits); (first | done | exact ⟨rfl, Below.refl _ _⟩ | rfl))); simp only [Act.put, List.setIfInBounds_toArray, List.set_cons_succ, List.set_cons_zero])
        (apply wpG_pure; (focus rfl); (focus (intro wg Bg hbg hBg hFg; go_simp; (try go_bits); (first | done | exact ⟨rfl, Below.refl _ _⟩ | rfl))); simp only [Act.put, List.setIfInBounds_toArray, List.set_cons_succ, List.set_cons_zero])
        (apply wpG_pure; (focus rfl); (focus (intro wg Bg hbg hBg hFg; go_simp; (try go_bits); (first | done | exact ⟨rfl, Below.refl _ _⟩ | rfl))); simp only [Act.put, List.setIfInBounds_toArray, List.set_cons_succ, List.set_cons_zero])
        (apply wpG_pure; (focus rfl); (focus (intro wg Bg hbg hBg hFg; go_simp; (try go_bits); (first | done | exact ⟨rfl, Below.refl _ _⟩ | rfl))); simp only [Act.put, List.setIfInBounds_toArray, List.set_cons_succ, List.set_cons_zero])
        (apply wpG_pure; (focus rfl); (focus (intro wg Bg hbg hBg hFg; have hc := convert_str (g1.drew.below hbg); go_simp; (try go_bits); (first | done | exact ⟨rfl, Below.refl _ _⟩ | rfl))); simp only [Act.put, List.setIfInBounds_toArray, List.set_cons_succ, List.set_cons_zero])
        (apply wpG_pure; (focus rfl); (focus (intro wg Bg hbg hBg hFg; go_simp; (try go_bits); (first | done | exact ⟨rfl, Below.refl _ _⟩ | rfl))); simp only [Act.put, List.setIfInBounds_toArray, List.set_cons_succ, List.set_cons_zero])
        (apply wpG_pure; (focus rfl); (focus (intro wg Bg hbg hBg hFg; go_simp; (try go_bits); (first | done | exact ⟨rfl, Below.refl _ _⟩ | rfl))); simp only [Act.put, List.setIfInBounds_toArray, List.set_cons_succ, List.set_cons_zero])
        (apply wpG_pure; (focus rfl); (focus (intro wg Bg hbg hBg hFg; go_simp; (try go_bits); (first | done | exact ⟨rfl, Below.refl _ _⟩ | rfl))); simp only [Act.put, List.setIfInBounds_toArray, List.set_cons_succ, List.set_cons_zero])
        (apply wpG_make; (focus rfl); (focus (intro wg Bg hbg hBg hFg; go_simp; go_at_call 111; exact Calls.mono (rest_c _ _ _ (g2.drew.below hbg) (by omega)) (fun e w' h => (by obtain ⟨u, rfl, ho, hb⟩ := h; exact ⟨u, rfl, Chg.of_below hb, ⟨ho.mono (Nat.zero_le _), fun g hg => (by first | exact .inr ⟨ho.base_le g hg, ho.lt g hg⟩ | exact ⟨ho.base_le g hg, ho.lt g hg⟩)⟩⟩)))); intro a8; simp only [Act.put, List.setIfInBounds_toArray, List.set_cons_succ, List.set_cons_zero])
        repeat (apply wpG_pure; (focus rfl); (focus (intro wg Bg hbg hBg hFg; go_simp; (try go_bits); (first | done | exact ⟨rfl, Below.refl _ _⟩ | rfl))); simp only [Act.put, List.setIfInBounds_toArray, List.set_cons_succ, List.set_cons_zero])
        refine wpG_end (fun wg Bg hbg hBg hFg => ?_)
        have hN : new8 5 (l.drop E) a8 (Bg 8) wg := hFg 8
        have hlo := hBg.lo 8
        clear hFg
        go_wp2_with fail
        go_ret3
        have hbb := hb.size
        exact ⟨_, by first | rfl | (rw [e1]; rfl), by first | exact hN.1.rebase2 (fun g hg => Nat.le_trans hbb (hlo g (hN.2 g hg))) | (rw [e1]; exact hN.1.rebase2 (fun g hg => Nat.le_trans hbb (hlo g (hN.2 g hg)))), below_below hb.drew hbg⟩
      · have hV' : Lib.validD s = false := by simpa using hV
        have e1 : I = ([], [], 4) := by rw [hI2, if_neg hV]
        clear hI2
        have c0 : True := trivial
        go_wp2_with (first
          | (have _t := c0; go_at_call 109; refine N.mono ?_; rintro e w1 ⟨rfl, hb1⟩; have r3 := h.below hb1; clear c0; have c1 : True := trivial)
          | (have _t := c1; (with_reducible refine G_len ?_; refine L8_len Tryd.underlying37 (by with_unfolding_all (conv => lhs; whnf)) (by assumption) ?_); clear c1; have c2 : True := trivial)
          | (have _t := c2; go_at_call 110; refine (valid_c v1 s _ (r1.below hb1) (hT.below hb1)).mono ?_; rintro e w2 ⟨rfl, hb2⟩; rw [hV']; have hb := below_below hb1 hb2; clear c2; have c3 : True := trivial))
        go_ret3
        exact ⟨_, by first | rfl | (rw [e1]; rfl), by first | exact Own8.nil _ _ _ | (rw [e1]; exact Own8.nil _ _ _), hb⟩
    · have q1 : ¬ most < 0 := hneg
      obtain rfl : most = (M : Int) := by omega
      have q11 : ¬ (M : Int) < 0 := by omega
      clear hmx hm
      by_cases hA : M < n
      · have qA : (M : Int) < (n : Int) := by omega
        have e1 : I = ([], [], 5) := by rw [hI.out, if_pos hA]
        clear hI
        have c0 : True := trivial
        go_wp2_with (first
          | (have _t := c0; go_at_call 109; refine N.mono ?_; rintro e w1 ⟨rfl, hb1⟩; clear c0; have c1 : True := trivial))
        go_ret3
        exact ⟨_, by first | rfl | (rw [e1]; rfl), by first | exact Own8.nil _ _ _ | (rw [e1]; exact Own8.nil _ _ _), hb1⟩
      have qA : ¬ (M : Int) < (n : Int) := by omega
      have la : a ≤ l.length := ha
      have qla : (a : Int) ≤ (l.length : Int) := by omega
      have hsub : (l.length : Int) - (a : Int) = ((l.length - a : Nat) : Int) := by omega
      by_cases hB : l.length - a < n
      · have qB : ((l.length - a : Nat) : Int) < (n : Int) := by omega
        have e1 : I = ([], [], 2) := by rw [hI.out, if_neg hA, if_pos hB]
        clear hI
        generalize l.length - a = D at *
        have hD : D ≤ 10000000 := by omega
        have c0 : True := trivial
        go_wp2_with (first
          | (have _t := c0; go_at_call 109; refine N.mono ?_; rintro e w1 ⟨rfl, hb1⟩; have r1 := h.below hb1; clear c0; have c1 : True := trivial)
          | (have _t := c1; (with_reducible refine G_len ?_; refine L8_len Tryd.underlying37 (by with_unfolding_all (conv => lhs; whnf)) (by assumption) ?_); clear c1; have c2 : True := trivial))
        all_goals go_ret3
        all_goals exact ⟨_, by first | rfl | (rw [e1]; rfl), by first | exact Own8.nil _ _ _ | (rw [e1]; exact Own8.nil _ _ _), hb1⟩
      have hI2 : I = if Lib.validD ((l.drop a).take n) = true then ((l.drop a).take n, l.drop (a + n), 0) else ([], [], 4) := by rw [hI.out, if_neg hA, if_neg hB]
      clear hI
      obtain ⟨E, hE⟩ : ∃ E, a + n = E := ⟨_, rfl⟩
      have hEI : (a : Int) + (n : Int) = (E : Int) := by omega
      have hEl : E ≤ l.length := by omega
      have hnE : (n : Int) ≤ 10000000 := by omega
      obtain ⟨v1, hv1, r1, _⟩ := slice_run_lh h a E (by omega) hEl
      obtain ⟨v2, hv2, r2, _⟩ := slice_run_l h E hEl
      have hde : (l.take E).drop a = (l.drop a).take n := by rw [List.drop_take, show E - a = n by omega]
      rw [hde] at r1
      rw [hE] at hI2
      have hdl2 : (l.drop E).length = l.length - E := by simp
      generalize (l.drop a).take n = s at *
      have qB : ¬ ((l.length - a : Nat) : Int) < (n : Int) := by omega
      generalize l.length - a = D at *
      have hD : D ≤ 10000000 := by omega
      replace hE := Go.Lib.hid hE
      by_cases hV : Lib.validD s = true
      · have e1 : I = (s, l.drop E, 0) := by rw [hI2, if_pos hV]
        clear hI2
        have c0 : True := trivial
        go_upto_region 11 with (first
          | (have _t := c0; go_at_call 109; refine N.mono ?_; rintro e w1 ⟨rfl, hb1⟩; have r3 := h.below hb1; clear c0; have c1 : True := trivial)
          | (have _t := c1; (with_reducible refine G_len ?_; refine L8_len Tryd.underlying37 (by with_unfolding_all (conv => lhs; whnf)) (by assumption) ?_); clear c1; have c2 : True := trivial)
          | (have _t := c2; go_at_call 110; refine (valid_c v1 s _ (r1.below hb1) (hT.below hb1)).mono ?_; rintro e w2 ⟨rfl, hb2⟩; rw [hV]; have hb := below_below hb1 hb2; clear c2; have c3 : True := trivial))
        have g1 := r1.below hb
        have g2 := r2.below hb
        refine region_making 12 (fun _ => []) (fun | 8 => some fun _ => new8 5 (l.drop E) | _ => none) (by kernel_rfl) (by kernel_rfl) ?_ ?_
        · intro i' S' h' e v'
          match i', h' with
          | 8, h' => cases h'; exact new8_loc _ _ _ _
        simp only [List.take_succ_cons, List.take_zero, List.drop_succ_cons, List.drop_zero]
        (apply wpG_pure; (focus rfl); (focus (intro wg Bg hbg hBg hFg; go_simp; (try go_bits); (first | done | exact ⟨rfl, Below.refl _ _⟩ | rfl))); simp only [Act.put, List.setIfInBounds_toArray, List.set_cons_succ, List.set_cons_zero])
        (apply wpG_pure; (focus rfl); (focus (intro wg Bg hbg hBg hFg; go_simp; (try go_bits); (first | done | exact ⟨rfl, Below.refl _ _⟩ | rfl))); simp only [Act.put, List.setIfInBounds_toArray, List.set_cons_succ, List.set_cons_zero])
        (apply wpG_pure; (focus rfl); (focus (intro wg Bg hbg hBg hFg; go_simp; (try go_bits); (first | done | exact ⟨rfl, Below.refl _ _⟩ | rfl))); simp only [Act.put, List.setIfInBounds_toArray, List.set_cons_succ, List.set_cons_zero])
        (apply wpG_pure; (focus rfl); (focus (intro wg Bg hbg hBg hFg; go_simp; (try go_bits); (first | done | exact ⟨rfl, Below.refl _ _⟩ | rfl))); simp only [Act.put, List.setIfInBounds_toArray, List.set_cons_succ, List.set_cons_zero])
        (apply wpG_pure; (focus rfl); (focus (intro wg Bg hbg hBg hFg; have hc := convert_str (g1.drew.below hbg); go_simp; (try go_bits); (first | done | exact ⟨rfl, Below.refl _ _⟩ | rfl))); simp only [Act.put, List.setIfInBounds_toArray, List.set_cons_succ, List.set_cons_zero])
        (apply wpG_pure; (focus rfl); (focus (intro wg Bg hbg hBg hFg; go_simp; (try go_bits); (first | done | exact ⟨rfl, Below.refl _ _⟩ | rfl))); simp only [Act.put, List.setIfInBounds_toArray, List.set_cons_succ, List.set_cons_zero])
        (apply wpG_pure; (focus rfl); (focus (intro wg Bg hbg hBg hFg; go_simp; (try go_bits); (first | done | exact ⟨rfl, Below.refl _ _⟩ | rfl))); simp only [Act.put, List.setIfInBounds_toArray, List.set_cons_succ, List.set_cons_zero])
        (apply wpG_pure; (focus rfl); (focus (intro wg Bg hbg hBg hFg; go_simp; (try go_bits); (first | done | exact ⟨rfl, Below.refl _ _⟩ | rfl))); simp only [Act.put, List.setIfInBounds_toArray, List.set_cons_succ, List.set_cons_zero])
        (apply wpG_make; (focus rfl); (focus (intro wg Bg hbg hBg hFg; go_simp; go_at_call 111; exact Calls.mono (rest_c _ _ _ (g2.drew.below hbg) (by omega)) (fun e w' h => (by obtain ⟨u, rfl, ho, hb⟩ := h; exact ⟨u, rfl, Chg.of_below hb, ⟨ho.mono (Nat.zero_le _), fun g hg => (by first | exact .inr ⟨ho.base_le g hg, ho.lt g hg⟩ | exact ⟨ho.base_le g hg, ho.lt g hg⟩)⟩⟩)))); intro a8; simp only [Act.put, List.setIfInBounds_toArray, List.set_cons_succ, List.set_cons_zero])
        repeat (apply wpG_pure; (focus rfl); (focus (intro wg Bg hbg hBg hFg; go_simp; (try go_bits); (first | done | exact ⟨rfl, Below.refl _ _⟩ | rfl))); simp only [Act.put, List.setIfInBounds_toArray, List.set_cons_succ, List.set_cons_zero])
        refine wpG_end (fun wg Bg hbg hBg hFg => ?_)
        have hN : new8 5 (l.drop E) a8 (Bg 8) wg := hFg 8
        have hlo := hBg.lo 8
        clear hFg
        go_wp2_with fail
        go_ret3
        have hbb := hb.size
        exact ⟨_, by first | rfl | (rw [e1]; rfl), by first | exact hN.1.rebase2 (fun g hg => Nat.le_trans hbb (hlo g (hN.2 g hg))) | (rw [e1]; exact hN.1.rebase2 (fun g hg => Nat.le_trans hbb (hlo g (hN.2 g hg)))), below_below hb.drew hbg⟩
      · have hV' : Lib.validD s = false := by simpa using hV
        have e1 : I = ([], [], 4) := by rw [hI2, if_neg hV]
        clear hI2
        have c0 : True := trivial
        go_wp2_with (first
          | (have _t := c0; go_at_call 109; refine N.mono ?_; rintro e w1 ⟨rfl, hb1⟩; have r3 := h.below hb1; clear c0; have c1 : True := trivial)
          | (have _t := c1; (with_reducible refine G_len ?_; refine L8_len Tryd.underlying37 (by with_unfolding_all (conv => lhs; whnf)) (by assumption) ?_); clear c1; have c2 : True := trivial)
          | (have _t := c2; go_at_call 110; refine (valid_c v1 s _ (r1.below hb1) (hT.below hb1)).mono ?_; rintro e w2 ⟨rfl, hb2⟩; rw [hV']; have hb := below_below hb1 hb2; clear c2; have c3 : True := trivial))
        go_ret3
        exact ⟨_, by first | rfl | (rw [e1]; rfl), by first | exact Own8.nil _ _ _ | (rw [e1]; exact Own8.nil _ _ _), hb⟩
  · have e1 : I = ([], [], r) := by rw [hI.out, if_neg hr]
    have qr : ¬ r = 0 := hr
    have c0 : True := trivial
    go_wp2_with (first
      | (have _t := c0; go_at_call 109; refine N.mono ?_; rintro e w1 ⟨rfl, hb1⟩; clear c0; have c1 : True := trivial))
    go_ret3
    exact ⟨_, by first | rfl | (rw [e1]; rfl), by first | exact Own8.nil _ _ _ | (rw [e1]; exact Own8.nil _ _ _), hb1⟩
end Go.Proofs.YtfnlcnjflloecaaDoor
