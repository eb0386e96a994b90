/- roostref02.Text. -/
import Derived.Test.YtfnlcnjflloecaaDoorNamW
set_option linter.unusedVariables false
set_option linter.unusedSimpArgs false
namespace Go.Proofs.YtfnlcnjflloecaaDoor
open Go.RowKit
theorem localI_len (s : List UInt8) : (localI s).1.length ≤ 64 := by
  unfold localI
  split
  · simp
  · rename_i h
    have h' : sizedI s = 0 := by omega
    obtain ⟨h1, _, h3⟩ := sizedI_zero.1 h'
    split
    · show (Lib.mapD foldI s).length ≤ 64
      rw [map_len foldI_ok foldI_sized s.length s (Nat.le_refl _) h3]; exact h1
    · simp
theorem resI_len (s : List UInt8) : (resI s).1.length ≤ 64 := by
  unfold resI
  split
  · simp
  · rename_i h
    have h' : sizedI s = 0 := by omega
    obtain ⟨h1, _, h3⟩ := sizedI_zero.1 h'
    split
    · exact h1
    · simp
theorem hostI_len (s : List UInt8) : (hostI s).1.length ≤ 64 := by
  unfold hostI
  split
  · simp
  · split
    · show (s.map lowB).length ≤ 64
      rw [List.length_map]; omega
    · simp
theorem strB_mid (a b : List UInt8) (x : UInt8) : strB (a ++ x :: b) = strB a ++ ⟨#[x]⟩ ++ strB b := by
  rw [show a ++ x :: b = (a ++ [x]) ++ b by simp, ← strB_append, ← strB_append]
  rfl
theorem s_empty0 : (strB []).toList.isEmpty = true := by rw [strB_toList]; rfl
set_option maxRecDepth 100000 in
set_option maxHeartbeats 3200000 in
theorem refntext_c (l h r : List UInt8) (w : World) (hl : l.length ≤ 9223372036854775807) (hh : h.length ≤ 9223372036854775807) (hr : r.length ≤ 9223372036854775807) :
    Calls Tryd.prog 13 #[.agg (jCells l h r).toArray] w (GivesSE w (textJ (l, h, r))) := by
  have PH := fun w1 => refhost_any h w1 hh
  have PL := fun w1 => reflocal_any l w1 hl
  have PR := fun w1 => refres_any r w1 hr
  have hI : textJ (l, h, r) = (if (hostI h).2 ≠ 0 then ([], (hostI h).2) else if (if l = [] then ([], 0) else localI l).2 ≠ 0 then ([], (if l = [] then ([], 0) else localI l).2)
    else if (if r = [] then ([], 0) else resI r).2 ≠ 0 then ([], (if r = [] then ([], 0) else resI r).2)
    else (catI (if l = [] then ([], 0) else localI l).1 (hostI h).1 (if r = [] then ([], 0) else resI r).1, 0)) := rfl
  have n1 := localI_len l
  have n2 := hostI_len h
  have n3 := resI_len r
  have d1 : (localI l).2 = 0 → (localI l).1 ≠ [] := fun e => (localI_ok (s := l) (a := (localI l).1) (Prod.ext rfl e)).ne
  have d3 : (resI r).2 = 0 → (resI r).1 ≠ [] := fun e => (resI_ok (s := r) (a := (resI r).1) (Prod.ext rfl e)).2
  unfold GivesSE at PH PL PR
  generalize textJ (l, h, r) = I at *
  generalize localI l = L at *
  generalize hostI h = H at *
  generalize resI r = R at *
  obtain ⟨l1, l2⟩ := L
  obtain ⟨k1, k2⟩ := H
  obtain ⟨r1, r2⟩ := R
  simp only at PH PL PR hI n1 n2 n3 d1 d3
  replace hI := Go.Lib.hid hI
  unfold jCells
  go_enter Tryd.func13, Tryd.ntmps13
  by_cases q1 : k2 = 0
  · subst q1
    by_cases hle : l = []
    · subst hle
      have hem := s_empty0
      by_cases hre : r = []
      · have hem3 := s_empty0
        subst hre
        have hI2 := hI.out
        simp at hI2
        have hc : strB (catI [] k1 []) = strB k1 := by
          simp [catI]
        subst hI2
        unfold GivesSE
        simp only
        rw [hc]
        clear hI hc d1 d3 n1 n2 n3
        generalize strB h = S2 at *
        
        generalize strB k1 = T2 at *
        have t10 : True := trivial
        go_wp2_with (first
          | (have _t := t10; (with_reducible refine G_box ?_; refine L_box (by with_unfolding_all (conv => lhs; whnf)) ?_); intro w1 hk1 hb1 hs1; clear hs1; have c0 : _ = some _ := hk1.cell 0; have c1 : _ = some _ := hk1.cell 1; have c2 : _ = some _ := hk1.cell 2; clear t10; have t11 : True := trivial)
          | (have _t := t11; go_at_call 43; refine (PH _).mono ?_; rintro e w2 ⟨rfl, hb2⟩; replace hk1 := hk1.below hb2; replace hb1 := below_below hb1 hb2; have c0 : _ = some _ := hk1.cell 0; have c1 : _ = some _ := hk1.cell 1; have c2 : _ = some _ := hk1.cell 2; clear t11; have t12 : True := trivial))
        go_ret2
        exact ⟨rfl, hb1⟩
      · have hem3 := s_empty r hre
        by_cases q3 : r2 = 0
        · have hne3 := d3 q3
          subst q3
          have hI2 := hI.out
          simp [hre] at hI2
          have hc : strB (catI [] k1 r1) = (strB k1 ++ ⟨#[47]⟩) ++ strB r1 := by
            simp [catI, hne3]
            simp only [strB_mid, ByteArray.append_assoc]
          subst hI2
          unfold GivesSE
          simp only
          rw [hc]
          have z3 : ¬ 9223372036854775807 < (strB k1).size + 1 := by simp only [strB_size]; omega
          have z4 : ¬ 9223372036854775807 < (strB k1).size + 1 + (strB r1).size := by simp only [strB_size]; omega
          clear hI hc d1 d3 n1 n2 n3
          generalize strB h = S2 at *
          generalize strB r = S3 at *
          generalize strB k1 = T2 at *
          generalize strB r1 = T3 at *
          have t20 : True := trivial
          go_wp2_with (first
            | (have _t := t20; (with_reducible refine G_box ?_; refine L_box (by with_unfolding_all (conv => lhs; whnf)) ?_); intro w1 hk1 hb1 hs1; clear hs1; have c0 : _ = some _ := hk1.cell 0; have c1 : _ = some _ := hk1.cell 1; have c2 : _ = some _ := hk1.cell 2; clear t20; have t21 : True := trivial)
            | (have _t := t21; go_at_call 43; refine (PH _).mono ?_; rintro e w2 ⟨rfl, hb2⟩; replace hk1 := hk1.below hb2; replace hb1 := below_below hb1 hb2; have c0 : _ = some _ := hk1.cell 0; have c1 : _ = some _ := hk1.cell 1; have c2 : _ = some _ := hk1.cell 2; clear t21; have t22 : True := trivial)
            | (have _t := t22; go_at_call 44; refine (PR _).mono ?_; rintro e w4 ⟨rfl, hb4⟩; replace hb1 := below_below hb1 hb4; clear t22; have t23 : True := trivial))
          go_ret2
          exact ⟨rfl, hb1⟩
        · have hI2 := hI.out
          simp [hre, q3] at hI2
          subst hI2
          clear hI d1 d3 n1 n2 n3
          generalize strB h = S2 at *
          generalize strB r = S3 at *
          generalize strB k1 = T2 at *
          generalize strB r1 = T3 at *
          have t30 : True := trivial
          go_wp2_with (first
            | (have _t := t30; (with_reducible refine G_box ?_; refine L_box (by with_unfolding_all (conv => lhs; whnf)) ?_); intro w1 hk1 hb1 hs1; clear hs1; have c0 : _ = some _ := hk1.cell 0; have c1 : _ = some _ := hk1.cell 1; have c2 : _ = some _ := hk1.cell 2; clear t30; have t31 : True := trivial)
            | (have _t := t31; go_at_call 43; refine (PH _).mono ?_; rintro e w2 ⟨rfl, hb2⟩; replace hk1 := hk1.below hb2; replace hb1 := below_below hb1 hb2; have c0 : _ = some _ := hk1.cell 0; have c1 : _ = some _ := hk1.cell 1; have c2 : _ = some _ := hk1.cell 2; clear t31; have t32 : True := trivial)
            | (have _t := t32; go_at_call 44; refine (PR _).mono ?_; rintro e w4 ⟨rfl, hb4⟩; replace hb1 := below_below hb1 hb4; clear t32; have t33 : True := trivial))
          go_ret2
          exact ⟨rfl, hb1⟩
    · have hem := s_empty l hle
      by_cases q2 : l2 = 0
      · have hne1 := d1 q2
        subst q2
        by_cases hre : r = []
        · have hem3 := s_empty0
          subst hre
          have hI2 := hI.out
          simp [hle] at hI2
          have hc : strB (catI l1 k1 []) = (strB l1 ++ ⟨#[64]⟩) ++ strB k1 := by
            simp [catI, hne1]
            simp only [strB_mid, ByteArray.append_assoc]
          subst hI2
          unfold GivesSE
          simp only
          rw [hc]
          have z1 : ¬ 9223372036854775807 < (strB l1).size + 1 := by rw [strB_size]; omega
          have z2 : ¬ 9223372036854775807 < (strB l1).size + 1 + (strB k1).size := by rw [strB_size, strB_size]; omega
          clear hI hc d1 d3 n1 n2 n3
          generalize strB l = S1 at *
          generalize strB h = S2 at *
          generalize strB l1 = T1 at *
          generalize strB k1 = T2 at *
          have t40 : True := trivial
          go_wp2_with (first
            | (have _t := t40; (with_reducible refine G_box ?_; refine L_box (by with_unfolding_all (conv => lhs; whnf)) ?_); intro w1 hk1 hb1 hs1; clear hs1; have c0 : _ = some _ := hk1.cell 0; have c1 : _ = some _ := hk1.cell 1; have c2 : _ = some _ := hk1.cell 2; clear t40; have t41 : True := trivial)
            | (have _t := t41; go_at_call 43; refine (PH _).mono ?_; rintro e w2 ⟨rfl, hb2⟩; replace hk1 := hk1.below hb2; replace hb1 := below_below hb1 hb2; have c0 : _ = some _ := hk1.cell 0; have c1 : _ = some _ := hk1.cell 1; have c2 : _ = some _ := hk1.cell 2; clear t41; have t42 : True := trivial)
            | (have _t := t42; go_at_call 42; refine (PL _).mono ?_; rintro e w3 ⟨rfl, hb3⟩; replace hk1 := hk1.below hb3; replace hb1 := below_below hb1 hb3; have c0 : _ = some _ := hk1.cell 0; have c2 : _ = some _ := hk1.cell 2; clear t42; have t43 : True := trivial))
          go_ret2
          exact ⟨rfl, hb1⟩
        · have hem3 := s_empty r hre
          by_cases q3 : r2 = 0
          · have hne3 := d3 q3
            subst q3
            have hI2 := hI.out
            simp [hle, hre] at hI2
            have hc : strB (catI l1 k1 r1) = (((strB l1 ++ ⟨#[64]⟩) ++ strB k1) ++ ⟨#[47]⟩) ++ strB r1 := by
              simp [catI, hne1, hne3]
              simp only [strB_mid, ByteArray.append_assoc]
            subst hI2
            unfold GivesSE
            simp only
            rw [hc]
            have z1 : ¬ 9223372036854775807 < (strB l1).size + 1 := by rw [strB_size]; omega
            have z2 : ¬ 9223372036854775807 < (strB l1).size + 1 + (strB k1).size := by rw [strB_size, strB_size]; omega
            have z3 : ¬ 9223372036854775807 < (strB l1).size + 1 + (strB k1).size + 1 := by simp only [strB_size]; omega
            have z4 : ¬ 9223372036854775807 < (strB l1).size + 1 + (strB k1).size + 1 + (strB r1).size := by simp only [strB_size]; omega
            clear hI hc d1 d3 n1 n2 n3
            generalize strB l = S1 at *
            generalize strB h = S2 at *
            generalize strB r = S3 at *
            generalize strB l1 = T1 at *
            generalize strB k1 = T2 at *
            generalize strB r1 = T3 at *
            have t50 : True := trivial
            go_wp2_with (first
              | (have _t := t50; (with_reducible refine G_box ?_; refine L_box (by with_unfolding_all (conv => lhs; whnf)) ?_); intro w1 hk1 hb1 hs1; clear hs1; have c0 : _ = some _ := hk1.cell 0; have c1 : _ = some _ := hk1.cell 1; have c2 : _ = some _ := hk1.cell 2; clear t50; have t51 : True := trivial)
              | (have _t := t51; go_at_call 43; refine (PH _).mono ?_; rintro e w2 ⟨rfl, hb2⟩; replace hk1 := hk1.below hb2; replace hb1 := below_below hb1 hb2; have c0 : _ = some _ := hk1.cell 0; have c1 : _ = some _ := hk1.cell 1; have c2 : _ = some _ := hk1.cell 2; clear t51; have t52 : True := trivial)
              | (have _t := t52; go_at_call 42; refine (PL _).mono ?_; rintro e w3 ⟨rfl, hb3⟩; replace hk1 := hk1.below hb3; replace hb1 := below_below hb1 hb3; have c0 : _ = some _ := hk1.cell 0; have c2 : _ = some _ := hk1.cell 2; clear t52; have t53 : True := trivial)
              | (have _t := t53; go_at_call 44; refine (PR _).mono ?_; rintro e w4 ⟨rfl, hb4⟩; replace hb1 := below_below hb1 hb4; clear t53; have t54 : True := trivial))
            go_ret2
            exact ⟨rfl, hb1⟩
          · have hI2 := hI.out
            simp [hre, q3, hle] at hI2
            subst hI2
            have z1 : ¬ 9223372036854775807 < (strB l1).size + 1 := by rw [strB_size]; omega
            have z2 : ¬ 9223372036854775807 < (strB l1).size + 1 + (strB k1).size := by rw [strB_size, strB_size]; omega
            clear hI d1 d3 n1 n2 n3
            generalize strB l = S1 at *
            generalize strB h = S2 at *
            generalize strB r = S3 at *
            generalize strB l1 = T1 at *
            generalize strB k1 = T2 at *
            generalize strB r1 = T3 at *
            have t60 : True := trivial
            go_wp2_with (first
              | (have _t := t60; (with_reducible refine G_box ?_; refine L_box (by with_unfolding_all (conv => lhs; whnf)) ?_); intro w1 hk1 hb1 hs1; clear hs1; have c0 : _ = some _ := hk1.cell 0; have c1 : _ = some _ := hk1.cell 1; have c2 : _ = some _ := hk1.cell 2; clear t60; have t61 : True := trivial)
              | (have _t := t61; go_at_call 43; refine (PH _).mono ?_; rintro e w2 ⟨rfl, hb2⟩; replace hk1 := hk1.below hb2; replace hb1 := below_below hb1 hb2; have c0 : _ = some _ := hk1.cell 0; have c1 : _ = some _ := hk1.cell 1; have c2 : _ = some _ := hk1.cell 2; clear t61; have t62 : True := trivial)
              | (have _t := t62; go_at_call 42; refine (PL _).mono ?_; rintro e w3 ⟨rfl, hb3⟩; replace hk1 := hk1.below hb3; replace hb1 := below_below hb1 hb3; have c0 : _ = some _ := hk1.cell 0; have c2 : _ = some _ := hk1.cell 2; clear t62; have t63 : True := trivial)
              | (have _t := t63; go_at_call 44; refine (PR _).mono ?_; rintro e w4 ⟨rfl, hb4⟩; replace hb1 := below_below hb1 hb4; clear t63; have t64 : True := trivial))
            go_ret2
            exact ⟨rfl, hb1⟩
      · have hI2 := hI.out
        simp [hle, q2] at hI2
        subst hI2
        clear hI d1 d3 n1 n2 n3
        generalize strB l = S1 at *
        generalize strB h = S2 at *
        generalize strB r = S3 at *
        have t70 : True := trivial
        go_wp2_with (first
          | (have _t := t70; (with_reducible refine G_box ?_; refine L_box (by with_unfolding_all (conv => lhs; whnf)) ?_); intro w1 hk1 hb1 hs1; clear hs1; have c0 : _ = some _ := hk1.cell 0; have c1 : _ = some _ := hk1.cell 1; have c2 : _ = some _ := hk1.cell 2; clear t70; have t71 : True := trivial)
          | (have _t := t71; go_at_call 43; refine (PH _).mono ?_; rintro e w2 ⟨rfl, hb2⟩; replace hk1 := hk1.below hb2; replace hb1 := below_below hb1 hb2; have c0 : _ = some _ := hk1.cell 0; have c1 : _ = some _ := hk1.cell 1; have c2 : _ = some _ := hk1.cell 2; clear t71; have t72 : True := trivial)
          | (have _t := t72; go_at_call 42; refine (PL _).mono ?_; rintro e w3 ⟨rfl, hb3⟩; replace hk1 := hk1.below hb3; replace hb1 := below_below hb1 hb3; have c0 : _ = some _ := hk1.cell 0; have c2 : _ = some _ := hk1.cell 2; clear t72; have t73 : True := trivial))
        go_ret2
        exact ⟨rfl, hb1⟩
  · have hI2 := hI.out
    rw [if_pos q1] at hI2
    subst hI2
    clear hI PL PR n1 n3
    generalize strB l = S1 at *
    generalize strB h = S2 at *
    generalize strB r = S3 at *
    have ta0 : True := trivial
    go_wp2_with (first
      | (have _t := ta0; (with_reducible refine G_box ?_; refine L_box (by with_unfolding_all (conv => lhs; whnf)) ?_); intro w1 hk1 hb1 hs1; clear hs1; have c1 : _ = some _ := hk1.cell 1; clear ta0; have ta1 : True := trivial)
      | (have _t := ta1; go_at_call 43; refine (PH _).mono ?_; rintro e w2 ⟨rfl, hb2⟩; clear ta1; have ta2 : True := trivial))
    go_ret2
    exact ⟨rfl, below_below hb1 hb2⟩
end Go.Proofs.YtfnlcnjflloecaaDoor
