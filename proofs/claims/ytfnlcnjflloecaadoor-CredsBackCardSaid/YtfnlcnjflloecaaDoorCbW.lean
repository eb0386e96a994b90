/- The walk of roostlaw08.CredsBack. -/
import Derived.Test.YtfnlcnjflloecaaDoorCbP
set_option linter.unusedVariables false
set_option linter.unusedSimpArgs false
set_option linter.unnecessarySimpa false
namespace Go.Proofs.YtfnlcnjflloecaaDoor
open Go.RowKit
theorem writeR_le {u s A B : List UInt8} {n : Int} (h : rightB u s n = true) (hA : A.length = 32) (hB : B.length = 32) : (writeR u s n A B).length ≤ 1000 := by
  obtain ⟨h1, h2, h3, h4, h5, h6⟩ := rightB_true2 h
  have k1 := formU_len64 u.length (by omega)
  have k2 := formU_len64 s.length (by omega)
  have k3 := formU_len64 n.toNat (by omega)
  unfold writeR
  simp [hA, hB]
  omega
set_option maxRecDepth 100000 in
set_option maxHeartbeats 12800000 in
theorem credsBack_w (w : World) (hT : Tabs w) (u0 : List UInt8) (vs : Value) (s0 : List UInt8) (n : Int) (A B : List UInt8) (hu : u0.length ≤ 9223372036854775807) (hs : Rd w vs s0) (hv : vs.oneCell' = true)
    (hn : -9223372036854775808 ≤ n ∧ n ≤ 9223372036854775807) (hA : A.length = 32) (hB : B.length = 32) (v1 : Value) (l0 : List UInt8) (h1 : Rd w v1 l0) :
    Calls Tryd.prog 7 #[.agg (recC u0 vs n A B).toArray, v1] w (Ok w) := by
  have lu : (u0.take 100).length ≤ 100 := by simp; omega
  have ls : (s0.take 40).length ≤ 40 := by simp; omega
  have ll : (l0.take 200).length ≤ 200 := by simp; omega
  have TC := fun w1 (hb : Below w.heap.size w w1) => ctwin_c u0 vs s0 n A B w1 (hs.below hb) hv hu hA hB
  have nS : ∀ x v, (recC x v n A B).length = 67 := fun x v => recC_len hA hB
  have oS : ∀ x v, v.oneCell' = true → ∀ y ∈ recC x v n A B, y.oneCell' = true := fun x v h => recC_one h
  generalize u0.take 100 = u at *
  generalize s0.take 40 = s at *
  have eu : u.take 100 = u := List.take_of_length_le lu
  have es : s.take 40 = s := List.take_of_length_le ls
  have TD := fun v w1 (h : Rd w1 v s) (hv) => ctwin_c u v s n A B w1 h hv (by omega) hA hB
  simp only [eu, es] at TD
  have WC := fun v w1 h (hb : Below w.heap.size w w1) => cwrite_c u v s n A B w1 h (by omega) hA hB (hT.below hb)
  have FC := fun w1 (hb : Below w.heap.size w w1) => few8_c v1 l0 w1 (h1.below hb)
  have RB := fun v w1 (hq : rightB u s n = true) h (hb : Below w.heap.size w w1) => cread_c v (writeR u s n A B) w1 h (by have := writeR_le hq hA hB; omega) (hT.below hb)
  have RBI := fun (hq : rightB u s n = true) => readI_write hq hA hB
  have hc := readI_cases (l0.take 200)
  generalize l0.take 200 = l at *
  have RC := fun v w1 h (hb : Below w.heap.size w w1) => cread_c v l w1 h (by omega) (hT.below hb)
  have SC := fun v2 v3 w1 h1 h2 => csame_c v2 v3 u s n A B w1 h1 h2 hA hB
  clear eu es lu ls hn
  have nR := rec_zero_len
  have zR' := zR
  generalize readI l = I at *
  generalize writeR u s n A B = X at *
  replace hc := Go.Lib.hid hc
  cases hq : rightB u s n
  · rw [hq] at WC
    simp only [Bool.false_eq_true, if_false] at WC
    clear RB RBI SC hq
    go_enter Tryd.func7, Tryd.ntmps7
    have ta10 : True := trivial
    go_upto_region 1 with (first
      | (have _t := ta10; (with_reducible refine G_box ?_; refine L_box (by with_unfolding_all (conv => lhs; whnf)) ?_); intro w1 hk1 hb1 hs1; replace hk1 : Blk w1 w.heap.size 42 (recC u0 vs n A B) := hk1; clear ta10; have ta11 : True := trivial))
    have tb10 : True := trivial
    go_upto_region 2 with (first
      | (have _t := tb10; (with_reducible refine G_load ?_; refine L_load_agg agR (by with_unfolding_all (conv => lhs; whnf)) hk1 (nS _ _) ?_); clear tb10; have tb11 : True := trivial)
      | (have _t := tb11; go_at_call 22; refine (TC _ hb1).mono ?_; rintro e w2 ⟨v2, rfl, ho2, hv2, hb2⟩; have hW2 := below_below hb1 hb2; clear tb11; have tb12 : True := trivial)
      | (have _t := tb12; (with_reducible refine G_alloc ?_; refine L_alloc zR' ?_); intro w3 hk3 hb3 hs3; have hr3 := ho2.rd.below hb3; have hW3 := below_below hW2 hb3; clear tb12; have tb13 : True := trivial)
      | (have _t := tb13; (with_reducible refine G_store ?_; refine L_store_agg agR (by with_unfolding_all (conv => lhs; whnf)) (by with_unfolding_all (conv => lhs; whnf)) hk3 nR (by simpa using nS _ _) (fun y hy => oS _ _ hv2 y (by simpa using hy)) ?_); intro w4 hk4 hg4 hs4; clear tb13; have tb14 : True := trivial))
    have z2 := hW2.size
    have hr4 := hr3.grown hg4 (fun _ e => by have := ho2.lt _ e; omega)
    have l2 : ∀ g, v2.ownBlock = some g → g < w2.heap.size := fun g e => ho2.lt g e
    have hW : Below w.heap.size w w4 := hW3.grown hg4 hW3.size (by intro k hk; cases hk; exact z2)
    replace hk4 : Blk w4 w2.heap.size 42 (recC u v2 n A B) := by simpa using hk4
    clear hk1 hb1 hs1 ho2 hb2 hW2 hk3 hb3 hs3 hr3 hW3 hg4 hs4 z2 TC
    have tc10 : True := trivial
    go_upto_region 3 with (first
      | (have _t := tc10; (with_reducible refine G_load ?_; refine L_load_agg agR (by with_unfolding_all (conv => lhs; whnf)) hk4 (nS _ _) ?_); clear tc10; have tc11 : True := trivial)
      | (have _t := tc11; go_at_call 22; refine (TD v2 w4 hr4 hv2).mono ?_; rintro e w5 ⟨v3, rfl, ho5, hv5, hb5⟩; replace hk4 := hk4.below hb5; replace hr4 := hr4.below hb5; replace hW := below_below hW hb5; clear tc11; have tc12 : True := trivial)
      | (have _t := tc12; go_at_call 23; refine (WC v3 _ ho5.rd hW).mono ?_; rintro e w6 ⟨v6, rfl, ho6, hb6⟩; replace hk4 := hk4.below hb6; replace hr4 := hr4.below hb6; replace hW := below_below hW hb6; clear tc12; have tc13 : True := trivial))
    clear ho5 hv5 hb5 hb6 TD WC
    clear hk4 hr4 l2 ho6 oS nS
    rcases hc.out with hI | ⟨u2, s2, n2, A2, B2, hI, hA2, hB2, hq2, hX⟩
    · rw [hI] at RC
      unfold GivesR at RC; simp only [badR] at RC
      clear hI hc
      have tf20 : True := trivial
      go_upto_region 8 with (first
        | (have _t := tf20; go_at_call 27; refine (FC _ hW).mono ?_; rintro e wa ⟨va, rfl, hoa, hba⟩; replace hW := below_below hW hba; clear tf20; have tf21 : True := trivial)
        | (have _t := tf21; go_at_call 26; refine (RC va _ hoa.rd hW).mono ?_; rintro e wb ⟨vb, rfl, hob, hvb, hbb⟩; replace hW := below_below hW hbb; clear tf21; have tf22 : True := trivial)
        | (have _t := tf22; (with_reducible refine G_alloc ?_; refine L_alloc zR' ?_); intro wc hkc hbc hsc; have hrc := hob.rd.below hbc; have hWc := below_below hW hbc; clear tf22; have tf23 : True := trivial)
        | (have _t := tf23; (with_reducible refine G_store ?_; refine L_store_agg agR (by with_unfolding_all (conv => lhs; whnf)) (by with_unfolding_all (conv => lhs; whnf)) hkc nR (by simpa using recC_len rfl rfl) (fun y hy => recC_one hvb y (by simpa using hy)) ?_); intro wd hkd hgd hsd; clear tf23; have tf24 : True := trivial))
      have hrd := hrc.grown hgd (fun _ e => by have := hob.lt _ e; omega)
      have zb := hW.size
      have hWd : Below w.heap.size w wd := hWc.grown hgd hWc.size (by intro k hk; cases hk; exact zb)
      replace hkd : Blk wd wb.heap.size 42 (recC [] vb 0 zB zB) := by simpa using hkd
      have nZ : (recC [] vb 0 zB zB).length = 67 := recC_len rfl rfl
      clear hoa hba hob hvb hbb hW hkc hbc hsc hrc hWc hgd hsd zb RC FC
      have tg20 : True := trivial
      go_wp2_with (first
        | (have _t := tg20; (with_reducible refine G_load ?_; refine L_load_agg agR (by with_unfolding_all (conv => lhs; whnf)) hkd nZ ?_); clear tg20; have tg21 : True := trivial)
        | (have _t := tg21; (with_reducible refine G_build ?_; refine L_build (recC [] (.slice none 0 0) 0 zB zB).toArray (by kernel_rfl) ?_); clear tg21; have tg22 : True := trivial)
        | (have _t := tg22; go_at_call 20; refine (csame_c vb (.slice none 0 0) [] [] 0 zB zB _ hrd (Rd.nil _) rfl rfl).mono ?_; rintro e we ⟨rfl, hbe⟩; replace hWd := below_below hWd hbe; clear tg22; have tg23 : True := trivial)
        | (have _t := tg23; go_at_call 21; refine (wakes8_c _).mono ?_; rintro e wf ⟨rfl, hbf⟩; clear tg23; have tg24 : True := trivial))
      go_ret
      exact ⟨rfl, below_below hWd hbf⟩
    · rw [hI] at RC
      unfold GivesR at RC; simp only at RC
      clear hI hc
      have hl2 := (rightB_true2 hq2).1
      have nT : ∀ x v, (recC x v n2 A2 B2).length = 67 := fun x v => recC_len hA2 hB2
      have oT : ∀ x v, v.oneCell' = true → ∀ y ∈ recC x v n2 A2 B2, y.oneCell' = true := fun x v h => recC_one h
      have WC2 := fun v w1 h (hb : Below w.heap.size w w1) => cwrite_c u2 v s2 n2 A2 B2 w1 h (by omega) hA2 hB2 (hT.below hb)
      rw [hq2, hX, if_pos rfl] at WC2
      clear hX hq2 hl2
      have th20 : True := trivial
      go_upto_region 8 with (first
        | (have _t := th20; go_at_call 27; refine (FC _ hW).mono ?_; rintro e wa ⟨va, rfl, hoa, hba⟩; replace hW := below_below hW hba; clear th20; have th21 : True := trivial)
        | (have _t := th21; go_at_call 26; refine (RC va _ hoa.rd hW).mono ?_; rintro e wb ⟨vb, rfl, hob, hvb, hbb⟩; replace hW := below_below hW hbb; clear th21; have th22 : True := trivial)
        | (have _t := th22; (with_reducible refine G_alloc ?_; refine L_alloc zR' ?_); intro wc hkc hbc hsc; have hrc := hob.rd.below hbc; have hWc := below_below hW hbc; clear th22; have th23 : True := trivial)
        | (have _t := th23; (with_reducible refine G_store ?_; refine L_store_agg agR (by with_unfolding_all (conv => lhs; whnf)) (by with_unfolding_all (conv => lhs; whnf)) hkc nR (by simpa using nT _ _) (fun y hy => oT _ _ hvb y (by simpa using hy)) ?_); intro wd hkd hgd hsd; clear th23; have th24 : True := trivial))
      have hrd := hrc.grown hgd (fun _ e => by have := hob.lt _ e; omega)
      have zb := hW.size
      have hWd : Below w.heap.size w wd := hWc.grown hgd hWc.size (by intro k hk; cases hk; exact zb)
      replace hkd : Blk wd wb.heap.size 42 (recC u2 vb n2 A2 B2) := by simpa using hkd
      clear hoa hba hob hvb hbb hW hkc hbc hsc hrc hWc hgd hsd zb RC oT
      have ti20 : True := trivial
      go_upto_region 10 with (first
        | (have _t := ti20; (with_reducible refine G_load ?_; refine L_load_agg agR (by with_unfolding_all (conv => lhs; whnf)) hkd (nT _ _) ?_); clear ti20; have ti21 : True := trivial)
        | (have _t := ti21; go_at_call 23; refine (WC2 vb _ hrd hWd).mono ?_; rintro e we ⟨ve, rfl, hoe, hbe⟩; replace hWd := below_below hWd hbe; clear ti21; have ti22 : True := trivial))
      have hre := hoe.rd
      have q1 := str_self l
      clear hkd hrd hbe hoe nT WC2
      refine region_making 14 (fun _ => []) (fun | 6 => some fun _ => new8 5 l | _ => none) (by kernel_rfl) (by kernel_rfl) ?_ ?_
      · intro i' S' h' e v'
        match i', h' with
        | 6, h' => cases h'; exact new8_loc _ _ _ _
      simp only [List.take_succ_cons, List.take_zero, List.drop_succ_cons, List.drop_zero]
      (apply wpG_pure; (focus rfl); (focus (intro wg Bg hbg hBg hFg; go_simp; (try go_bits); (first | done | exact ⟨rfl, Below.refl _ _⟩ | rfl))); simp only [Act.put, List.setIfInBounds_toArray, List.set_cons_succ, List.set_cons_zero])
      (apply wpG_pure; (focus rfl); (focus (intro wg Bg hbg hBg hFg; go_simp; (try go_bits); (first | done | exact ⟨rfl, Below.refl _ _⟩ | rfl))); simp only [Act.put, List.setIfInBounds_toArray, List.set_cons_succ, List.set_cons_zero])
      (apply wpG_pure; (focus rfl); (focus (intro wg Bg hbg hBg hFg; go_simp; (try go_bits); (first | done | exact ⟨rfl, Below.refl _ _⟩ | rfl))); simp only [Act.put, List.setIfInBounds_toArray, List.set_cons_succ, List.set_cons_zero])
      (apply wpG_pure; (focus rfl); (focus (intro wg Bg hbg hBg hFg; go_simp; (try go_bits); (first | done | exact ⟨rfl, Below.refl _ _⟩ | rfl))); simp only [Act.put, List.setIfInBounds_toArray, List.set_cons_succ, List.set_cons_zero])
      (apply wpG_pure; (focus rfl); (focus (intro wg Bg hbg hBg hFg; have hc := convert_str (hre.drew.below hbg); go_simp; (try go_bits); (first | done | exact ⟨rfl, Below.refl _ _⟩ | rfl))); simp only [Act.put, List.setIfInBounds_toArray, List.set_cons_succ, List.set_cons_zero])
      (apply wpG_pure; (focus rfl); (focus (intro wg Bg hbg hBg hFg; go_simp; (try go_bits); (first | done | exact ⟨rfl, Below.refl _ _⟩ | rfl))); simp only [Act.put, List.setIfInBounds_toArray, List.set_cons_succ, List.set_cons_zero])
      (apply wpG_make; (focus rfl); (focus (intro wg Bg hbg hBg hFg; go_simp; go_at_call 27; exact Calls.mono (FC _ (hWd.drew.trans (hbg.mono hWd.size))) (fun e w' h => (by obtain ⟨u, rfl, ho, hb⟩ := h; exact ⟨u, rfl, Chg.of_below hb, ⟨ho.mono (Nat.zero_le _), fun g hg => (by first | exact .inr ⟨ho.base_le g hg, ho.lt g hg⟩ | exact ⟨ho.base_le g hg, ho.lt g hg⟩)⟩⟩)))); intro a6; simp only [Act.put, List.setIfInBounds_toArray, List.set_cons_succ, List.set_cons_zero])
      (apply wpG_pure; (focus rfl); (focus (intro wg Bg hbg hBg hFg; have hc := convert_str (Own8.rd (hFg 6 (by decide +kernel) : new8 5 l a6 (Bg 6) wg).1); go_simp; (try go_bits); (first | done | exact ⟨rfl, Below.refl _ _⟩ | rfl))); simp only [Act.put, List.setIfInBounds_toArray, List.set_cons_succ, List.set_cons_zero])
      (apply wpG_pure; (focus rfl); (focus (intro wg Bg hbg hBg hFg; go_simp; (try go_bits); (first | done | exact ⟨rfl, Below.refl _ _⟩ | rfl))); simp only [Act.put, List.setIfInBounds_toArray, List.set_cons_succ, List.set_cons_zero])
      (apply wpG_pure; (focus rfl); (focus (intro wg Bg hbg hBg hFg; go_simp; (try go_bits); (first | done | exact ⟨rfl, Below.refl _ _⟩ | rfl))); simp only [Act.put, List.setIfInBounds_toArray, List.set_cons_succ, List.set_cons_zero])
      (apply wpG_pure; (focus rfl); (focus (intro wg Bg hbg hBg hFg; go_simp; (try go_bits); (first | done | exact ⟨rfl, Below.refl _ _⟩ | rfl))); simp only [Act.put, List.setIfInBounds_toArray, List.set_cons_succ, List.set_cons_zero])
      (apply wpG_pure; (focus rfl); (focus (intro wg Bg hbg hBg hFg; go_simp; (try refine ⟨by kernel_rfl, ?_⟩); go_at_call 21; exact Calls.mono (wakes8_c _) (fun e w' h => (by obtain ⟨rfl, hb⟩ := h; exact ⟨rfl, hb⟩)))); simp only [Act.put, List.setIfInBounds_toArray, List.set_cons_succ, List.set_cons_zero])
      (apply wpG_pure; (focus rfl); (focus (intro wg Bg hbg hBg hFg; go_simp; (try go_bits); (first | done | exact ⟨rfl, Below.refl _ _⟩ | rfl))); simp only [Act.put, List.setIfInBounds_toArray, List.set_cons_succ, List.set_cons_zero])
      (apply wpG_pure; (focus rfl); (focus (intro wg Bg hbg hBg hFg; go_simp; (try go_bits); (first | done | exact ⟨rfl, Below.refl _ _⟩ | rfl))); simp only [Act.put, List.setIfInBounds_toArray, List.set_cons_succ, List.set_cons_zero])
      refine wpG_end (fun wg Bg hbg hBg hFg => ?_)
      have hWg : Below w.heap.size w wg := hWd.drew.trans (hbg.mono hWd.size)
      clear hFg hBg hbg
      go_wp2_with fail
      go_ret
      exact ⟨rfl, hWg⟩
  · rw [hq, if_pos rfl] at WC
    replace RB := fun v w1 => RB v w1 hq
    rw [RBI hq] at RB
    clear RBI hq
    unfold GivesR at RB; simp only at RB
    go_enter Tryd.func7, Tryd.ntmps7
    have ta30 : True := trivial
    go_upto_region 1 with (first
      | (have _t := ta30; (with_reducible refine G_box ?_; refine L_box (by with_unfolding_all (conv => lhs; whnf)) ?_); intro w1 hk1 hb1 hs1; replace hk1 : Blk w1 w.heap.size 42 (recC u0 vs n A B) := hk1; clear ta30; have ta31 : True := trivial))
    have tb30 : True := trivial
    go_upto_region 2 with (first
      | (have _t := tb30; (with_reducible refine G_load ?_; refine L_load_agg agR (by with_unfolding_all (conv => lhs; whnf)) hk1 (nS _ _) ?_); clear tb30; have tb31 : True := trivial)
      | (have _t := tb31; go_at_call 22; refine (TC _ hb1).mono ?_; rintro e w2 ⟨v2, rfl, ho2, hv2, hb2⟩; have hW2 := below_below hb1 hb2; clear tb31; have tb32 : True := trivial)
      | (have _t := tb32; (with_reducible refine G_alloc ?_; refine L_alloc zR' ?_); intro w3 hk3 hb3 hs3; have hr3 := ho2.rd.below hb3; have hW3 := below_below hW2 hb3; clear tb32; have tb33 : True := trivial)
      | (have _t := tb33; (with_reducible refine G_store ?_; refine L_store_agg agR (by with_unfolding_all (conv => lhs; whnf)) (by with_unfolding_all (conv => lhs; whnf)) hk3 nR (by simpa using nS _ _) (fun y hy => oS _ _ hv2 y (by simpa using hy)) ?_); intro w4 hk4 hg4 hs4; clear tb33; have tb34 : True := trivial))
    have z2 := hW2.size
    have hr4 := hr3.grown hg4 (fun _ e => by have := ho2.lt _ e; omega)
    have l2 : ∀ g, v2.ownBlock = some g → g < w2.heap.size := fun g e => ho2.lt g e
    have hW : Below w.heap.size w w4 := hW3.grown hg4 hW3.size (by intro k hk; cases hk; exact z2)
    replace hk4 : Blk w4 w2.heap.size 42 (recC u v2 n A B) := by simpa using hk4
    clear hk1 hb1 hs1 ho2 hb2 hW2 hk3 hb3 hs3 hr3 hW3 hg4 hs4 z2 TC
    have tc30 : True := trivial
    go_upto_region 3 with (first
      | (have _t := tc30; (with_reducible refine G_load ?_; refine L_load_agg agR (by with_unfolding_all (conv => lhs; whnf)) hk4 (nS _ _) ?_); clear tc30; have tc31 : True := trivial)
      | (have _t := tc31; go_at_call 22; refine (TD v2 w4 hr4 hv2).mono ?_; rintro e w5 ⟨v3, rfl, ho5, hv5, hb5⟩; replace hk4 := hk4.below hb5; replace hr4 := hr4.below hb5; replace hW := below_below hW hb5; clear tc31; have tc32 : True := trivial)
      | (have _t := tc32; go_at_call 23; refine (WC v3 _ ho5.rd hW).mono ?_; rintro e w6 ⟨v6, rfl, ho6, hb6⟩; replace hk4 := hk4.below hb6; replace hr4 := hr4.below hb6; replace hW := below_below hW hb6; clear tc32; have tc33 : True := trivial))
    clear ho5 hv5 hb5 hb6 TD WC
    have td40 : True := trivial
    go_upto_region 5 with (first
      | (have _t := td40; go_at_call 26; refine (RB v6 _ ho6.rd hW).mono ?_; rintro e w7 ⟨v7, rfl, ho7, hv7, hb7⟩; replace hk4 := hk4.below hb7; replace hr4 := hr4.below hb7; replace hW := below_below hW hb7; have l4 := hk4.lt; clear td40; have td41 : True := trivial)
      | (have _t := td41; (with_reducible refine G_alloc ?_; refine L_alloc zR' ?_); intro w8 hk8 hb8 hs8; have hr8 := ho7.rd.below hb8; have hW8 := below_below hW hb8; replace hk4 := hk4.below hb8; replace hr4 := hr4.below hb8; clear td41; have td42 : True := trivial)
      | (have _t := td42; (with_reducible refine G_store ?_; refine L_store_agg agR (by with_unfolding_all (conv => lhs; whnf)) (by with_unfolding_all (conv => lhs; whnf)) hk8 nR (by simpa using nS _ _) (fun y hy => oS _ _ hv7 y (by simpa using hy)) ?_); intro w9 hk9 hg9 hs9; clear td42; have td43 : True := trivial))
    have z7 := hW.size
    have hr9 := hr8.grown hg9 (fun _ e => by have := ho7.lt _ e; omega)
    replace hr4 := hr4.grown hg9 (fun _ e => by have := l2 _ e; omega)
    replace hk4 := hk4.grown hg9 (by simp; omega)
    replace hW : Below w.heap.size w w9 := hW8.grown hg9 hW8.size (by intro k hk; cases hk; exact z7)
    replace hk9 : Blk w9 w7.heap.size 42 (recC u v7 n A B) := by simpa using hk9
    clear ho6 ho7 hv7 hb7 l4 hk8 hb8 hs8 hr8 hW8 hg9 hs9 z7 RB l2 oS
    have te40 : True := trivial
    go_upto_region 7 with (first
      | (have _t := te40; (refine L_load_aggw (by go_simp) rfl agR (by with_unfolding_all (conv => lhs; whnf)) hk4 (nS _ _) ?_); clear te40; have te41 : True := trivial)
      | (have _t := te41; (refine L_load_aggw (by go_simp) rfl agR (by with_unfolding_all (conv => lhs; whnf)) hk9 (nS _ _) ?_); clear te41; have te42 : True := trivial)
      | (have _t := te42; go_at_call 20; refine (SC v2 v7 _ hr4 hr9).mono ?_; rintro e wz ⟨rfl, hbz⟩; replace hW := below_below hW hbz; clear te42; have te43 : True := trivial))
    clear hk4 hk9 hr4 hr9 SC nS
    rcases hc.out with hI | ⟨u2, s2, n2, A2, B2, hI, hA2, hB2, hq2, hX⟩
    · rw [hI] at RC
      unfold GivesR at RC; simp only [badR] at RC
      clear hI hc
      have tf50 : True := trivial
      go_upto_region 8 with (first
        | (have _t := tf50; go_at_call 27; refine (FC _ hW).mono ?_; rintro e wa ⟨va, rfl, hoa, hba⟩; replace hW := below_below hW hba; clear tf50; have tf51 : True := trivial)
        | (have _t := tf51; go_at_call 26; refine (RC va _ hoa.rd hW).mono ?_; rintro e wb ⟨vb, rfl, hob, hvb, hbb⟩; replace hW := below_below hW hbb; clear tf51; have tf52 : True := trivial)
        | (have _t := tf52; (with_reducible refine G_alloc ?_; refine L_alloc zR' ?_); intro wc hkc hbc hsc; have hrc := hob.rd.below hbc; have hWc := below_below hW hbc; clear tf52; have tf53 : True := trivial)
        | (have _t := tf53; (with_reducible refine G_store ?_; refine L_store_agg agR (by with_unfolding_all (conv => lhs; whnf)) (by with_unfolding_all (conv => lhs; whnf)) hkc nR (by simpa using recC_len rfl rfl) (fun y hy => recC_one hvb y (by simpa using hy)) ?_); intro wd hkd hgd hsd; clear tf53; have tf54 : True := trivial))
      have hrd := hrc.grown hgd (fun _ e => by have := hob.lt _ e; omega)
      have zb := hW.size
      have hWd : Below w.heap.size w wd := hWc.grown hgd hWc.size (by intro k hk; cases hk; exact zb)
      replace hkd : Blk wd wb.heap.size 42 (recC [] vb 0 zB zB) := by simpa using hkd
      have nZ : (recC [] vb 0 zB zB).length = 67 := recC_len rfl rfl
      clear hoa hba hob hvb hbb hW hkc hbc hsc hrc hWc hgd hsd zb RC FC
      have tg50 : True := trivial
      go_wp2_with (first
        | (have _t := tg50; (with_reducible refine G_load ?_; refine L_load_agg agR (by with_unfolding_all (conv => lhs; whnf)) hkd nZ ?_); clear tg50; have tg51 : True := trivial)
        | (have _t := tg51; (with_reducible refine G_build ?_; refine L_build (recC [] (.slice none 0 0) 0 zB zB).toArray (by kernel_rfl) ?_); clear tg51; have tg52 : True := trivial)
        | (have _t := tg52; go_at_call 20; refine (csame_c vb (.slice none 0 0) [] [] 0 zB zB _ hrd (Rd.nil _) rfl rfl).mono ?_; rintro e we ⟨rfl, hbe⟩; replace hWd := below_below hWd hbe; clear tg52; have tg53 : True := trivial)
        | (have _t := tg53; go_at_call 21; refine (wakes8_c _).mono ?_; rintro e wf ⟨rfl, hbf⟩; clear tg53; have tg54 : True := trivial))
      go_ret
      exact ⟨rfl, below_below hWd hbf⟩
    · rw [hI] at RC
      unfold GivesR at RC; simp only at RC
      clear hI hc
      have hl2 := (rightB_true2 hq2).1
      have nT : ∀ x v, (recC x v n2 A2 B2).length = 67 := fun x v => recC_len hA2 hB2
      have oT : ∀ x v, v.oneCell' = true → ∀ y ∈ recC x v n2 A2 B2, y.oneCell' = true := fun x v h => recC_one h
      have WC2 := fun v w1 h (hb : Below w.heap.size w w1) => cwrite_c u2 v s2 n2 A2 B2 w1 h (by omega) hA2 hB2 (hT.below hb)
      rw [hq2, hX, if_pos rfl] at WC2
      clear hX hq2 hl2
      have th50 : True := trivial
      go_upto_region 8 with (first
        | (have _t := th50; go_at_call 27; refine (FC _ hW).mono ?_; rintro e wa ⟨va, rfl, hoa, hba⟩; replace hW := below_below hW hba; clear th50; have th51 : True := trivial)
        | (have _t := th51; go_at_call 26; refine (RC va _ hoa.rd hW).mono ?_; rintro e wb ⟨vb, rfl, hob, hvb, hbb⟩; replace hW := below_below hW hbb; clear th51; have th52 : True := trivial)
        | (have _t := th52; (with_reducible refine G_alloc ?_; refine L_alloc zR' ?_); intro wc hkc hbc hsc; have hrc := hob.rd.below hbc; have hWc := below_below hW hbc; clear th52; have th53 : True := trivial)
        | (have _t := th53; (with_reducible refine G_store ?_; refine L_store_agg agR (by with_unfolding_all (conv => lhs; whnf)) (by with_unfolding_all (conv => lhs; whnf)) hkc nR (by simpa using nT _ _) (fun y hy => oT _ _ hvb y (by simpa using hy)) ?_); intro wd hkd hgd hsd; clear th53; have th54 : True := trivial))
      have hrd := hrc.grown hgd (fun _ e => by have := hob.lt _ e; omega)
      have zb := hW.size
      have hWd : Below w.heap.size w wd := hWc.grown hgd hWc.size (by intro k hk; cases hk; exact zb)
      replace hkd : Blk wd wb.heap.size 42 (recC u2 vb n2 A2 B2) := by simpa using hkd
      clear hoa hba hob hvb hbb hW hkc hbc hsc hrc hWc hgd hsd zb RC oT
      have ti50 : True := trivial
      go_upto_region 10 with (first
        | (have _t := ti50; (with_reducible refine G_load ?_; refine L_load_agg agR (by with_unfolding_all (conv => lhs; whnf)) hkd (nT _ _) ?_); clear ti50; have ti51 : True := trivial)
        | (have _t := ti51; go_at_call 23; refine (WC2 vb _ hrd hWd).mono ?_; rintro e we ⟨ve, rfl, hoe, hbe⟩; replace hWd := below_below hWd hbe; clear ti51; have ti52 : True := trivial))
      have hre := hoe.rd
      have q1 := str_self l
      clear hkd hrd hbe hoe nT WC2
      refine region_making 14 (fun _ => []) (fun | 6 => some fun _ => new8 5 l | _ => none) (by kernel_rfl) (by kernel_rfl) ?_ ?_
      · intro i' S' h' e v'
        match i', h' with
        | 6, h' => cases h'; exact new8_loc _ _ _ _
      simp only [List.take_succ_cons, List.take_zero, List.drop_succ_cons, List.drop_zero]
      (apply wpG_pure; (focus rfl); (focus (intro wg Bg hbg hBg hFg; go_simp; (try go_bits); (first | done | exact ⟨rfl, Below.refl _ _⟩ | rfl))); simp only [Act.put, List.setIfInBounds_toArray, List.set_cons_succ, List.set_cons_zero])
      (apply wpG_pure; (focus rfl); (focus (intro wg Bg hbg hBg hFg; go_simp; (try go_bits); (first | done | exact ⟨rfl, Below.refl _ _⟩ | rfl))); simp only [Act.put, List.setIfInBounds_toArray, List.set_cons_succ, List.set_cons_zero])
      (apply wpG_pure; (focus rfl); (focus (intro wg Bg hbg hBg hFg; go_simp; (try go_bits); (first | done | exact ⟨rfl, Below.refl _ _⟩ | rfl))); simp only [Act.put, List.setIfInBounds_toArray, List.set_cons_succ, List.set_cons_zero])
      (apply wpG_pure; (focus rfl); (focus (intro wg Bg hbg hBg hFg; go_simp; (try go_bits); (first | done | exact ⟨rfl, Below.refl _ _⟩ | rfl))); simp only [Act.put, List.setIfInBounds_toArray, List.set_cons_succ, List.set_cons_zero])
      (apply wpG_pure; (focus rfl); (focus (intro wg Bg hbg hBg hFg; have hc := convert_str (hre.drew.below hbg); go_simp; (try go_bits); (first | done | exact ⟨rfl, Below.refl _ _⟩ | rfl))); simp only [Act.put, List.setIfInBounds_toArray, List.set_cons_succ, List.set_cons_zero])
      (apply wpG_pure; (focus rfl); (focus (intro wg Bg hbg hBg hFg; go_simp; (try go_bits); (first | done | exact ⟨rfl, Below.refl _ _⟩ | rfl))); simp only [Act.put, List.setIfInBounds_toArray, List.set_cons_succ, List.set_cons_zero])
      (apply wpG_make; (focus rfl); (focus (intro wg Bg hbg hBg hFg; go_simp; go_at_call 27; exact Calls.mono (FC _ (hWd.drew.trans (hbg.mono hWd.size))) (fun e w' h => (by obtain ⟨u, rfl, ho, hb⟩ := h; exact ⟨u, rfl, Chg.of_below hb, ⟨ho.mono (Nat.zero_le _), fun g hg => (by first | exact .inr ⟨ho.base_le g hg, ho.lt g hg⟩ | exact ⟨ho.base_le g hg, ho.lt g hg⟩)⟩⟩)))); intro a6; simp only [Act.put, List.setIfInBounds_toArray, List.set_cons_succ, List.set_cons_zero])
      (apply wpG_pure; (focus rfl); (focus (intro wg Bg hbg hBg hFg; have hc := convert_str (Own8.rd (hFg 6 (by decide +kernel) : new8 5 l a6 (Bg 6) wg).1); go_simp; (try go_bits); (first | done | exact ⟨rfl, Below.refl _ _⟩ | rfl))); simp only [Act.put, List.setIfInBounds_toArray, List.set_cons_succ, List.set_cons_zero])
      (apply wpG_pure; (focus rfl); (focus (intro wg Bg hbg hBg hFg; go_simp; (try go_bits); (first | done | exact ⟨rfl, Below.refl _ _⟩ | rfl))); simp only [Act.put, List.setIfInBounds_toArray, List.set_cons_succ, List.set_cons_zero])
      (apply wpG_pure; (focus rfl); (focus (intro wg Bg hbg hBg hFg; go_simp; (try go_bits); (first | done | exact ⟨rfl, Below.refl _ _⟩ | rfl))); simp only [Act.put, List.setIfInBounds_toArray, List.set_cons_succ, List.set_cons_zero])
      (apply wpG_pure; (focus rfl); (focus (intro wg Bg hbg hBg hFg; go_simp; (try go_bits); (first | done | exact ⟨rfl, Below.refl _ _⟩ | rfl))); simp only [Act.put, List.setIfInBounds_toArray, List.set_cons_succ, List.set_cons_zero])
      (apply wpG_pure; (focus rfl); (focus (intro wg Bg hbg hBg hFg; go_simp; (try refine ⟨by kernel_rfl, ?_⟩); go_at_call 21; exact Calls.mono (wakes8_c _) (fun e w' h => (by obtain ⟨rfl, hb⟩ := h; exact ⟨rfl, hb⟩)))); simp only [Act.put, List.setIfInBounds_toArray, List.set_cons_succ, List.set_cons_zero])
      (apply wpG_pure; (focus rfl); (focus (intro wg Bg hbg hBg hFg; go_simp; (try go_bits); (first | done | exact ⟨rfl, Below.refl _ _⟩ | rfl))); simp only [Act.put, List.setIfInBounds_toArray, List.set_cons_succ, List.set_cons_zero])
      (apply wpG_pure; (focus rfl); (focus (intro wg Bg hbg hBg hFg; go_simp; (try go_bits); (first | done | exact ⟨rfl, Below.refl _ _⟩ | rfl))); simp only [Act.put, List.setIfInBounds_toArray, List.set_cons_succ, List.set_cons_zero])
      refine wpG_end (fun wg Bg hbg hBg hFg => ?_)
      have hWg : Below w.heap.size w wg := hWd.drew.trans (hbg.mono hWd.size)
      clear hFg hBg hbg
      go_wp2_with fail
      go_ret
      exact ⟨rfl, hWg⟩
end Go.Proofs.YtfnlcnjflloecaaDoor
