/- The walk of roostlaw08.CredsCodes. -/
import Derived.Test.YtfnlcnjflloecaaDoorCbP
import Derived.Test.YtfnlcnjflloecaaDoorRd3
set_option linter.unusedVariables false
set_option linter.unusedSimpArgs false
set_option linter.unnecessarySimpa false
namespace Go.Proofs.YtfnlcnjflloecaaDoor
open Go.RowKit
set_option maxRecDepth 100000 in
set_option maxHeartbeats 12800000 in
theorem credsCodes_w (w : World) (hT : Tabs w) (u0 : List UInt8) (vs : Value) (s0 : List UInt8) (n : Int) (A B : List UInt8) (hu : u0.length ≤ 9223372036854775807) (hs : Rd w vs s0) (hv : vs.oneCell' = true)
    (hn : -9223372036854775808 ≤ n ∧ n ≤ 9223372036854775807) (hA : A.length = 32) (hB : B.length = 32) (v1 : Value) (l0 : List UInt8) (h1 : Rd w v1 l0) :
    Calls Tryd.prog 6 #[.agg (recC u0 vs n A B).toArray, v1] w (Ok w) := by
  have lu : (u0.take 100).length ≤ 100 := by simp; omega
  have ls : (s0.take 40).length ≤ 40 := by simp; omega
  have ll : (l0.take 200).length ≤ 200 := by simp; omega
  have TC := fun w1 (hb : Below w.heap.size w w1) => ctwin_c u0 vs s0 n A B w1 (hs.below hb) hv hu hA hB
  have nS : ∀ x v, (recC x v n A B).length = 67 := fun x v => recC_len hA hB
  have oS : ∀ x v, v.oneCell' = true → ∀ y ∈ recC x v n A B, y.oneCell' = true := fun x v h => recC_one h
  generalize u0.take 100 = u at *
  generalize s0.take 40 = s at *
  have eu : u.take 100 = u := List.take_of_length_le lu
  have es : s.take 40 = s := List.take_of_length_le ls
  have TD := fun v w1 (h : Rd w1 v s) (hv) => ctwin_c u v s n A B w1 h hv (by omega) hA hB
  simp only [eu, es] at TD
  have WC := fun v w1 h (hb : Below w.heap.size w w1) => cwrite_c u v s n A B w1 h (by omega) hA hB (hT.below hb)
  have FC := fun w1 (hb : Below w.heap.size w w1) => few8_c v1 l0 w1 (h1.below hb)
  have RR := fun v w1 h (hb : Below w.heap.size w w1) => refcright_c u v s n A B w1 h (by omega) (hT.below hb)
  have RW := fun v w1 h (hq : rightB u s n = true) => refcwrite_c u v s n A B w1 h hA hB hq
  have hc := readI_cases (l0.take 200)
  generalize l0.take 200 = l at *
  have RC := fun v w1 h (hb : Below w.heap.size w w1) => cread_c v l w1 h (by omega) (hT.below hb)
  have SC := fun v w1 h (hb : Below w.heap.size w w1) => refread_c v l w1 h (by omega) (hT.below hb)
  clear eu es lu ls hn
  have nR := rec_zero_len
  have zR' := zR
  generalize readI l = I at *
  generalize writeR u s n A B = X at *
  replace hc := Go.Lib.hid hc
  cases hq : rightB u s n
  · rw [hq] at WC RR
    simp only [Bool.false_eq_true, if_false] at WC
    clear RW hq
    go_enter Tryd.func6, Tryd.ntmps6
    have ta10 : True := trivial
    go_upto_region 1 with (first
      | (have _t := ta10; (with_reducible refine G_box ?_; refine L_box (by with_unfolding_all (conv => lhs; whnf)) ?_); intro w1 hk1 hb1 hs1; replace hk1 : Blk w1 w.heap.size 42 (recC u0 vs n A B) := hk1; clear ta10; have ta11 : True := trivial))
    have tb10 : True := trivial
    go_upto_region 2 with (first
      | (have _t := tb10; (with_reducible refine G_load ?_; refine L_load_agg agR (by with_unfolding_all (conv => lhs; whnf)) hk1 (nS _ _) ?_); clear tb10; have tb11 : True := trivial)
      | (have _t := tb11; go_at_call 22; refine (TC _ hb1).mono ?_; rintro e w2 ⟨v2, rfl, ho2, hv2, hb2⟩; have hW2 := below_below hb1 hb2; clear tb11; have tb12 : True := trivial)
      | (have _t := tb12; (with_reducible refine G_alloc ?_; refine L_alloc zR' ?_); intro w3 hk3 hb3 hs3; have hr3 := ho2.rd.below hb3; have hW3 := below_below hW2 hb3; clear tb12; have tb13 : True := trivial)
      | (have _t := tb13; (with_reducible refine G_store ?_; refine L_store_agg agR (by with_unfolding_all (conv => lhs; whnf)) (by with_unfolding_all (conv => lhs; whnf)) hk3 nR (by simpa using nS _ _) (fun y hy => oS _ _ hv2 y (by simpa using hy)) ?_); intro w4 hk4 hg4 hs4; clear tb13; have tb14 : True := trivial))
    have z2 := hW2.size
    have hr4 := hr3.grown hg4 (fun _ e => by have := ho2.lt _ e; omega)
    have l2 : ∀ g, v2.ownBlock = some g → g < w2.heap.size := fun g e => ho2.lt g e
    have hW : Below w.heap.size w w4 := hW3.grown hg4 hW3.size (by intro k hk; cases hk; exact z2)
    replace hk4 : Blk w4 w2.heap.size 42 (recC u v2 n A B) := by simpa using hk4
    clear hk1 hb1 hs1 ho2 hb2 hW2 hk3 hb3 hs3 hr3 hW3 hg4 hs4 z2 TC
    have tc10 : True := trivial
    go_upto_region 3 with (first
      | (have _t := tc10; (with_reducible refine G_load ?_; refine L_load_agg agR (by with_unfolding_all (conv => lhs; whnf)) hk4 (nS _ _) ?_); clear tc10; have tc11 : True := trivial)
      | (have _t := tc11; go_at_call 22; refine (TD v2 w4 hr4 hv2).mono ?_; rintro e w5 ⟨v3, rfl, ho5, hv5, hb5⟩; replace hk4 := hk4.below hb5; replace hr4 := hr4.below hb5; replace hW := below_below hW hb5; clear tc11; have tc12 : True := trivial)
      | (have _t := tc12; go_at_call 23; refine (WC v3 _ ho5.rd hW).mono ?_; rintro e w6 ⟨v6, rfl, ho6, hb6⟩; replace hk4 := hk4.below hb6; replace hr4 := hr4.below hb6; replace hW := below_below hW hb6; clear tc12; have tc13 : True := trivial))
    clear ho5 hv5 hb5 hb6 TD WC
    have hre := ho6.rd
    clear ho6 oS l2
    (refine region_making 30 (fun _ => []) (fun _ => none) (by kernel_rfl) (by kernel_rfl) ?_ ?_; (focus (intro i' S' h' e v'; cases h')); simp only [List.take_succ_cons, List.take_zero, List.drop_succ_cons, List.drop_zero])
    (apply wpG_pure; (focus rfl); (focus (intro wg Bg hbg hBg hFg; exact pureTo_load_agg agR (by with_unfolding_all (conv => lhs; whnf)) (hk4.drew.below hbg) (nS _ _))); simp only [Act.put, List.setIfInBounds_toArray, List.set_cons_succ, List.set_cons_zero])
    (apply wpG_pure; (focus rfl); (focus (intro wg Bg hbg hBg hFg; go_simp; (try refine ⟨by kernel_rfl, ?_⟩); go_at_call 24; exact Calls.mono (RR v2 _ (hr4.drew.below hbg) (hW.drew.trans (hbg.mono hW.size))) (fun e w' h => (by obtain ⟨rfl, hb⟩ := h; exact ⟨rfl, hb⟩)))); simp only [Act.put, List.setIfInBounds_toArray, List.set_cons_succ, List.set_cons_zero])
    (apply wpG_pure; (focus rfl); (focus (intro wg Bg hbg hBg hFg; go_simp; (try go_bits); (first | done | exact ⟨rfl, Below.refl _ _⟩ | rfl))); simp only [Act.put, List.setIfInBounds_toArray, List.set_cons_succ, List.set_cons_zero])
    (apply wpG_pure; (focus rfl); (focus (intro wg Bg hbg hBg hFg; go_simp; (try go_bits); (first | done | exact ⟨rfl, Below.refl _ _⟩ | rfl))); simp only [Act.put, List.setIfInBounds_toArray, List.set_cons_succ, List.set_cons_zero])
    (apply wpG_pure; (focus rfl); (focus (intro wg Bg hbg hBg hFg; go_simp; (try go_bits); (first | done | exact ⟨rfl, Below.refl _ _⟩ | rfl))); simp only [Act.put, List.setIfInBounds_toArray, List.set_cons_succ, List.set_cons_zero])
    (apply wpG_pure; (focus rfl); (focus (intro wg Bg hbg hBg hFg; go_simp; (try go_bits); (first | done | exact ⟨rfl, Below.refl _ _⟩ | rfl))); simp only [Act.put, List.setIfInBounds_toArray, List.set_cons_succ, List.set_cons_zero])
    (apply wpG_pure; (focus rfl); (focus (intro wg Bg hbg hBg hFg; go_simp; (try go_bits); (first | done | exact ⟨rfl, Below.refl _ _⟩ | rfl))); simp only [Act.put, List.setIfInBounds_toArray, List.set_cons_succ, List.set_cons_zero])
    (apply wpG_pure; (focus rfl); (focus (intro wg Bg hbg hBg hFg; go_simp; (try go_bits); (first | done | exact ⟨rfl, Below.refl _ _⟩ | rfl))); simp only [Act.put, List.setIfInBounds_toArray, List.set_cons_succ, List.set_cons_zero])
    (apply wpG_pure; (focus rfl); (focus (intro wg Bg hbg hBg hFg; go_simp; (try go_bits); (first | done | exact ⟨rfl, Below.refl _ _⟩ | rfl))); simp only [Act.put, List.setIfInBounds_toArray, List.set_cons_succ, List.set_cons_zero])
    (apply wpG_pure; (focus rfl); (focus (intro wg Bg hbg hBg hFg; go_simp; (try go_bits); (first | done | exact ⟨rfl, Below.refl _ _⟩ | rfl))); simp only [Act.put, List.setIfInBounds_toArray, List.set_cons_succ, List.set_cons_zero])
    (apply wpG_pure; (focus rfl); (focus (intro wg Bg hbg hBg hFg; go_simp; (try go_bits); (first | done | exact ⟨rfl, Below.refl _ _⟩ | rfl))); simp only [Act.put, List.setIfInBounds_toArray, List.set_cons_succ, List.set_cons_zero])
    (apply wpG_pure; (focus rfl); (focus (intro wg Bg hbg hBg hFg; go_simp; (try go_bits); (first | done | exact ⟨rfl, Below.refl _ _⟩ | rfl))); simp only [Act.put, List.setIfInBounds_toArray, List.set_cons_succ, List.set_cons_zero])
    (apply wpG_pure; (focus rfl); (focus (intro wg Bg hbg hBg hFg; go_simp; (try go_bits); (first | done | exact ⟨rfl, Below.refl _ _⟩ | rfl))); simp only [Act.put, List.setIfInBounds_toArray, List.set_cons_succ, List.set_cons_zero])
    (apply wpG_pure; (focus rfl); (focus (intro wg Bg hbg hBg hFg; go_simp; (try go_bits); (first | done | exact ⟨rfl, Below.refl _ _⟩ | rfl))); simp only [Act.put, List.setIfInBounds_toArray, List.set_cons_succ, List.set_cons_zero])
    (apply wpG_pure; (focus rfl); (focus (intro wg Bg hbg hBg hFg; go_simp; (try go_bits); (first | done | exact ⟨rfl, Below.refl _ _⟩ | rfl))); simp only [Act.put, List.setIfInBounds_toArray, List.set_cons_succ, List.set_cons_zero])
    (apply wpG_pure; (focus rfl); (focus (intro wg Bg hbg hBg hFg; go_simp; (try go_bits); (first | done | exact ⟨rfl, Below.refl _ _⟩ | rfl))); simp only [Act.put, List.setIfInBounds_toArray, List.set_cons_succ, List.set_cons_zero])
    (apply wpG_pure; (focus rfl); (focus (intro wg Bg hbg hBg hFg; go_simp; (try go_bits); (first | done | exact ⟨rfl, Below.refl _ _⟩ | rfl))); simp only [Act.put, List.setIfInBounds_toArray, List.set_cons_succ, List.set_cons_zero])
    (apply wpG_pure; (focus rfl); (focus (intro wg Bg hbg hBg hFg; go_simp; (try go_bits); (first | done | exact ⟨rfl, Below.refl _ _⟩ | rfl))); simp only [Act.put, List.setIfInBounds_toArray, List.set_cons_succ, List.set_cons_zero])
    (apply wpG_pure; (focus rfl); (focus (intro wg Bg hbg hBg hFg; go_simp; (try go_bits); (first | done | exact ⟨rfl, Below.refl _ _⟩ | rfl))); simp only [Act.put, List.setIfInBounds_toArray, List.set_cons_succ, List.set_cons_zero])
    (apply wpG_pure; (focus rfl); (focus (intro wg Bg hbg hBg hFg; go_simp; (try go_bits); (first | done | exact ⟨rfl, Below.refl _ _⟩ | rfl))); simp only [Act.put, List.setIfInBounds_toArray, List.set_cons_succ, List.set_cons_zero])
    (apply wpG_pure; (focus rfl); (focus (intro wg Bg hbg hBg hFg; go_simp; (try go_bits); (first | done | exact ⟨rfl, Below.refl _ _⟩ | rfl))); simp only [Act.put, List.setIfInBounds_toArray, List.set_cons_succ, List.set_cons_zero])
    (apply wpG_pure; (focus rfl); (focus (intro wg Bg hbg hBg hFg; go_simp; (try go_bits); (first | done | exact ⟨rfl, Below.refl _ _⟩ | rfl))); simp only [Act.put, List.setIfInBounds_toArray, List.set_cons_succ, List.set_cons_zero])
    (apply wpG_pure; (focus rfl); (focus (intro wg Bg hbg hBg hFg; go_simp; (try go_bits); (first | done | exact ⟨rfl, Below.refl _ _⟩ | rfl))); simp only [Act.put, List.setIfInBounds_toArray, List.set_cons_succ, List.set_cons_zero])
    (apply wpG_pure; (focus rfl); (focus (intro wg Bg hbg hBg hFg; go_simp; (try go_bits); (first | done | exact ⟨rfl, Below.refl _ _⟩ | rfl))); simp only [Act.put, List.setIfInBounds_toArray, List.set_cons_succ, List.set_cons_zero])
    (apply wpG_pure; (focus rfl); (focus (intro wg Bg hbg hBg hFg; go_simp; (try go_bits); (first | done | exact ⟨rfl, Below.refl _ _⟩ | rfl))); simp only [Act.put, List.setIfInBounds_toArray, List.set_cons_succ, List.set_cons_zero])
    (refine wpG_lenw rfl (by go_simp) Tryd.underlying37 (by with_unfolding_all (conv => lhs; whnf)) hre ?_; simp only [Act.put, List.setIfInBounds_toArray, List.set_cons_succ, List.set_cons_zero])
    (apply wpG_pure; (focus rfl); (focus (intro wg Bg hbg hBg hFg; go_simp; (try go_bits); (first | done | exact ⟨rfl, Below.refl _ _⟩ | rfl))); simp only [Act.put, List.setIfInBounds_toArray, List.set_cons_succ, List.set_cons_zero])
    (apply wpG_pure; (focus rfl); (focus (intro wg Bg hbg hBg hFg; go_simp; (try go_bits); (first | done | exact ⟨rfl, Below.refl _ _⟩ | rfl))); simp only [Act.put, List.setIfInBounds_toArray, List.set_cons_succ, List.set_cons_zero])
    (apply wpG_pure; (focus rfl); (focus (intro wg Bg hbg hBg hFg; go_simp; (try go_bits); (first | done | exact ⟨rfl, Below.refl _ _⟩ | rfl))); simp only [Act.put, List.setIfInBounds_toArray, List.set_cons_succ, List.set_cons_zero])
    (apply wpG_pure; (focus rfl); (focus (intro wg Bg hbg hBg hFg; go_simp; (try go_bits); (first | done | exact ⟨rfl, Below.refl _ _⟩ | rfl))); simp only [Act.put, List.setIfInBounds_toArray, List.set_cons_succ, List.set_cons_zero])
    refine wpG_end (fun wg Bg hbg hBg hFg => ?_)
    have hW2 : Below w.heap.size w wg := hW.drew.trans (hbg.mono hW.size)
    replace hW := hW2
    clear hFg hBg hbg hk4 hr4 hre RR nS hW2
    rcases hc.out with hI | ⟨u2, s2, n2, A2, B2, hI, hA2, hB2, hq2, hX⟩
    · rw [hI] at RC SC
      unfold GivesR at RC; unfold GivesRR at SC; simp only [badR, show decide ((2 : Int) = 0) = false from rfl] at RC SC
      clear hI hc
      have nT : ∀ v, (recC [] v 0 zB zB).length = 67 := fun v => recC_len rfl rfl
      have oT : ∀ v, v.oneCell' = true → ∀ y ∈ recC [] v 0 zB zB, y.oneCell' = true := fun v h => recC_one h
      have tfx30 : True := trivial
      go_upto_region 6 with (first
        | (have _t := tfx30; go_at_call 27; refine (FC _ hW).mono ?_; rintro e wa ⟨va, rfl, hoa, hba⟩; replace hW := below_below hW hba; clear tfx30; have tfx31 : True := trivial)
        | (have _t := tfx31; go_at_call 26; refine (RC va _ hoa.rd hW).mono ?_; rintro e wb ⟨vb, rfl, hob, hvb, hbb⟩; replace hW := below_below hW hbb; clear tfx31; have tfx32 : True := trivial)
        | (have _t := tfx32; (with_reducible refine G_alloc ?_; refine L_alloc zR' ?_); intro wc hkc hbc hsc; have hrc := hob.rd.below hbc; have hWc := below_below hW hbc; clear tfx32; have tfx33 : True := trivial)
        | (have _t := tfx33; (with_reducible refine G_store ?_; refine L_store_agg agR (by with_unfolding_all (conv => lhs; whnf)) (by with_unfolding_all (conv => lhs; whnf)) hkc nR (by simpa using nT _) (fun y hy => oT _ hvb y (by simpa using hy)) ?_); intro wd hkd hgd hsd; clear tfx33; have tfx34 : True := trivial))
      have hrd := hrc.grown hgd (fun _ e => by have := hob.lt _ e; omega)
      have zb := hW.size
      have lb : ∀ g, vb.ownBlock = some g → g < wb.heap.size := fun g e => hob.lt g e
      have hWd : Below w.heap.size w wd := hWc.grown hgd hWc.size (by intro k hk; cases hk; exact zb)
      replace hkd : Blk wd wb.heap.size 42 (recC [] vb 0 zB zB) := by simpa using hkd
      clear hoa hba hob hvb hbb hW hkc hbc hsc hrc hWc hgd hsd zb RC
      have tgx30 : True := trivial
      go_upto_region 7 with (first
        | (have _t := tgx30; go_at_call 27; refine (FC _ hWd).mono ?_; rintro e wa ⟨va, rfl, hoa, hba⟩; replace hWd := below_below hWd hba; replace hkd := hkd.below hba; replace hrd := hrd.below hba; clear tgx30; have tgx31 : True := trivial)
        | (have _t := tgx31; go_at_call 28; refine (SC va _ hoa.rd hWd).mono ?_; rintro e we ⟨ve, rfl, hoe, hve, hbe⟩; replace hWd := below_below hWd hbe; replace hkd := hkd.below hbe; replace hrd := hrd.below hbe; have le := hkd.lt; clear tgx31; have tgx32 : True := trivial)
        | (have _t := tgx32; (with_reducible refine G_alloc ?_; refine L_alloc zR' ?_); intro wc hkc hbc hsc; have hrc := hoe.rd.below hbc; have hWc := below_below hWd hbc; replace hkd := hkd.below hbc; replace hrd := hrd.below hbc; clear tgx32; have tgx33 : True := trivial)
        | (have _t := tgx33; (with_reducible refine G_store ?_; refine L_store_agg agR (by with_unfolding_all (conv => lhs; whnf)) (by with_unfolding_all (conv => lhs; whnf)) hkc nR (by simpa using nT _) (fun y hy => oT _ hve y (by simpa using hy)) ?_); intro wf hkf hgf hsf; clear tgx33; have tgx34 : True := trivial))
      have hrf := hrc.grown hgf (fun _ e => by have := hoe.lt _ e; omega)
      have ze := hWd.size
      replace hkd := hkd.grown hgf (by simp; omega)
      replace hrd := hrd.grown hgf (fun _ e => by have := lb _ e; omega)
      have hWf : Below w.heap.size w wf := hWc.grown hgf hWc.size (by intro k hk; cases hk; exact ze)
      replace hkf : Blk wf we.heap.size 42 (recC [] ve 0 zB zB) := by simpa using hkf
      clear hoa hba hoe hve hbe hWd hkc hbc hsc hrc hWc hgf hsf ze SC FC lb le
      have thx30 : True := trivial
      go_wp2_with (first
        | (have _t := thx30; (with_reducible refine G_load ?_; refine L_load_agg agR (by with_unfolding_all (conv => lhs; whnf)) hkd (nT _) ?_); clear thx30; have thx31 : True := trivial)
        | (have _t := thx31; (with_reducible refine G_load ?_; refine L_load_agg agR (by with_unfolding_all (conv => lhs; whnf)) hkf (nT _) ?_); clear thx31; have thx32 : True := trivial)
        | (have _t := thx32; go_at_call 20; refine (csame_c vb ve [] [] 0 zB zB _ hrd hrf rfl rfl).mono ?_; rintro e wg ⟨rfl, hbg⟩; replace hWf := below_below hWf hbg; clear thx32; have thx33 : True := trivial)
        | (have _t := thx33; go_at_call 21; refine (wakes8_c _).mono ?_; rintro e wh ⟨rfl, hbh⟩; clear thx33; have thx34 : True := trivial))
      go_ret
      exact ⟨rfl, below_below hWf hbh⟩
    · rw [hI] at RC SC
      unfold GivesR at RC; unfold GivesRR at SC; simp only [show decide ((0 : Int) = 0) = true from rfl] at RC SC
      clear hI hc
      have nT : ∀ v, (recC u2 v n2 A2 B2).length = 67 := fun v => recC_len hA2 hB2
      have oT : ∀ v, v.oneCell' = true → ∀ y ∈ recC u2 v n2 A2 B2, y.oneCell' = true := fun v h => recC_one h
      have tfy30 : True := trivial
      go_upto_region 6 with (first
        | (have _t := tfy30; go_at_call 27; refine (FC _ hW).mono ?_; rintro e wa ⟨va, rfl, hoa, hba⟩; replace hW := below_below hW hba; clear tfy30; have tfy31 : True := trivial)
        | (have _t := tfy31; go_at_call 26; refine (RC va _ hoa.rd hW).mono ?_; rintro e wb ⟨vb, rfl, hob, hvb, hbb⟩; replace hW := below_below hW hbb; clear tfy31; have tfy32 : True := trivial)
        | (have _t := tfy32; (with_reducible refine G_alloc ?_; refine L_alloc zR' ?_); intro wc hkc hbc hsc; have hrc := hob.rd.below hbc; have hWc := below_below hW hbc; clear tfy32; have tfy33 : True := trivial)
        | (have _t := tfy33; (with_reducible refine G_store ?_; refine L_store_agg agR (by with_unfolding_all (conv => lhs; whnf)) (by with_unfolding_all (conv => lhs; whnf)) hkc nR (by simpa using nT _) (fun y hy => oT _ hvb y (by simpa using hy)) ?_); intro wd hkd hgd hsd; clear tfy33; have tfy34 : True := trivial))
      have hrd := hrc.grown hgd (fun _ e => by have := hob.lt _ e; omega)
      have zb := hW.size
      have lb : ∀ g, vb.ownBlock = some g → g < wb.heap.size := fun g e => hob.lt g e
      have hWd : Below w.heap.size w wd := hWc.grown hgd hWc.size (by intro k hk; cases hk; exact zb)
      replace hkd : Blk wd wb.heap.size 42 (recC u2 vb n2 A2 B2) := by simpa using hkd
      clear hoa hba hob hvb hbb hW hkc hbc hsc hrc hWc hgd hsd zb RC
      have tgy30 : True := trivial
      go_upto_region 7 with (first
        | (have _t := tgy30; go_at_call 27; refine (FC _ hWd).mono ?_; rintro e wa ⟨va, rfl, hoa, hba⟩; replace hWd := below_below hWd hba; replace hkd := hkd.below hba; replace hrd := hrd.below hba; clear tgy30; have tgy31 : True := trivial)
        | (have _t := tgy31; go_at_call 28; refine (SC va _ hoa.rd hWd).mono ?_; rintro e we ⟨ve, rfl, hoe, hve, hbe⟩; replace hWd := below_below hWd hbe; replace hkd := hkd.below hbe; replace hrd := hrd.below hbe; have le := hkd.lt; clear tgy31; have tgy32 : True := trivial)
        | (have _t := tgy32; (with_reducible refine G_alloc ?_; refine L_alloc zR' ?_); intro wc hkc hbc hsc; have hrc := hoe.rd.below hbc; have hWc := below_below hWd hbc; replace hkd := hkd.below hbc; replace hrd := hrd.below hbc; clear tgy32; have tgy33 : True := trivial)
        | (have _t := tgy33; (with_reducible refine G_store ?_; refine L_store_agg agR (by with_unfolding_all (conv => lhs; whnf)) (by with_unfolding_all (conv => lhs; whnf)) hkc nR (by simpa using nT _) (fun y hy => oT _ hve y (by simpa using hy)) ?_); intro wf hkf hgf hsf; clear tgy33; have tgy34 : True := trivial))
      have hrf := hrc.grown hgf (fun _ e => by have := hoe.lt _ e; omega)
      have ze := hWd.size
      replace hkd := hkd.grown hgf (by simp; omega)
      replace hrd := hrd.grown hgf (fun _ e => by have := lb _ e; omega)
      have hWf : Below w.heap.size w wf := hWc.grown hgf hWc.size (by intro k hk; cases hk; exact ze)
      replace hkf : Blk wf we.heap.size 42 (recC u2 ve n2 A2 B2) := by simpa using hkf
      clear hoa hba hoe hve hbe hWd hkc hbc hsc hrc hWc hgf hsf ze SC FC lb le
      have thy30 : True := trivial
      go_wp2_with (first
        | (have _t := thy30; (with_reducible refine G_load ?_; refine L_load_agg agR (by with_unfolding_all (conv => lhs; whnf)) hkd (nT _) ?_); clear thy30; have thy31 : True := trivial)
        | (have _t := thy31; (with_reducible refine G_load ?_; refine L_load_agg agR (by with_unfolding_all (conv => lhs; whnf)) hkf (nT _) ?_); clear thy31; have thy32 : True := trivial)
        | (have _t := thy32; go_at_call 20; refine (csame_c vb ve u2 s2 n2 A2 B2 _ hrd hrf hA2 hB2).mono ?_; rintro e wg ⟨rfl, hbg⟩; replace hWf := below_below hWf hbg; clear thy32; have thy33 : True := trivial)
        | (have _t := thy33; go_at_call 21; refine (wakes8_c _).mono ?_; rintro e wh ⟨rfl, hbh⟩; clear thy33; have thy34 : True := trivial))
      go_ret
      exact ⟨rfl, below_below hWf hbh⟩
  · rw [hq] at RR; rw [hq, if_pos rfl] at WC
    replace RW := fun v w1 h => RW v w1 h hq
    clear hq
    go_enter Tryd.func6, Tryd.ntmps6
    have ta40 : True := trivial
    go_upto_region 1 with (first
      | (have _t := ta40; (with_reducible refine G_box ?_; refine L_box (by with_unfolding_all (conv => lhs; whnf)) ?_); intro w1 hk1 hb1 hs1; replace hk1 : Blk w1 w.heap.size 42 (recC u0 vs n A B) := hk1; clear ta40; have ta41 : True := trivial))
    have tb40 : True := trivial
    go_upto_region 2 with (first
      | (have _t := tb40; (with_reducible refine G_load ?_; refine L_load_agg agR (by with_unfolding_all (conv => lhs; whnf)) hk1 (nS _ _) ?_); clear tb40; have tb41 : True := trivial)
      | (have _t := tb41; go_at_call 22; refine (TC _ hb1).mono ?_; rintro e w2 ⟨v2, rfl, ho2, hv2, hb2⟩; have hW2 := below_below hb1 hb2; clear tb41; have tb42 : True := trivial)
      | (have _t := tb42; (with_reducible refine G_alloc ?_; refine L_alloc zR' ?_); intro w3 hk3 hb3 hs3; have hr3 := ho2.rd.below hb3; have hW3 := below_below hW2 hb3; clear tb42; have tb43 : True := trivial)
      | (have _t := tb43; (with_reducible refine G_store ?_; refine L_store_agg agR (by with_unfolding_all (conv => lhs; whnf)) (by with_unfolding_all (conv => lhs; whnf)) hk3 nR (by simpa using nS _ _) (fun y hy => oS _ _ hv2 y (by simpa using hy)) ?_); intro w4 hk4 hg4 hs4; clear tb43; have tb44 : True := trivial))
    have z2 := hW2.size
    have hr4 := hr3.grown hg4 (fun _ e => by have := ho2.lt _ e; omega)
    have l2 : ∀ g, v2.ownBlock = some g → g < w2.heap.size := fun g e => ho2.lt g e
    have hW : Below w.heap.size w w4 := hW3.grown hg4 hW3.size (by intro k hk; cases hk; exact z2)
    replace hk4 : Blk w4 w2.heap.size 42 (recC u v2 n A B) := by simpa using hk4
    clear hk1 hb1 hs1 ho2 hb2 hW2 hk3 hb3 hs3 hr3 hW3 hg4 hs4 z2 TC
    have tc40 : True := trivial
    go_upto_region 3 with (first
      | (have _t := tc40; (with_reducible refine G_load ?_; refine L_load_agg agR (by with_unfolding_all (conv => lhs; whnf)) hk4 (nS _ _) ?_); clear tc40; have tc41 : True := trivial)
      | (have _t := tc41; go_at_call 22; refine (TD v2 w4 hr4 hv2).mono ?_; rintro e w5 ⟨v3, rfl, ho5, hv5, hb5⟩; replace hk4 := hk4.below hb5; replace hr4 := hr4.below hb5; replace hW := below_below hW hb5; clear tc41; have tc42 : True := trivial)
      | (have _t := tc42; go_at_call 23; refine (WC v3 _ ho5.rd hW).mono ?_; rintro e w6 ⟨v6, rfl, ho6, hb6⟩; replace hk4 := hk4.below hb6; replace hr4 := hr4.below hb6; replace hW := below_below hW hb6; clear tc42; have tc43 : True := trivial))
    clear ho5 hv5 hb5 hb6 TD WC
    have hre := ho6.rd
    clear ho6 oS l2
    have q1 := str_self X
    refine region_making 30 (fun _ => []) (fun | 12 => some fun _ => new8 5 X | _ => none) (by kernel_rfl) (by kernel_rfl) ?_ ?_
    · intro i' S' h' e v'
      match i', h' with
      | 12, h' => cases h'; exact new8_loc _ _ _ _
    simp only [List.take_succ_cons, List.take_zero, List.drop_succ_cons, List.drop_zero]
    (apply wpG_pure; (focus rfl); (focus (intro wg Bg hbg hBg hFg; exact pureTo_load_agg agR (by with_unfolding_all (conv => lhs; whnf)) (hk4.drew.below hbg) (nS _ _))); simp only [Act.put, List.setIfInBounds_toArray, List.set_cons_succ, List.set_cons_zero])
    (apply wpG_pure; (focus rfl); (focus (intro wg Bg hbg hBg hFg; go_simp; (try refine ⟨by kernel_rfl, ?_⟩); go_at_call 24; exact Calls.mono (RR v2 _ (hr4.drew.below hbg) (hW.drew.trans (hbg.mono hW.size))) (fun e w' h => (by obtain ⟨rfl, hb⟩ := h; exact ⟨rfl, hb⟩)))); simp only [Act.put, List.setIfInBounds_toArray, List.set_cons_succ, List.set_cons_zero])
    (apply wpG_pure; (focus rfl); (focus (intro wg Bg hbg hBg hFg; go_simp; (try go_bits); (first | done | exact ⟨rfl, Below.refl _ _⟩ | rfl))); simp only [Act.put, List.setIfInBounds_toArray, List.set_cons_succ, List.set_cons_zero])
    (apply wpG_pure; (focus rfl); (focus (intro wg Bg hbg hBg hFg; go_simp; (try go_bits); (first | done | exact ⟨rfl, Below.refl _ _⟩ | rfl))); simp only [Act.put, List.setIfInBounds_toArray, List.set_cons_succ, List.set_cons_zero])
    (apply wpG_pure; (focus rfl); (focus (intro wg Bg hbg hBg hFg; go_simp; (try go_bits); (first | done | exact ⟨rfl, Below.refl _ _⟩ | rfl))); simp only [Act.put, List.setIfInBounds_toArray, List.set_cons_succ, List.set_cons_zero])
    (apply wpG_pure; (focus rfl); (focus (intro wg Bg hbg hBg hFg; go_simp; (try go_bits); (first | done | exact ⟨rfl, Below.refl _ _⟩ | rfl))); simp only [Act.put, List.setIfInBounds_toArray, List.set_cons_succ, List.set_cons_zero])
    (apply wpG_pure; (focus rfl); (focus (intro wg Bg hbg hBg hFg; go_simp; (try go_bits); (first | done | exact ⟨rfl, Below.refl _ _⟩ | rfl))); simp only [Act.put, List.setIfInBounds_toArray, List.set_cons_succ, List.set_cons_zero])
    (apply wpG_pure; (focus rfl); (focus (intro wg Bg hbg hBg hFg; go_simp; (try go_bits); (first | done | exact ⟨rfl, Below.refl _ _⟩ | rfl))); simp only [Act.put, List.setIfInBounds_toArray, List.set_cons_succ, List.set_cons_zero])
    (apply wpG_pure; (focus rfl); (focus (intro wg Bg hbg hBg hFg; go_simp; (try go_bits); (first | done | exact ⟨rfl, Below.refl _ _⟩ | rfl))); simp only [Act.put, List.setIfInBounds_toArray, List.set_cons_succ, List.set_cons_zero])
    (apply wpG_pure; (focus rfl); (focus (intro wg Bg hbg hBg hFg; go_simp; (try go_bits); (first | done | exact ⟨rfl, Below.refl _ _⟩ | rfl))); simp only [Act.put, List.setIfInBounds_toArray, List.set_cons_succ, List.set_cons_zero])
    (apply wpG_pure; (focus rfl); (focus (intro wg Bg hbg hBg hFg; have hc := convert_str (hre.drew.below hbg); go_simp; (try go_bits); (first | done | exact ⟨rfl, Below.refl _ _⟩ | rfl))); simp only [Act.put, List.setIfInBounds_toArray, List.set_cons_succ, List.set_cons_zero])
    (apply wpG_pure; (focus rfl); (focus (intro wg Bg hbg hBg hFg; exact pureTo_load_aggw (by go_simp) agR (by with_unfolding_all (conv => lhs; whnf)) (hk4.drew.below hbg) (nS _ _))); simp only [Act.put, List.setIfInBounds_toArray, List.set_cons_succ, List.set_cons_zero])
    (apply wpG_make; (focus rfl); (focus (intro wg Bg hbg hBg hFg; go_simp; go_at_call 25; exact Calls.mono (RW v2 _ (hr4.drew.below hbg)) (fun e w' h => (by obtain ⟨u, rfl, ho, hb⟩ := h; exact ⟨u, rfl, Chg.of_below hb, ⟨ho.mono (Nat.zero_le _), fun g hg => (by first | exact .inr ⟨ho.base_le g hg, ho.lt g hg⟩ | exact ⟨ho.base_le g hg, ho.lt g hg⟩)⟩⟩)))); intro a12; simp only [Act.put, List.setIfInBounds_toArray, List.set_cons_succ, List.set_cons_zero])
    (apply wpG_pure; (focus rfl); (focus (intro wg Bg hbg hBg hFg; have hc := convert_str (Own8.rd (hFg 12 (by decide +kernel) : new8 5 X a12 (Bg 12) wg).1); go_simp; (try go_bits); (first | done | exact ⟨rfl, Below.refl _ _⟩ | rfl))); simp only [Act.put, List.setIfInBounds_toArray, List.set_cons_succ, List.set_cons_zero])
    (apply wpG_pure; (focus rfl); (focus (intro wg Bg hbg hBg hFg; go_simp; (try go_bits); (first | done | exact ⟨rfl, Below.refl _ _⟩ | rfl))); simp only [Act.put, List.setIfInBounds_toArray, List.set_cons_succ, List.set_cons_zero])
    (apply wpG_pure; (focus rfl); (focus (intro wg Bg hbg hBg hFg; go_simp; (try go_bits); (first | done | exact ⟨rfl, Below.refl _ _⟩ | rfl))); simp only [Act.put, List.setIfInBounds_toArray, List.set_cons_succ, List.set_cons_zero])
    (apply wpG_pure; (focus rfl); (focus (intro wg Bg hbg hBg hFg; go_simp; (try go_bits); (first | done | exact ⟨rfl, Below.refl _ _⟩ | rfl))); simp only [Act.put, List.setIfInBounds_toArray, List.set_cons_succ, List.set_cons_zero])
    (apply wpG_pure; (focus rfl); (focus (intro wg Bg hbg hBg hFg; go_simp; (try go_bits); (first | done | exact ⟨rfl, Below.refl _ _⟩ | rfl))); simp only [Act.put, List.setIfInBounds_toArray, List.set_cons_succ, List.set_cons_zero])
    (apply wpG_pure; (focus rfl); (focus (intro wg Bg hbg hBg hFg; go_simp; (try go_bits); (first | done | exact ⟨rfl, Below.refl _ _⟩ | rfl))); simp only [Act.put, List.setIfInBounds_toArray, List.set_cons_succ, List.set_cons_zero])
    (apply wpG_pure; (focus rfl); (focus (intro wg Bg hbg hBg hFg; go_simp; (try go_bits); (first | done | exact ⟨rfl, Below.refl _ _⟩ | rfl))); simp only [Act.put, List.setIfInBounds_toArray, List.set_cons_succ, List.set_cons_zero])
    (apply wpG_pure; (focus rfl); (focus (intro wg Bg hbg hBg hFg; go_simp; (try go_bits); (first | done | exact ⟨rfl, Below.refl _ _⟩ | rfl))); simp only [Act.put, List.setIfInBounds_toArray, List.set_cons_succ, List.set_cons_zero])
    (apply wpG_pure; (focus rfl); (focus (intro wg Bg hbg hBg hFg; go_simp; (try go_bits); (first | done | exact ⟨rfl, Below.refl _ _⟩ | rfl))); simp only [Act.put, List.setIfInBounds_toArray, List.set_cons_succ, List.set_cons_zero])
    (apply wpG_pure; (focus rfl); (focus (intro wg Bg hbg hBg hFg; go_simp; (try go_bits); (first | done | exact ⟨rfl, Below.refl _ _⟩ | rfl))); simp only [Act.put, List.setIfInBounds_toArray, List.set_cons_succ, List.set_cons_zero])
    (apply wpG_pure; (focus rfl); (focus (intro wg Bg hbg hBg hFg; go_simp; (try go_bits); (first | done | exact ⟨rfl, Below.refl _ _⟩ | rfl))); simp only [Act.put, List.setIfInBounds_toArray, List.set_cons_succ, List.set_cons_zero])
    (apply wpG_pure; (focus rfl); (focus (intro wg Bg hbg hBg hFg; go_simp; (try go_bits); (first | done | exact ⟨rfl, Below.refl _ _⟩ | rfl))); simp only [Act.put, List.setIfInBounds_toArray, List.set_cons_succ, List.set_cons_zero])
    (apply wpG_pure; (focus rfl); (focus (intro wg Bg hbg hBg hFg; go_simp; (try go_bits); (first | done | exact ⟨rfl, Below.refl _ _⟩ | rfl))); simp only [Act.put, List.setIfInBounds_toArray, List.set_cons_succ, List.set_cons_zero])
    (apply wpG_pure; (focus rfl); (focus (intro wg Bg hbg hBg hFg; go_simp; (try go_bits); (first | done | exact ⟨rfl, Below.refl _ _⟩ | rfl))); simp only [Act.put, List.setIfInBounds_toArray, List.set_cons_succ, List.set_cons_zero])
    (apply wpG_pure; (focus rfl); (focus (intro wg Bg hbg hBg hFg; go_simp; (try go_bits); (first | done | exact ⟨rfl, Below.refl _ _⟩ | rfl))); simp only [Act.put, List.setIfInBounds_toArray, List.set_cons_succ, List.set_cons_zero])
    (apply wpG_pure; (focus rfl); (focus (intro wg Bg hbg hBg hFg; go_simp; (try go_bits); (first | done | exact ⟨rfl, Below.refl _ _⟩ | rfl))); simp only [Act.put, List.setIfInBounds_toArray, List.set_cons_succ, List.set_cons_zero])
    (apply wpG_pure; (focus rfl); (focus (intro wg Bg hbg hBg hFg; go_simp; (try go_bits); (first | done | exact ⟨rfl, Below.refl _ _⟩ | rfl))); simp only [Act.put, List.setIfInBounds_toArray, List.set_cons_succ, List.set_cons_zero])
    refine wpG_end (fun wg Bg hbg hBg hFg => ?_)
    have hW2 : Below w.heap.size w wg := hW.drew.trans (hbg.mono hW.size)
    replace hW := hW2
    clear hFg hBg hbg hk4 hr4 hre RR nS hW2 q1
    rcases hc.out with hI | ⟨u2, s2, n2, A2, B2, hI, hA2, hB2, hq2, hX⟩
    · rw [hI] at RC SC
      unfold GivesR at RC; unfold GivesRR at SC; simp only [badR, show decide ((2 : Int) = 0) = false from rfl] at RC SC
      clear hI hc
      have nT : ∀ v, (recC [] v 0 zB zB).length = 67 := fun v => recC_len rfl rfl
      have oT : ∀ v, v.oneCell' = true → ∀ y ∈ recC [] v 0 zB zB, y.oneCell' = true := fun v h => recC_one h
      have tfx60 : True := trivial
      go_upto_region 6 with (first
        | (have _t := tfx60; go_at_call 27; refine (FC _ hW).mono ?_; rintro e wa ⟨va, rfl, hoa, hba⟩; replace hW := below_below hW hba; clear tfx60; have tfx61 : True := trivial)
        | (have _t := tfx61; go_at_call 26; refine (RC va _ hoa.rd hW).mono ?_; rintro e wb ⟨vb, rfl, hob, hvb, hbb⟩; replace hW := below_below hW hbb; clear tfx61; have tfx62 : True := trivial)
        | (have _t := tfx62; (with_reducible refine G_alloc ?_; refine L_alloc zR' ?_); intro wc hkc hbc hsc; have hrc := hob.rd.below hbc; have hWc := below_below hW hbc; clear tfx62; have tfx63 : True := trivial)
        | (have _t := tfx63; (with_reducible refine G_store ?_; refine L_store_agg agR (by with_unfolding_all (conv => lhs; whnf)) (by with_unfolding_all (conv => lhs; whnf)) hkc nR (by simpa using nT _) (fun y hy => oT _ hvb y (by simpa using hy)) ?_); intro wd hkd hgd hsd; clear tfx63; have tfx64 : True := trivial))
      have hrd := hrc.grown hgd (fun _ e => by have := hob.lt _ e; omega)
      have zb := hW.size
      have lb : ∀ g, vb.ownBlock = some g → g < wb.heap.size := fun g e => hob.lt g e
      have hWd : Below w.heap.size w wd := hWc.grown hgd hWc.size (by intro k hk; cases hk; exact zb)
      replace hkd : Blk wd wb.heap.size 42 (recC [] vb 0 zB zB) := by simpa using hkd
      clear hoa hba hob hvb hbb hW hkc hbc hsc hrc hWc hgd hsd zb RC
      have tgx60 : True := trivial
      go_upto_region 7 with (first
        | (have _t := tgx60; go_at_call 27; refine (FC _ hWd).mono ?_; rintro e wa ⟨va, rfl, hoa, hba⟩; replace hWd := below_below hWd hba; replace hkd := hkd.below hba; replace hrd := hrd.below hba; clear tgx60; have tgx61 : True := trivial)
        | (have _t := tgx61; go_at_call 28; refine (SC va _ hoa.rd hWd).mono ?_; rintro e we ⟨ve, rfl, hoe, hve, hbe⟩; replace hWd := below_below hWd hbe; replace hkd := hkd.below hbe; replace hrd := hrd.below hbe; have le := hkd.lt; clear tgx61; have tgx62 : True := trivial)
        | (have _t := tgx62; (with_reducible refine G_alloc ?_; refine L_alloc zR' ?_); intro wc hkc hbc hsc; have hrc := hoe.rd.below hbc; have hWc := below_below hWd hbc; replace hkd := hkd.below hbc; replace hrd := hrd.below hbc; clear tgx62; have tgx63 : True := trivial)
        | (have _t := tgx63; (with_reducible refine G_store ?_; refine L_store_agg agR (by with_unfolding_all (conv => lhs; whnf)) (by with_unfolding_all (conv => lhs; whnf)) hkc nR (by simpa using nT _) (fun y hy => oT _ hve y (by simpa using hy)) ?_); intro wf hkf hgf hsf; clear tgx63; have tgx64 : True := trivial))
      have hrf := hrc.grown hgf (fun _ e => by have := hoe.lt _ e; omega)
      have ze := hWd.size
      replace hkd := hkd.grown hgf (by simp; omega)
      replace hrd := hrd.grown hgf (fun _ e => by have := lb _ e; omega)
      have hWf : Below w.heap.size w wf := hWc.grown hgf hWc.size (by intro k hk; cases hk; exact ze)
      replace hkf : Blk wf we.heap.size 42 (recC [] ve 0 zB zB) := by simpa using hkf
      clear hoa hba hoe hve hbe hWd hkc hbc hsc hrc hWc hgf hsf ze SC FC lb le
      have thx60 : True := trivial
      go_wp2_with (first
        | (have _t := thx60; (with_reducible refine G_load ?_; refine L_load_agg agR (by with_unfolding_all (conv => lhs; whnf)) hkd (nT _) ?_); clear thx60; have thx61 : True := trivial)
        | (have _t := thx61; (with_reducible refine G_load ?_; refine L_load_agg agR (by with_unfolding_all (conv => lhs; whnf)) hkf (nT _) ?_); clear thx61; have thx62 : True := trivial)
        | (have _t := thx62; go_at_call 20; refine (csame_c vb ve [] [] 0 zB zB _ hrd hrf rfl rfl).mono ?_; rintro e wg ⟨rfl, hbg⟩; replace hWf := below_below hWf hbg; clear thx62; have thx63 : True := trivial)
        | (have _t := thx63; go_at_call 21; refine (wakes8_c _).mono ?_; rintro e wh ⟨rfl, hbh⟩; clear thx63; have thx64 : True := trivial))
      go_ret
      exact ⟨rfl, below_below hWf hbh⟩
    · rw [hI] at RC SC
      unfold GivesR at RC; unfold GivesRR at SC; simp only [show decide ((0 : Int) = 0) = true from rfl] at RC SC
      clear hI hc
      have nT : ∀ v, (recC u2 v n2 A2 B2).length = 67 := fun v => recC_len hA2 hB2
      have oT : ∀ v, v.oneCell' = true → ∀ y ∈ recC u2 v n2 A2 B2, y.oneCell' = true := fun v h => recC_one h
      have tfy60 : True := trivial
      go_upto_region 6 with (first
        | (have _t := tfy60; go_at_call 27; refine (FC _ hW).mono ?_; rintro e wa ⟨va, rfl, hoa, hba⟩; replace hW := below_below hW hba; clear tfy60; have tfy61 : True := trivial)
        | (have _t := tfy61; go_at_call 26; refine (RC va _ hoa.rd hW).mono ?_; rintro e wb ⟨vb, rfl, hob, hvb, hbb⟩; replace hW := below_below hW hbb; clear tfy61; have tfy62 : True := trivial)
        | (have _t := tfy62; (with_reducible refine G_alloc ?_; refine L_alloc zR' ?_); intro wc hkc hbc hsc; have hrc := hob.rd.below hbc; have hWc := below_below hW hbc; clear tfy62; have tfy63 : True := trivial)
        | (have _t := tfy63; (with_reducible refine G_store ?_; refine L_store_agg agR (by with_unfolding_all (conv => lhs; whnf)) (by with_unfolding_all (conv => lhs; whnf)) hkc nR (by simpa using nT _) (fun y hy => oT _ hvb y (by simpa using hy)) ?_); intro wd hkd hgd hsd; clear tfy63; have tfy64 : True := trivial))
      have hrd := hrc.grown hgd (fun _ e => by have := hob.lt _ e; omega)
      have zb := hW.size
      have lb : ∀ g, vb.ownBlock = some g → g < wb.heap.size := fun g e => hob.lt g e
      have hWd : Below w.heap.size w wd := hWc.grown hgd hWc.size (by intro k hk; cases hk; exact zb)
      replace hkd : Blk wd wb.heap.size 42 (recC u2 vb n2 A2 B2) := by simpa using hkd
      clear hoa hba hob hvb hbb hW hkc hbc hsc hrc hWc hgd hsd zb RC
      have tgy60 : True := trivial
      go_upto_region 7 with (first
        | (have _t := tgy60; go_at_call 27; refine (FC _ hWd).mono ?_; rintro e wa ⟨va, rfl, hoa, hba⟩; replace hWd := below_below hWd hba; replace hkd := hkd.below hba; replace hrd := hrd.below hba; clear tgy60; have tgy61 : True := trivial)
        | (have _t := tgy61; go_at_call 28; refine (SC va _ hoa.rd hWd).mono ?_; rintro e we ⟨ve, rfl, hoe, hve, hbe⟩; replace hWd := below_below hWd hbe; replace hkd := hkd.below hbe; replace hrd := hrd.below hbe; have le := hkd.lt; clear tgy61; have tgy62 : True := trivial)
        | (have _t := tgy62; (with_reducible refine G_alloc ?_; refine L_alloc zR' ?_); intro wc hkc hbc hsc; have hrc := hoe.rd.below hbc; have hWc := below_below hWd hbc; replace hkd := hkd.below hbc; replace hrd := hrd.below hbc; clear tgy62; have tgy63 : True := trivial)
        | (have _t := tgy63; (with_reducible refine G_store ?_; refine L_store_agg agR (by with_unfolding_all (conv => lhs; whnf)) (by with_unfolding_all (conv => lhs; whnf)) hkc nR (by simpa using nT _) (fun y hy => oT _ hve y (by simpa using hy)) ?_); intro wf hkf hgf hsf; clear tgy63; have tgy64 : True := trivial))
      have hrf := hrc.grown hgf (fun _ e => by have := hoe.lt _ e; omega)
      have ze := hWd.size
      replace hkd := hkd.grown hgf (by simp; omega)
      replace hrd := hrd.grown hgf (fun _ e => by have := lb _ e; omega)
      have hWf : Below w.heap.size w wf := hWc.grown hgf hWc.size (by intro k hk; cases hk; exact ze)
      replace hkf : Blk wf we.heap.size 42 (recC u2 ve n2 A2 B2) := by simpa using hkf
      clear hoa hba hoe hve hbe hWd hkc hbc hsc hrc hWc hgf hsf ze SC FC lb le
      have thy60 : True := trivial
      go_wp2_with (first
        | (have _t := thy60; (with_reducible refine G_load ?_; refine L_load_agg agR (by with_unfolding_all (conv => lhs; whnf)) hkd (nT _) ?_); clear thy60; have thy61 : True := trivial)
        | (have _t := thy61; (with_reducible refine G_load ?_; refine L_load_agg agR (by with_unfolding_all (conv => lhs; whnf)) hkf (nT _) ?_); clear thy61; have thy62 : True := trivial)
        | (have _t := thy62; go_at_call 20; refine (csame_c vb ve u2 s2 n2 A2 B2 _ hrd hrf hA2 hB2).mono ?_; rintro e wg ⟨rfl, hbg⟩; replace hWf := below_below hWf hbg; clear thy62; have thy63 : True := trivial)
        | (have _t := thy63; go_at_call 21; refine (wakes8_c _).mono ?_; rintro e wh ⟨rfl, hbh⟩; clear thy63; have thy64 : True := trivial))
      go_ret
      exact ⟨rfl, below_below hWf hbh⟩
end Go.Proofs.YtfnlcnjflloecaaDoor
