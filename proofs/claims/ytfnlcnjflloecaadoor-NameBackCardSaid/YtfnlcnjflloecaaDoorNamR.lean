/- roostref02.Parse. -/
import Derived.Test.YtfnlcnjflloecaaDoorNamT
set_option linter.unusedVariables false
set_option linter.unnecessarySimpa false
set_option linter.unusedSimpArgs false
namespace Go.Proofs.YtfnlcnjflloecaaDoor
open Go.RowKit
theorem refparse_ret {P : Program} {w : World} {fn : Func} {R : Ending → World → Prop} {a : Act} {p u : Tmp} {T T' : TypeId} {n g : Nat} {cs : List Value} {x : Value} (h : fn.results = #[.cell p T, .tmp u]) (AT : AggTy P T n) (hd : a.defers = []) (hp : a.tmps.getD p undef = .pointer (some ⟨g, 0, none⟩)) (hb : Blk w g T' cs) (hn : cs.length = n)
    (hu : a.tmps.getD u undef = x) (hR : R (.returned (.tuple #[.agg cs.toArray, x])) w) : bodyPost P fn R .ret a w := by
  obtain ⟨dd, h1, h2⟩ := AT.shape
  refine bodyPost_ret_by ?_ hd hR
  have := run_loadVar_row (P := P) w g T' T cs.toArray (0, 0) dd hb h1 (by cases dd <;> simp_all) (by rw [AT.size]; simp [hn])
  rw [results_cell_tmp h, hp, hu]
  simp [asAddr, this]
set_option maxRecDepth 100000 in
set_option maxHeartbeats 3200000 in
theorem refparse_c (s : List UInt8) (w : World) (hl : s.length ≤ 1000000000) : Calls Tryd.prog 11 #[.string (strB s)] w (GivesJ w (parseI s)) := by
  have hsz := strB_size s
  have C47 := fun w1 => refcut_c s 47 w1 hl
  have hI : parseI s = (let c := cutI 47 s
    let d := cutI 64 c.1
    let l := if d.2.2 = true then localI d.1 else ([], 0)
    let h := hostI (if d.2.2 = true then d.2.1 else c.1)
    let r := if c.2.2 = true then resI c.2.1 else ([], 0)
    if l.2 ≠ 0 then (noJ, l.2) else if h.2 ≠ 0 then (noJ, h.2) else if r.2 ≠ 0 then (noJ, r.2) else ((l.1, h.1, r.1), 0)) := rfl
  simp only at hI
  have e47 : ((47 : UInt8).toNat : Int) = 47 := rfl
  simp only [e47] at C47
  obtain ⟨w2, e2, hS2, hS4, hW⟩ : ∃ w2, w2 = (w.alloc (.cells #[.string ⟨#[]⟩, .string ⟨#[]⟩, .string ⟨#[]⟩] 23)).alloc (.cells #[.string ⟨#[]⟩, .string ⟨#[]⟩, .string ⟨#[]⟩] 23) ∧
      Blk w2 w.heap.size 23 (jCells [] [] []) ∧ Blk w2 (w.heap.size + 1) 23 (jCells [] [] []) ∧ Below w.heap.size w w2 := by
    have b1 := (Below.refl w.heap.size w).alloc (Nat.le_refl _) (.cells #[.string ⟨#[]⟩, .string ⟨#[]⟩, .string ⟨#[]⟩] 23)
    have z1 : (w.alloc (.cells #[.string ⟨#[]⟩, .string ⟨#[]⟩, .string ⟨#[]⟩] 23)).heap.size = w.heap.size + 1 := by simp
    have k1' : Blk (w.alloc (.cells #[.string ⟨#[]⟩, .string ⟨#[]⟩, .string ⟨#[]⟩] 23)) w.heap.size 23 (jCells [] [] []) := Blk.new w 23 (jCells [] [] [])
    generalize w.alloc (.cells #[.string ⟨#[]⟩, .string ⟨#[]⟩, .string ⟨#[]⟩] 23) = w1 at *
    have b2 := (Below.refl w1.heap.size w1).alloc (Nat.le_refl _) (.cells #[.string ⟨#[]⟩, .string ⟨#[]⟩, .string ⟨#[]⟩] 23)
    have k2' : Blk (w1.alloc (.cells #[.string ⟨#[]⟩, .string ⟨#[]⟩, .string ⟨#[]⟩] 23)) w1.heap.size 23 (jCells [] [] []) := Blk.new w1 23 (jCells [] [] [])
    rw [z1] at k2'
    exact ⟨_, rfl, k1'.below b2, k2', below_below b1 b2⟩
  generalize parseI s = I at *
  obtain ⟨S, hS⟩ : ∃ S, S = strB s := ⟨_, rfl⟩
  rw [← hS] at C47 hsz
  rw [← hS]
  have hp47 := cutI_parts 47 s
  have hw47 := cutI_whole 47 s
  have l47 := cutI_lens 47 s
  obtain ⟨X47, hX47⟩ : ∃ X, cutX 47 s = X := ⟨_, rfl⟩
  rw [hX47] at C47
  unfold cutX at hX47
  generalize cutI 47 s = c at *
  obtain ⟨bare, rs, has⟩ := c
  simp only at hI hp47 hw47 hX47 l47
  have C64 := fun w1 => refcut_c bare 64 w1 (by omega)
  have e64 : ((64 : UInt8).toNat : Int) = 64 := rfl
  simp only [e64] at C64
  have hp64 := cutI_parts 64 bare
  have hw64 := cutI_whole 64 bare
  have l64 := cutI_lens 64 bare
  obtain ⟨X64, hX64⟩ : ∃ X, cutX 64 bare = X := ⟨_, rfl⟩
  rw [hX64] at C64
  unfold cutX at hX64
  generalize cutI 64 bare = d at *
  obtain ⟨us, ho, at_⟩ := d
  simp only at hI hp64 hw64 hX64 l64
  have PL := fun w1 => reflocal_c us w1 (by omega)
  have PR := fun w1 => refres_c rs w1 (by omega)
  have PH := fun hs w1 (hh : hs.length ≤ 1000000000) => refhost_c hs w1 hh
  have n1 : w.heap.size ≠ w.heap.size + 1 := by omega
  have hz : Tryd.prog.built 23 [] = some #[.string ⟨#[]⟩, .string ⟨#[]⟩, .string ⟨#[]⟩] := by kernel_rfl
  have hz1 : ∀ u ∈ (#[Value.string ⟨#[]⟩, .string ⟨#[]⟩, .string ⟨#[]⟩] : Array Value).toList, u.oneCell' = true := jcells_one [] [] []
  replace hI := Go.Lib.hid hI
  replace hS := Go.Lib.hid hS
  replace hX47 := Go.Lib.hid hX47
  replace hX64 := Go.Lib.hid hX64
  replace hp47 := Go.Lib.hid hp47
  replace hw47 := Go.Lib.hid hw47
  replace hp64 := Go.Lib.hid hp64
  replace hw64 := Go.Lib.hid hw64
  replace hsz := Go.Lib.hid hsz
  go_enter Tryd.func11, Tryd.ntmps11
  have ta0 : True := trivial
  go_upto_region 5 with (first
    | (have _t := ta0; go_at_call 41; refine (C47 _).mono ?_; rintro e w1 ⟨rfl, rfl⟩; clear ta0; have ta1 : True := trivial))
  rw [← e2]
  clear e2 C47
  go_upto_if 14 with fail
  go_cut [6, 7, 8] (fun v6 v7 v8 wx => v6 = .string (strB bare) ∧ v7 = .string (strB rs) ∧ v8 = .bool has ∧ Below w2.heap.size w2 wx)
  case first =>
    clear C64 PL PR PH
    cases has
    · have hX := hX47.out
      simp only [Bool.false_eq_true, if_false] at hX
      subst hX
      have hw := hw47.out rfl
      simp only [Prod.mk.injEq] at hw
      obtain ⟨h1, h2, _⟩ := hw
      have h1 := Go.Lib.hid h1
      have h2 := Go.Lib.hid h2
      go_wp2_with fail
      go_meet
      case rel => exact ⟨by rw [h1.out, hS.out], by rw [h2.out]; rfl, rfl, Below.refl _ _⟩
    · have hX := hX47.out
      simp only [if_true] at hX
      subst hX
      obtain ⟨h1, h2, h3⟩ := hp47.out rfl
      have x1 : S.extract 0 bare.length = strB bare := by
        rw [hS.out, Lib.extract_eq]; conv => rhs; rw [← h1]
        apply ByteArray.ext; simp [strB]
      have x2 : S.extract (bare.length + 1) S.size = strB rs := by
        rw [hS.out, Lib.extract_eq, ← h2]
        apply ByteArray.ext; simp [strB, ByteArray.size]
        exact List.take_of_length_le (by simp)
      have q1 : (bare.length : Int) ≤ S.size := by have := hsz.out; omega
      have q2 : (bare.length : Int) + 1 ≤ S.size := by have := hsz.out; omega
      have q3 : bare.length ≤ S.size := by have := hsz.out; omega
      have q4 : bare.length + 1 ≤ S.size := by have := hsz.out; omega
      have x1 := Go.Lib.hid x1
      have x2 := Go.Lib.hid x2
      have hl2 : bare.length ≤ 1000000000 := by omega
      clear h1 h2
      go_wp2_with fail
      (refine region_making 10 (fun _ => []) (fun _ => none) (by kernel_rfl) (by kernel_rfl) ?_ ?_; (focus (intro i' S' h' e v'; cases h')); simp only [List.take_succ_cons, List.take_zero, List.drop_succ_cons, List.drop_zero])
      (apply wpG_pure; (focus rfl); (focus (intro wg Bg hbg hBg hFg; go_simp; (try go_bits); (first | done | exact ⟨rfl, Below.refl _ _⟩ | rfl))); simp only [Act.put, List.setIfInBounds_toArray, List.set_cons_succ, List.set_cons_zero])
      (apply wpG_pure; (focus rfl); (focus (intro wg Bg hbg hBg hFg; go_simp; (try go_bits); (first | done | exact ⟨rfl, Below.refl _ _⟩ | rfl))); simp only [Act.put, List.setIfInBounds_toArray, List.set_cons_succ, List.set_cons_zero])
      (apply wpG_pure; (focus rfl); (focus (intro wg Bg hbg hBg hFg; go_simp; (try go_bits); (first | done | exact ⟨rfl, Below.refl _ _⟩ | rfl))); simp only [Act.put, List.setIfInBounds_toArray, List.set_cons_succ, List.set_cons_zero])
      (apply wpG_pure; (focus rfl); (focus (intro wg Bg hbg hBg hFg; go_simp; (try go_bits); (first | done | exact ⟨rfl, Below.refl _ _⟩ | rfl))); simp only [Act.put, List.setIfInBounds_toArray, List.set_cons_succ, List.set_cons_zero])
      (apply wpG_pure; (focus rfl); (focus (intro wg Bg hbg hBg hFg; go_simp; (try go_bits); (first | done | exact ⟨rfl, Below.refl _ _⟩ | rfl))); simp only [Act.put, List.setIfInBounds_toArray, List.set_cons_succ, List.set_cons_zero])
      (apply wpG_pure; (focus rfl); (focus (intro wg Bg hbg hBg hFg; go_simp; (try go_bits); (first | done | exact ⟨rfl, Below.refl _ _⟩ | rfl))); simp only [Act.put, List.setIfInBounds_toArray, List.set_cons_succ, List.set_cons_zero])
      (apply wpG_pure; (focus rfl); (focus (intro wg Bg hbg hBg hFg; go_simp; (try go_bits); (first | done | exact ⟨rfl, Below.refl _ _⟩ | rfl))); simp only [Act.put, List.setIfInBounds_toArray, List.set_cons_succ, List.set_cons_zero])
      (apply wpG_pure; (focus rfl); (focus (intro wg Bg hbg hBg hFg; go_simp; (try go_bits); (first | done | exact ⟨rfl, Below.refl _ _⟩ | rfl))); simp only [Act.put, List.setIfInBounds_toArray, List.set_cons_succ, List.set_cons_zero])
      (apply wpG_pure; (focus rfl); (focus (intro wg Bg hbg hBg hFg; go_simp; (try go_bits); (first | done | exact ⟨rfl, Below.refl _ _⟩ | rfl))); simp only [Act.put, List.setIfInBounds_toArray, List.set_cons_succ, List.set_cons_zero])
      (apply wpG_pure; (focus rfl); (focus (intro wg Bg hbg hBg hFg; go_simp; (try go_bits); (first | done | exact ⟨rfl, Below.refl _ _⟩ | rfl))); simp only [Act.put, List.setIfInBounds_toArray, List.set_cons_succ, List.set_cons_zero])
      refine wpG_end (fun wg Bg hbg hBg hFg => ?_)
      go_wp2_with fail
      go_meet
      case rel => exact ⟨by rw [← x1.out], by rw [← x2.out], rfl, below_below (Below.refl _ _).drew hbg⟩
  case rest =>
  obtain ⟨rfl, rfl, rfl, hb⟩ := hcut
  replace hS2 := hS2.below hb
  replace hS4 := hS4.below hb
  replace hW := below_below hW hb
  clear hb hX47 hp47 hw47
  generalize hll : localI us = lv at *
  obtain ⟨lv, le⟩ := lv
  obtain ⟨HP, hHP⟩ : ∃ HP, HP = (if at_ = true then ho else bare) := ⟨_, rfl⟩
  obtain ⟨LV, hLV⟩ : ∃ LV, LV = (if at_ = true then (lv, le) else ([], 0)) := ⟨_, rfl⟩
  obtain ⟨LV, LE⟩ := LV
  have hI2 := hI.out
  rw [← hHP, ← hLV] at hI2
  simp only at hI2
  have hHPl : HP.length ≤ 1000000000 := by rw [hHP]; split <;> omega
  replace hI2 := Go.Lib.hid hI2
  replace hHP := Go.Lib.hid hHP
  replace hLV := Go.Lib.hid hLV
  clear hI
  have tb0 : True := trivial
  go_upto_if 25 with (first
    | (have _t := tb0; go_at_call 41; refine (C64 _).mono ?_; rintro e w1 ⟨rfl, rfl⟩; clear tb0; have tb1 : True := trivial))
  go_cut [6] (fun v6 wx => v6 = .string (strB HP) ∧ Blk wx w.heap.size 23 (jCells [] [] []) ∧ Blk wx (w.heap.size + 1) 23 (jCells LV [] []) ∧ Below w.heap.size w wx ∧ LE = 0)
  case first =>
    clear C64 PR PH
    cases at_
    · have hX := hX64.out
      simp only [Bool.false_eq_true, if_false] at hX
      subst hX
      have h1 := hHP.out
      have h2 := hLV.out
      simp only [Bool.false_eq_true, if_false, Prod.mk.injEq] at h1 h2
      obtain ⟨h2, h3⟩ := h2
      replace h1 := Go.Lib.hid h1
      replace h2 := Go.Lib.hid h2
      replace h3 := Go.Lib.hid h3
      go_wp2_with fail
      go_meet
      case rel => exact ⟨by rw [h1.out], hS2, by rw [h2.out]; exact hS4, hW, h3.out⟩
    · have hX := hX64.out
      simp only [if_true] at hX
      subst hX
      obtain ⟨h1, h2, h3⟩ := hp64.out rfl
      obtain ⟨B, hB⟩ : ∃ B, B = strB bare := ⟨_, rfl⟩
      have x1 : B.extract 0 us.length = strB us := by
        rw [hB, Lib.extract_eq]; conv => rhs; rw [← h1]
        apply ByteArray.ext; simp [strB]
      have x2 : B.extract (us.length + 1) B.size = strB ho := by
        rw [hB, Lib.extract_eq, ← h2]
        apply ByteArray.ext; simp [strB, ByteArray.size]
        exact List.take_of_length_le (by simp)
      have hBs : B.size = bare.length := by rw [hB, strB_size]
      have q1 : (us.length : Int) ≤ B.size := by omega
      have q2 : (us.length : Int) + 1 ≤ B.size := by omega
      have q3 : us.length ≤ B.size := by omega
      have q4 : us.length + 1 ≤ B.size := by omega
      have hl2 : us.length ≤ 1000000000 := by omega
      have e1 := hHP.out
      have e2 := hLV.out
      simp only [if_true, Prod.mk.injEq] at e1 e2
      obtain ⟨rfl, rfl⟩ := e2
      subst e1
      have c0 : _ = some _ := hS4.cell 0
      have f0 := hS4.frozen 0
      rw [← hB]
      replace hB := Go.Lib.hid hB
      replace x2 := Go.Lib.hid x2
      clear h1 h2 hBs
      unfold GivesSE at PL
      simp only at PL
      by_cases hl0 : LE = 0
      · subst hl0
        have tc0 : True := trivial
        go_upto_region 10 with (first
          | (have _t := tc0; go_at_call 42; refine (PL _).mono ?_; rintro e w5 ⟨rfl, hb5⟩; replace hS2 := hS2.below hb5; replace hS4 := hS4.below hb5; replace hW := below_below hW hb5; have c0 : _ = some _ := hS4.cell 0; have f0 := hS4.frozen 0; clear tc0; have tc1 : True := trivial))
        have hwl := hS4.lt
        replace hS2 := hS2.other (a := ⟨w.heap.size + 1, 0, none⟩) n1 (.string (strB LV))
        replace hW := below_setn hW (w.heap.size + 1) 0 (.string (strB LV)) (by omega) (by omega)
        replace hS4 : Blk (w5.setCell ⟨w.heap.size + 1, 0, none⟩ (.string (strB LV))) (w.heap.size + 1) 23 (jCells LV [] []) := hS4.stored 0 (.string (strB LV))
        clear c0 f0 hwl hb5
        generalize w5.setCell ⟨w.heap.size + 1, 0, none⟩ (.string (strB LV)) = w6 at *
        go_wp2_with fail
        go_meet
        case rel => exact ⟨by rw [← x2.out], hS2, hS4, hW, trivial⟩
      · have hI3 := Go.Lib.hid (hI2.out.trans (if_pos hl0))
        have q5 : (LE != 0) = true := bne_iff_ne.2 hl0
        have td0 : True := trivial
        go_upto_region 10 with (first
          | (have _t := td0; go_at_call 42; refine (PL _).mono ?_; rintro e w5 ⟨rfl, hb5⟩; replace hS2 := hS2.below hb5; replace hS4 := hS4.below hb5; replace hW := below_below hW hb5; have c0 : _ = some _ := hS4.cell 0; have f0 := hS4.frozen 0; clear td0; have td1 : True := trivial))
        have hwl := hS4.lt
        replace hS2 := hS2.other (a := ⟨w.heap.size + 1, 0, none⟩) n1 (.string (strB LV))
        replace hW := below_setn hW (w.heap.size + 1) 0 (.string (strB LV)) (by omega) (by omega)
        replace hS4 : Blk (w5.setCell ⟨w.heap.size + 1, 0, none⟩ (.string (strB LV))) (w.heap.size + 1) 23 (jCells LV [] []) := hS4.stored 0 (.string (strB LV))
        clear c0 f0 hwl hb5
        generalize w5.setCell ⟨w.heap.size + 1, 0, none⟩ (.string (strB LV)) = w6 at *
        have te0 : True := trivial
        go_wp2_with (first
          | (have _t := te0; (with_reducible refine G_store ?_; refine L_store_agg agJ (by with_unfolding_all (conv => lhs; whnf)) (by with_unfolding_all (conv => lhs; whnf)) hS2 rfl rfl hz1 ?_); intro wz hkz hgz hsz; clear te0; have te1 : True := trivial))
        have hcz : Chg (fun k => k = w.heap.size) w6 wz := Chg.grown hgz (fun k hk => by cases hk; rfl)
        have hWz : Below w.heap.size w wz := hW.trans (hcz.below hW.size (fun k hk => by cases hk; exact Nat.le_refl _))
        exact refparse_ret (p := 2) (u := 3) rfl agJ rfl rfl hkz rfl rfl (by rw [hI3.out]; exact ⟨rfl, hWz⟩)
  case rest =>
  obtain ⟨rfl, hS2, hS4, hW, hLE0⟩ := hcut
  subst hLE0
  replace hI2 := Go.Lib.hid (hI2.out.trans (if_neg (by simp)))
  clear PL C64 hX64 hp64 hw64
  have PHv := fun w1 => PH HP w1 hHPl
  clear PH
  unfold GivesSE at PHv PR
  generalize hostI HP = H at *
  obtain ⟨hv, he⟩ := H
  generalize resI rs = R at *
  obtain ⟨rv, re⟩ := R
  simp only at PHv PR hI2
  by_cases hh0 : he = 0
  · subst hh0
    replace hI2 := Go.Lib.hid (hI2.out.trans (if_neg (by simp)))
    have tf0 : True := trivial
    go_upto_region 14 with (first
      | (have _t := tf0; go_at_call 43; refine (PHv _).mono ?_; rintro e w5 ⟨rfl, hb5⟩; replace hS2 := hS2.below hb5; replace hS4 := hS4.below hb5; replace hW := below_below hW hb5; have c0 : _ = some _ := hS4.cell 1; have f0 := hS4.frozen 1; clear tf0; have tf1 : True := trivial))
    have hwl := hS4.lt
    replace hS2 := hS2.other (a := ⟨w.heap.size + 1, 1, none⟩) n1 (.string (strB hv))
    replace hW := below_setn hW (w.heap.size + 1) 1 (.string (strB hv)) (by omega) (by omega)
    replace hS4 : Blk (w5.setCell ⟨w.heap.size + 1, 1, none⟩ (.string (strB hv))) (w.heap.size + 1) 23 (jCells LV hv []) := hS4.stored 1 (.string (strB hv))
    clear c0 f0 hwl hb5
    generalize w5.setCell ⟨w.heap.size + 1, 1, none⟩ (.string (strB hv)) = w7 at *
    cases has
    · simp only [Bool.false_eq_true, if_false] at hI2
      replace hI2 := Go.Lib.hid (hI2.out.trans (if_neg (by simp)))
      have h1c := jcells_one LV hv []
      have tg0 : True := trivial
      go_wp2_with (first
        | (have _t := tg0; (with_reducible refine G_load ?_; refine L_load_agg agJ (by with_unfolding_all (conv => lhs; whnf)) hS4 rfl ?_); clear tg0; have tg1 : True := trivial)
        | (have _t := tg1; (with_reducible refine G_store ?_; refine L_store_agg agJ (by with_unfolding_all (conv => lhs; whnf)) (by with_unfolding_all (conv => lhs; whnf)) hS2 rfl rfl h1c ?_); intro wz hkz hgz hsz; clear tg1; have tg2 : True := trivial))
      have hcz : Chg (fun k => k = w.heap.size) w7 wz := Chg.grown hgz (fun k hk => by cases hk; rfl)
      have hWz : Below w.heap.size w wz := hW.trans (hcz.below hW.size (fun k hk => by cases hk; exact Nat.le_refl _))
      exact refparse_ret (p := 2) (u := 3) rfl agJ rfl rfl hkz rfl rfl (by rw [hI2.out]; exact ⟨rfl, hWz⟩)
    · simp only [if_true] at hI2
      by_cases hr0 : re = 0
      · subst hr0
        replace hI2 := Go.Lib.hid (hI2.out.trans (if_neg (by simp)))
        have th0 : True := trivial
        go_upto_region 18 with (first
          | (have _t := th0; go_at_call 44; refine (PR _).mono ?_; rintro e w8 ⟨rfl, hb5⟩; replace hS2 := hS2.below hb5; replace hS4 := hS4.below hb5; replace hW := below_below hW hb5; have c0 : _ = some _ := hS4.cell 2; have f0 := hS4.frozen 2; clear th0; have th1 : True := trivial))
        have hwl := hS4.lt
        replace hS2 := hS2.other (a := ⟨w.heap.size + 1, 2, none⟩) n1 (.string (strB rv))
        replace hW := below_setn hW (w.heap.size + 1) 2 (.string (strB rv)) (by omega) (by omega)
        replace hS4 : Blk (w8.setCell ⟨w.heap.size + 1, 2, none⟩ (.string (strB rv))) (w.heap.size + 1) 23 (jCells LV hv rv) := hS4.stored 2 (.string (strB rv))
        clear c0 f0 hwl hb5
        generalize w8.setCell ⟨w.heap.size + 1, 2, none⟩ (.string (strB rv)) = w9 at *
        have h1c := jcells_one LV hv rv
        have ti0 : True := trivial
        go_wp2_with (first
          | (have _t := ti0; (with_reducible refine G_load ?_; refine L_load_agg agJ (by with_unfolding_all (conv => lhs; whnf)) hS4 rfl ?_); clear ti0; have ti1 : True := trivial)
          | (have _t := ti1; (with_reducible refine G_store ?_; refine L_store_agg agJ (by with_unfolding_all (conv => lhs; whnf)) (by with_unfolding_all (conv => lhs; whnf)) hS2 rfl rfl h1c ?_); intro wz hkz hgz hsz; clear ti1; have ti2 : True := trivial))
        have hcz : Chg (fun k => k = w.heap.size) w9 wz := Chg.grown hgz (fun k hk => by cases hk; rfl)
        have hWz : Below w.heap.size w wz := hW.trans (hcz.below hW.size (fun k hk => by cases hk; exact Nat.le_refl _))
        exact refparse_ret (p := 2) (u := 3) rfl agJ rfl rfl hkz rfl rfl (by rw [hI2.out]; exact ⟨rfl, hWz⟩)
      · have hI3 := Go.Lib.hid (hI2.out.trans (if_pos hr0))
        have q5 : (re != 0) = true := bne_iff_ne.2 hr0
        have tj0 : True := trivial
        go_upto_region 18 with (first
          | (have _t := tj0; go_at_call 44; refine (PR _).mono ?_; rintro e w8 ⟨rfl, hb5⟩; replace hS2 := hS2.below hb5; replace hS4 := hS4.below hb5; replace hW := below_below hW hb5; have c0 : _ = some _ := hS4.cell 2; have f0 := hS4.frozen 2; clear tj0; have tj1 : True := trivial))
        have hwl := hS4.lt
        replace hS2 := hS2.other (a := ⟨w.heap.size + 1, 2, none⟩) n1 (.string (strB rv))
        replace hW := below_setn hW (w.heap.size + 1) 2 (.string (strB rv)) (by omega) (by omega)
        replace hS4 : Blk (w8.setCell ⟨w.heap.size + 1, 2, none⟩ (.string (strB rv))) (w.heap.size + 1) 23 (jCells LV hv rv) := hS4.stored 2 (.string (strB rv))
        clear c0 f0 hwl hb5
        generalize w8.setCell ⟨w.heap.size + 1, 2, none⟩ (.string (strB rv)) = w9 at *
        have tk0 : True := trivial
        go_wp2_with (first
          | (have _t := tk0; (with_reducible refine G_store ?_; refine L_store_agg agJ (by with_unfolding_all (conv => lhs; whnf)) (by with_unfolding_all (conv => lhs; whnf)) hS2 rfl rfl hz1 ?_); intro wz hkz hgz hsz; clear tk0; have tk1 : True := trivial))
        have hcz : Chg (fun k => k = w.heap.size) w9 wz := Chg.grown hgz (fun k hk => by cases hk; rfl)
        have hWz : Below w.heap.size w wz := hW.trans (hcz.below hW.size (fun k hk => by cases hk; exact Nat.le_refl _))
        exact refparse_ret (p := 2) (u := 3) rfl agJ rfl rfl hkz rfl rfl (by rw [hI3.out]; exact ⟨rfl, hWz⟩)
  · have hI3 := Go.Lib.hid (hI2.out.trans (if_pos hh0))
    have q5 : (he != 0) = true := bne_iff_ne.2 hh0
    have tl0 : True := trivial
    go_upto_region 14 with (first
      | (have _t := tl0; go_at_call 43; refine (PHv _).mono ?_; rintro e w5 ⟨rfl, hb5⟩; replace hS2 := hS2.below hb5; replace hS4 := hS4.below hb5; replace hW := below_below hW hb5; have c0 : _ = some _ := hS4.cell 1; have f0 := hS4.frozen 1; clear tl0; have tl1 : True := trivial))
    have hwl := hS4.lt
    replace hS2 := hS2.other (a := ⟨w.heap.size + 1, 1, none⟩) n1 (.string (strB hv))
    replace hW := below_setn hW (w.heap.size + 1) 1 (.string (strB hv)) (by omega) (by omega)
    replace hS4 : Blk (w5.setCell ⟨w.heap.size + 1, 1, none⟩ (.string (strB hv))) (w.heap.size + 1) 23 (jCells LV hv []) := hS4.stored 1 (.string (strB hv))
    clear c0 f0 hwl hb5
    generalize w5.setCell ⟨w.heap.size + 1, 1, none⟩ (.string (strB hv)) = w7 at *
    have tm0 : True := trivial
    go_wp2_with (first
      | (have _t := tm0; (with_reducible refine G_store ?_; refine L_store_agg agJ (by with_unfolding_all (conv => lhs; whnf)) (by with_unfolding_all (conv => lhs; whnf)) hS2 rfl rfl hz1 ?_); intro wz hkz hgz hsz; clear tm0; have tm1 : True := trivial))
    have hcz : Chg (fun k => k = w.heap.size) w7 wz := Chg.grown hgz (fun k hk => by cases hk; rfl)
    have hWz : Below w.heap.size w wz := hW.trans (hcz.below hW.size (fun k hk => by cases hk; exact Nat.le_refl _))
    exact refparse_ret (p := 2) (u := 3) rfl agJ rfl rfl hkz rfl rfl (by rw [hI3.out]; exact ⟨rfl, hWz⟩)
end Go.Proofs.YtfnlcnjflloecaaDoor
