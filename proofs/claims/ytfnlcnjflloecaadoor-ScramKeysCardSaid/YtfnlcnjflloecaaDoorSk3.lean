/- ScramKeys: the walk. -/
import Derived.Test.YtfnlcnjflloecaaDoorSk2
import Derived.Test.YtfnlcnjflloecaaDoorSch
import Derived.Test.YtfnlcnjflloecaaDoorScr3
set_option linter.unusedVariables false
set_option linter.unusedSimpArgs false
set_option linter.unnecessarySimpa false
namespace Go.Proofs.YtfnlcnjflloecaaDoor
open Go.RowKit
theorem agTk : AggTy Tryd.prog 61 6 := ⟨⟨_, Tryd.underlying61, rfl⟩, by kernel_rfl⟩
set_option maxRecDepth 100000 in
set_option maxHeartbeats 12800000 in
theorem sk_walk (w : World) (hT : Tabs w) (hM : MaxL w) (pw us on tw : List UInt8) (hpl : pw.length ≤ 9223372036854775807) (hol : on.length ≤ 9223372036854775807) (htl : tw.length ≤ 9223372036854775807) (v : Value) (sa : List UInt8) (hv : Rd w v sa) (n : Int) (hn : -9223372036854775808 ≤ n ∧ n ≤ 9223372036854775807) :
    Calls Tryd.prog 8 #[.agg #[.string (strB pw), .string (strB us), .string (strB on), .string (strB tw), v, .int .i64 n]] w (Ok w) := by
  have RO := fun wx => rounds_c n wx hn
  have hro := roundsI_ok n
  generalize roundsI n = N at *
  have TX := fun wx => text_c pw 200 wx hpl (by omega)
  have TO := fun wx => text_c on 200 wx hol (by omega)
  have CT := fun wx => cut7_c tw wx htl
  have hpl2 : (pw.take 200).length ≤ 200 := by simp; omega
  have hol2 : (on.take 200).length ≤ 200 := by simp; omega
  have htl2 : (tw.take 1100).length ≤ 1100 := by simp; omega
  have hsl2 : (sa.take 60).length ≤ 60 := by simp; omega
  have FE := fun wx (h : Rd wx v sa) => few7_c v sa wx h
  generalize pw.take 200 = P at *
  generalize on.take 200 = O at *
  generalize tw.take 1100 = T at *
  generalize sa.take 60 = A at *
  have KE := fun u wx (h : Rd wx u A) => keys_c u P A N wx h (by omega) (by omega)
  have RK := fun u wx (h : Rd wx u A) => refkeys_c u P A N wx h (by omega) (by omega)
  have nA := ksA_len P A N
  have nB := ksB_len P A N
  have nC := ckC_len P A N
  generalize ksA P A N = XA at *
  generalize ksB P A N = XB at *
  generalize ckC P A N = XC at *
  generalize (hiR P A N).2 = XE at *
  have CH := fun u wx (h : Rd wx u A) => challenge_c [] [] O [] T u A N wx h (by omega) (by omega) (by omega) (by omega)
  have RH := fun u wx (h : Rd wx u A) => refchallenge_c [] [] O [] T u A N wx h (by omega) (by omega) (by omega) (by omega)
  unfold GivesSE at CH RH
  generalize chalI O T A N = XR at *
  obtain ⟨XT, XN⟩ := XR
  simp only at CH RH
  have lA := (bvs_length XA).trans nA
  have lB := (bvs_length XB).trans nB
  have lC := (bvs_length XC).trans nC
  have oA := bvs_one XA
  have oB := bvs_one XB
  have oC := bvs_one XC
  have qA : ∀ w', (Op.equalIn 10000 40 (.agg (bvs XA).toArray) (.agg (bvs XA).toArray)).run Tryd.prog w' = .ok true w' := fun w' => by rw [eq32_run w' XA XA nA nA]; simp
  have qB : ∀ w', (Op.equalIn 10000 40 (.agg (bvs XB).toArray) (.agg (bvs XB).toArray)).run Tryd.prog w' = .ok true w' := fun w' => by rw [eq32_run w' XB XB nB nB]; simp
  generalize bvs XA = YA at *
  generalize bvs XB = YB at *
  generalize bvs XC = YC at *
  have hq1 : ((strB XT).toList == (strB XT).toList) = true := by simp
  generalize strB XT = ST at *
  generalize strB O = SO at *
  generalize strB T = STT at *
  generalize strB P = SP at *
  generalize strB pw = S0 at *
  generalize strB us = S1 at *
  generalize strB on = S2 at *
  generalize strB tw = S3 at *
  have z32' := z32
  have zFi' := zFi
  go_enter Tryd.func8, Tryd.ntmps8
  have ta0 : True := trivial
  go_upto_region 1 with (first
    | (have _t := ta0; (with_reducible refine G_box ?_; refine L_box (by with_unfolding_all (conv => lhs; whnf)) ?_); intro w1 hk hb1 hs1; clear ta0; have ta1 : True := trivial))
  replace hk : Blk w1 w.heap.size 61 [.string S0, .string S1, .string S2, .string S3, v, .int .i64 n] := hk
  have c5 : _ = some _ := hk.cell 5
  have c0 : _ = some _ := hk.cell 0
  have c4 : _ = some _ := hk.cell 4
  clear hs1
  go_wp2_with fail
  refine (RO _).mono ?_; rintro e w2 ⟨rfl, rfl⟩
  go_wp2_with fail
  refine (TX _).mono ?_; rintro e w2 ⟨rfl, rfl⟩
  go_wp2_with fail
  refine (FE _ (hv.below hb1)).mono ?_; rintro e w2 ⟨u2, rfl, ho2, hb2⟩
  replace hk := hk.below hb2
  replace hb1 := below_below hb1 hb2
  clear c0 c4 c5
  go_wp2_with fail
  refine (KE u2 _ ho2.rd).mono ?_; rintro e w3 ⟨rfl, hb3⟩
  replace hk := hk.below hb3
  replace hb1 := below_below hb1 hb3
  clear KE RO TX hb2 hb3 ho2
  have tb0 : True := trivial
  go_upto_region 4 with (first
    | (have _t := tb0; (with_reducible refine G_alloc ?_; refine L_alloc z32' ?_); intro w4 k5 b4 s4; clear tb0; have tb1 : True := trivial)
    | (have _t := tb1; (with_reducible refine G_alloc ?_; refine L_alloc z32' ?_); intro w5 k6 b5 s5; replace k5 := k5.below b5; clear tb1; have tb2 : True := trivial)
    | (have _t := tb2; (with_reducible refine G_store ?_; refine L_store_agg ag32 (by with_unfolding_all (conv => lhs; whnf)) (by with_unfolding_all (conv => lhs; whnf)) k5 rfl lA oA ?_); intro w6 k5' g6 s6; replace k6 := k6.grown g6 (by simp; omega); clear tb2; have tb3 : True := trivial)
    | (have _t := tb3; (with_reducible refine G_store ?_; refine L_store_agg ag32 (by with_unfolding_all (conv => lhs; whnf)) (by with_unfolding_all (conv => lhs; whnf)) k6 rfl lB oB ?_); intro w7 k6' g7 s7; replace k5' := k5'.grown g7 (by simp; omega); clear tb3; have tb4 : True := trivial))
  have bb : Below w3.heap.size w3 w7 := ((below_below b4 b5).grown g6 (below_below b4 b5).size (by intro k hk; cases hk; exact Nat.le_refl _)).grown g7 (by have := g6.size; omega) (by intro k hk; cases hk; omega)
  replace hk := hk.below bb
  replace hb1 := below_below hb1 bb
  rw [s4] at k6'
  clear k5 k6 g6 g7 s4 s5 s6 s7 b4 b5 bb
  have c4 : _ = some _ := hk.cell 4
  go_wp2_with fail
  refine (FE _ (hv.below hb1)).mono ?_; rintro e w8 ⟨u8, rfl, ho8, hb8⟩
  replace hk := hk.below hb8
  replace k5' := k5'.below hb8
  replace k6' := k6'.below hb8
  replace hb1 := below_below hb1 hb8
  clear c4
  go_wp2_with fail
  refine (RK u8 _ ho8.rd).mono ?_; rintro e w9 ⟨rfl, hb9⟩
  replace hk := hk.below hb9
  replace k5' := k5'.below hb9
  replace k6' := k6'.below hb9
  replace hb1 := below_below hb1 hb9
  clear RK hb8 hb9 ho8
  have tc0 : True := trivial
  go_upto_region 5 with (first
    | (have _t := tc0; (with_reducible refine G_alloc ?_; refine L_alloc z32' ?_); intro wa k8 ba sa1; clear tc0; have tc1 : True := trivial)
    | (have _t := tc1; (with_reducible refine G_alloc ?_; refine L_alloc z32' ?_); intro wb k9 bb sb; replace k8 := k8.below bb; clear tc1; have tc2 : True := trivial)
    | (have _t := tc2; (with_reducible refine G_alloc ?_; refine L_alloc z32' ?_); intro wd kx bd sd; replace k8 := k8.below bd; replace k9 := k9.below bd; clear tc2; have tc3 : True := trivial)
    | (have _t := tc3; (with_reducible refine G_store ?_; refine L_store_agg ag32 (by with_unfolding_all (conv => lhs; whnf)) (by with_unfolding_all (conv => lhs; whnf)) k8 rfl lA oA ?_); intro we k8' ge se; replace k9 := k9.grown ge (by simp; omega); replace kx := kx.grown ge (by simp; omega); clear tc3; have tc4 : True := trivial)
    | (have _t := tc4; (with_reducible refine G_store ?_; refine L_store_agg ag32 (by with_unfolding_all (conv => lhs; whnf)) (by with_unfolding_all (conv => lhs; whnf)) k9 rfl lB oB ?_); intro wf k9' gf sf; replace k8' := k8'.grown gf (by simp; omega); replace kx := kx.grown gf (by simp; omega); clear tc4; have tc5 : True := trivial)
    | (have _t := tc5; (with_reducible refine G_store ?_; refine L_store_agg ag32 (by with_unfolding_all (conv => lhs; whnf)) (by with_unfolding_all (conv => lhs; whnf)) kx rfl lC oC ?_); intro wg kx' gg sg; replace k8' := k8'.grown gg (by simp; omega); replace k9' := k9'.grown gg (by simp; omega); clear tc5; have tc6 : True := trivial))
  have bA : Below w9.heap.size w9 wg := by
    have b1 := below_below (below_below ba bb) bd
    have b2 := b1.grown ge b1.size (by intro k hk; cases hk; omega)
    have b3 := b2.grown gf b2.size (by intro k hk; cases hk; omega)
    exact b3.grown gg b3.size (by intro k hk; cases hk; omega)
  replace hk := hk.below bA
  replace k5' := k5'.below bA
  replace k6' := k6'.below bA
  replace hb1 := below_below hb1 bA
  replace k8' : Blk wg w9.heap.size 40 YA := by simpa using k8'
  rw [sa1] at k9'
  replace k9' : Blk wg (w9.heap.size + 1) 40 YB := by simpa using k9'
  replace k5' : Blk wg w3.heap.size 40 YA := by simpa using k5'
  replace k6' : Blk wg (w3.heap.size + 1) 40 YB := by simpa using k6'
  generalize w9.heap.size = a9 at *
  generalize w3.heap.size = a3 at *
  clear k8 k9 kx kx' ge gf gg se sf sg sa1 sb sd bA ba bb bd lC oC
  have c2 : _ = some _ := hk.cell 2
  have hz : Tryd.prog.built 68 [(2, .string SO)] = some #[.string ⟨#[]⟩, .string ⟨#[]⟩, .string SO, .string ⟨#[]⟩] := by kernel_rfl
  have one : ∀ u ∈ [Value.string ⟨#[]⟩, Value.string ⟨#[]⟩, Value.string SO, Value.string ⟨#[]⟩], u.oneCell' = true := by intro v hv; simp at hv; rcases hv with rfl | rfl | rfl | rfl <;> rfl
  go_wp2_with fail
  refine (TO _).mono ?_; rintro e wh ⟨rfl, rfl⟩
  have td0 : True := trivial
  go_upto_region 6 with (first
    | (have _t := td0; (with_reducible refine G_alloc ?_; refine L_alloc zFi' ?_); intro wi kf bi si; clear td0; have td1 : True := trivial)
    | (have _t := td1; (with_reducible refine G_store ?_; refine L_store_agg agFi (by with_unfolding_all (conv => lhs; whnf)) (by with_unfolding_all (conv => lhs; whnf)) kf rfl rfl one ?_); intro wj kf' gj sj; clear td1; have td2 : True := trivial))
  have bj := bi.grown gj bi.size (by intro k hk; cases hk; exact Nat.le_refl _)
  replace hk := hk.below bj
  replace k5' := k5'.below bj
  replace k6' := k6'.below bj
  replace k8' := k8'.below bj
  replace k9' := k9'.below bj
  replace hb1 := below_below hb1 bj
  replace kf : Blk wj wg.heap.size 68 [Value.string ⟨#[]⟩, Value.string ⟨#[]⟩, Value.string SO, Value.string ⟨#[]⟩] := kf'
  generalize wg.heap.size = gf at *
  clear kf' bi si gj sj bj c2 TO
  have CTB : ∀ wx, Calls Tryd.prog 34 #[.string S3] wx fun e w' => e = .returned (.string STT) ∧ Below wx.heap.size wx w' := fun wx => (CT wx).mono fun e w' h => ⟨h.1, below_eq h.2⟩
  go_upto_region 6 with fail
  refine region_making 14 (fun _ => []) (fun | 6 => some fun _ => new8 5 A | _ => none) (by kernel_rfl) (by kernel_rfl) ?_ ?_
  · intro i' S' h' e v'
    match i', h' with
    | 6, h' => cases h'; exact new8_loc _ _ _ _
  simp only [List.take_succ_cons, List.take_zero, List.drop_succ_cons, List.drop_zero]
  (apply wpG_pure; (focus rfl); (focus (intro wg Bg hbg hBg hFg; exact pureTo_load_agg agFi (by with_unfolding_all (conv => lhs; whnf)) (kf.drew.below hbg) rfl)); simp only [Act.put, List.setIfInBounds_toArray, List.set_cons_succ, List.set_cons_zero])
  (apply wpG_pure; (focus rfl); (focus (intro wg Bg hbg hBg hFg; go_simp; (try go_bits); (first | done | exact ⟨rfl, Below.refl _ _⟩ | rfl))); simp only [Act.put, List.setIfInBounds_toArray, List.set_cons_succ, List.set_cons_zero])
  (apply wpG_pure; (focus rfl); (focus (intro wg Bg hbg hBg hFg; have hc1 : _ = some (Value.string S3) := (hk.drew.below hbg).cell 3; go_simp; (try go_bits); (first | done | exact ⟨rfl, Below.refl _ _⟩ | rfl))); simp only [Act.put, List.setIfInBounds_toArray, List.set_cons_succ, List.set_cons_zero])
  (apply wpG_pure; (focus rfl); (focus (intro wg Bg hbg hBg hFg; go_simp; (try refine ⟨by kernel_rfl, ?_⟩); go_at_call 34; exact Calls.mono (CTB wg) (fun e w' h => (by obtain ⟨rfl, hb⟩ := h; exact ⟨rfl, hb⟩)))); simp only [Act.put, List.setIfInBounds_toArray, List.set_cons_succ, List.set_cons_zero])
  (apply wpG_pure; (focus rfl); (focus (intro wg Bg hbg hBg hFg; go_simp; (try go_bits); (first | done | exact ⟨rfl, Below.refl _ _⟩ | rfl))); simp only [Act.put, List.setIfInBounds_toArray, List.set_cons_succ, List.set_cons_zero])
  (apply wpG_pure; (focus rfl); (focus (intro wg Bg hbg hBg hFg; have hc1 : _ = some v := (hk.drew.below hbg).cell 4; go_simp; (try go_bits); (first | done | exact ⟨rfl, Below.refl _ _⟩ | rfl))); simp only [Act.put, List.setIfInBounds_toArray, List.set_cons_succ, List.set_cons_zero])
  (apply wpG_make; (focus rfl); (focus (intro wg Bg hbg hBg hFg; go_simp; go_at_call 31; exact Calls.mono (FE _ (hv.below (hb1.drew.trans (hbg.mono hb1.size)))) (fun e w' h => (by obtain ⟨u, rfl, ho, hb⟩ := h; exact ⟨u, rfl, Chg.of_below hb, ⟨ho.mono (Nat.zero_le _), fun g hg => (by first | exact .inr ⟨ho.base_le g hg, ho.lt g hg⟩ | exact ⟨ho.base_le g hg, ho.lt g hg⟩)⟩⟩)))); intro vf; simp only [Act.put, List.setIfInBounds_toArray, List.set_cons_succ, List.set_cons_zero])
  (apply wpG_pure; (focus rfl); (focus (intro wg Bg hbg hBg hFg; go_simp; (try go_bits); (first | done | exact ⟨rfl, Below.refl _ _⟩ | rfl))); simp only [Act.put, List.setIfInBounds_toArray, List.set_cons_succ, List.set_cons_zero])
  (apply wpG_pure; (focus rfl); (focus (intro wg Bg hbg hBg hFg; go_simp; (try refine ⟨by kernel_rfl, ?_⟩); go_at_call 33; exact Calls.mono (CH _ _ (hFg 6 (by decide +kernel) : new8 5 A vf (Bg 6) wg).1.rd) (fun e w' h => (by obtain ⟨rfl, hb⟩ := h; exact ⟨rfl, hb⟩)))); simp only [Act.put, List.setIfInBounds_toArray, List.set_cons_succ, List.set_cons_zero])
  (apply wpG_pure; (focus rfl); (focus (intro wg Bg hbg hBg hFg; go_simp; (try go_bits); (first | done | exact ⟨rfl, Below.refl _ _⟩ | rfl))); simp only [Act.put, List.setIfInBounds_toArray, List.set_cons_succ, List.set_cons_zero])
  (apply wpG_pure; (focus rfl); (focus (intro wg Bg hbg hBg hFg; go_simp; (try go_bits); (first | done | exact ⟨rfl, Below.refl _ _⟩ | rfl))); simp only [Act.put, List.setIfInBounds_toArray, List.set_cons_succ, List.set_cons_zero])
  (apply wpG_pure; (focus rfl); (focus (intro wg Bg hbg hBg hFg; go_simp; (try go_bits); (first | done | exact ⟨rfl, Below.refl _ _⟩ | rfl))); simp only [Act.put, List.setIfInBounds_toArray, List.set_cons_succ, List.set_cons_zero])
  (apply wpG_pure; (focus rfl); (focus (intro wg Bg hbg hBg hFg; go_simp; (try go_bits); (first | done | exact ⟨rfl, Below.refl _ _⟩ | rfl))); simp only [Act.put, List.setIfInBounds_toArray, List.set_cons_succ, List.set_cons_zero])
  (apply wpG_pure; (focus rfl); (focus (intro wg Bg hbg hBg hFg; go_simp; (try go_bits); (first | done | exact ⟨rfl, Below.refl _ _⟩ | rfl))); simp only [Act.put, List.setIfInBounds_toArray, List.set_cons_succ, List.set_cons_zero])
  refine wpG_end (fun wx Bg hbg hBg hFg => ?_)
  clear hFg hBg
  replace hk := hk.drew.below hbg
  replace k5' := k5'.drew.below hbg
  replace k6' := k6'.drew.below hbg
  replace k8' := k8'.drew.below hbg
  replace k9' := k9'.drew.below hbg
  replace kf := kf.drew.below hbg
  replace hb1 : Below w.heap.size w wx := hb1.drew.trans (hbg.mono hb1.size)
  clear hbg
  go_wp2_with fail
  refine region_making 14 (fun _ => []) (fun | 6 => some fun _ => new8 5 A | _ => none) (by kernel_rfl) (by kernel_rfl) ?_ ?_
  · intro i' S' h' e v'
    match i', h' with
    | 6, h' => cases h'; exact new8_loc _ _ _ _
  simp only [List.take_succ_cons, List.take_zero, List.drop_succ_cons, List.drop_zero]
  (apply wpG_pure; (focus rfl); (focus (intro wg Bg hbg hBg hFg; exact pureTo_load_agg agFi (by with_unfolding_all (conv => lhs; whnf)) (kf.drew.below hbg) rfl)); simp only [Act.put, List.setIfInBounds_toArray, List.set_cons_succ, List.set_cons_zero])
  (apply wpG_pure; (focus rfl); (focus (intro wg Bg hbg hBg hFg; go_simp; (try go_bits); (first | done | exact ⟨rfl, Below.refl _ _⟩ | rfl))); simp only [Act.put, List.setIfInBounds_toArray, List.set_cons_succ, List.set_cons_zero])
  (apply wpG_pure; (focus rfl); (focus (intro wg Bg hbg hBg hFg; have hc1 : _ = some (Value.string S3) := (hk.drew.below hbg).cell 3; go_simp; (try go_bits); (first | done | exact ⟨rfl, Below.refl _ _⟩ | rfl))); simp only [Act.put, List.setIfInBounds_toArray, List.set_cons_succ, List.set_cons_zero])
  (apply wpG_pure; (focus rfl); (focus (intro wg Bg hbg hBg hFg; go_simp; (try refine ⟨by kernel_rfl, ?_⟩); go_at_call 34; exact Calls.mono (CTB wg) (fun e w' h => (by obtain ⟨rfl, hb⟩ := h; exact ⟨rfl, hb⟩)))); simp only [Act.put, List.setIfInBounds_toArray, List.set_cons_succ, List.set_cons_zero])
  (apply wpG_pure; (focus rfl); (focus (intro wg Bg hbg hBg hFg; go_simp; (try go_bits); (first | done | exact ⟨rfl, Below.refl _ _⟩ | rfl))); simp only [Act.put, List.setIfInBounds_toArray, List.set_cons_succ, List.set_cons_zero])
  (apply wpG_pure; (focus rfl); (focus (intro wg Bg hbg hBg hFg; have hc1 : _ = some v := (hk.drew.below hbg).cell 4; go_simp; (try go_bits); (first | done | exact ⟨rfl, Below.refl _ _⟩ | rfl))); simp only [Act.put, List.setIfInBounds_toArray, List.set_cons_succ, List.set_cons_zero])
  (apply wpG_make; (focus rfl); (focus (intro wg Bg hbg hBg hFg; go_simp; go_at_call 31; exact Calls.mono (FE _ (hv.below (hb1.drew.trans (hbg.mono hb1.size)))) (fun e w' h => (by obtain ⟨u, rfl, ho, hb⟩ := h; exact ⟨u, rfl, Chg.of_below hb, ⟨ho.mono (Nat.zero_le _), fun g hg => (by first | exact .inr ⟨ho.base_le g hg, ho.lt g hg⟩ | exact ⟨ho.base_le g hg, ho.lt g hg⟩)⟩⟩)))); intro vf; simp only [Act.put, List.setIfInBounds_toArray, List.set_cons_succ, List.set_cons_zero])
  (apply wpG_pure; (focus rfl); (focus (intro wg Bg hbg hBg hFg; go_simp; (try go_bits); (first | done | exact ⟨rfl, Below.refl _ _⟩ | rfl))); simp only [Act.put, List.setIfInBounds_toArray, List.set_cons_succ, List.set_cons_zero])
  (apply wpG_pure; (focus rfl); (focus (intro wg Bg hbg hBg hFg; go_simp; (try refine ⟨by kernel_rfl, ?_⟩); go_at_call 35; exact Calls.mono (RH _ _ (hFg 6 (by decide +kernel) : new8 5 A vf (Bg 6) wg).1.rd) (fun e w' h => (by obtain ⟨rfl, hb⟩ := h; exact ⟨rfl, hb⟩)))); simp only [Act.put, List.setIfInBounds_toArray, List.set_cons_succ, List.set_cons_zero])
  (apply wpG_pure; (focus rfl); (focus (intro wg Bg hbg hBg hFg; go_simp; (try go_bits); (first | done | exact ⟨rfl, Below.refl _ _⟩ | rfl))); simp only [Act.put, List.setIfInBounds_toArray, List.set_cons_succ, List.set_cons_zero])
  (apply wpG_pure; (focus rfl); (focus (intro wg Bg hbg hBg hFg; go_simp; (try go_bits); (first | done | exact ⟨rfl, Below.refl _ _⟩ | rfl))); simp only [Act.put, List.setIfInBounds_toArray, List.set_cons_succ, List.set_cons_zero])
  (apply wpG_pure; (focus rfl); (focus (intro wg Bg hbg hBg hFg; go_simp; (try go_bits); (first | done | exact ⟨rfl, Below.refl _ _⟩ | rfl))); simp only [Act.put, List.setIfInBounds_toArray, List.set_cons_succ, List.set_cons_zero])
  (apply wpG_pure; (focus rfl); (focus (intro wg Bg hbg hBg hFg; go_simp; (try go_bits); (first | done | exact ⟨rfl, Below.refl _ _⟩ | rfl))); simp only [Act.put, List.setIfInBounds_toArray, List.set_cons_succ, List.set_cons_zero])
  (apply wpG_pure; (focus rfl); (focus (intro wg Bg hbg hBg hFg; go_simp; (try go_bits); (first | done | exact ⟨rfl, Below.refl _ _⟩ | rfl))); simp only [Act.put, List.setIfInBounds_toArray, List.set_cons_succ, List.set_cons_zero])
  refine wpG_end (fun wy Bg hbg hBg hFg => ?_)
  clear hFg hBg
  replace hk := hk.drew.below hbg
  replace k5' := k5'.drew.below hbg
  replace k6' := k6'.drew.below hbg
  replace k8' := k8'.drew.below hbg
  replace k9' := k9'.drew.below hbg
  replace kf := kf.drew.below hbg
  replace hb1 : Below w.heap.size w wy := hb1.drew.trans (hbg.mono hb1.size)
  clear hbg
  have WK := fun wz hb => wakes7_c wz (hT.below (w' := wz) hb) (hM.below hb)
  clear CH RH CT CTB FE kf one hz hv
  have te0 : True := trivial
  go_wp2_with (first
    | (have _t := te0; (with_reducible refine G_load ?_; refine L_load_agg ag32 (by with_unfolding_all (conv => lhs; whnf)) k5' lA ?_); clear te0; have te1 : True := trivial)
    | (have _t := te1; (with_reducible refine G_load ?_; refine L_load_agg ag32 (by with_unfolding_all (conv => lhs; whnf)) k8' lA ?_); clear te1; have te2 : True := trivial)
    | (have _t := te2; (refine L_load_aggw (by go_simp) rfl ag32 (by with_unfolding_all (conv => lhs; whnf)) k6' lB ?_); clear te2; have te3 : True := trivial)
    | (have _t := te3; (refine L_load_aggw (by go_simp) rfl ag32 (by with_unfolding_all (conv => lhs; whnf)) k9' lB ?_); clear te3; have te4 : True := trivial)
    | (have _t := te4; go_at_call 36; refine (WK _ hb1).mono ?_; rintro e wz ⟨rfl, hbz⟩; clear te4; have te5 : True := trivial))
  go_ret
  exact ⟨by simp, below_below hb1 hbz⟩
theorem scramKeys_w (w : World) (hT : Tabs w) (hM : MaxL w) (s0 : ByteArray) (h0 : s0.size ≤ maxLen) (s1 : ByteArray) (h1 : s1.size ≤ maxLen) (s2 : ByteArray) (h2 : s2.size ≤ maxLen) (s3 : ByteArray) (h3 : s3.size ≤ maxLen) (v : Value) (sa : List UInt8) (hv : Rd w v sa) (n : Int) (hn : -9223372036854775808 ≤ n ∧ n ≤ 9223372036854775807) :
    Calls Tryd.prog 8 #[.agg #[.string s0, .string s1, .string s2, .string s3, v, .int .i64 n]] w (Ok w) := by
  have e : ∀ s : ByteArray, s = strB s.data.toList := fun s => by unfold strB; simp
  have l : ∀ s : ByteArray, s.size ≤ maxLen → s.data.toList.length ≤ 9223372036854775807 := fun s hs => by
    have e : s.data.toList.length = s.size := rfl
    unfold maxLen at hs
    omega
  rw [e s0, e s1, e s2, e s3]
  exact sk_walk w hT hM _ _ _ _ (l s0 h0) (l s2 h2) (l s3 h3) v sa hv n hn
end Go.Proofs.YtfnlcnjflloecaaDoor
