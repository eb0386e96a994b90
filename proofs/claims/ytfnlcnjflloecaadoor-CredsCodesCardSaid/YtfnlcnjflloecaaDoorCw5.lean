/- The reference's Write. -/
import Derived.Test.YtfnlcnjflloecaaDoorCw4
set_option linter.unusedVariables false
set_option linter.unusedSimpArgs false
set_option linter.unnecessarySimpa false
namespace Go.Proofs.YtfnlcnjflloecaaDoor
open Go.RowKit
set_option maxRecDepth 100000 in
set_option maxHeartbeats 3200000 in
theorem refcwrite_c (u : List UInt8) (vs : Value) (s : List UInt8) (n : Int) (A B : List UInt8) (w : World) (hs : Rd w vs s) (hA : A.length = 32) (hB : B.length = 32) (hr : rightB u s n = true) :
    Calls Tryd.prog 25 #[.agg (recC u vs n A B).toArray] w (Gives8 5 w (writeR u s n A B)) := by
  obtain ⟨_, ⟨hs1, hs2⟩, hn1, hn2, hul⟩ := rightB_true hr
  have c0 : (recC u vs n A B)[0]? = some (.string (strB u)) := rfl
  have c1 : (recC u vs n A B)[1]? = some vs := rfl
  have c2 : (recC u vs n A B)[2]? = some (.int .i64 n) := rfl
  have r1 : ∀ (W : World) g, Blk W g 42 (recC u vs n A B) → W.rangeAt g 3 (bvs A) ∧ W.rangeAt g 35 (bvs B) := fun W g h => ⟨rec_st h hA, rec_sv h hA⟩
  obtain ⟨AA, cc, rfl, _, _, _⟩ := hs.open
  generalize recC u (.slice AA s.length cc) n A B = R at *
  obtain ⟨N, rfl⟩ := Int.eq_ofNat_of_zero_le (by omega : 0 ≤ n)
  have hW : writeR u s (N : Int) A B = formU u.length ++ u ++ formU s.length ++ s ++ formU N ++ A ++ B := rfl
  generalize writeR u s (N : Int) A B = W at *
  have lu := formU_len64 u.length (by omega)
  have ls := formU_len64 s.length (by omega)
  have ln := formU_len64 N (by omega)
  have P0 := fun w1 => refputtext_c (.slice none 0 0) [] u w1 (Rd.nil w1) (by simp) (by omega)
  obtain ⟨X1, hX1⟩ : ∃ X1, X1 = [] ++ formU u.length ++ u := ⟨_, rfl⟩
  rw [← hX1] at P0
  have lX1 : X1.length ≤ 100 := by rw [hX1]; simp; omega
  have P1 := fun v w1 h => refputuint_c v X1 s.length w1 h (by omega) (by omega)
  obtain ⟨X2, hX2⟩ : ∃ X2, X2 = X1 ++ formU s.length := ⟨_, rfl⟩
  rw [← hX2] at P1
  have lX2 : X2.length ≤ 200 := by rw [hX2]; simp; omega
  obtain ⟨X2s, hX2s⟩ : ∃ X, X = X2 ++ s := ⟨_, rfl⟩
  have lX2s : X2s.length ≤ 240 := by rw [hX2s]; simp; omega
  have P2 := fun v w1 h => refputuint_c v X2s N w1 h (by omega) (by omega)
  obtain ⟨X3, hX3⟩ : ∃ X3, X3 = X2s ++ formU N := ⟨_, rfl⟩
  rw [← hX3] at P2
  have lX3 : X3.length ≤ 300 := by rw [hX3]; simp; omega
  have hW2 : W = X3 ++ A ++ B := by rw [hW, hX3, hX2s, hX2, hX1]; simp
  replace hW2 := Go.Lib.hid hW2
  replace hX2s := Go.Lib.hid hX2s
  have q1 : (N : Int) ≤ 4096 := hn2
  have q2 : (0 : Int) ≤ N := by omega
  have q3 : (s.length : Int) ≤ 32 := by omega
  clear hW hX1 hX2 hX3 hr lu ls ln hn1 hn2
  generalize formU s.length = FS at *
  go_enter Tryd.func25, Tryd.ntmps25
  have ta0 : True := trivial
  go_upto_region 2 with (first
    | (have _t := ta0; (with_reducible refine G_box ?_; refine L_box (by with_unfolding_all (conv => lhs; whnf)) ?_); intro w1 hk1 hb1 hz1; replace hk1 : Blk w1 w.heap.size 42 R := hk1; have d0 := (hk1.cell 0).trans c0; clear ta0; have ta1 : True := trivial)
    | (have _t := ta1; go_at_call 66; refine (P0 _).mono ?_; rintro e w2 ⟨va, rfl, ho2, hb2⟩; replace hk1 := hk1.below hb2; replace hb1 := below_below hb1 hb2; clear ta1; have ta2 : True := trivial))
  have hsg := hs.below hb1
  refine region_making 10 (fun | 8 => [5] | _ => []) (fun | 5 => some fun _ => new8 5 X2 | 8 => some fun _ => new8 5 (X2 ++ s) | _ => none) (by kernel_rfl) (by kernel_rfl) ?_ ?_
  · intro i' S' h' e v'
    match i', h' with
    | 5, h' => cases h'; exact new8_loc _ _ _ _
    | 8, h' => cases h'; exact new8_loc _ _ _ _
  simp only [List.take_succ_cons, List.take_zero, List.drop_succ_cons, List.drop_zero]
  (apply wpG_pure; (focus rfl); (focus (intro wg Bg hbg hBg hFg; go_simp; (try go_bits); (first | done | exact ⟨rfl, Below.refl _ _⟩ | rfl))); simp only [Act.put, List.setIfInBounds_toArray, List.set_cons_succ, List.set_cons_zero])
  (apply wpG_pure; (focus rfl); (focus (intro wg Bg hbg hBg hFg; go_simp; (try go_bits); (first | done | exact ⟨rfl, Below.refl _ _⟩ | rfl))); simp only [Act.put, List.setIfInBounds_toArray, List.set_cons_succ, List.set_cons_zero])
  (apply wpG_pure; (focus rfl); (focus (intro wg Bg hbg hBg hFg; have d0 := ((hk1.drew.below hbg).cell 1).trans c1; go_simp; (try go_bits); (first | done | exact ⟨rfl, Below.refl _ _⟩ | rfl))); simp only [Act.put, List.setIfInBounds_toArray, List.set_cons_succ, List.set_cons_zero])
  (apply wpG_pure; (focus rfl); (focus (intro wg Bg hbg hBg hFg; go_simp; (try go_bits); (first | done | exact ⟨rfl, Below.refl _ _⟩ | rfl))); simp only [Act.put, List.setIfInBounds_toArray, List.set_cons_succ, List.set_cons_zero])
  (apply wpG_pure; (focus rfl); (focus (intro wg Bg hbg hBg hFg; go_simp; (try go_bits); (first | done | exact ⟨rfl, Below.refl _ _⟩ | rfl))); simp only [Act.put, List.setIfInBounds_toArray, List.set_cons_succ, List.set_cons_zero])
  (apply wpG_make; (focus rfl); (focus (intro wg Bg hbg hBg hFg; go_simp; go_at_call 67; exact Calls.mono (P1 va wg (ho2.rd.drew.below hbg)) (fun e w' h => (by obtain ⟨u, rfl, ho, hb⟩ := h; exact ⟨u, rfl, Chg.of_below hb, ⟨ho.mono (Nat.zero_le _), fun g hg => (by first | exact .inr ⟨ho.base_le g hg, ho.lt g hg⟩ | exact ⟨ho.base_le g hg, ho.lt g hg⟩)⟩⟩)))); intro vb; simp only [Act.put, List.setIfInBounds_toArray, List.set_cons_succ, List.set_cons_zero])
  (apply wpG_pure; (focus rfl); (focus (intro wg Bg hbg hBg hFg; go_simp; (try go_bits); (first | done | exact ⟨rfl, Below.refl _ _⟩ | rfl))); simp only [Act.put, List.setIfInBounds_toArray, List.set_cons_succ, List.set_cons_zero])
  (apply wpG_pure; (focus rfl); (focus (intro wg Bg hbg hBg hFg; have d0 := ((hk1.drew.below hbg).cell 1).trans c1; go_simp; (try go_bits); (first | done | exact ⟨rfl, Below.refl _ _⟩ | rfl))); simp only [Act.put, List.setIfInBounds_toArray, List.set_cons_succ, List.set_cons_zero])
  (apply wpG_make; (focus rfl); (focus (intro wg Bg hbg hBg hFg; have hN := hFg 5 (by decide +kernel); refine goesTo_app8w (by go_simp) _ _ rfl st8 (by with_unfolding_all (conv => lhs; whnf)) (id hN).1 (by with_unfolding_all (conv => lhs; whnf)) (Rd.src (hsg.drew.below hbg) Tryd.underlying37) (by first | omega | (simp; omega)) (Nat.zero_le _) (fun g hg => ⟨5, by simp, (id hN).2 g hg⟩))); intro vc; simp only [Act.put, List.setIfInBounds_toArray, List.set_cons_succ, List.set_cons_zero])
  (apply wpG_pure; (focus rfl); (focus (intro wg Bg hbg hBg hFg; go_simp; (try go_bits); (first | done | exact ⟨rfl, Below.refl _ _⟩ | rfl))); simp only [Act.put, List.setIfInBounds_toArray, List.set_cons_succ, List.set_cons_zero])
  refine wpG_end (fun wg Bg hbg hBg hFg => ?_)
  have hN : new8 5 (X2 ++ s) vc (Bg 8) wg := hFg 8
  rw [← hX2s.out] at hN
  have hrc : Rd wg vc X2s := hN.1.rd
  have z1 : w.heap.size < w2.heap.size := hk1.lt
  replace hk1 := hk1.drew.below hbg
  replace hb1 : Below w.heap.size w wg := hb1.drew.trans (hbg.mono hb1.size)
  have z2 : w.heap.size < wg.heap.size := hk1.lt
  have d2 := (hk1.cell 2).trans c2
  clear hFg hBg hN hbg P0 P1 ho2 hb2 hsg d0
  have tb0 : True := trivial
  go_upto_region 4 with (first
    | (have _t := tb0; go_at_call 67; refine (P2 _ _ hrc).mono ?_; rintro e w4 ⟨vd, rfl, ho4, hb4⟩; replace hk1 := hk1.below hb4; replace hb1 := below_below hb1 hb4; clear tb0; have tb1 : True := trivial))
  have hmr : ¬ vd.ownBlock = some w.heap.size := fun e2 => by have h2 := ho4.base_le _ e2; omega
  have hlt4 := fun g (hg : vd.ownBlock = some g) => ho4.base_le g hg
  obtain ⟨X4, hX4⟩ : ∃ X4, X4 = X3 ++ A := ⟨_, rfl⟩
  obtain ⟨X5, hX5⟩ : ∃ X5, X5 = X4 ++ B := ⟨_, rfl⟩
  have lX4 : X4.length ≤ 400 := by rw [hX4]; simp; omega
  refine O.region_making 8 (fun | 3 => [100] | 6 => [3] | _ => []) (fun | 3 => some fun _ => new8 5 (X3 ++ A) | 6 => some fun _ => new8 5 (X3 ++ A ++ B) | _ => none) 3 100 (fun k => vd.ownBlock = some k) (new8 5 X3 vd) (by kernel_rfl) (by kernel_rfl) ?_ ?_ ?_ ?_ ?_
  · intro i' S' h' e v'
    match i', h' with
    | 3, h' => cases h'; exact O.new8_loc _ _ _ _ _
    | 6, h' => cases h'; exact O.new8_loc _ _ _ _ _
  · exact O.new8_loc _ _ _ _ _
  · exact ⟨(ho4.mono (Nat.zero_le _)).drew, fun g hg => hg⟩
  · exact fun k hk => ho4.lt k hk
  simp only [List.take_succ_cons, List.take_zero, List.drop_succ_cons, List.drop_zero]
  (apply O.wpG_pure; (focus rfl); (focus (intro wg Bg hbg hBg hFg; go_simp; (try go_bits); (first | done | exact ⟨rfl, Below.refl _ _⟩ | rfl))); simp only [Act.put, List.setIfInBounds_toArray, List.set_cons_succ, List.set_cons_zero])
  (apply O.wpG_pure; (focus rfl); (focus (intro wg Bg hbg hBg hFg; go_simp; (try go_bits); (first | done | exact ⟨rfl, Below.refl _ _⟩ | rfl))); simp only [Act.put, List.setIfInBounds_toArray, List.set_cons_succ, List.set_cons_zero])
  (apply O.wpG_pure; (focus rfl); (focus (intro wg Bg hbg hBg hFg; go_simp; (try go_bits); (first | done | exact ⟨rfl, Below.refl _ _⟩ | rfl))); simp only [Act.put, List.setIfInBounds_toArray, List.set_cons_succ, List.set_cons_zero])
  (apply O.wpG_make; (focus rfl); (focus (intro wg Bg hbg hBg hFg; have hN := hFg 100 (by decide +kernel); refine goesTo_app8w (by go_simp) _ _ rfl st8 (by with_unfolding_all (conv => lhs; whnf)) (id hN).1 (by with_unfolding_all (conv => lhs; whnf)) (Rd.src (rd_range (r1 _ _ (hk1.drew.chg hbg hmr)).1 hA) Tryd.underlying37) (by first | omega | (simp; omega)) (Nat.zero_le _) (fun g hg => ⟨100, by simp, (id hN).2 g hg⟩))); intro ve; simp only [Act.put, List.setIfInBounds_toArray, List.set_cons_succ, List.set_cons_zero])
  (apply O.wpG_pure; (focus rfl); (focus (intro wg Bg hbg hBg hFg; go_simp; (try go_bits); (first | done | exact ⟨rfl, Below.refl _ _⟩ | rfl))); simp only [Act.put, List.setIfInBounds_toArray, List.set_cons_succ, List.set_cons_zero])
  (apply O.wpG_pure; (focus rfl); (focus (intro wg Bg hbg hBg hFg; go_simp; (try go_bits); (first | done | exact ⟨rfl, Below.refl _ _⟩ | rfl))); simp only [Act.put, List.setIfInBounds_toArray, List.set_cons_succ, List.set_cons_zero])
  (apply O.wpG_make; (focus rfl); (focus (intro wg Bg hbg hBg hFg; have hN := hFg 3 (by decide +kernel); refine goesTo_app8w (by go_simp) _ _ rfl st8 (by with_unfolding_all (conv => lhs; whnf)) (id hN).1 (by with_unfolding_all (conv => lhs; whnf)) (Rd.src (rd_range (r1 _ _ (hk1.drew.chg hbg hmr)).2 hB) Tryd.underlying37) (by first | omega | (simp; omega)) (Nat.zero_le _) (fun g hg => ⟨3, by simp, (id hN).2 g hg⟩))); intro vf; simp only [Act.put, List.setIfInBounds_toArray, List.set_cons_succ, List.set_cons_zero])
  (apply O.wpG_pure; (focus rfl); (focus (intro wg Bg hbg hBg hFg; go_simp; (try go_bits); (first | done | exact ⟨rfl, Below.refl _ _⟩ | rfl))); simp only [Act.put, List.setIfInBounds_toArray, List.set_cons_succ, List.set_cons_zero])
  refine O.wpG_end (fun wh Bg hbg hBg hFg => ?_)
  have hN : new8 5 (X3 ++ A ++ B) vf (Bg 6) wh := hFg 6
  have hbz := hb1.size
  have hlo : ∀ g, vf.ownBlock = some g → w.heap.size ≤ g := fun g hg => by
    rcases hBg.lo 6 g (hN.2 g hg) with h | h
    · exact Nat.le_trans hb1.size h
    · have := hlt4 g h; omega
  have hown : Own8 wh w.heap.size 5 vf (X3 ++ A ++ B) := hN.1.rebase2 hlo
  have hbw : Below w.heap.size w wh := hb1.drew.trans (hbg.below hb1.size (fun k hk => by have := hlt4 k hk; omega))
  go_wp2_with fail
  go_ret
  exact ⟨_, rfl, by rw [hW2.out]; exact hown, hbw⟩
end Go.Proofs.YtfnlcnjflloecaaDoor
