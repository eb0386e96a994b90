/- creds.Write. -/
import Derived.Test.YtfnlcnjflloecaaDoorCw3
set_option linter.unusedVariables false
set_option linter.unusedSimpArgs false
set_option linter.unnecessarySimpa false
namespace Go.Proofs.YtfnlcnjflloecaaDoor
open Go.RowKit
def writeR (u s : List UInt8) (n : Int) (A B : List UInt8) : List UInt8 := formU u.length ++ u ++ formU s.length ++ s ++ formU n.toNat ++ A ++ B
theorem localI_le (s : List UInt8) : (localI s).1.length ≤ 64 := by
  unfold localI
  split
  · simp
  · rename_i h
    have h' : sizedI s = 0 := by omega
    obtain ⟨h1, _, h3⟩ := sizedI_zero.1 h'
    split
    · show (Lib.mapD foldI s).length ≤ 64
      rw [map_len foldI_ok foldI_sized s.length s (Nat.le_refl _) h3]; exact h1
    · simp
def GivesCW (w : World) (r : List UInt8 × Int) (e : Ending) (w' : World) : Prop := ∃ v, e = .returned (.tuple #[v, .int .i64 r.2]) ∧ Own8 w' w.heap.size 5 v r.1 ∧ Below w.heap.size w w'
theorem rightB_true {u s : List UInt8} {n : Int} (h : rightB u s n = true) : localI u = (u, 0) ∧ (1 ≤ s.length ∧ s.length ≤ 32) ∧ 1 ≤ n ∧ n ≤ 4096 ∧ u.length ≤ 64 := by
  unfold rightB saltB at h
  simp only [Bool.and_eq_true, decide_eq_true_eq] at h
  obtain ⟨⟨⟨h1, h2⟩, h3⟩, h4⟩ := h
  have := localI_le u
  rw [h1] at this
  exact ⟨h1, h2, h3, h4, this⟩
/-- Three slices in a new row. -/
def blk3 (T : TypeId) (cs : List Value) : GSpec := fun u B w => ∃ g, u = .slice (some ⟨g, 0, none⟩) cs.length cs.length ∧ B g ∧ Blk w g T cs
theorem blk3_loc (T : TypeId) (cs : List Value) (w0 : World) (u : Value) : Loc w0 (blk3 T cs u) := by
  intro B w w' ⟨g, h1, h2, h3⟩ hs hk
  exact ⟨g, h1, h2, by unfold Blk; rw [hk g h3.lt (.inr h2)]; exact h3⟩
theorem goesTo_blk3 {P : Program} {w : World} {ops : Array Oper} {a : Act} {M : Nat → Prop} {o : Oper} {T : TypeId} {cs : List Value} {n : Nat} (hw : Region.wanted o (yielded ops a.tmps) = true) (hn : n = cs.length)
    (hr : (execOp a.eval o).run P w = .ok (.value (.slice (some ⟨w.heap.size, 0, none⟩) n n)) (w.alloc (.cells cs.toArray T))) :
    GoesTo P ops o a w fun v' w' => Chg M w w' ∧ blk3 T cs v' (fun b => M b ∨ (w.heap.size ≤ b ∧ b < w'.heap.size)) w' := by
  subst hn
  unfold GoesTo
  rw [if_pos hw, hr]
  exact ⟨Chg.of_below ((Below.refl _ _).alloc (Nat.le_refl _) _), w.heap.size, rfl, .inr ⟨Nat.le_refl _, by simp⟩, Blk.new w T cs⟩
theorem rd_range {w : World} {g k : Nat} {A : List UInt8} (h : w.rangeAt g k (bvs A)) (hA : A.length = 32) : Rd w (.slice (some ⟨g, k, none⟩) 32 32) A :=
  Rd.mk hA.symm (Nat.le_refl _) (by decide) fun _ => ⟨g, k, rfl, fun j hj => h j _ (bvs_get A j (by omega))⟩
theorem concat3_c (g : Nat) (v : Value) (k : Nat) (X A B : List UInt8) (w : World) (T : TypeId) (h : Blk w g T [v, .slice (some ⟨k, 3, none⟩) 32 32, .slice (some ⟨k, 35, none⟩) 32 32]) (hv : Rd w v X) (h3 : w.rangeAt k 3 (bvs A)) (h35 : w.rangeAt k 35 (bvs B)) (hA : A.length = 32) (hB : B.length = 32) (hX : X.length ≤ 1000) :
    Calls Tryd.prog 65 #[.slice (some ⟨g, 0, none⟩) 3 3] w (Gives8 5 w (X ++ A ++ B)) := by
  have e : X ++ A ++ B = [X, A, B].flatten := by simp
  rw [e]
  refine concat_c g 3 [X, A, B] w (fun j hj => ?_) (Nat.le_refl _) (by simp) (by simp; omega) (by simp; omega)
  have hj3 : j < 3 := hj
  rcases (by omega : j = 0 ∨ j = 1 ∨ j = 2) with rfl | rfl | rfl
  · exact ⟨v, h.cell 0, hv⟩
  · exact ⟨_, h.cell 1, rd_range h3 hA⟩
  · exact ⟨_, h.cell 2, rd_range h35 hB⟩
set_option maxRecDepth 100000 in
set_option maxHeartbeats 3200000 in
theorem cwrite_c (u : List UInt8) (vs : Value) (s : List UInt8) (n : Int) (A B : List UInt8) (w : World) (hs : Rd w vs s) (hu : u.length ≤ 100000) (hA : A.length = 32) (hB : B.length = 32) (hT : Tabs w) :
    Calls Tryd.prog 23 #[.agg (recC u vs n A B).toArray] w (GivesCW w (if rightB u s n = true then (writeR u s n A B, 0) else ([], 1))) := by
  have RC := fun w1 (hb : Below w.heap.size w w1) => cright_c u vs s n A B w1 (hs.below hb) hu (hT.below hb)
  have hrt := rightB_true (u := u) (s := s) (n := n)
  have c0 : (recC u vs n A B)[0]? = some (.string (strB u)) := rfl
  have c1 : (recC u vs n A B)[1]? = some vs := rfl
  have c2 : (recC u vs n A B)[2]? = some (.int .i64 n) := rfl
  have lR : (recC u vs n A B).length = 67 := recC_len hA hB
  have r1 : ∀ (W : World) g, Blk W g 42 (recC u vs n A B) → W.rangeAt g 3 (bvs A) ∧ W.rangeAt g 35 (bvs B) := fun W g h => ⟨rec_st h hA, rec_sv h hA⟩
  obtain ⟨AA, cc, rfl, _, _, _⟩ := hs.open
  generalize recC u (.slice AA s.length cc) n A B = R at *
  cases hr : rightB u s n
  · rw [hr] at RC
    rw [if_neg (by simp)]
    clear hrt hr
    go_enter Tryd.func23, Tryd.ntmps23
    have ta0 : True := trivial
    go_wp2_with (first
      | (have _t := ta0; (with_reducible refine G_box ?_; refine L_box (by with_unfolding_all (conv => lhs; whnf)) ?_); intro w1 hk1 hb1 hs1; replace hk1 : Blk w1 w.heap.size 42 R := hk1; clear ta0; have ta1 : True := trivial)
      | (have _t := ta1; (with_reducible refine G_load ?_; refine L_load_agg agR (by with_unfolding_all (conv => lhs; whnf)) hk1 lR ?_); clear ta1; have ta2 : True := trivial)
      | (have _t := ta2; go_at_call 62; refine (RC _ hb1).mono ?_; rintro e w2 ⟨rfl, hb2⟩; clear ta2; have ta3 : True := trivial))
    go_ret2
    exact ⟨_, rfl, Own8.nil _ _ _, below_below hb1 hb2⟩
  · rw [hr] at RC
    rw [if_pos rfl]
    obtain ⟨_, ⟨hs1, hs2⟩, hn1, hn2, hul⟩ := hrt hr
    obtain ⟨N, rfl⟩ := Int.eq_ofNat_of_zero_le (by omega : 0 ≤ n)
    have hW : writeR u s (N : Int) A B = formU u.length ++ u ++ formU s.length ++ s ++ formU N ++ A ++ B := rfl
    generalize writeR u s (N : Int) A B = W at *
    have lu := formU_len64 u.length (by omega)
    have ls := formU_len64 s.length (by omega)
    have ln := formU_len64 N (by omega)
    have P0 := fun w1 => puttext_c (.slice none 0 0) [] u w1 (Rd.nil w1) (by simp) (by omega)
    obtain ⟨X1, hX1⟩ : ∃ X1, X1 = [] ++ formU u.length ++ u := ⟨_, rfl⟩
    rw [← hX1] at P0
    have lX1 : X1.length ≤ 100 := by rw [hX1]; simp; omega
    have P1 := fun v w1 h => putuint_c v X1 s.length w1 h (by omega) (by omega)
    obtain ⟨X2, hX2⟩ : ∃ X2, X2 = X1 ++ formU s.length := ⟨_, rfl⟩
    rw [← hX2] at P1
    have lX2 : X2.length ≤ 200 := by rw [hX2]; simp; omega
    have P2 := fun v w1 h => putuint_c v (X2 ++ s) N w1 h (by simp; omega) (by omega)
    obtain ⟨X3, hX3⟩ : ∃ X3, X3 = X2 ++ s ++ formU N := ⟨_, rfl⟩
    rw [← hX3] at P2
    have lX3 : X3.length ≤ 300 := by rw [hX3]; simp; omega
    have hW2 : W = X3 ++ A ++ B := by rw [hW, hX3, hX2, hX1]; simp
    replace hW2 := Go.Lib.hid hW2
    have q1 : (N : Int) ≤ 4096 := hn2
    have q2 : (0 : Int) ≤ N := by omega
    have q3 : (s.length : Int) ≤ 32 := by omega
    clear hW hX1 hX2 hX3 hrt hr lu ls ln hn1 hn2
    generalize formU s.length = FS at *
    go_enter Tryd.func23, Tryd.ntmps23
    have tb0 : True := trivial
    go_upto_region 3 with (first
      | (have _t := tb0; (with_reducible refine G_box ?_; refine L_box (by with_unfolding_all (conv => lhs; whnf)) ?_); intro w1 hk1 hb1 hz1; replace hk1 : Blk w1 w.heap.size 42 R := hk1; clear tb0; have tb1 : True := trivial)
      | (have _t := tb1; (with_reducible refine G_load ?_; refine L_load_agg agR (by with_unfolding_all (conv => lhs; whnf)) hk1 lR ?_); clear tb1; have tb2 : True := trivial)
      | (have _t := tb2; go_at_call 62; refine (RC _ hb1).mono ?_; rintro e w2 ⟨rfl, hb2⟩; replace hk1 := hk1.below hb2; replace hb1 := below_below hb1 hb2; clear tb2; have tb3 : True := trivial))
    clear RC hz1 hb2
    refine region_making 9 (fun _ => []) (fun | 2 => some fun _ => new8 5 X1 | 7 => some fun _ => new8 5 X2 | _ => none) (by kernel_rfl) (by kernel_rfl) ?_ ?_
    · intro i' S' h' e v'
      match i', h' with
      | 2, h' => cases h'; exact new8_loc _ _ _ _
      | 7, h' => cases h'; exact new8_loc _ _ _ _
    simp only [List.take_succ_cons, List.take_zero, List.drop_succ_cons, List.drop_zero]
    (apply wpG_pure; (focus rfl); (focus (intro wg Bg hbg hBg hFg; go_simp; (try go_bits); (first | done | exact ⟨rfl, Below.refl _ _⟩ | rfl))); simp only [Act.put, List.setIfInBounds_toArray, List.set_cons_succ, List.set_cons_zero])
    (apply wpG_pure; (focus rfl); (focus (intro wg Bg hbg hBg hFg; have d0 := ((hk1.drew.below hbg).cell 0).trans c0; go_simp; (try go_bits); (first | done | exact ⟨rfl, Below.refl _ _⟩ | rfl))); simp only [Act.put, List.setIfInBounds_toArray, List.set_cons_succ, List.set_cons_zero])
    (apply wpG_make; (focus rfl); (focus (intro wg Bg hbg hBg hFg; go_simp; go_at_call 64; exact Calls.mono (P0 _) (fun e w' h => (by obtain ⟨u, rfl, ho, hb⟩ := h; exact ⟨u, rfl, Chg.of_below hb, ⟨ho.mono (Nat.zero_le _), fun g hg => (by first | exact .inr ⟨ho.base_le g hg, ho.lt g hg⟩ | exact ⟨ho.base_le g hg, ho.lt g hg⟩)⟩⟩)))); intro va; simp only [Act.put, List.setIfInBounds_toArray, List.set_cons_succ, List.set_cons_zero])
    (apply wpG_pure; (focus rfl); (focus (intro wg Bg hbg hBg hFg; go_simp; (try go_bits); (first | done | exact ⟨rfl, Below.refl _ _⟩ | rfl))); simp only [Act.put, List.setIfInBounds_toArray, List.set_cons_succ, List.set_cons_zero])
    (apply wpG_pure; (focus rfl); (focus (intro wg Bg hbg hBg hFg; have d0 := ((hk1.drew.below hbg).cell 1).trans c1; go_simp; (try go_bits); (first | done | exact ⟨rfl, Below.refl _ _⟩ | rfl))); simp only [Act.put, List.setIfInBounds_toArray, List.set_cons_succ, List.set_cons_zero])
    (apply wpG_pure; (focus rfl); (focus (intro wg Bg hbg hBg hFg; go_simp; (try go_bits); (first | done | exact ⟨rfl, Below.refl _ _⟩ | rfl))); simp only [Act.put, List.setIfInBounds_toArray, List.set_cons_succ, List.set_cons_zero])
    (apply wpG_pure; (focus rfl); (focus (intro wg Bg hbg hBg hFg; go_simp; (try go_bits); (first | done | exact ⟨rfl, Below.refl _ _⟩ | rfl))); simp only [Act.put, List.setIfInBounds_toArray, List.set_cons_succ, List.set_cons_zero])
    (apply wpG_make; (focus rfl); (focus (intro wg Bg hbg hBg hFg; have hN : new8 5 X1 va (Bg 2) wg := hFg 2 (by decide +kernel); go_simp; go_at_call 63; exact Calls.mono (P1 va wg hN.1.rd) (fun e w' h => (by obtain ⟨u, rfl, ho, hb⟩ := h; exact ⟨u, rfl, Chg.of_below hb, ⟨ho.mono (Nat.zero_le _), fun g hg => (by first | exact .inr ⟨ho.base_le g hg, ho.lt g hg⟩ | exact ⟨ho.base_le g hg, ho.lt g hg⟩)⟩⟩)))); intro vb; simp only [Act.put, List.setIfInBounds_toArray, List.set_cons_succ, List.set_cons_zero])
    (apply wpG_pure; (focus rfl); (focus (intro wg Bg hbg hBg hFg; go_simp; (try go_bits); (first | done | exact ⟨rfl, Below.refl _ _⟩ | rfl))); simp only [Act.put, List.setIfInBounds_toArray, List.set_cons_succ, List.set_cons_zero])
    refine wpG_end (fun wg Bg hbg hBg hFg => ?_)
    have hN : new8 5 X2 vb (Bg 7) wg := hFg 7
    have z1 : w.heap.size < w2.heap.size := hk1.lt
    have hlo : ∀ g, vb.ownBlock = some g → w2.heap.size ≤ g := fun g hg => hBg.lo 7 g (hN.2 g hg)
    have hown : Own8 wg (w.heap.size + 1) 5 vb X2 := hN.1.rebase2 (fun g hg => by have := hlo g hg; omega)
    replace hk1 := hk1.drew.below hbg
    replace hb1 : Below w.heap.size w wg := hb1.drew.trans (hbg.mono hb1.size)
    clear hFg hBg hN hbg P0 P1 hlo z1
    have hms : ∀ g, (Value.slice AA s.length cc).ownBlock = some g → ¬ vb.ownBlock = some g := fun g e1 e2 => by
      have h1 := hs.lt g e1 (by omega)
      have h2 := hown.base_le g e2
      omega
    have hmr : ¬ vb.ownBlock = some w.heap.size := fun e2 => by have h2 := hown.base_le _ e2; omega
    have hsg := hs.below hb1
    go_upto_region 4 with fail
    refine O.region_making 9 (fun | 3 => [100] | _ => []) (fun | 3 => some fun _ => new8 5 (X2 ++ s) | 7 => some fun _ => new8 5 X3 | _ => none) 3 100 (fun k => vb.ownBlock = some k) (new8 5 X2 vb) (by kernel_rfl) (by kernel_rfl) ?_ ?_ ?_ ?_ ?_
    · intro i' S' h' e v'
      match i', h' with
      | 3, h' => cases h'; exact O.new8_loc _ _ _ _ _
      | 7, h' => cases h'; exact O.new8_loc _ _ _ _ _
    · exact O.new8_loc _ _ _ _ _
    · exact ⟨(hown.mono (Nat.zero_le _)).drew, fun g hg => hg⟩
    · exact fun k hk => hown.lt k hk
    simp only [List.take_succ_cons, List.take_zero, List.drop_succ_cons, List.drop_zero]
    (apply O.wpG_pure; (focus rfl); (focus (intro wg Bg hbg hBg hFg; go_simp; (try go_bits); (first | done | exact ⟨rfl, Below.refl _ _⟩ | rfl))); simp only [Act.put, List.setIfInBounds_toArray, List.set_cons_succ, List.set_cons_zero])
    (apply O.wpG_pure; (focus rfl); (focus (intro wg Bg hbg hBg hFg; go_simp; (try go_bits); (first | done | exact ⟨rfl, Below.refl _ _⟩ | rfl))); simp only [Act.put, List.setIfInBounds_toArray, List.set_cons_succ, List.set_cons_zero])
    (apply O.wpG_pure; (focus rfl); (focus (intro wg Bg hbg hBg hFg; have d0 := ((hk1.drew.chg hbg hmr).cell 1).trans c1; go_simp; (try go_bits); (first | done | exact ⟨rfl, Below.refl _ _⟩ | rfl))); simp only [Act.put, List.setIfInBounds_toArray, List.set_cons_succ, List.set_cons_zero])
    (apply O.wpG_make; (focus rfl); (focus (intro wg Bg hbg hBg hFg; have hN := hFg 100 (by decide +kernel); refine goesTo_app8w (by go_simp) _ _ rfl st8 (by with_unfolding_all (conv => lhs; whnf)) (id hN).1 (by with_unfolding_all (conv => lhs; whnf)) (Rd.src (hsg.drew.chg hbg hms) Tryd.underlying37) (by first | omega | (simp; omega)) (Nat.zero_le _) (fun g hg => ⟨100, by simp, (id hN).2 g hg⟩))); intro vc; simp only [Act.put, List.setIfInBounds_toArray, List.set_cons_succ, List.set_cons_zero])
    (apply O.wpG_pure; (focus rfl); (focus (intro wg Bg hbg hBg hFg; go_simp; (try go_bits); (first | done | exact ⟨rfl, Below.refl _ _⟩ | rfl))); simp only [Act.put, List.setIfInBounds_toArray, List.set_cons_succ, List.set_cons_zero])
    (apply O.wpG_pure; (focus rfl); (focus (intro wg Bg hbg hBg hFg; have d0 := ((hk1.drew.chg hbg hmr).cell 2).trans c2; go_simp; (try go_bits); (first | done | exact ⟨rfl, Below.refl _ _⟩ | rfl))); simp only [Act.put, List.setIfInBounds_toArray, List.set_cons_succ, List.set_cons_zero])
    (apply O.wpG_pure; (focus rfl); (focus (intro wg Bg hbg hBg hFg; go_simp; (try go_bits); (first | done | exact ⟨rfl, Below.refl _ _⟩ | rfl))); simp only [Act.put, List.setIfInBounds_toArray, List.set_cons_succ, List.set_cons_zero])
    (apply O.wpG_make; (focus rfl); (focus (intro wg Bg hbg hBg hFg; have hN : new8 5 (X2 ++ s) vc (Bg 3) wg := hFg 3 (by decide +kernel); go_simp; go_at_call 63; exact Calls.mono (P2 vc wg hN.1.rd) (fun e w' h => (by obtain ⟨u, rfl, ho, hb⟩ := h; exact ⟨u, rfl, Chg.of_below hb, ⟨ho.mono (Nat.zero_le _), fun g hg => (by first | exact .inr ⟨ho.base_le g hg, ho.lt g hg⟩ | exact ⟨ho.base_le g hg, ho.lt g hg⟩)⟩⟩)))); intro vd; simp only [Act.put, List.setIfInBounds_toArray, List.set_cons_succ, List.set_cons_zero])
    (apply O.wpG_pure; (focus rfl); (focus (intro wg Bg hbg hBg hFg; go_simp; (try go_bits); (first | done | exact ⟨rfl, Below.refl _ _⟩ | rfl))); simp only [Act.put, List.setIfInBounds_toArray, List.set_cons_succ, List.set_cons_zero])
    refine O.wpG_end (fun wh Bg hbg hBg hFg => ?_)
    have hN : new8 5 X3 vd (Bg 7) wh := hFg 7
    replace hb1 : Below w.heap.size w wh := hb1.drew.trans (hbg.below hb1.size (fun k hk => by have := hown.base_le k hk; omega))
    replace hk1 := hk1.drew.chg hbg hmr
    have hrd : Rd wh vd X3 := hN.1.rd
    clear hFg hBg hN hbg P2 hown hms hmr hsg
    obtain ⟨r3, r35⟩ := r1 _ _ hk1
    obtain ⟨Ad, cd, rfl, _, _, _⟩ := hrd.open
    obtain ⟨X4, hX4⟩ : ∃ X4, X4 = X3 ++ A ++ B := ⟨_, rfl⟩
    replace hX4 := Go.Lib.hid hX4
    go_upto_region 5 with fail
    refine region_making 9 (fun _ => []) (fun | 5 => some fun _ => blk3 37 [.slice Ad X3.length cd, .slice (some ⟨w.heap.size, 3, none⟩) 32 32, .slice (some ⟨w.heap.size, 35, none⟩) 32 32] | 6 => some fun _ => new8 5 (X4) | _ => none) (by kernel_rfl) (by kernel_rfl) ?_ ?_
    · intro i' S' h' e v'
      match i', h' with
      | 5, h' => cases h'; exact blk3_loc _ _ _ _
      | 6, h' => cases h'; exact new8_loc _ _ _ _
    simp only [List.take_succ_cons, List.take_zero, List.drop_succ_cons, List.drop_zero]
    (apply wpG_pure; (focus rfl); (focus (intro wg Bg hbg hBg hFg; go_simp; (try go_bits); (first | done | exact ⟨rfl, Below.refl _ _⟩ | rfl))); simp only [Act.put, List.setIfInBounds_toArray, List.set_cons_succ, List.set_cons_zero])
    (apply wpG_pure; (focus rfl); (focus (intro wg Bg hbg hBg hFg; go_simp; (try go_bits); (first | done | exact ⟨rfl, Below.refl _ _⟩ | rfl))); simp only [Act.put, List.setIfInBounds_toArray, List.set_cons_succ, List.set_cons_zero])
    (apply wpG_pure; (focus rfl); (focus (intro wg Bg hbg hBg hFg; go_simp; (try go_bits); (first | done | exact ⟨rfl, Below.refl _ _⟩ | rfl))); simp only [Act.put, List.setIfInBounds_toArray, List.set_cons_succ, List.set_cons_zero])
    (apply wpG_pure; (focus rfl); (focus (intro wg Bg hbg hBg hFg; go_simp; (try go_bits); (first | done | exact ⟨rfl, Below.refl _ _⟩ | rfl))); simp only [Act.put, List.setIfInBounds_toArray, List.set_cons_succ, List.set_cons_zero])
    (apply wpG_pure; (focus rfl); (focus (intro wg Bg hbg hBg hFg; go_simp; (try go_bits); (first | done | exact ⟨rfl, Below.refl _ _⟩ | rfl))); simp only [Act.put, List.setIfInBounds_toArray, List.set_cons_succ, List.set_cons_zero])
    apply wpG_make; (focus rfl); (focus (intro wg Bg hbg hBg hFg; refine goesTo_blk3 (n := 3) (by go_simp) rfl (by go_simp; first | done | rfl | exact ⟨rfl, rfl⟩))); intro ve; simp only [Act.put, List.setIfInBounds_toArray, List.set_cons_succ, List.set_cons_zero]
    apply wpG_make; (focus rfl); (focus (intro wg Bg hbg hBg hFg; obtain ⟨g5, hve, _, hk5⟩ := (show blk3 37 [.slice Ad X3.length cd, .slice (some ⟨w.heap.size, 3, none⟩) 32 32, .slice (some ⟨w.heap.size, 35, none⟩) 32 32] ve (Bg 5) wg from hFg 5 (by decide +kernel)); have hkg := hk1.drew.below hbg; have hCT := concat3_c g5 _ _ X3 A B wg _ hk5 (hrd.drew.below hbg) (r1 _ _ hkg).1 (r1 _ _ hkg).2 hA hB (by omega); simp only [List.length_cons, List.length_nil] at hve; subst hve; rw [← hX4.out] at hCT; go_simp; go_at_call 65; exact Calls.mono hCT (fun e w' h => (by obtain ⟨u, rfl, ho, hb⟩ := h; exact ⟨u, rfl, Chg.of_below hb, ⟨ho.mono (Nat.zero_le _), fun g hg => (by first | exact .inr ⟨ho.base_le g hg, ho.lt g hg⟩ | exact ⟨ho.base_le g hg, ho.lt g hg⟩)⟩⟩)))); intro vf; simp only [Act.put, List.setIfInBounds_toArray, List.set_cons_succ, List.set_cons_zero]
    (apply wpG_pure; (focus rfl); (focus (intro wg Bg hbg hBg hFg; go_simp; (try go_bits); (first | done | exact ⟨rfl, Below.refl _ _⟩ | rfl))); simp only [Act.put, List.setIfInBounds_toArray, List.set_cons_succ, List.set_cons_zero])
    (apply wpG_pure; (focus rfl); (focus (intro wg Bg hbg hBg hFg; go_simp; (try go_bits); (first | done | exact ⟨rfl, Below.refl _ _⟩ | rfl))); simp only [Act.put, List.setIfInBounds_toArray, List.set_cons_succ, List.set_cons_zero])
    refine wpG_end (fun wg Bg hbg hBg hFg => ?_)
    have hN : new8 5 (X4) vf (Bg 6) wg := hFg 6
    have hlo : ∀ g, vf.ownBlock = some g → wh.heap.size ≤ g := fun g hg => hBg.lo 6 g (hN.2 g hg)
    have hown : Own8 wg w.heap.size 5 vf (X4) := hN.1.rebase2 (fun g hg => by have := hlo g hg; have := hb1.size; omega)
    go_wp2_with fail
    go_ret2
    exact ⟨_, rfl, by rw [hW2.out, ← hX4.out]; exact hown, hb1.drew.trans (hbg.mono hb1.size)⟩
end Go.Proofs.YtfnlcnjflloecaaDoor
