/- roostkeep.Book.closeBytes. -/
import Derived.Test.YtfnlcnjflloecaaBack2
/-! ### Book1 -/
set_option linter.unusedVariables false
set_option linter.unusedSimpArgs false
namespace Go.Proofs.Ytfnlcnjflloecaa
open Go.RowKit
structure Kept where
  v : Value
  want : Value
  l : List UInt8
/-- A Book, of which S holds all blocks. -/
def BookAt (w : World) (B p : Nat) (S : Nat → Prop) (bs : List Kept) : Prop :=
  ∃ (vB vW : Value) (N : Nat) (tg : Nat → Nat), B ≤ p ∧ N ≤ 20000000 ∧ Blk w p 37 [vB, vW, .slice none 0 0, .slice none 0 0, .int .i64 (N : Int)] ∧
    OwnV w (p + 1) vB (bs.map (·.v)) ∧ OwnV w (p + 1) vW (bs.map (·.want)) ∧ In (fun k => tg k = 0) vB ∧ In (fun k => tg k = 1) vW ∧
    (∀ i e, bs[i]? = some e → Own8 w (p + 1) 5 e.v e.l ∧ Own8 w (p + 1) 5 e.want e.l ∧ e.l.length ≤ 10000000 ∧ In (fun k => tg k = 3 + i) e.v ∧ In (fun k => tg k = 2) e.want) ∧
    (S p ∧ In S vB ∧ In S vW ∧ (∀ e ∈ bs, In S e.v ∧ In S e.want) ∧ ∀ k, S k → k < w.heap.size)
theorem BookAt.chg {w w' : World} {B p : Nat} {S M : Nat → Prop} {bs : List Kept} (h : BookAt w B p S bs) (hc : Chg M w w') (hm : ∀ k, S k → ¬ M k) : BookAt w' B p S bs := by
  obtain ⟨vB, vW, N, tg, h0, h1, h2, h3, h4, h5, h6, h7, h8⟩ := h
  exact ⟨vB, vW, N, tg, h0, h1, h2.chg hc (hm p h8.1), h3.chg hc (fun g hg => hm g (h8.2.1 g hg)), h4.chg hc (fun g hg => hm g (h8.2.2.1 g hg)), h5, h6,
    fun i e he => ⟨(h7 i e he).1.chg hc (fun g hg => hm g ((h8.2.2.2.1 e (List.mem_of_getElem? he)).1 g hg)), (h7 i e he).2.1.chg hc (fun g hg => hm g ((h8.2.2.2.1 e (List.mem_of_getElem? he)).2 g hg)), (h7 i e he).2.2⟩,
    h8.1, h8.2.1, h8.2.2.1, h8.2.2.2.1, fun k hk => Nat.lt_of_lt_of_le (h8.2.2.2.2 k hk) hc.size⟩
theorem BookAt.below {w w' : World} {B p : Nat} {S : Nat → Prop} {bs : List Kept} (h : BookAt w B p S bs) (hb : Below w.heap.size w w') : BookAt w' B p S bs :=
  h.chg (M := fun _ => False) (Chg.of_below hb) (fun _ _ h => h)
set_option maxRecDepth 100000 in
set_option maxHeartbeats 400000 in
theorem full_c (w : World) (p : Nat) (a b c d : Value) (N : Nat) (h : Blk w p 37 [a, b, c, d, .int .i64 (N : Int)]) (hN : N ≤ 20000000) :
    Calls Try.prog 40 #[.pointer (some ⟨p, 0, none⟩)] w fun e w' => e = .returned (.bool (decide (200000 < N))) ∧ w = w' := by
  have c4 : _ = some _ := h.cell 4
  go_enter Try.func40, Try.ntmps40
  by_cases hlt : 200000 < N
  · have q1 : (200000 : Int) < N := by omega
    go_wp2_with fail
    go_ret
    exact ⟨by first | rfl | (rw [decide_eq_true hlt]; rfl), rfl⟩
  · have q1 : ¬ (200000 : Int) < N := by omega
    go_wp2_with fail
    go_ret
    exact ⟨by first | rfl | (rw [decide_eq_false hlt]; rfl), rfl⟩
set_option maxRecDepth 100000 in
set_option maxHeartbeats 1600000 in
theorem bkbytes_c (w : World) (B p : Nat) (S : Nat → Prop) (bs : List Kept) (v : Value) (l : List UInt8) (h : BookAt w B p S bs) (hv : Own8 w (p + 1) 5 v l) (hvS : ∀ g, v.ownBlock = some g → ¬ S g) (hl : l.length ≤ 10000000) (hn : bs.length ≤ 999) :
    Calls Try.prog 14 #[.pointer (some ⟨p, 0, none⟩), v] w fun e w' => ∃ (S' : Nat → Prop) (bs' : List Kept), e = .returned (.tuple #[]) ∧ BookAt w' B p S' bs' ∧ bs'.length ≤ bs.length + 1 ∧ (∀ k, S' k → S k ∨ v.ownBlock = some k ∨ w.heap.size ≤ k) ∧ Chg S w w' ∧ Below B w w' := by
  have hB0 := h
  obtain ⟨vB, vW, N, tg, hBp, hN, hp, hF, hW, htB, htW, hes, hSp, hSB, hSW, hSe, hSl⟩ := h
  have hpl := hp.lt
  have F := full_c w p _ _ _ _ N hp hN
  go_enter Try.func14, Try.ntmps14
  by_cases hlt : 200000 < N
  · rw [decide_eq_true hlt] at F
    have tok0 : True := trivial
    go_wp2_with (first
      | (have _t := tok0; go_at_call 40; refine F.mono ?_; rintro e w1 ⟨rfl, rfl⟩; clear tok0; have tok1 : True := trivial))
    first | go_end0 | ((try simp only [Exit.inBlock, Exit.then]); refine bodyPost_ret (results_none rfl _ _ _) rfl ?_)
    exact ⟨S, bs, rfl, hB0, by omega, fun k hk => .inl hk, Chg.refl _ _, Below.refl _ _⟩
  rw [decide_eq_false hlt] at F
  clear hB0
  obtain ⟨A, c, rfl, hA1, hA2, hA3⟩ := hv.rd.open
  have c4 : _ = some _ := hp.cell 4
  have f4 := hp.frozen 4
  have tok0 : True := trivial
  go_upto_region 2 with (first
    | (have _t := tok0; go_at_call 40; refine F.mono ?_; rintro e w1 ⟨rfl, rfl⟩; clear tok0; have tok1 : True := trivial))
  have hp1 : Blk (w.setCell ⟨p, 4, none⟩ (.int .i64 ((N : Int) + l.length + 1))) p 37 [vB, vW, .slice none 0 0, .slice none 0 0, .int .i64 ((N : Int) + l.length + 1)] := hp.stored 4 _
  have hne : ∀ {v : Value} {base : Nat} {e : TypeId} {size n : Nat} {us : List Value}, w.ownsRow (p + 1) e size v n us → (w.setCell ⟨p, 4, none⟩ (.int .i64 ((N : Int) + l.length + 1))).ownsRow (p + 1) e size v n us := fun h =>
    owns_chg h (Chg.setCell _ _ _) (fun g hg e => by have := (World.ownsRow.lt h g hg).1; have e' : g = p := e; omega)
  have hF1 : OwnV _ _ _ _ := hne (base := 0) hF
  have hW1 : OwnV _ _ _ _ := hne (base := 0) hW
  have hv1 : Own8 _ _ _ _ _ := hne (base := 0) hv
  have hc1 : Chg S w (w.setCell ⟨p, 4, none⟩ (.int .i64 ((N : Int) + l.length + 1))) := (Chg.setCell _ _ _).mono (fun k hk => by have e : k = p := hk; subst e; exact hSp)
  have hc0 : Chg (fun k => k = p) w (w.setCell ⟨p, 4, none⟩ (.int .i64 ((N : Int) + l.length + 1))) := Chg.setCell w ⟨p, 4, none⟩ _
  have hz1 : (w.setCell ⟨p, 4, none⟩ (.int .i64 ((N : Int) + l.length + 1))).heap.size = w.heap.size := by simp
  generalize w.setCell ⟨p, 4, none⟩ (.int .i64 ((N : Int) + l.length + 1)) = w1 at *
  clear hne c4 f4 F
  replace hz1 := Go.Lib.hid hz1
  have hpl1 : p + 1 ≤ w1.heap.size := hp1.lt
  have c0 : _ = some _ := hp1.cell 0
  have hF2 := hF1.below ((Below.refl w1.heap.size w1).alloc (Nat.le_refl _) (.cells #[.slice A l.length c] 38))
  have tok0 : True := trivial
  go_upto_region 3 with (first
    | (have _t := tok0; at_builtin; refine wpList_appL rfl _ _ rfl (by with_unfolding_all (conv => lhs; whnf)) hF2 rfl (RdW.lit1 w1 _ _ _) (own_one hv1) (by rw [List.length_map]; omega) (by simp; omega) ?_; intro v3 w3 ho3 hg3 hb3; have hp3 := (hp1.below ((Below.refl w1.heap.size w1).alloc (Nat.le_refl _) (.cells #[.slice A l.length c] 38))).grown hg3 (fun e => by have := hF2.base_le p e.symm; omega); have f3 := hp3.frozen 0; have k3 : _ = some vB := hp3.cell 0; obtain ⟨g3, cp3, e3, hg3a, hg3b⟩ := ho3.open (by simp); generalize hn3 : (List.map (fun x => x.v) bs ++ [Value.slice A l.length c]).length = n3 at e3; subst e3; clear tok0; have tok1 : True := trivial))
  have hz := hz1.out
  have hz0 : (w1.alloc (Obj.cells #[Value.slice A l.length c] 38)).heap.size = w1.heap.size + 1 := by simp
  have hchS : Chg (fun k => k = p ∨ vB.ownBlock = some k) w1 (w3.setCell ⟨p, 0, none⟩ (.slice (some ⟨g3, 0, none⟩) n3 cp3)) := by
    refine Chg.chg_trans (M := fun k => k = p ∨ vB.ownBlock = some k) ?_ (Chg.setCell w3 ⟨p, 0, none⟩ (.slice (some ⟨g3, 0, none⟩) n3 cp3)) (fun k hk => .inr (.inl hk))
    exact Chg.chg_trans (M := fun k => k = p ∨ vB.ownBlock = some k) (Chg.of_below ((Below.refl _ _).alloc (Nat.le_refl _) _)) (Chg.grown hg3 (fun k hk => hk)) (fun k hk => .inr (.inr hk))
  have hpS : Blk (w3.setCell ⟨p, 0, none⟩ (.slice (some ⟨g3, 0, none⟩) n3 cp3)) p 37 [.slice (some ⟨g3, 0, none⟩) n3 cp3, vW, .slice none 0 0, .slice none 0 0, .int .i64 ((N : Int) + l.length + 1)] := hp3.stored 0 _
  have hFS : OwnV (w3.setCell ⟨p, 0, none⟩ (.slice (some ⟨g3, 0, none⟩) n3 cp3)) (p + 1) (.slice (some ⟨g3, 0, none⟩) n3 cp3) (bs.map (·.v) ++ [.slice A l.length c]) :=
    ho3.grown (grown_setCell _ _ _) (.inr (by intro e; cases e; omega))
  have hvp : ∀ g, (Value.slice A l.length c).ownBlock = some g → p + 1 ≤ g ∧ g < w1.heap.size := fun g hg => ⟨hv1.base_le g hg, hv1.lt g hg⟩
  have hvB : ∀ k, vB.ownBlock = some k → p + 1 ≤ k ∧ k < w1.heap.size := fun k hk => ⟨hF1.base_le k hk, hF1.lt k hk⟩
  have hvW : ∀ k, vW.ownBlock = some k → p + 1 ≤ k ∧ k < w1.heap.size := fun k hk => ⟨hW1.base_le k hk, hW1.lt k hk⟩
  have hvS1 := hv1.chg hchS (fun g hg hm => by
    rcases hm with rfl | hm
    · have := (hvp _ hg).1; omega
    · exact hvS g hg (hSB g hm))
  have hBW : ap vB vW := fun g h1 h2 => by have a := htB g h1; have b := htW g h2; simp only at a b; omega
  have hWS : OwnV (w3.setCell ⟨p, 0, none⟩ (.slice (some ⟨g3, 0, none⟩) n3 cp3)) (p + 1) vW (bs.map (·.want)) := hW1.chg hchS (fun g hg hm => by
    rcases hm with rfl | hm
    · have := (hvW _ hg).1; omega
    · exact hBW g hm hg)
  have hg3n : (some g3 = vB.ownBlock ∨ w1.heap.size < g3) := by
    rcases hb3 with h | h
    · exact .inl h
    · have h' : some g3 = some _ := h
      rw [hz0] at h'
      cases h'
      exact .inr (by omega)
  clear k3 f3 hp3 hb3 hg3 hF2 c0 ho3 hz0
  generalize hwS : w3.setCell ⟨p, 0, none⟩ (.slice (some ⟨g3, 0, none⟩) n3 cp3) = wS at *
  clear hwS
  refine O.region_making 12 (fun | 7 => [5] | 8 => [7] | 9 => [100, 8] | _ => []) (fun | 5 => some fun _ => new8 5 [] | 7 => some fun _ => new8 5 ([] ++ l) | 8 => some fun _ => litL 38 5 ([] ++ l) | 9 => some fun _ => rowL (p + 1) wS.heap.size (bs.map (·.want)) 5 ([] ++ l) | _ => none) 9 100 (fun k => vW.ownBlock = some k) (oldL (p + 1) vW (bs.map (·.want))) (by kernel_rfl) (by kernel_rfl) ?_ ?_ ?_ ?_ ?_
  · intro i' S' h' e v'
    match i', h' with
    | 5, h' => cases h'; exact O.new8_loc _ _ _ _ _
    | 7, h' => cases h'; exact O.new8_loc _ _ _ _ _
    | 8, h' => cases h'; exact litL_loc _ _ _ _ _ _
    | 9, h' => cases h'; exact rowL_loc _ _ _ _ _ _ _ _
  · exact oldL_loc _ _ _ _ _
  · exact ⟨hWS, fun g hg => hg⟩
  · exact fun k hk => hWS.lt k hk
  simp only [List.take_succ_cons, List.take_zero, List.drop_succ_cons, List.drop_zero]
  have hpM : ¬ (vW.ownBlock = some p) := fun e => by have := hWS.base_le p e; omega
  have hvM : ∀ g, (Value.slice A l.length c).ownBlock = some g → ¬ (vW.ownBlock = some g) := fun g hg e => hvS g hg (hSW g e)
  have hWb : p + 1 ≤ wS.heap.size := hpS.lt
  (apply O.wpG_pure; (focus rfl); (focus (intro wg Bg hbg hBg hFg; go_simp; (try go_bits); (first | done | exact ⟨rfl, Below.refl _ _⟩ | rfl))); simp only [Act.put, List.setIfInBounds_toArray, List.set_cons_succ, List.set_cons_zero])
  (apply O.wpG_pure; (focus rfl); (focus (intro wg Bg hbg hBg hFg; go_simp; (try go_bits); (first | done | exact ⟨rfl, Below.refl _ _⟩ | rfl))); simp only [Act.put, List.setIfInBounds_toArray, List.set_cons_succ, List.set_cons_zero])
  (apply O.wpG_pure; (focus rfl); (focus (intro wg Bg hbg hBg hFg; go_simp; (try go_bits); (first | done | exact ⟨rfl, Below.refl _ _⟩ | rfl))); simp only [Act.put, List.setIfInBounds_toArray, List.set_cons_succ, List.set_cons_zero])
  (apply O.wpG_pure; (focus rfl); (focus (intro wg Bg hbg hBg hFg; go_simp; (try go_bits); (first | done | exact ⟨rfl, Below.refl _ _⟩ | rfl))); simp only [Act.put, List.setIfInBounds_toArray, List.set_cons_succ, List.set_cons_zero])
  (apply O.wpG_pure; (focus rfl); (focus (intro wg Bg hbg hBg hFg; have hpg := hpS.drew.chg hbg hpM; have cW : _ = some vW := hpg.cell 1; go_simp; (try go_bits); (first | done | exact ⟨rfl, Below.refl _ _⟩ | rfl))); simp only [Act.put, List.setIfInBounds_toArray, List.set_cons_succ, List.set_cons_zero])
  (apply O.wpG_make; (focus rfl); (focus (intro wg Bg hbg hBg hFg; refine goesTo_lit (n := 0) (by go_simp) [] rfl (by decide) (by go_simp; first | done | rfl | exact ⟨rfl, rfl⟩))); intro va; simp only [Act.put, List.setIfInBounds_toArray, List.set_cons_succ, List.set_cons_zero])
  (apply O.wpG_pure; (focus rfl); (focus (intro wg Bg hbg hBg hFg; go_simp; (try go_bits); (first | done | exact ⟨rfl, Below.refl _ _⟩ | rfl))); simp only [Act.put, List.setIfInBounds_toArray, List.set_cons_succ, List.set_cons_zero])
  (apply O.wpG_make; (focus rfl); (focus (intro wg Bg hbg hBg hFg; have hN := hFg 5 (by decide +kernel); refine goesTo_app8w (by go_simp) _ _ rfl st8 (by with_unfolding_all (conv => lhs; whnf)) (id hN).1 (by with_unfolding_all (conv => lhs; whnf)) (Rd.src (hvS1.drew.chg hbg hvM).rd Try.underlying38) (by first | omega | (simp; omega)) (Nat.zero_le _) (fun g hg => ⟨5, by simp, (id hN).2 g hg⟩))); intro vb; simp only [Act.put, List.setIfInBounds_toArray, List.set_cons_succ, List.set_cons_zero])
  apply O.wpG_make; (focus rfl); (focus (intro wg Bg hbg hBg hFg; have hN : new8 5 ([] ++ l) vb (Bg 7) wg := hFg 7 (by decide +kernel); have hN' : new8 5 ([] ++ l) vb (fun b => ∃ j ∈ [7], Bg j b) wg := ⟨hN.1, fun g hg => ⟨7, by simp, hN.2 g hg⟩⟩; clear hFg hN; obtain ⟨A7, c7, e7, _, _, _⟩ := hN'.1.rd.open; subst e7; exact goesTo_litL (by go_simp) hN' (by go_simp))); intro vc; simp only [Act.put, List.setIfInBounds_toArray, List.set_cons_succ, List.set_cons_zero]
  apply O.wpG_make; (focus rfl); (focus (intro wg Bg hbg hBg hFg; have hN : litL 38 5 ([] ++ l) vc (Bg 8) wg := hFg 8 (by decide +kernel); have hO : oldL (p + 1) vW (bs.map (·.want)) (Bg 100) wg := hFg 100 (by decide +kernel); exact goesTo_appL (by go_simp) _ _ rfl (by with_unfolding_all (conv => lhs; whnf)) hO.1 (by with_unfolding_all (conv => lhs; whnf)) hN (by rw [List.length_map]; omega) (by have := hbg.size; have := hWb; have e : wS.drew.heap.size = wS.heap.size := rfl; omega) (fun g hg => ⟨100, by simp, hO.2 g hg⟩) (fun g hg => ⟨⟨8, by simp, hg⟩, (hBg.lo 8 g hg).elim id (fun h => absurd (hBg.apart 8 100 g hg (hO.2 g h)) (by decide)), fun h => absurd (hBg.apart 8 100 g hg (hO.2 g h)) (by decide)⟩) hbg.size)); intro vd; simp only [Act.put, List.setIfInBounds_toArray, List.set_cons_succ, List.set_cons_zero]
  (apply O.wpG_pure; (focus rfl); (focus (intro wg Bg hbg hBg hFg; go_simp; (try go_bits); (first | done | exact ⟨rfl, Below.refl _ _⟩ | rfl))); simp only [Act.put, List.setIfInBounds_toArray, List.set_cons_succ, List.set_cons_zero])
  (apply O.wpG_pure; (focus rfl); (focus (intro wg Bg hbg hBg hFg; go_simp; (try go_bits); (first | done | exact ⟨rfl, Below.refl _ _⟩ | rfl))); simp only [Act.put, List.setIfInBounds_toArray, List.set_cons_succ, List.set_cons_zero])
  refine O.wpG_end (fun wg Bg hbg hBg hFg => ?_)
  have hR : rowL (p + 1) wS.heap.size (bs.map (·.want)) 5 ([] ++ l) vd (Bg 9) wg := hFg 9
  clear hFg
  rw [List.nil_append] at hR
  obtain ⟨x, hr1, hr2, hr3, hr4, hr5⟩ := hR
  obtain ⟨g4, cp4, e4, hg4a, hg4b⟩ := hr1.open (by simp)
  generalize hn4 : (bs.map (·.want) ++ [x]).length = n4 at e4
  subst e4
  have hpg := hpS.drew.chg hbg hpM
  have f4 := hpg.frozen 1
  have k4 : _ = some vW := hpg.cell 1
  go_wp2_with fail
  first | go_end0 | ((try simp only [Exit.inBlock, Exit.then]); refine bodyPost_ret (results_none rfl _ _ _) rfl ?_)
  have zS : w1.heap.size ≤ wS.heap.size := hchS.size
  have zg : wS.heap.size ≤ wg.heap.size := hbg.size
  have zp : p < w1.heap.size := hpl1
  have g3lt : g3 < wS.heap.size := hFS.lt g3 rfl
  have g3ge : p + 1 ≤ g3 := hFS.base_le g3 rfl
  have g4lt : g4 < wg.heap.size := hr1.lt g4 rfl
  have hg4 : wS.heap.size ≤ g4 ∨ vW.ownBlock = some g4 := hBg.lo 9 g4 (hr3 g4 rfl)
  have xlt : ∀ g, x.ownBlock = some g → g < wg.heap.size := fun g hg => hr2.1.lt g hg
  have h3M : ¬ (vW.ownBlock = some g3) := fun e => by
    rcases hg3n with h | h
    · exact hBW g3 h.symm e
    · have := hvW g3 e; omega
  have n3v : (Value.slice A l.length c).ownBlock ≠ some g3 := fun e => by
    rcases hg3n with h | h
    · exact hvS g3 e (hSB g3 h.symm)
    · have := hvp g3 e; omega
  have n4v : (Value.slice A l.length c).ownBlock ≠ some g4 := fun e => by
    rcases hg4 with h | h
    · have := hvp g4 e; omega
    · exact hvS g4 e (hSW g4 h)
  have n34 : g3 ≠ g4 := fun e => by
    subst e
    rcases hg4 with h | h
    · omega
    · exact h3M h
  have nxv : ∀ g, x.ownBlock = some g → (Value.slice A l.length c).ownBlock ≠ some g ∧ g ≠ g3 ∧ g ≠ g4 ∧ w1.heap.size ≤ g := fun g hg => by
    have h5 := hr5 g hg
    refine ⟨fun e => ?_, fun e => ?_, fun e => ?_, by omega⟩
    · have := hvp g e; omega
    · omega
    · subst e; exact hr4 g rfl hg
  have hset := Chg.setCell wg ⟨p, 1, none⟩ (.slice (some ⟨g4, 0, none⟩) n4 cp4)
  have zw : ∀ g, g < wg.heap.size → g < (wg.setCell ⟨p, 1, none⟩ (.slice (some ⟨g4, 0, none⟩) n4 cp4)).heap.size := fun g hg => Nat.lt_of_lt_of_le hg hset.size
  have hch : Chg S w1 (wg.setCell ⟨p, 1, none⟩ (.slice (some ⟨g4, 0, none⟩) n4 cp4)) := by
    refine Chg.chg_trans ?_ hset (fun k hk => .inr (by have e : k = p := hk; subst e; exact hSp))
    have h1 : Chg S w1 wS.drew := (show Chg (fun k => k = p ∨ vB.ownBlock = some k) w1 wS.drew from ⟨hchS.os, hchS.tape, hchS.output, hchS.size, hchS.block⟩).mono (fun k hk => by
      rcases hk with rfl | hk
      · exact hSp
      · exact hSB k hk)
    exact Chg.chg_trans h1 hbg (fun k hk => .inr (hSW k hk))
  have hchP : Chg (fun k => k = p ∨ vB.ownBlock = some k ∨ vW.ownBlock = some k) w1 (wg.setCell ⟨p, 1, none⟩ (.slice (some ⟨g4, 0, none⟩) n4 cp4)) := by
    refine Chg.chg_trans ?_ hset (fun k hk => .inr (.inl hk))
    have h1 : Chg (fun k => k = p ∨ vB.ownBlock = some k ∨ vW.ownBlock = some k) w1 wS.drew := (show Chg (fun k => k = p ∨ vB.ownBlock = some k) w1 wS.drew from ⟨hchS.os, hchS.tape, hchS.output, hchS.size, hchS.block⟩).mono (fun k hk => hk.imp id (fun h => Or.inl h))
    exact Chg.chg_trans h1 hbg (fun k hk => .inr (.inr (.inr hk)))
  have hB6 : Below B w1 (wg.setCell ⟨p, 1, none⟩ (.slice (some ⟨g4, 0, none⟩) n4 cp4)) := hchP.below (by omega) (fun k hk => by
    rcases hk with rfl | hk | hk
    · exact hBp
    · have := hvB k hk; omega
    · have := hvW k hk; omega)
  have hB5 : Below B w w1 := by
    refine ⟨hc1.os, hc1.tape, hc1.output, hc1.size, fun k hk => hc0.block k (by omega) (fun e => by have e' : k = p := e; omega)⟩
  have kept : ∀ {v' : Value} {m : List UInt8}, Own8 w (p + 1) 5 v' m → (∀ g, v'.ownBlock = some g → vB.ownBlock ≠ some g ∧ vW.ownBlock ≠ some g) → Own8 (wg.setCell ⟨p, 1, none⟩ (.slice (some ⟨g4, 0, none⟩) n4 cp4)) (p + 1) 5 v' m := fun h h' => by
    refine Own8.chg (w := w1) (h.chg hc0 (fun g hg e => ?_)) hchP (fun g hg hm => ?_)
    · have e' : g = p := e; have := h.base_le g hg; omega
    · rcases hm with rfl | hm | hm
      · have := h.base_le _ hg; omega
      · exact (h' g hg).1 hm
      · exact (h' g hg).2 hm
  have hold : ∀ (v' : Value) (m : List UInt8) (T : Nat), Own8 w (p + 1) 5 v' m → In S v' → In (fun k => tg k = T) v' → 2 ≤ T →
      In (fun k => (if (Value.slice A l.length c).ownBlock = some k then 3 + bs.length else if k = g3 then 0 else if k = g4 then 1 else if x.ownBlock = some k then 2 else tg k) = T) v' := fun v' m T ho h1 h2 hT g hg => by
    have hlt := ho.lt g hg
    have ht := h2 g hg
    have hs := h1 g hg
    simp only at ht ⊢
    have p3 : g ≠ g3 := fun e => by
      subst e
      rcases hg3n with h | h
      · have := htB g h.symm; simp only at this; omega
      · omega
    have p4 : g ≠ g4 := fun e => by
      subst e
      rcases hg4 with h | h
      · omega
      · have := htW g h; simp only at this; omega
    have px : ¬ (x.ownBlock = some g) := fun e => by have := nxv g e; omega
    rw [if_neg (fun e => hvS g e hs), if_neg p3, if_neg p4, if_neg px]
    exact ht
  refine ⟨fun k => S k ∨ (Value.slice A l.length c).ownBlock = some k ∨ (w.heap.size ≤ k ∧ k < (wg.setCell ⟨p, 1, none⟩ (.slice (some ⟨g4, 0, none⟩) n4 cp4)).heap.size), bs ++ [⟨.slice A l.length c, x, l⟩], rfl,
    ⟨.slice (some ⟨g3, 0, none⟩) n3 cp3, .slice (some ⟨g4, 0, none⟩) n4 cp4, N + l.length + 1, fun k => if (Value.slice A l.length c).ownBlock = some k then 3 + bs.length else if k = g3 then 0 else if k = g4 then 1 else if x.ownBlock = some k then 2 else tg k,
      hBp, by omega, hpg.stored 1 _, ?_, ?_, ?_, ?_, ?_, .inl hSp, ?_, ?_, ?_, ?_⟩, by simp, fun k hk => hk.imp id (fun h => h.imp id (fun h => h.1)), Chg.chg_trans hc1 hch (fun k hk => .inr hk), hB5.trans hB6⟩
  · rw [List.map_append]
    have h7 : OwnV wg _ _ _ := OwnV.chg (w := wS.drew) hFS hbg (fun g hg hm => by cases hg; exact h3M hm)
    refine h7.chg hset (fun g hg e => ?_)
    cases hg; have : g3 = p := e; omega
  · rw [List.map_append]
    refine hr1.chg hset (fun g hg e => ?_)
    cases hg
    have : g4 = p := e
    rcases hg4 with h | h
    · omega
    · have := hvW g4 h; omega
  · intro g hg
    cases hg
    show (if _ then _ else _) = _
    rw [if_neg n3v, if_pos rfl]
  · intro g hg
    cases hg
    show (if _ then _ else _) = _
    rw [if_neg n4v, if_neg (fun e => n34 e.symm), if_pos rfl]
  · intro i e he
    rcases Nat.lt_or_ge i bs.length with hi | hi
    · rw [List.getElem?_append_left hi] at he
      obtain ⟨k1, k2, k3, k4, k5⟩ := hes i e he
      have hm := List.mem_of_getElem? he
      refine ⟨kept k1 (fun g hg => ⟨fun e' => ?_, fun e' => ?_⟩), kept k2 (fun g hg => ⟨fun e' => ?_, fun e' => ?_⟩), k3, hold _ _ _ k1 (hSe e hm).1 k4 (by omega), hold _ _ _ k2 (hSe e hm).2 k5 (by omega)⟩
      · have a := k4 g hg; have b := htB g e'; simp only at a b; omega
      · have a := k4 g hg; have b := htW g e'; simp only at a b; omega
      · have a := k5 g hg; have b := htB g e'; simp only at a b; omega
      · have a := k5 g hg; have b := htW g e'; simp only at a b; omega
    · rw [List.getElem?_append_right hi] at he
      obtain rfl : i = bs.length := by
        have := (List.getElem?_eq_some_iff.1 he).1; simp at this; omega
      rw [Nat.sub_self] at he
      cases he
      refine ⟨kept hv (fun g hg => ⟨fun e' => hvS g hg (hSB g e'), fun e' => hvS g hg (hSW g e')⟩), ?_, hl, fun g hg => ?_, fun g hg => ?_⟩
      · exact (hr2.1.rebase (fun g hg => by have := hr5 g hg; omega)).chg hset (fun g hg e => by have := hr5 g hg; have e' : g = p := e; omega)
      · show (if _ then _ else _) = _
        rw [if_pos hg]
      · obtain ⟨q1, q2, q3, _⟩ := nxv g hg
        show (if _ then _ else _) = _
        rw [if_neg q1, if_neg q2, if_neg q3, if_pos hg]
  · intro g hg
    cases hg
    rcases hg3n with h | h
    · exact .inl (hSB g3 h.symm)
    · exact .inr (.inr ⟨show w.heap.size ≤ g3 by omega, zw g3 (by omega)⟩)
  · intro g hg
    cases hg
    rcases hg4 with h | h
    · exact .inr (.inr ⟨show w.heap.size ≤ g4 by omega, zw g4 g4lt⟩)
    · exact .inl (hSW g4 h)
  · intro e he
    rcases List.mem_append.1 he with he | he
    · exact ⟨(hSe e he).1.mono (fun k hk => .inl hk), (hSe e he).2.mono (fun k hk => .inl hk)⟩
    · rcases List.mem_singleton.1 he with rfl
      refine ⟨fun g hg => .inr (.inl hg), fun g hg => .inr (.inr ⟨?_, zw g (xlt g hg)⟩)⟩
      have := (nxv g hg).2.2.2; omega
  · intro k hk
    rcases hk with hk | hk | hk
    · have := hSl k hk; exact zw k (by omega)
    · have := hvp k hk; exact zw k (by omega)
    · exact hk.2
end Go.Proofs.Ytfnlcnjflloecaa
/-! ### Book2 -/
set_option linter.unusedVariables false
set_option linter.unusedSimpArgs false
namespace Go.Proofs.Ytfnlcnjflloecaa
open Go.RowKit
set_option maxRecDepth 100000 in
set_option maxHeartbeats 1600000 in
theorem stands_c (w : World) (B p : Nat) (S : Nat → Prop) (bs : List Kept) (h : BookAt w B p S bs) (hn : bs.length ≤ 1000) :
    Calls Try.prog 41 #[.pointer (some ⟨p, 0, none⟩)] w fun e w' => e = .returned (.bool true) ∧ Below w.heap.size w w' := by
  obtain ⟨vB, vW, N, tg, hBp, hN, hp, hF, hW, htB, htW, hes, hSp, hSB, hSW, hSe, hSl⟩ := h
  clear hSp hSB hSW hSe hSl htB htW
  have hpl := hp.lt
  obtain ⟨AF, cF, rfl, hAF⟩ := hF.form
  obtain ⟨AW, cW, rfl, hAW⟩ := hW.form
  rw [List.length_map] at *
  rw [List.length_map] at *
  go_enter Try.func41, Try.ntmps41
  go_wp2_with fail
  go_loopw [3] (fun i wr => ∃ j : Nat, j ≤ bs.length ∧ i = .int .i64 j ∧ Below w.heap.size w wr) (fun i _ => bs.length - (intOf i).toNat)
  case atStart => exact ⟨0, by omega, rfl, Below.refl _ _⟩
  case round =>
    obtain ⟨j, hj, rfl, hc⟩ := hrel
    have hpr := hp.below hc
    have c0 : _ = some _ := hpr.cell 0
    have c1 : _ = some _ := hpr.cell 1
    by_cases hlt : j < bs.length
    · have q1 : (j : Int) < bs.length := by omega
      have q2 : (0 : Int) ≤ j := by omega
      obtain ⟨gF, rfl⟩ := hAF (by omega)
      obtain ⟨gW, rfl⟩ := hAW (by omega)
      obtain ⟨e, he⟩ : ∃ e, bs[j]? = some e := ⟨bs[j], List.getElem?_eq_getElem hlt⟩
      obtain ⟨k1, k2, k3, k4, k5⟩ := hes j e he
      have hFr := hF.below hc
      have hWr := hW.below hc
      have hfr := k1.below hc
      have hwr := k2.below hc
      have jf : (bs.map (·.v))[j]? = some e.v := by rw [List.getElem?_map, he]; rfl
      have jw : (bs.map (·.want))[j]? = some e.want := by rw [List.getElem?_map, he]; rfl
      have sfw : ∀ wg v, Own8 wg (p + 1) 5 v e.l → (convert 38 9 v).run Try.prog wg = .ok (.string (strB e.l)) wg := fun wg v h => convert_str h.rd
      generalize strB e.l = S at *
      clear k1 k2 k3 k4 k5 he hes
      generalize e.v = vf at *
      generalize e.want = vw at *
      go_wp2_with fail
      have hpd := hpr.drew
      have hFd : OwnV wr.drew _ _ _ := hFr
      have hWd : OwnV wr.drew _ _ _ := hWr
      refine region_making 17 (fun _ => []) (fun _ => none) (by kernel_rfl) (by kernel_rfl) ?_ ?_
      · intro i S h; cases h
      simp only [List.take_succ_cons, List.take_zero, List.drop_succ_cons, List.drop_zero]
      (apply wpG_pure; (focus rfl); (focus (intro wg Bg hbg hBg hFg; go_simp; (try go_bits); (first | done | exact ⟨rfl, Below.refl _ _⟩ | rfl))); simp only [Act.put, List.setIfInBounds_toArray, List.set_cons_succ, List.set_cons_zero])
      (apply wpG_pure; (focus rfl); (focus (intro wg Bg hbg hBg hFg; go_simp; (try go_bits); (first | done | exact ⟨rfl, Below.refl _ _⟩ | rfl))); simp only [Act.put, List.setIfInBounds_toArray, List.set_cons_succ, List.set_cons_zero])
      (apply wpG_pure; (focus rfl); (focus (intro wg Bg hbg hBg hFg; go_simp; (try go_bits); (first | done | exact ⟨rfl, Below.refl _ _⟩ | rfl))); simp only [Act.put, List.setIfInBounds_toArray, List.set_cons_succ, List.set_cons_zero])
      (apply wpG_pure; (focus rfl); (focus (intro wg Bg hbg hBg hFg; have c0 : _ = some _ := (hpd.below hbg).cell 0; go_simp; (try go_bits); (first | done | exact ⟨rfl, Below.refl _ _⟩ | rfl))); simp only [Act.put, List.setIfInBounds_toArray, List.set_cons_succ, List.set_cons_zero])
      (apply wpG_pure; (focus rfl); (focus (intro wg Bg hbg hBg hFg; go_simp; (try go_bits); (first | done | exact ⟨rfl, Below.refl _ _⟩ | rfl))); simp only [Act.put, List.setIfInBounds_toArray, List.set_cons_succ, List.set_cons_zero])
      (apply wpG_pure; (focus rfl); (focus (intro wg Bg hbg hBg hFg; go_simp; (try go_bits); (first | done | exact ⟨rfl, Below.refl _ _⟩ | rfl))); simp only [Act.put, List.setIfInBounds_toArray, List.set_cons_succ, List.set_cons_zero])
      (apply wpG_pure; (focus rfl); (focus (intro wg Bg hbg hBg hFg; have cf : _ = some _ := (hFd.below hbg).cell j vf jf; go_simp; (try go_bits); (first | done | exact ⟨rfl, Below.refl _ _⟩ | rfl))); simp only [Act.put, List.setIfInBounds_toArray, List.set_cons_succ, List.set_cons_zero])
      (apply wpG_pure; (focus rfl); (focus (intro wg Bg hbg hBg hFg; have sf := sfw _ _ (hfr.drew.below hbg); go_simp; (try go_bits); (first | done | exact ⟨rfl, Below.refl _ _⟩ | rfl))); simp only [Act.put, List.setIfInBounds_toArray, List.set_cons_succ, List.set_cons_zero])
      (apply wpG_pure; (focus rfl); (focus (intro wg Bg hbg hBg hFg; go_simp; (try go_bits); (first | done | exact ⟨rfl, Below.refl _ _⟩ | rfl))); simp only [Act.put, List.setIfInBounds_toArray, List.set_cons_succ, List.set_cons_zero])
      (apply wpG_pure; (focus rfl); (focus (intro wg Bg hbg hBg hFg; go_simp; (try go_bits); (first | done | exact ⟨rfl, Below.refl _ _⟩ | rfl))); simp only [Act.put, List.setIfInBounds_toArray, List.set_cons_succ, List.set_cons_zero])
      (apply wpG_pure; (focus rfl); (focus (intro wg Bg hbg hBg hFg; go_simp; (try go_bits); (first | done | exact ⟨rfl, Below.refl _ _⟩ | rfl))); simp only [Act.put, List.setIfInBounds_toArray, List.set_cons_succ, List.set_cons_zero])
      (apply wpG_pure; (focus rfl); (focus (intro wg Bg hbg hBg hFg; have c1 : _ = some _ := (hpd.below hbg).cell 1; go_simp; (try go_bits); (first | done | exact ⟨rfl, Below.refl _ _⟩ | rfl))); simp only [Act.put, List.setIfInBounds_toArray, List.set_cons_succ, List.set_cons_zero])
      (apply wpG_pure; (focus rfl); (focus (intro wg Bg hbg hBg hFg; go_simp; (try go_bits); (first | done | exact ⟨rfl, Below.refl _ _⟩ | rfl))); simp only [Act.put, List.setIfInBounds_toArray, List.set_cons_succ, List.set_cons_zero])
      (apply wpG_pure; (focus rfl); (focus (intro wg Bg hbg hBg hFg; go_simp; (try go_bits); (first | done | exact ⟨rfl, Below.refl _ _⟩ | rfl))); simp only [Act.put, List.setIfInBounds_toArray, List.set_cons_succ, List.set_cons_zero])
      (apply wpG_pure; (focus rfl); (focus (intro wg Bg hbg hBg hFg; have cw : _ = some _ := (hWd.below hbg).cell j vw jw; go_simp; (try go_bits); (first | done | exact ⟨rfl, Below.refl _ _⟩ | rfl))); simp only [Act.put, List.setIfInBounds_toArray, List.set_cons_succ, List.set_cons_zero])
      (apply wpG_pure; (focus rfl); (focus (intro wg Bg hbg hBg hFg; have sw := sfw _ _ (hwr.drew.below hbg); go_simp; (try go_bits); (first | done | exact ⟨rfl, Below.refl _ _⟩ | rfl))); simp only [Act.put, List.setIfInBounds_toArray, List.set_cons_succ, List.set_cons_zero])
      (apply wpG_pure; (focus rfl); (focus (intro wg Bg hbg hBg hFg; go_simp; (try go_bits); (first | done | exact ⟨rfl, Below.refl _ _⟩ | rfl))); simp only [Act.put, List.setIfInBounds_toArray, List.set_cons_succ, List.set_cons_zero])
      refine wpG_end (fun wg Bg hbg hBg hFg => ?_)
      clear hFg hBg
      have hcg : Below w.heap.size w wg := hc.trans (show Below w.heap.size wr wg from ⟨hbg.os, hbg.tape, hbg.output, hbg.size, fun k hk => hbg.block k (Nat.lt_of_lt_of_le hk hc.size)⟩)
      clear hpd hFd hWd hpr hFr hWr hfr hwr hbg sfw c0 c1 hF hW hp
      go_wp2_with fail
      exact ⟨⟨j + 1, by omega, by go_num, hcg⟩, by simp [intOf]; omega⟩
    · have q1 : ¬ (j : Int) < bs.length := by omega
      go_wp2_with fail
      go_ret
      exact ⟨rfl, hc⟩
end Go.Proofs.Ytfnlcnjflloecaa
/-! ### Book3 -/
set_option linter.unusedVariables false
set_option linter.unusedSimpArgs false
namespace Go.Proofs.Ytfnlcnjflloecaa
open Go.RowKit
def ma (i : Nat) : UInt8 := UInt8.ofNat (i % 125)
def mb (i : Nat) : UInt8 := UInt8.ofNat (125 + i % 125)
theorem ma_nat (i : Nat) : (ma i).toNat = i % 125 := by unfold ma; rw [UInt8.toNat_ofNat']; omega
theorem mb_nat (i : Nat) : (mb i).toNat = 125 + i % 125 := by unfold mb; rw [UInt8.toNat_ofNat']; omega
/-- n marks, and m others behind them. -/
def mk (i n m : Nat) : List UInt8 := List.replicate n (ma i) ++ List.replicate m (mb i)
@[simp] theorem mk_len (i n m : Nat) : (mk i n m).length = n + m := by simp [mk]
theorem mk_lo (i n m k : Nat) (h : k < n) : bt (mk i n m) k = ((i % 125 : Nat) : Int) := by
  rw [bt_get _ _ (by simp; omega)]
  simp only [mk]
  rw [List.getElem_append_left (by simpa using h), List.getElem_replicate, ma_nat]
theorem mk_hi (i n m k : Nat) (h : n ≤ k) (h2 : k < n + m) : bt (mk i n m) k = ((125 + i % 125 : Nat) : Int) := by
  rw [bt_get _ _ (by simp; omega)]
  simp only [mk]
  rw [List.getElem_append_right (by simpa using h), List.getElem_replicate, mb_nat]
set_option maxRecDepth 100000 in
set_option maxHeartbeats 1600000 in
theorem look_c (w : World) (base p : Nat) (vB c1 c2 c3 c4 vL : Value) (vs us : List Value) (hp : Blk w p 37 [vB, c1, c2, c3, c4]) (hB : OwnV w base vB vs) (hL : OwnV w base vL us)
    (hlen : us.length = vs.length) (hn : vs.length ≤ 1000) (h : ∀ i v u, vs[i]? = some v → us[i]? = some u → ∃ n m, Own8 w base 5 v (mk i n 0) ∧ Own8 w base 5 u (mk i n m) ∧ n ≤ 10000000 ∧ m ≤ 1000) :
    Calls Try.prog 51 #[.pointer (some ⟨p, 0, none⟩), vL] w fun e w' => e = .returned (.bool true) ∧ w = w' := by
  obtain ⟨AB, cB, rfl, hAB⟩ := hB.form
  obtain ⟨AL, cL, hLv, hAL⟩ := hL.form
  rw [hlen] at hLv hAL
  subst hLv
  replace hlen := Go.Lib.hid hlen
  have c0 : _ = some _ := hp.cell 0
  go_enter Try.func51, Try.ntmps51
  go_wp2_with fail
  go_loopw [5] (fun i wr => ∃ j : Nat, j ≤ vs.length ∧ i = .int .i64 j ∧ w = wr) (fun i _ => vs.length - (intOf i).toNat)
  case atStart => exact ⟨0, by omega, rfl, rfl⟩
  case round =>
    obtain ⟨j, hj, rfl, rfl⟩ := hrel
    by_cases hlt : j < vs.length
    · have q1 : (j : Int) < vs.length := by omega
      have q2 : (0 : Int) ≤ j := by omega
      obtain ⟨gB, rfl⟩ := hAB (by omega)
      obtain ⟨gL, rfl⟩ := hAL (by omega)
      obtain ⟨v, hv⟩ : ∃ v, vs[j]? = some v := ⟨vs[j], List.getElem?_eq_getElem hlt⟩
      obtain ⟨u, hu⟩ : ∃ u, us[j]? = some u := ⟨us[j]'(by have := hlen.out; omega), List.getElem?_eq_getElem (by have := hlen.out; omega)⟩
      obtain ⟨n, m, k1, k2, k3, k4⟩ := h j v u hv hu
      have cb : _ = some _ := hB.cell j v hv
      have cl : _ = some _ := hL.cell j u hu
      obtain ⟨Av, cv, rfl, _, _, _⟩ := k1.rd.open
      obtain ⟨Au, cu, rfl, _, _, _⟩ := k2.rd.open
      rw [mk_len] at cb k1
      rw [mk_len] at cl k2
      rw [Nat.add_zero] at cb k1
      clear hu hv h hB hL
      go_wp2_with fail
      go_loopw [7] (fun k wr => ∃ x : Nat, x ≤ n + m ∧ k = .int .i64 x ∧ w = wr) (fun k _ => n + m - (intOf k).toNat)
      case atStart => exact ⟨0, by omega, rfl, rfl⟩
      case round =>
        obtain ⟨x, hx, rfl, rfl⟩ := hrel
        by_cases hxl : x < n + m
        · have q3 : (x : Int) < ((n + m : Nat) : Int) := by omega
          have q4 : (0 : Int) ≤ x := by omega
          have r1 : Int.tmod (j : Int) 125 = ((j % 125 : Nat) : Int) := by rw [Int.tmod_eq_emod_of_nonneg q2]; omega
          obtain ⟨gu, eu⟩ : ∃ gu, Au = some ⟨gu, 0, none⟩ := by
            obtain ⟨g, c, e, _⟩ := k2.open (by simp; omega)
            injection e with e1; exact ⟨g, e1⟩
          subst eu
          by_cases hxn : x < n
          · obtain ⟨gv, ev⟩ : ∃ gv, Av = some ⟨gv, 0, none⟩ := by
              obtain ⟨g, c, e, _⟩ := k1.open (by simp; omega)
              injection e with e1; exact ⟨g, e1⟩
            subst ev
            have m1 : _ = some _ := k2.cell x (by simp; omega)
            have m2 : _ = some _ := k1.cell x (by simp; omega)
            rw [mk_lo j n _ x hxn] at m1 m2
            have q5 : (x : Int) < (n : Int) := by omega
            go_wp2_with fail
            exact ⟨⟨x + 1, by omega, by go_num, trivial⟩, by simp [intOf]; omega⟩
          · have m1 : _ = some _ := k2.cell x (by simp; omega)
            rw [mk_hi j n _ x (by omega) hxl] at m1
            have q5 : ¬ (x : Int) < (n : Int) := by omega
            go_wp2_with fail
            exact ⟨⟨x + 1, by omega, by go_num, trivial⟩, by simp [intOf]; omega⟩
        · have q3 : ¬ (x : Int) < ((n + m : Nat) : Int) := by omega
          go_wp2_with fail
          exact ⟨⟨j + 1, by omega, by go_num, trivial⟩, by simp [intOf]; omega⟩
    · have q1 : ¬ (j : Int) < vs.length := by omega
      go_wp2_with fail
      go_ret
      exact ⟨rfl, rfl⟩
end Go.Proofs.Ytfnlcnjflloecaa
/-! ### Book4 -/
set_option linter.unusedVariables false
set_option linter.unusedSimpArgs false
namespace Go.Proofs.Ytfnlcnjflloecaa
open Go.RowKit
section
variable {P : Program} {w : World} {base : Nat} {t tx e : TypeId} {size bytes : Nat} {z : Value}
theorem run_append_keep (ST : SlTy P t e size bytes z) (ty : TypeId) (v : Value) (n : Nat) (xs : List Value) (hown : w.ownsRow base e size v n xs)
    (x : Value) (m : Nat) (news : List Value) (hx : Src P size tx x m news w) (h63 : n + m ≤ maxLen) (hbytes : (n + m) * bytes ≤ 140737488355328) (hbase : base ≤ w.heap.size) :
    ∃ v' w', (Builtin.append_ #[t, tx] ty #[v, x]).run P w = .ok v' w' ∧ w'.ownsRow base e size v' (n + m) (xs ++ news) ∧ w.grownBy w' v.ownBlock ∧
      (v'.ownBlock = v.ownBlock ∨ (v'.ownBlock = some w.heap.size ∧ w.grownBy w' none)) ∧ w'.ownsRow base e size v n xs := by
  obtain ⟨i, hi, hz, rfl, rfl⟩ := ST.info
  have ht := ST.under
  have hsmall : n + m ≤ 9223372036854775807 := by simp only [maxLen] at h63; omega
  have hl := hx.newsLen
  have hlen : (xs ++ news).length = (n + m) * i.size := by rw [List.length_append, hown.1, hl, Nat.add_mul]
  have grown : ∀ (old : Nat), old < n + m → ∀ (row : Option Nat),
      (w.drew.alloc (.cells ((xs ++ news).toArray ++ Builtin.zeroCells z.cells (grownCap w (n + m) old e - (n + m))) e)).ownsRow base e i.size
        (.slice (some ⟨w.heap.size, 0, none⟩) (n + m) (grownCap w (n + m) old e)) (n + m) (xs ++ news) ∧
      w.grownBy (w.drew.alloc (.cells ((xs ++ news).toArray ++ Builtin.zeroCells z.cells (grownCap w (n + m) old e - (n + m))) e)) row := by
    intro old ho row
    have hge := grownCap_ge w (n + m) old e
    have hcm : grownCap w (n + m) old e ≤ maxLen := grownCap_le_maxLen w (n + m) old e h63
    refine ⟨⟨hlen, .inr ⟨w.heap.size, _, _, rfl, hbase, heap_alloc_new w.drew _, hge, hcm, ?_, ?_⟩⟩, ⟨rfl, rfl, rfl, by simp, fun k hk _ => World.drew_heap_alloc_old w _ k hk⟩⟩
    · simp only [Array.size_append, List.size_toArray, size_zeroCells, ST.cells, hlen, ← Nat.add_mul]
      congr 1
      omega
    · simp only [Array.toList_append]
      rw [← hlen]
      exact List.take_left
  have hown0 := hown
  rcases hown.2 with ⟨rfl, rfl⟩ | ⟨g, cap, cur, rfl, hbg, hg, hnc, hcm, hcs, htake⟩
  · have hx0 : xs = [] := List.eq_nil_of_length_eq_zero (by simpa using hown.1)
    subst hx0
    by_cases hm : m = 0
    · subst hm
      have hn : news = [] := List.eq_nil_of_length_eq_zero (by simpa using hl)
      subst hn
      refine ⟨.slice none 0 0, w, ?_, World.ownsRow_nil w base e i.size, ⟨rfl, rfl, rfl, Nat.le_refl _, fun _ _ _ => rfl⟩, Or.inl rfl, hown0⟩
      rcases hx.kind with ⟨e', hk⟩ | hk <;> simp [Builtin.append_, run_underlying ht, run_underlying hk, sizeOf, typeInfo, hi, hx.len, hx.cells]
    · have hr := run_append_grow_src (P := P) w t tx ty e i z ht hi hz none 0 0 [] (by simp [Builtin.firstCells]) x m news hx (by omega) (by omega) (growslice_fits (by omega) hbytes)
      have hgr := grown 0 (by omega) (Value.ownBlock (.slice none 0 0))
      exact ⟨_, _, hr, hgr.1, hgr.2, Or.inr ⟨rfl, (grown 0 (by omega) none).2⟩, hown0.kept hgr.2 (.inl rfl)⟩
  · by_cases hroom : n + m ≤ cap
    · have hfit : n * i.size + news.length ≤ cur.size := by rw [hl, hcs, ← Nat.add_mul]; exact Nat.mul_le_mul_right _ hroom
      have hst := run_storeCells_at P g (n * i.size) e news 0 cur w hg (by simpa using hfit) hx.one
      simp only [Nat.add_zero] at hst
      have hr : (Builtin.append_ #[t, tx] ty #[.slice (some ⟨g, 0, none⟩) n cap, x]).run P w =
          .ok (.slice (some ⟨g, 0, none⟩) (n + m) cap) (w.setRow g (cur.toList.take (n * i.size) ++ news ++ cur.toList.drop (n * i.size + news.length)).toArray) := by
        rcases hx.kind with ⟨e', hk⟩ | hk <;> simp [Builtin.append_, run_underlying ht, run_underlying hk, sizeOf, typeInfo, hi, hx.len, hroom, hx.cells, Addr.add_lit, hst]
      have hsz : (cur.toList.take (n * i.size) ++ news ++ cur.toList.drop (n * i.size + news.length)).toArray.size = cap * i.size := by
        simp only [List.size_toArray, List.length_append, List.length_take, List.length_drop, Array.length_toList]
        omega
      refine ⟨_, _, hr, ⟨hlen, .inr ⟨g, cap, _, rfl, hbg, setRow_heap w g cur _ e _ hg, hroom, hcm, hsz, ?_⟩⟩, ⟨rfl, rfl, rfl, by simp, fun k _ hk => setRow_other w g k _ (fun e => hk (by simp [Value.ownBlock, e]))⟩, Or.inl rfl,
        ⟨hown.1, .inr ⟨g, cap, _, rfl, hbg, setRow_heap w g cur _ e _ hg, hnc, hcm, hsz, ?_⟩⟩⟩
      · rw [htake, ← hlen]
        exact List.take_left
      · rw [htake, ← hown.1, List.append_assoc]
        exact List.take_left
    · have hold : (Builtin.firstCells i.size n (.slice (some ⟨g, 0, none⟩) n cap)).run P w.drew = .ok xs.toArray w.drew := by
        refine run_firstCells_some w.drew i.size n ⟨g, 0, none⟩ n cap xs hown.1 ?_
        intro j u hu
        have := hown.cells (g := g) rfl j u hu
        simpa using this
      have hr := run_append_grow_src (P := P) w t tx ty e i z ht hi hz (some ⟨g, 0, none⟩) n cap xs hold x m news hx (by omega) (by omega) (growslice_fits (by omega) hbytes)
      have hgr := grown cap (by omega) (Value.ownBlock (.slice (some ⟨g, 0, none⟩) n cap))
      have hgn := (grown cap (by omega) none).2
      exact ⟨_, _, hr, hgr.1, hgr.2, Or.inr ⟨rfl, hgn⟩, hown0.kept hgn (.inr (by simp [Value.ownBlock]))⟩
end
/-- What an append to u leaves: its own list is kept too. -/
structure Appd (w w' : World) (base : Nat) (e : TypeId) (u u' : Value) (l k : List UInt8) : Prop where
  own : Own8 w' base e u' (l ++ k)
  grown : w.grownBy w' u.ownBlock
  place : u'.ownBlock = u.ownBlock ∨ (u'.ownBlock = some w.heap.size ∧ w.grownBy w' none)
  old : Own8 w' base e u l
/-- Another list in the same block that the new one holds. -/
theorem own_pre {w w' : World} {base : Nat} {e : TypeId} {v u x : Value} {l lu lx : List UInt8} {g : Nat} (hv : Own8 w base e v l) (hu : Own8 w base e u lu) (hv' : Own8 w' base e v l) (hx : Own8 w' base e x lx)
    (gv : v.ownBlock = some g) (gu : u.ownBlock = some g) (gx : x.ownBlock = some g) (hlen : lu.length ≤ lx.length) (hp : lu = lx.take lu.length) : Own8 w' base e u lu := by
  rcases hv.2 with ⟨rfl, _⟩ | ⟨g1, cap1, cur1, rfl, b1, h1, _, _, s1, _⟩
  · cases gv
  rcases hu.2 with ⟨rfl, _⟩ | ⟨g2, cap2, cur2, rfl, b2, h2, _, m2, s2, _⟩
  · cases gu
  rcases hx.2 with ⟨rfl, _⟩ | ⟨g3, cap3, cur3, rfl, b3, h3, n3, m3, s3, t3⟩
  · cases gx
  cases gv; cases gu; cases gx
  rcases hv'.2 with ⟨h, _⟩ | ⟨g4, cap4, cur4, e4, b4, h4, _, _, s4, _⟩
  · cases h
  cases e4
  rw [h1] at h2
  cases h2
  rw [h3] at h4
  cases h4
  have c12 : cap2 = cap1 := by omega
  have c31 : cap3 = cap1 := by omega
  subst c12 c31
  refine ⟨hu.1, .inr ⟨_, _, _, rfl, b2, h3, by omega, m3, s3, ?_⟩⟩
  have h6 : cur3.toList.take (lu.length * 1) = (cur3.toList.take (lx.length * 1)).take (lu.length * 1) := by rw [List.take_take]; congr 1; omega
  rw [h6, t3]
  conv => rhs; rw [hp]
  unfold bvs
  rw [Nat.mul_one, List.map_take]
theorem Appd.other {w w' : World} {base : Nat} {e : TypeId} {u u' : Value} {l k : List UInt8} (h : Appd w w' base e u u' l k) (hu : Own8 w base e u l) {z : Value} {lz : List UInt8} (hz : Own8 w base e z lz)
    (hc : z.ownBlock = u.ownBlock → lz.length ≤ (l ++ k).length ∧ lz = (l ++ k).take lz.length) : Own8 w' base e z lz := by
  by_cases hn : z.ownBlock = none
  · exact hz.grown h.grown (.inl hn)
  by_cases he : z.ownBlock = u.ownBlock
  · rcases h.place with hp | ⟨_, hp⟩
    · obtain ⟨g, hg⟩ := Option.ne_none_iff_exists'.1 hn
      exact own_pre hu hz h.old h.own (by rw [← he]; exact hg) hg (by rw [hp, ← he]; exact hg) (hc he).1 (hc he).2
    · exact hz.grown hp (.inr (by rw [Ne]; exact hn))
  · exact hz.grown h.grown (.inr he)
theorem run_app8k {P : Program} {w : World} {base : Nat} {t tx e : TypeId} (ST : SlTy P t e 1 1 (.int .u8 0)) (ty : TypeId) {v : Value} {l : List UInt8} (hown : Own8 w base e v l)
    {xv : Value} {k : List UInt8} (hx : Src P 1 tx xv k.length (bvs k) w) (hbytes : l.length + k.length ≤ 140737488355328) (hbase : base ≤ w.heap.size) :
    ∃ v' w', (Builtin.append_ #[t, tx] ty #[v, xv]).run P w = .ok v' w' ∧ Appd w w' base e v v' l k := by
  obtain ⟨v', w', h1, h2, h3, h4, h5⟩ := run_append_keep ST ty v l.length (bvs l) hown xv k.length (bvs k) hx (by unfold maxLen; omega) (by omega) hbase
  exact ⟨v', w', h1, ⟨by unfold Own8; rw [bvs_append, List.length_append]; exact h2, h3, h4, h5⟩⟩
theorem wpList_app8k {P : Program} {w : World} {base : Nat} {t tx e : TypeId} {ops : Array Oper} {rest : List Oper} {o : Oper} {a : Act} {Q : Exit → Act → World → Prop} (hgd : o.guard = none) (s x : Operand)
    (ho : o.op = .call { callee := .builtin .append, args := #[s, x], argTypes := #[t, tx] }) (ST : SlTy P t e 1 1 (.int .u8 0))
    {v : Value} (hs : a.eval s = v) {l : List UInt8} (hown : Own8 w base e v l)
    {xv : Value} (hxv : a.eval x = xv) {k : List UInt8} (hx : Src P 1 tx xv k.length (bvs k) w) (hbytes : l.length + k.length ≤ 140737488355328) (hbase : base ≤ w.heap.size)
    (h : ∀ v' w', Appd w w' base e v v' l k → wpList P ops Q rest (a.put o.dst v') w') :
    wpList P ops Q (o :: rest) a w :=
  wpList_plain hgd fun _ hK => by
    obtain ⟨v', w', hr, h2⟩ := run_app8k ST o.type hown hx hbytes hbase
    unfold Oper.wp execOp
    simp only [ho, resolve, invoke, builtin, Sem.run_bind, Sem.run_pure, Result.andThen_ok, List.map_toArray, List.map_cons, List.map_nil, hs, hxv, hr]
    exact hK _ _ (h v' w' h2)
end Go.Proofs.Ytfnlcnjflloecaa
/-! ### BookM -/
set_option linter.unusedVariables false
set_option linter.unusedSimpArgs false
namespace Go.Proofs.Ytfnlcnjflloecaa
open Go.RowKit
theorem mk_zero (i n : Nat) : mk i n 0 = List.replicate n (ma i) := by simp [mk]
theorem mk_succ (i n m : Nat) : mk i n m ++ [mb i] = mk i n (m + 1) := by simp [mk, List.replicate_succ']
theorem mk_add (i n m : Nat) : mk i n 0 ++ List.replicate m (mb i) = mk i n m := by simp [mk]
theorem mk_pre (i n m k : Nat) (h : m ≤ k) : mk i n m = (mk i n k).take (mk i n m).length := by
  rw [mk_len]
  unfold mk
  rw [List.take_append, List.length_replicate, List.take_replicate, List.take_replicate]
  congr 2 <;> omega
theorem rep_set (l : List UInt8) (x : Nat) (b : UInt8) (hx : x < l.length) (h : l.take x = List.replicate x b) : (l.set x b).take (x + 1) = List.replicate (x + 1) b := by
  rw [List.take_add_one, List.take_set_of_le (Nat.le_refl _), h, List.getElem?_set_self hx, List.replicate_succ']
  rfl
theorem Chg.grown' {w w' : World} {row : Option Nat} (h : w.grownBy w' row) : Chg (fun k => row = some k) w w' := Chg.grown h (fun k hk => hk)
def manyS (base : Nat) (v u vM : Value) (ms : List Value) (j n : Nat) : (Nat → Prop) → World → Prop := fun B w =>
  OwnV w base vM ms ∧ Own8 w base 5 v (mk j n 0) ∧ (u.ownBlock = v.ownBlock → Own8 w base 5 u (mk j n 16)) ∧ In B vM ∧ In B v
def manyX (base n0 : Nat) (v u vM : Value) (ms : List Value) (j n : Nat) : GSpec := fun x B w =>
  manyS base v u vM ms j n B w ∧ Own8 w base 5 x (mk j n 700) ∧ In B x ∧ In (fun g => v.ownBlock = some g ∨ n0 ≤ g) x
def manyL (base n0 : Nat) (v u vM : Value) (ms : List Value) (j n : Nat) : GSpec := fun l B w =>
  ∃ x g0, l = .slice (some ⟨g0, 0, none⟩) 1 1 ∧ w.heap[g0]? = some (.cells #[x] 38 (0, 0)) ∧ B g0 ∧ manyX base n0 v u vM ms j n x B w
def manyR (base n0 : Nat) (v u vM : Value) (ms : List Value) (j n : Nat) : GSpec := fun r B w =>
  ∃ x, OwnV w base r (ms ++ [x]) ∧ In B r ∧ In (fun g => vM.ownBlock = some g ∨ n0 ≤ g) r ∧ ap r x ∧ Own8 w base 5 v (mk j n 0) ∧ (u.ownBlock = v.ownBlock → Own8 w base 5 u (mk j n 16)) ∧ In B v ∧
    Own8 w base 5 x (mk j n 700) ∧ In B x ∧ In (fun g => v.ownBlock = some g ∨ n0 ≤ g) x
theorem own8_loc {w w' : World} {base : Nat} {e : TypeId} {v : Value} {l : List UInt8} (h : Own8 w base e v l) (hk : ∀ k, v.ownBlock = some k → w'.heap[k]? = w.heap[k]?) : Own8 w' base e v l := by
  refine ⟨h.1, ?_⟩
  rcases h.2 with h2 | ⟨g, cap, cur, rfl, hb, hg, rest⟩
  · exact .inl h2
  · exact .inr ⟨g, cap, cur, rfl, hb, by rw [hk g rfl]; exact hg, rest⟩
section
variable (M0 : Nat → Prop) (base n0 : Nat) (v u vM : Value) (ms : List Value) (j n : Nat) (w0 : World)
theorem manyS_loc : O.Loc M0 w0 (manyS base v u vM ms j n) := by
  rintro B w w' ⟨h1, h2, h3, h4, h5⟩ hs hk
  exact ⟨ownV_loc h1 (fun k hv => hk k (h1.lt k hv) (.inr (h4 k hv))), own8_loc h2 (fun k hv => hk k (h2.lt k hv) (.inr (h5 k hv))), fun e => own8_loc (h3 e) (fun k hv => hk k ((h3 e).lt k hv) (.inr (h5 k (by rw [← e]; exact hv)))), h4, h5⟩
theorem manyX_loc (x : Value) : O.Loc M0 w0 (manyX base n0 v u vM ms j n x) := by
  rintro B w w' ⟨h1, h2, h3, h4⟩ hs hk
  exact ⟨manyS_loc M0 base v u vM ms j n w0 B w w' h1 hs hk, own8_loc h2 (fun k hv => hk k (h2.lt k hv) (.inr (h3 k hv))), h3, h4⟩
theorem manyL_loc (x : Value) : O.Loc M0 w0 (manyL base n0 v u vM ms j n x) := by
  rintro B w w' ⟨y, g0, h1, h2, h3, h4⟩ hs hk
  exact ⟨y, g0, h1, by rw [hk g0 (Array.getElem?_eq_some_iff.1 h2).1 (.inr h3)]; exact h2, h3, manyX_loc M0 base n0 v u vM ms j n w0 y B w w' h4 hs hk⟩
theorem manyR_loc (x : Value) : O.Loc M0 w0 (manyR base n0 v u vM ms j n x) := by
  rintro B w w' ⟨y, h1, h2, h3, h4, h5, h6, h7, h8, h9, h10⟩ hs hk
  exact ⟨y, ownV_loc h1 (fun k hv => hk k (h1.lt k hv) (.inr (h2 k hv))), h2, h3, h4, own8_loc h5 (fun k hv => hk k (h5.lt k hv) (.inr (h7 k hv))), fun e => own8_loc (h6 e) (fun k hv => hk k ((h6 e).lt k hv) (.inr (h7 k (by rw [← e]; exact hv)))), h7,
    own8_loc h8 (fun k hv => hk k (h8.lt k hv) (.inr (h9 k hv))), h9, h10⟩
end
section
variable {B B' : Nat → Prop} {base n0 : Nat} {v u vM x : Value} {ms : List Value} {j n : Nat} {w : World}
theorem manyS_mono (h : manyS base v u vM ms j n B w) (hB : ∀ k, B k → B' k) : manyS base v u vM ms j n B' w := ⟨h.1, h.2.1, h.2.2.1, h.2.2.2.1.mono hB, h.2.2.2.2.mono hB⟩
theorem manyX_mono (h : manyX base n0 v u vM ms j n x B w) (hB : ∀ k, B k → B' k) : manyX base n0 v u vM ms j n x B' w := ⟨manyS_mono h.1 hB, h.2.1, h.2.2.1.mono hB, h.2.2.2⟩
theorem manyL_mono (h : manyL base n0 v u vM ms j n x B w) (hB : ∀ k, B k → B' k) : manyL base n0 v u vM ms j n x B' w := by
  obtain ⟨y, g0, h1, h2, h3, h4⟩ := h
  exact ⟨y, g0, h1, h2, hB g0 h3, manyX_mono h4 hB⟩
end
section
variable {w : World} {ops : Array Oper} {a : Act} {M : Nat → Prop} {base n0 : Nat} {v u vM : Value} {ms : List Value} {j n : Nat} {o : Oper}
theorem goesTo_manyX (hw : Region.wanted o (yielded ops a.tmps) = true) (s x : Operand)
    (ho : o.op = .call { callee := .builtin .append, args := #[s, x], argTypes := #[38, 38] })
    (hs : a.eval s = v) (hS : manyS base v u vM ms j n M w) {m : Value} (hxv : a.eval x = m) (hm : Rd w m (List.replicate 700 (mb j))) (hvM : ap v vM) (hn : n ≤ 10000000) (hb : base ≤ w.heap.size) (hn0 : n0 ≤ w.heap.size) :
    GoesTo Try.prog ops o a w fun x' w' => Chg M w w' ∧ manyX base n0 v u vM ms j n x' (fun b => M b ∨ (w.heap.size ≤ b ∧ b < w'.heap.size)) w' := by
  obtain ⟨h1, h2, h3, h4, h5⟩ := hS
  obtain ⟨x', w', hr, hap⟩ := run_app8k st8 o.type (tx := 38) h2 (Rd.src hm Try.underlying38) (by rw [mk_len, List.length_replicate]; omega) hb
  unfold GoesTo
  rw [if_pos hw]
  unfold execOp
  simp only [ho, resolve, invoke, builtin, Sem.run_bind, Sem.run_pure, Result.andThen_ok, List.map_toArray, List.map_cons, List.map_nil, hs, hxv, hr]
  have hown := hap.own
  rw [mk_add] at hown
  refine ⟨Chg.grown hap.grown h5, ⟨⟨h1.grown hap.grown ?_, hap.old, fun e => hap.other h2 (h3 e) (fun _ => by rw [mk_add]; exact ⟨by rw [mk_len, mk_len]; omega, mk_pre _ _ _ _ (by omega)⟩), h4.mono (fun k hk => .inl hk), h5.mono (fun k hk => .inl hk)⟩, hown, fun g hg => ?_, fun g hg => ?_⟩⟩
  · exact hvM.or
  · rcases hap.place with h | ⟨h, _⟩
    · exact .inl (h5 g (by rw [← h]; exact hg))
    · have hlt := hown.lt g hg
      rw [h] at hg
      have := Option.some.inj hg
      exact .inr ⟨by omega, hlt⟩
  · rcases hap.place with h | ⟨h, _⟩
    · exact .inl (by rw [← h]; exact hg)
    · rw [h] at hg
      have := Option.some.inj hg
      exact .inr (by omega)
theorem goesTo_manyL {x : Value} (hw : Region.wanted o (yielded ops a.tmps) = true) (hx : manyX base n0 v u vM ms j n x M w)
    (hr : (execOp a.eval o).run Try.prog w = .ok (.value (.slice (some ⟨w.heap.size, 0, none⟩) 1 1)) (w.alloc (.cells #[x] 38))) :
    GoesTo Try.prog ops o a w fun l w' => Chg M w w' ∧ manyL base n0 v u vM ms j n l (fun b => M b ∨ (w.heap.size ≤ b ∧ b < w'.heap.size)) w' := by
  unfold GoesTo
  rw [if_pos hw, hr]
  have hb : Below w.heap.size w (w.alloc (.cells #[x] 38)) := (Below.refl _ _).alloc (Nat.le_refl _) _
  obtain ⟨⟨h1, h2, h3, h4, h5⟩, h6, h7, h8⟩ := hx
  refine ⟨Chg.of_below hb, x, w.heap.size, rfl, heap_alloc_new w _, .inr ⟨Nat.le_refl _, by simp⟩, ⟨h1.below hb, h2.below hb, fun e => (h3 e).below hb, h4.mono (fun k hk => .inl hk), h5.mono (fun k hk => .inl hk)⟩, h6.below hb, h7.mono (fun k hk => .inl hk), h8⟩
theorem goesTo_manyR (hw : Region.wanted o (yielded ops a.tmps) = true) (s x : Operand)
    (ho : o.op = .call { callee := .builtin .append, args := #[s, x], argTypes := #[32, 32] })
    (hs : a.eval s = vM) {l : Value} (hxv : a.eval x = l) (hl : manyL base n0 v u vM ms j n l M w) (hvM : ap v vM) (huv : u.ownBlock = v.ownBlock → ap u vM) (hM : In (fun g => g < n0) vM) (hlen : ms.length ≤ 1000) (hb : base ≤ w.heap.size) (hn0 : n0 ≤ w.heap.size) :
    GoesTo Try.prog ops o a w fun r w' => Chg M w w' ∧ manyR base n0 v u vM ms j n r (fun b => M b ∨ (w.heap.size ≤ b ∧ b < w'.heap.size)) w' := by
  obtain ⟨y, g0, rfl, hg0, hB0, ⟨h1, h2, h3, h4, h5⟩, h6, h7, h8⟩ := hl
  have hx : RdW w 1 (.slice (some ⟨g0, 0, none⟩) 1 1) 1 [y] := by
    refine ⟨rfl, _, _, rfl, Nat.le_refl _, by decide, fun _ => ⟨g0, 0, rfl, fun j x hx => ?_⟩⟩
    rw [cell_of_row _ g0 (0 + j) _ 38 (0, 0) hg0, Nat.zero_add]
    simpa using hx
  obtain ⟨r, w', hr, k2, k3, k4⟩ := run_append_src stL o.type vM ms.length ms h1 _ 1 [y] (hx.src (by simpa using own_one h6) Try.underlying32) (by unfold maxLen; omega) (by omega) hb
  unfold GoesTo
  rw [if_pos hw]
  unfold execOp
  simp only [ho, resolve, invoke, builtin, Sem.run_bind, Sem.run_pure, Result.andThen_ok, List.map_toArray, List.map_cons, List.map_nil, hs, hxv, hr]
  have ho' : OwnV w' base r (ms ++ [y]) := by unfold OwnV; rw [List.length_append]; exact k2
  have hyM : ap vM y := fun g h h' => by
    rcases h8 g h' with e | e
    · exact hvM g e h
    · have := hM g h; simp only at this; omega
  refine ⟨Chg.grown k3 h4, y, ho', fun g hg => ?_, fun g hg => ?_, fun g hg hy => ?_, h2.grown k3 hvM.symm.or, fun e => (h3 e).grown k3 (huv e).symm.or, h5.mono (fun k hk => .inl hk), h6.grown k3 hyM.or, h7.mono (fun k hk => .inl hk), h8⟩
  · rcases k4 with h | h
    · exact .inl (h4 g (by rw [← h]; exact hg))
    · have hlt := ho'.lt g hg
      rw [h] at hg
      have := Option.some.inj hg
      exact .inr ⟨by omega, hlt⟩
  · rcases k4 with h | h
    · exact .inl (by rw [← h]; exact hg)
    · rw [h] at hg
      have := Option.some.inj hg
      exact .inr (by omega)
  · rcases k4 with h | h
    · exact hyM g (by rw [← h]; exact hg) hy
    · rw [h] at hg
      have := Option.some.inj hg
      have := h6.lt g hy; omega
end
end Go.Proofs.Ytfnlcnjflloecaa
/-! ### Book5 -/
set_option linter.unusedVariables false
set_option linter.unusedSimpArgs false
namespace Go.Proofs.Ytfnlcnjflloecaa
open Go.RowKit
/-- The Book while it is closed: tags tell whose block is whose. -/
def CAt (w : World) (p : Nat) (vB vW vO vM : Value) (N : Int) (vs us ms : List Value) : Prop :=
  ∃ tg : Nat → Nat, Blk w p 37 [vB, vW, vO, vM, .int .i64 N] ∧ OwnV w (p + 1) vB vs ∧ OwnV w (p + 1) vO us ∧ OwnV w (p + 1) vM ms ∧ In (fun k => tg k = 0) vB ∧ In (fun k => tg k = 1) vO ∧ In (fun k => tg k = 2) vM ∧
    ∀ i v, vs[i]? = some v → ∃ n, n ≤ 10000000 ∧ Own8 w (p + 1) 5 v (mk i n 0) ∧ In (fun k => tg k = 3 + i) v ∧
      (∀ u, us[i]? = some u → Own8 w (p + 1) 5 u (mk i n 16) ∧ In (fun k => tg k = 3 + i) u) ∧ (∀ u, ms[i]? = some u → Own8 w (p + 1) 5 u (mk i n 700) ∧ In (fun k => tg k = 3 + i) u)
/-- One entry has been grown: the others stand, the new blocks are told apart. -/
theorem CAt.put {w1 W : World} {p j : Nat} {vB vW vO' vM' : Value} {N : Int} {vs us ms us' ms' : List Value} {tg : Nat → Nat} {M : Nat → Prop}
    (hF : OwnV w1 (p + 1) vB vs) (tB : In (fun k => tg k = 0) vB)
    (hen : ∀ i v, vs[i]? = some v → ∃ n, n ≤ 10000000 ∧ Own8 w1 (p + 1) 5 v (mk i n 0) ∧ In (fun k => tg k = 3 + i) v ∧
      (∀ u, us[i]? = some u → Own8 w1 (p + 1) 5 u (mk i n 16) ∧ In (fun k => tg k = 3 + i) u) ∧ (∀ u, ms[i]? = some u → Own8 w1 (p + 1) 5 u (mk i n 700) ∧ In (fun k => tg k = 3 + i) u))
    (hc : Chg M w1 W) (hM : ∀ k, M k → k = p ∨ tg k = 1 ∨ tg k = 2 ∨ tg k = 3 + j)
    (hp : Blk W p 37 [vB, vW, vO', vM', .int .i64 N]) (hO : OwnV W (p + 1) vO' us') (hMM : OwnV W (p + 1) vM' ms')
    (tO : In (fun k => k < w1.heap.size → tg k = 1) vO') (tM : In (fun k => k < w1.heap.size → tg k = 2) vM') (hOM : ap vO' vM')
    (hi : ∀ i, i ≠ j → us'[i]? = us[i]? ∧ ms'[i]? = ms[i]?)
    (hj : ∀ v, vs[j]? = some v → ∃ n, n ≤ 10000000 ∧ Own8 W (p + 1) 5 v (mk j n 0) ∧ In (fun k => k < w1.heap.size ∧ tg k = 3 + j) v ∧
      (∀ u, us'[j]? = some u → Own8 W (p + 1) 5 u (mk j n 16) ∧ In (fun k => (k < w1.heap.size → tg k = 3 + j) ∧ vO'.ownBlock ≠ some k ∧ vM'.ownBlock ≠ some k) u) ∧
      (∀ u, ms'[j]? = some u → Own8 W (p + 1) 5 u (mk j n 700) ∧ In (fun k => (k < w1.heap.size → tg k = 3 + j) ∧ vO'.ownBlock ≠ some k ∧ vM'.ownBlock ≠ some k) u)) :
    CAt W p vB vW vO' vM' N vs us' ms' := by
  have old : ∀ {v : Value} {T : Nat} (_ : ∀ k, v.ownBlock = some k → k < w1.heap.size) (_ : In (fun k => tg k = T) v), In (fun k => (if k < w1.heap.size then tg k else if vO'.ownBlock = some k then 1 else if vM'.ownBlock = some k then 2 else 3 + j) = T) v := fun h1 h2 g hg => by
    show (if _ then _ else _) = _
    rw [if_pos (h1 g hg)]; exact h2 g hg
  have stay : ∀ {v : Value} {T : Nat} (_ : ∀ k, v.ownBlock = some k → p + 1 ≤ k) (_ : In (fun k => tg k = T) v), T ≠ 1 → T ≠ 2 → T ≠ 3 + j → ∀ g, v.ownBlock = some g → ¬ M g := fun h1 h2 n1 n2 n3 g hg hm => by
    have a := h2 g hg
    have b := h1 g hg
    simp only at a
    rcases hM g hm with h | h | h | h <;> omega
  refine ⟨fun k => if k < w1.heap.size then tg k else if vO'.ownBlock = some k then 1 else if vM'.ownBlock = some k then 2 else 3 + j, hp, hF.chg hc (stay (fun k hk => hF.base_le k hk) tB (by omega) (by omega) (by omega)), hO, hMM, old (fun k hk => hF.lt k hk) tB, fun g hg => ?_, fun g hg => ?_, fun i v hv => ?_⟩
  · show (if _ then _ else _) = _
    by_cases hlt : g < w1.heap.size
    · rw [if_pos hlt]; exact tO g hg hlt
    · rw [if_neg hlt, if_pos hg]
  · show (if _ then _ else _) = _
    by_cases hlt : g < w1.heap.size
    · rw [if_pos hlt]; exact tM g hg hlt
    · rw [if_neg hlt, if_neg (fun e => hOM g e hg), if_pos hg]
  · by_cases hij : i = j
    · subst hij
      obtain ⟨n, h1, h2, h3, h4, h5⟩ := hj v hv
      have new : ∀ {u : Value}, In (fun k => (k < w1.heap.size → tg k = 3 + i) ∧ vO'.ownBlock ≠ some k ∧ vM'.ownBlock ≠ some k) u → In (fun k => (if k < w1.heap.size then tg k else if vO'.ownBlock = some k then 1 else if vM'.ownBlock = some k then 2 else 3 + i) = 3 + i) u := fun h g hg => by
        show (if _ then _ else _) = _
        obtain ⟨a, b, c⟩ := h g hg
        by_cases hlt : g < w1.heap.size
        · rw [if_pos hlt]; exact a hlt
        · rw [if_neg hlt, if_neg b, if_neg c]
      exact ⟨n, h1, h2, old (fun k hk => (h3 k hk).1) (fun k hk => (h3 k hk).2), fun u hu => ⟨(h4 u hu).1, new (h4 u hu).2⟩, fun u hu => ⟨(h5 u hu).1, new (h5 u hu).2⟩⟩
    · obtain ⟨n, h1, h2, h3, h4, h5⟩ := hen i v hv
      have keep : ∀ {u : Value} {l : List UInt8}, Own8 w1 (p + 1) 5 u l ∧ In (fun k => tg k = 3 + i) u → Own8 W (p + 1) 5 u l ∧ In (fun k => (if k < w1.heap.size then tg k else if vO'.ownBlock = some k then 1 else if vM'.ownBlock = some k then 2 else 3 + j) = 3 + i) u := fun h =>
        ⟨h.1.chg hc (stay (fun k hk => h.1.base_le k hk) h.2 (by omega) (by omega) (by omega)), old (fun k hk => h.1.lt k hk) h.2⟩
      exact ⟨n, h1, (keep ⟨h2, h3⟩).1, (keep ⟨h2, h3⟩).2, fun u hu => keep (h4 u (by rw [← (hi i hij).1]; exact hu)), fun u hu => keep (h5 u (by rw [← (hi i hij).2]; exact hu))⟩
def L1 (w : World) (p : Nat) (vB vW : Value) (N : Int) (bs : List Kept) (i : Value) (wr : World) : Prop :=
  ∃ j : Nat, j ≤ bs.length ∧ i = .int .i64 j ∧ Blk wr p 37 [vB, vW, .slice none 0 0, .slice none 0 0, .int .i64 N] ∧ OwnV wr (p + 1) vB (bs.map (·.v)) ∧ Below p w wr ∧
    ∀ i e, bs[i]? = some e → ∃ l', Own8 wr (p + 1) 5 e.v l' ∧ l'.length = e.l.length ∧ (i < j → l' = mk i e.l.length 0)
def L2 (w1 : World) (base : Nat) (v : Value) (n j : Nat) (k : Value) (wr : World) : Prop :=
  ∃ (x : Nat) (l' : List UInt8), x ≤ n ∧ k = .int .i64 x ∧ l'.length = n ∧ Own8 wr base 5 v l' ∧ l'.take x = List.replicate x (ma j) ∧ Chg (fun b => v.ownBlock = some b) w1 wr
def L3 (w : World) (p : Nat) (vB vW : Value) (N : Int) (vs : List Value) (i : Value) (wr : World) : Prop :=
  ∃ (j : Nat) (vO : Value) (us : List Value), j ≤ vs.length ∧ i = .int .i64 j ∧ us.length = j ∧ CAt wr p vB vW vO (.slice none 0 0) N vs us [] ∧ Below p w wr
def L4 (w1 : World) (base : Nat) (v : Value) (n j : Nat) (u k : Value) (wr : World) : Prop :=
  ∃ x : Nat, x ≤ 16 ∧ k = .int .i64 x ∧ Own8 wr base 5 u (mk j n x) ∧ Own8 wr base 5 v (mk j n 0) ∧ (u.ownBlock = v.ownBlock ∨ ∀ g, u.ownBlock = some g → w1.heap.size ≤ g) ∧ Chg (fun b => v.ownBlock = some b) w1 wr
def L5 (w : World) (p : Nat) (vB vW vO : Value) (N : Int) (vs us : List Value) (i : Value) (wr : World) : Prop :=
  ∃ (j : Nat) (vM : Value) (ms : List Value), j ≤ vs.length ∧ i = .int .i64 j ∧ ms.length = j ∧ CAt wr p vB vW vO vM N vs us ms ∧ Below p w wr
def mbs (j x : Nat) : List UInt8 := List.replicate x (mb j)
theorem mbs_len (j x : Nat) : (mbs j x).length = x := List.length_replicate
theorem mbs_succ (j x : Nat) : mbs j x ++ [mb j] = mbs j (x + 1) := by simp [mbs, List.replicate_succ']
def L6 (w1 : World) (j : Nat) (m k : Value) (wr : World) : Prop :=
  ∃ x : Nat, x ≤ 700 ∧ k = .int .i64 x ∧ Own8 wr w1.heap.size 5 m (mbs j x) ∧ Below w1.heap.size w1 wr
set_option maxRecDepth 100000 in
set_option maxHeartbeats 1600000 in
theorem close_c (w : World) (B p : Nat) (S : Nat → Prop) (bs : List Kept) (h : BookAt w B p S bs) (hn : bs.length ≤ 1000) :
    Calls Try.prog 42 #[.pointer (some ⟨p, 0, none⟩)] w fun e w' => e = .returned (.bool true) ∧ Below B w w' := by
  obtain ⟨vB, vW, N, tg, hBp, hN, hp, hF, hW, htB, htW, hes, hSp, hSB, hSW, hSe, hSl⟩ := h
  clear hSp hSB hSW hSe hSl htW hW
  have hpl := hp.lt
  obtain ⟨AF, cF, rfl, hAF⟩ := hF.form
  rw [List.length_map] at *
  go_enter Try.func42, Try.ntmps42
  go_wp2_with fail
  go_loopw [3] (fun i wr => L1 w p (.slice AF bs.length cF) vW N bs i wr) (fun i _ => bs.length - (intOf i).toNat)
  case atStart => exact ⟨0, by omega, rfl, hp, hF, Below.refl _ _, fun i e he => ⟨e.l, (hes i e he).1, rfl, fun h => by omega⟩⟩
  case round =>
    obtain ⟨j, hj, rfl, hpr, hFr, hbr, hls⟩ := hrel
    have c0 : _ = some _ := hpr.cell 0
    by_cases hlt : j < bs.length
    · have q1 : (j : Int) < bs.length := by omega
      have q2 : (0 : Int) ≤ j := by omega
      obtain ⟨gF, rfl⟩ := hAF (by omega)
      obtain ⟨e, he⟩ : ∃ e, bs[j]? = some e := ⟨bs[j], List.getElem?_eq_getElem hlt⟩
      have jf : (bs.map (·.v))[j]? = some e.v := by rw [List.getElem?_map, he]; rfl
      obtain ⟨l0, k1, k2, _⟩ := hls j e he
      obtain ⟨_, _, k3, k4, _⟩ := hes j e he
      have hapF : ∀ g, e.v.ownBlock = some g → p + 1 ≤ g ∧ (Value.slice (some ⟨gF, 0, none⟩) bs.length cF).ownBlock ≠ some g := fun g hg => ⟨k1.base_le g hg, fun e' => by have a := k4 g hg; have b := htB g e'; simp only at a b; omega⟩
      have hoth : ∀ i e', bs[i]? = some e' → i ≠ j → ∀ g, e'.v.ownBlock = some g → e.v.ownBlock ≠ some g := fun i e' he' hne g hg hg' => by
        have a := (hes i e' he').2.2.2.1 g hg; have b := k4 g hg'; simp only at a b; omega
      replace hls := Go.Lib.hid hls
      replace hes := Go.Lib.hid hes
      have hee := Go.Lib.hid he
      clear he k4
      generalize hvfe : e.v = vf at *
      generalize hlel : e.l.length = n at *
      replace hvfe := Go.Lib.hid hvfe
      replace hlel := Go.Lib.hid hlel
      go_wp2_with fail
      go_loopw [4] (fun k wr' => L2 wr (p + 1) vf n j k wr') (fun k _ => n - (intOf k).toNat)
      case atStart => exact ⟨0, l0, by omega, rfl, k2, k1, rfl, Chg.refl _ _⟩
      case round =>
        obtain ⟨x, l', hx, rfl, hl', hown, htk, hci⟩ := hrel
        have hpm := hpr.chg hci (fun hm => by have := (hapF p hm).1; omega)
        have hFm := hFr.chg hci (fun g hg hm => (hapF g hm).2 hg)
        have c0 : _ = some _ := hpm.cell 0
        have cf : _ = some _ := hFm.cell j vf jf
        by_cases hml : x < n
        · have q3 : (x : Int) < n := by omega
          have q4 : (0 : Int) ≤ x := by omega
          have r1 : Int.tmod (j : Int) 125 = ((j % 125 : Nat) : Int) := by rw [Int.tmod_eq_emod_of_nonneg q2]; omega
          obtain ⟨g, cap, hvf, hge, hgl⟩ := hown.open (by omega)
          rw [hl'] at hvf
          have hcap : n ≤ cap := by obtain ⟨A', c', e', h1, h2, _⟩ := hown.rd.open; rw [hvf, hl'] at e'; cases e'; omega
          subst hvf
          have cm : _ = some _ := hown.cell x (by omega)
          have fm := hown.frozen x (by omega)
          have st := hown.stored x (by omega) (ma j)
          rw [ma_nat] at st
          replace hl' := Go.Lib.hid hl'
          replace htk := Go.Lib.hid htk
          go_wp2_with fail
          refine ⟨⟨x + 1, l'.set x (ma j), by omega, by go_num, by rw [List.length_set]; exact hl'.out, st, rep_set l' x _ (by rw [hl'.out]; omega) htk.out, ?_⟩, by simp [intOf]; omega⟩
          exact hci.chg_trans (Chg.setCell _ _ _) (fun k hk => .inr (by cases hk; rfl))
        · have q3 : ¬ (x : Int) < n := by omega
          obtain ⟨A', c', e', h1, h2, _⟩ := hown.rd.open
          rw [hl'] at e'
          subst e'
          replace hl' := Go.Lib.hid hl'
          replace htk := Go.Lib.hid htk
          go_wp2_with fail
          refine ⟨⟨j + 1, by omega, by go_num, hpm, hFm, ?_, fun i e' he' => ?_⟩, by simp [intOf]; omega⟩
          · exact ⟨hci.os.trans hbr.os, hci.tape.trans hbr.tape, hci.output.trans hbr.output, Nat.le_trans hbr.size hci.size, fun k hk => (hci.block k (by have := hbr.size; omega) (fun hm => by have := (hapF k hm).1; omega)).trans (hbr.block k hk)⟩
          · by_cases hij : i = j
            · subst hij
              rw [hee.out] at he'
              cases he'
              refine ⟨l', by rw [hvfe.out]; exact hown, by rw [hlel.out]; exact hl'.out, fun _ => ?_⟩
              have : x = n := by omega
              subst this
              rw [hlel.out, mk_zero, ← htk.out, List.take_of_length_le (by rw [hl'.out]; omega)]
            · obtain ⟨l2, a1, a2, a3⟩ := hls.out i e' he'
              exact ⟨l2, a1.chg hci (fun g hg hm => hoth i e' he' hij g hg hm), a2, fun h => a3 (by omega)⟩
    · have q1 : ¬ (j : Int) < bs.length := by omega
      have hC : CAt wr p (.slice AF bs.length cF) vW (.slice none 0 0) (.slice none 0 0) N (bs.map (·.v)) [] [] := by
        refine ⟨tg, hpr, hFr, World.ownsRow_nil _ _ _ _, World.ownsRow_nil _ _ _ _, htB, fun g hg => (by cases hg), fun g hg => (by cases hg), fun i v hv => ?_⟩
        rw [List.getElem?_map] at hv
        obtain ⟨e, he, rfl⟩ := Option.map_eq_some_iff.1 hv
        have hi := (List.getElem?_eq_some_iff.1 he).1
        obtain ⟨l2, a1, a2, a3⟩ := hls i e he
        have := a3 (by omega)
        subst this
        exact ⟨e.l.length, (hes i e he).2.2.1, a1, (hes i e he).2.2.2.1, fun u hu => (by simp at hu), fun u hu => (by simp at hu)⟩
      clear hls hes hpr hFr hp hF htB
      have hK : (bs.map (·.v)).length = bs.length := List.length_map _
      generalize bs.map (·.v) = vs at *
      generalize bs.length = K at *
      subst hK
      go_wp2_with fail
      clear c0 q1 hj
      go_loopw [5] (fun i wr' => L3 w p (.slice AF vs.length cF) vW N vs i wr') (fun i _ => vs.length - (intOf i).toNat)
      case atStart => exact ⟨0, _, [], by omega, rfl, rfl, hC, hbr⟩
      clear hC hbr
      case round =>
        obtain ⟨j, vO, us, hj, rfl, hul, ⟨tg, hpr, hFr, hOr, hMr, tB, tO, tM, hen⟩, hbr⟩ := hrel
        have c0 : _ = some _ := hpr.cell 0
        replace hul := Go.Lib.hid hul
        by_cases hlt : j < vs.length
        · have q1 : (j : Int) < vs.length := by omega
          have q2 : (0 : Int) ≤ j := by omega
          obtain ⟨gF, rfl⟩ := hAF (by omega)
          obtain ⟨v, hv⟩ : ∃ v, vs[j]? = some v := ⟨vs[j], List.getElem?_eq_getElem hlt⟩
          have cf : _ = some _ := hFr.cell j v hv
          obtain ⟨n, hn1, k1, k2, _, _⟩ := hen j v hv
          replace hen := Go.Lib.hid hen
          replace hv := Go.Lib.hid hv
          have r1 : Int.tmod (j : Int) 125 = ((j % 125 : Nat) : Int) := by rw [Int.tmod_eq_emod_of_nonneg q2]; omega
          have hpz := hpr.lt
          go_wp2_with fail
          obtain ⟨w1, e1⟩ : ∃ w1, w1 = wr := ⟨_, rfl⟩
          subst e1
          go_loopw [6, 7] (fun u k wr => L4 w1 (p + 1) v n j u k wr) (fun _ k _ => 16 - (intOf k).toNat)
          case atStart => exact ⟨0, by omega, rfl, k1, k1, .inl rfl, Chg.refl _ _⟩
          case round =>
            obtain ⟨x, hx, rfl, hou, hov, hpl, hci⟩ := hrel
            have hsz : p + 1 ≤ wr.heap.size := by have := hci.size; omega
            by_cases hx16 : x < 16
            · have q3 : (x : Int) < 16 := by omega
              have hA : Below wr.heap.size wr (wr.alloc (.cells #[.int .u8 ((125 + j % 125 : Nat) : Int)] 5)) := (Below.refl _ _).alloc (Nat.le_refl _) _
              have hLit : Rd (wr.alloc (.cells #[.int .u8 ((125 + j % 125 : Nat) : Int)] 5)) (.slice (some ⟨wr.heap.size, 0, none⟩) 1 1) [mb j] := Rd.lit _ _ _ [mb j] (by simp [bvs, bv, mb_nat]) rfl (by simp) (by decide)
              have houA := hou.below hA
              have tok0 : True := trivial
              go_wp2_with (first
                | (have _t := tok0; at_builtin; refine wpList_app8k rfl _ _ rfl st8 (by with_unfolding_all (conv => lhs; whnf)) houA rfl (Rd.src hLit Try.underlying38) (by simp; omega) (by simp; omega) ?_; intro u2 w2 hap; clear tok0; have tok1 : True := trivial))
              have hz2 := hap.grown.size
              have hzA : (wr.alloc (.cells #[.int .u8 ((125 + j % 125 : Nat) : Int)] 5)).heap.size = wr.heap.size + 1 := by simp
              have hz1 := hci.size
              refine ⟨⟨x + 1, by omega, by go_num, by have := hap.own; rwa [mk_succ] at this, hap.other houA (hov.below hA) (fun _ => by rw [mk_succ]; exact ⟨by simp, mk_pre _ _ _ _ (by omega)⟩), ?_, ?_⟩, by simp [intOf]; omega⟩
              · rcases hap.place with h | ⟨h, _⟩
                · rw [h]; exact hpl
                · exact .inr (fun g hg => by rw [h] at hg; cases hg; exact Nat.le_trans hz1 hA.size)
              · refine Chg.chg_trans (hci.below_trans hA) (Chg.grown' hap.grown) (fun k hk => ?_)
                rcases hpl with h | h
                · exact .inr (by rw [← h]; exact hk)
                · exact .inl (h k hk)
            · have q3 : ¬ (x : Int) < 16 := by omega
              obtain rfl : x = 16 := by omega
              have hpm := hpr.chg hci (fun hm => by have := k1.base_le p hm; omega)
              have hOm := hOr.chg hci (fun g hg hm => by have a := tO g hg; have b := k2 g hm; simp only at a b; omega)
              have c2 : _ = some _ := hpm.cell 2
              obtain ⟨Au, cu, eu, _, _, _⟩ := hou.rd.open
              obtain ⟨L, hL⟩ : ∃ L, L = (mk j n 16).length := ⟨_, rfl⟩
              rw [← hL] at eu
              replace hL := Go.Lib.hid hL
              subst eu
              have tok0 : True := trivial
              go_wp2_with (first
                | (have _t := tok0; at_builtin; refine wpList_appL rfl _ _ rfl (by with_unfolding_all (conv => lhs; whnf)) (hOm.below ((Below.refl wr.heap.size wr).alloc (Nat.le_refl _) (.cells #[.slice Au L cu] 38))) rfl (RdW.lit1 wr _ _ _) (own_one hou) (by rw [hul.out]; omega) (by simp; omega) ?_; intro v3 w3 ho3 hg3 hb3; have hp3 := (hpm.below ((Below.refl wr.heap.size wr).alloc (Nat.le_refl _) (.cells #[.slice Au L cu] 38))).grown hg3 (fun e => by have := hOm.base_le p e.symm; omega); have f3 := hp3.frozen 2; have k3 : _ = some vO := hp3.cell 2; obtain ⟨g3, cp3, e3, hg3a, hg3b⟩ := ho3.open (by simp); obtain ⟨n3, hn3⟩ : ∃ n3, n3 = (us ++ [Value.slice Au L cu]).length := ⟨_, rfl⟩; rw [← hn3] at e3; replace hn3 := Go.Lib.hid hn3; subst e3; clear tok0; have tok1 : True := trivial))
              have hz1 := hci.size
              have hzA : (wr.alloc (.cells #[.slice Au L cu] 38)).heap.size = wr.heap.size + 1 := by simp
              have hz3 := hg3.size
              have hpl1 : p < w1.heap.size := hpz
              have hset := Chg.setCell w3 ⟨p, 2, none⟩ (.slice (some ⟨g3, 0, none⟩) n3 cp3)
              have hch0 : Chg (fun k => v.ownBlock = some k ∨ vO.ownBlock = some k) w1 w3 := by
                refine Chg.chg_trans ((hci.mono (fun k hk => .inl hk)).below_trans ((Below.refl wr.heap.size wr).alloc (Nat.le_refl _) _)) (Chg.grown hg3 (M := fun k => vO.ownBlock = some k) (fun k hk => hk)) (fun k hk => .inr (.inr hk))
              have hch : Chg (fun k => k = p ∨ v.ownBlock = some k ∨ vO.ownBlock = some k) w1 (w3.setCell ⟨p, 2, none⟩ (.slice (some ⟨g3, 0, none⟩) n3 cp3)) :=
                Chg.chg_trans (hch0.mono (fun k hk => .inr hk)) hset (fun k hk => .inr (.inl hk))
              have uOlt : ∀ g, (Value.slice Au L cu).ownBlock = some g → (g < w1.heap.size → v.ownBlock = some g) ∧ p + 1 ≤ g ∧ g < wr.heap.size := fun g hg => ⟨fun hlt => by
                rcases hpl with h | h
                · rw [← h]; exact hg
                · have := h g hg; omega, hou.base_le g hg, hou.lt g hg⟩
              have g3p : p + 1 ≤ g3 := ho3.base_le g3 rfl
              have uO : ∀ g, (Value.slice Au L cu).ownBlock = some g → vO.ownBlock ≠ some g := fun g hg e => by
                have h1 := hOr.lt g e
                have a := tO g e
                have b := k2 g ((uOlt g hg).1 h1)
                simp only at a b; omega
              have u3 : (Value.slice Au L cu).ownBlock ≠ some g3 := fun e => by
                rcases hb3 with h | h
                · exact uO g3 e h.symm
                · have h' : some g3 = some _ := h
                  rw [hzA] at h'
                  cases h'
                  have := (uOlt _ e).2.2; omega
              have kept : ∀ {z : Value} {m : List UInt8}, Own8 wr (p + 1) 5 z m → (∀ g, z.ownBlock = some g → vO.ownBlock ≠ some g) → Own8 (w3.setCell ⟨p, 2, none⟩ (.slice (some ⟨g3, 0, none⟩) n3 cp3)) (p + 1) 5 z m := fun h hne =>
                ((h.below ((Below.refl wr.heap.size wr).alloc (Nat.le_refl _) _)).chg (Chg.grown hg3 (M := fun k => vO.ownBlock = some k) (fun k hk => hk)) (fun g hg => hne g hg)).chg hset (fun g hg e => by have := h.base_le g hg; have e' : g = p := e; omega)
              refine ⟨⟨j + 1, .slice (some ⟨g3, 0, none⟩) n3 cp3, us ++ [.slice Au L cu], by omega, by go_num, by rw [List.length_append, hul.out]; rfl, ?_, ?_⟩, by simp [intOf]; omega⟩
              · refine CAt.put (j := j) hFr tB hen.out hch ?_ (hp3.stored 2 _) ?_ (World.ownsRow_nil _ _ _ _) ?_ (fun g hg => by cases hg) (fun g _ hg => by cases hg) ?_ ?_
                · intro k hk
                  rcases hk with h | h | h
                  · exact .inl h
                  · exact .inr (.inr (.inr (k2 k h)))
                  · exact .inr (.inl (tO k h))
                · exact ho3.chg hset (fun g hg e => by cases hg; have e' : g3 = p := e; omega)
                · intro g hg hlt
                  have hgg : g3 = g := Option.some.inj hg
                  subst hgg
                  have hlt' : g3 < w1.heap.size := hlt
                  rcases hb3 with h | h
                  · exact tO g3 h.symm
                  · have h' : some g3 = some _ := h
                    rw [hzA] at h'
                    have := Option.some.inj h'; omega
                · intro i hij
                  refine ⟨?_, rfl⟩
                  rw [List.getElem?_append, hul.out]
                  split
                  · rfl
                  · rw [List.getElem?_eq_none (by rw [List.length_singleton]; omega), List.getElem?_eq_none (by rw [hul.out]; omega)]
                · intro v' hv'
                  rw [hv.out] at hv'
                  cases hv'
                  refine ⟨n, hn1, kept hov (fun g hg e => ?_), fun g hg => ⟨k1.lt g hg, k2 g hg⟩, fun u hu => ?_, fun u hu => by simp at hu⟩
                  · have a := tO g e; have b := k2 g hg; simp only at a b; omega
                  · rw [List.getElem?_append_right (by rw [hul.out]; omega), hul.out, Nat.sub_self] at hu
                    cases hu
                    exact ⟨kept hou uO, fun g hg => ⟨fun hlt => k2 g ((uOlt g hg).1 hlt), fun e => by cases e; exact u3 hg, fun e => by cases e⟩⟩
              · refine hbr.trans (hch.below (by omega) (fun k hk => ?_))
                rcases hk with h | h | h
                · omega
                · have := k1.base_le k h; omega
                · have := hOr.base_le k h; omega
        · have q1 : ¬ (j : Int) < vs.length := by omega
          obtain rfl : j = vs.length := by omega
          have c2 : _ = some vO := hpr.cell 2
          have LK := look_c wr (p + 1) p (.slice AF vs.length cF) vW vO (.slice none 0 0) _ vO vs us hpr hFr hOr hul.out (by omega) (fun i v u hv hu => by
            obtain ⟨n, h1, h2, _, h4, _⟩ := hen i v hv
            exact ⟨n, 16, h2, (h4 u hu).1, h1, by omega⟩)
          have hC : CAt wr p (.slice AF vs.length cF) vW vO (.slice none 0 0) N vs us [] := ⟨tg, hpr, hFr, hOr, hMr, tB, tO, tM, hen⟩
          clear hen hpr hFr hOr hMr tB tO tM
          have tok0 : True := trivial
          go_wp2_with (first
            | (have _t := tok0; go_at_call 51; refine LK.mono ?_; rintro e wz ⟨rfl, rfl⟩; clear tok0; have tok1 : True := trivial))
          clear c0 c2 q1 LK hj
          go_loopw [8] (fun i wr => L5 w p (.slice AF vs.length cF) vW vO N vs us i wr) (fun i _ => vs.length - (intOf i).toNat)
          case atStart => exact ⟨0, _, [], by omega, rfl, rfl, hC, hbr⟩
          clear hC hbr
          case round =>
            obtain ⟨j, vM, ms, hj, rfl, hml, ⟨tg, hpr, hFr, hOr, hMr, tB, tO, tM, hen⟩, hbr⟩ := hrel
            have c0 : _ = some _ := hpr.cell 0
            replace hml := Go.Lib.hid hml
            by_cases hlt : j < vs.length
            · have q1 : (j : Int) < vs.length := by omega
              have q2 : (0 : Int) ≤ j := by omega
              obtain ⟨gF, rfl⟩ := hAF (by omega)
              obtain ⟨v, hv⟩ : ∃ v, vs[j]? = some v := ⟨vs[j], List.getElem?_eq_getElem hlt⟩
              obtain ⟨u, hu⟩ : ∃ u, us[j]? = some u := ⟨us[j]'(by rw [hul.out]; exact hlt), List.getElem?_eq_getElem _⟩
              have cf : _ = some _ := hFr.cell j v hv
              obtain ⟨n, hn1, k1, k2, k3, _⟩ := hen j v hv
              obtain ⟨k3, k4⟩ := k3 u hu
              replace hen := Go.Lib.hid hen
              replace hv := Go.Lib.hid hv
              replace hu := Go.Lib.hid hu
              have r1 : Int.tmod (j : Int) 125 = ((j % 125 : Nat) : Int) := by rw [Int.tmod_eq_emod_of_nonneg q2]; omega
              have hpz := hpr.lt
              obtain ⟨w1, e1⟩ : ∃ w1, w1 = wr := ⟨_, rfl⟩
              subst e1
              go_wp2_with fail
              go_loopw [9, 10] (fun m k wr => L6 w1 j m k wr) (fun _ k _ => 700 - (intOf k).toNat)
              case atStart => exact ⟨0, by omega, rfl, Own8.nil _ _ _, Below.refl _ _⟩
              case round =>
                obtain ⟨x, hx, rfl, hmo, hbm⟩ := hrel
                have hz1 := hbm.size
                by_cases hx7 : x < 700
                · have q3 : (x : Int) < 700 := by omega
                  have hA : Below wr.heap.size wr (wr.alloc (.cells #[.int .u8 ((125 + j % 125 : Nat) : Int)] 5)) := (Below.refl _ _).alloc (Nat.le_refl _) _
                  have hLit : Rd (wr.alloc (.cells #[.int .u8 ((125 + j % 125 : Nat) : Int)] 5)) (.slice (some ⟨wr.heap.size, 0, none⟩) 1 1) [mb j] := Rd.lit _ _ _ [mb j] (by simp [bvs, bv, mb_nat]) rfl (by simp) (by decide)
                  have hmA := hmo.below hA
                  have tok0 : True := trivial
                  go_wp2_with (first
                    | (have _t := tok0; at_builtin; refine wpList_app8k rfl _ _ rfl st8 (by with_unfolding_all (conv => lhs; whnf)) hmA rfl (Rd.src hLit Try.underlying38) (by rw [mbs_len]; simp; omega) (by simp; omega) ?_; intro u2 w2 hap; clear tok0; have tok1 : True := trivial))
                  refine ⟨⟨x + 1, by omega, by go_num, by have := hap.own; rwa [mbs_succ] at this, ?_⟩, by simp [intOf]; omega⟩
                  refine (hbm.trans (hA.mono hz1)).trans ((Chg.grown' hap.grown).below (Nat.le_trans hz1 hA.size) (fun k hk => hmo.base_le k hk))
                · have q3 : ¬ (x : Int) < 700 := by omega
                  obtain rfl : x = 700 := by omega
                  have hpm := hpr.below hbm
                  have hFm := hFr.below hbm
                  have vlt : ∀ g, v.ownBlock = some g → p + 1 ≤ g ∧ g < w1.heap.size ∧ tg g = 3 + j := fun g hg => ⟨k1.base_le g hg, k1.lt g hg, k2 g hg⟩
                  have ult : ∀ g, u.ownBlock = some g → p + 1 ≤ g ∧ g < w1.heap.size ∧ tg g = 3 + j := fun g hg => ⟨k3.base_le g hg, k3.lt g hg, k4 g hg⟩
                  have Mlt : ∀ g, vM.ownBlock = some g → p + 1 ≤ g ∧ g < w1.heap.size ∧ tg g = 2 := fun g hg => ⟨hMr.base_le g hg, hMr.lt g hg, tM g hg⟩
                  have Olt : ∀ g, vO.ownBlock = some g → p + 1 ≤ g ∧ g < w1.heap.size ∧ tg g = 1 := fun g hg => ⟨hOr.base_le g hg, hOr.lt g hg, tO g hg⟩
                  have Flt : ∀ g, (Value.slice (some ⟨gF, 0, none⟩) vs.length cF).ownBlock = some g → p + 1 ≤ g ∧ g < w1.heap.size ∧ tg g = 0 := fun g hg => ⟨hFr.base_le g hg, hFr.lt g hg, tB g hg⟩
                  have avM : ap v vM := fun g h1 h2 => by have := vlt g h1; have := Mlt g h2; omega
                  have auM : ap u vM := fun g h1 h2 => by have := ult g h1; have := Mlt g h2; omega
                  have hS : manyS (p + 1) v u vM ms j n (fun k => vM.ownBlock = some k ∨ v.ownBlock = some k) wr := ⟨hMr.below hbm, k1.below hbm, fun _ => k3.below hbm, fun g hg => .inl hg, fun g hg => .inr hg⟩
                  obtain ⟨Am, cm, em, _, _, _⟩ := hmo.rd.open
                  obtain ⟨L, hL⟩ : ∃ L, L = (mbs j 700).length := ⟨_, rfl⟩
                  rw [← hL] at em
                  replace hL := Go.Lib.hid hL
                  subst em
                  have hmr := hmo.rd
                  have hmlt : ∀ g, (Value.slice Am L cm).ownBlock = some g → ¬ (vM.ownBlock = some g ∨ v.ownBlock = some g) := fun g hg h => by
                    have := hmo.base_le g hg
                    rcases h with h | h
                    · have := Mlt g h; omega
                    · have := vlt g h; omega
                  have hpM : ¬ (vM.ownBlock = some p ∨ v.ownBlock = some p) := fun h => by
                    rcases h with h | h
                    · have := Mlt p h; omega
                    · have := vlt p h; omega
                  have hFM : ∀ g, (Value.slice (some ⟨gF, 0, none⟩) vs.length cF).ownBlock = some g → ¬ (vM.ownBlock = some g ∨ v.ownBlock = some g) := fun g hg h => by
                    have := Flt g hg
                    rcases h with h | h
                    · have := Mlt g h; omega
                    · have := vlt g h; omega
                  go_wp2_with fail
                  refine O.region_making 18 (fun | 13 => [100] | 14 => [13] | 15 => [14] | _ => []) (fun | 13 => some fun _ => manyX (p + 1) wr.heap.size v u vM ms j n | 14 => some fun _ => manyL (p + 1) wr.heap.size v u vM ms j n | 15 => some fun _ => manyR (p + 1) wr.heap.size v u vM ms j n | _ => none) 13 100 (fun k => vM.ownBlock = some k ∨ v.ownBlock = some k) (manyS (p + 1) v u vM ms j n) (by kernel_rfl) (by kernel_rfl) ?_ ?_ ?_ ?_ ?_
                  · intro i' S' h' e v'
                    match i', h' with
                    | 13, h' => cases h'; exact manyX_loc _ _ _ _ _ _ _ _ _ _ _
                    | 14, h' => cases h'; exact manyL_loc _ _ _ _ _ _ _ _ _ _ _
                    | 15, h' => cases h'; exact manyR_loc _ _ _ _ _ _ _ _ _ _ _
                  · exact manyS_loc _ _ _ _ _ _ _ _ _
                  · exact hS
                  · intro k hk
                    rcases hk with h | h
                    · have := Mlt k h; omega
                    · have := vlt k h; omega
                  simp only [List.take_succ_cons, List.take_zero, List.drop_succ_cons, List.drop_zero]
                  (apply O.wpG_pure; (focus rfl); (focus (intro wg Bg hbg hBg hFg; go_simp; (try go_bits); (first | done | exact ⟨rfl, Below.refl _ _⟩ | rfl))); simp only [Act.put, List.setIfInBounds_toArray, List.set_cons_succ, List.set_cons_zero])
                  (apply O.wpG_pure; (focus rfl); (focus (intro wg Bg hbg hBg hFg; go_simp; (try go_bits); (first | done | exact ⟨rfl, Below.refl _ _⟩ | rfl))); simp only [Act.put, List.setIfInBounds_toArray, List.set_cons_succ, List.set_cons_zero])
                  (apply O.wpG_pure; (focus rfl); (focus (intro wg Bg hbg hBg hFg; go_simp; (try go_bits); (first | done | exact ⟨rfl, Below.refl _ _⟩ | rfl))); simp only [Act.put, List.setIfInBounds_toArray, List.set_cons_succ, List.set_cons_zero])
                  (apply O.wpG_pure; (focus rfl); (focus (intro wg Bg hbg hBg hFg; go_simp; (try go_bits); (first | done | exact ⟨rfl, Below.refl _ _⟩ | rfl))); simp only [Act.put, List.setIfInBounds_toArray, List.set_cons_succ, List.set_cons_zero])
                  (apply O.wpG_pure; (focus rfl); (focus (intro wg Bg hbg hBg hFg; have c3 : _ = some vM := (hpm.drew.chg hbg hpM).cell 3; go_simp; (try go_bits); (first | done | exact ⟨rfl, Below.refl _ _⟩ | rfl))); simp only [Act.put, List.setIfInBounds_toArray, List.set_cons_succ, List.set_cons_zero])
                  (apply O.wpG_pure; (focus rfl); (focus (intro wg Bg hbg hBg hFg; go_simp; (try go_bits); (first | done | exact ⟨rfl, Below.refl _ _⟩ | rfl))); simp only [Act.put, List.setIfInBounds_toArray, List.set_cons_succ, List.set_cons_zero])
                  (apply O.wpG_pure; (focus rfl); (focus (intro wg Bg hbg hBg hFg; go_simp; (try go_bits); (first | done | exact ⟨rfl, Below.refl _ _⟩ | rfl))); simp only [Act.put, List.setIfInBounds_toArray, List.set_cons_succ, List.set_cons_zero])
                  (apply O.wpG_pure; (focus rfl); (focus (intro wg Bg hbg hBg hFg; go_simp; (try go_bits); (first | done | exact ⟨rfl, Below.refl _ _⟩ | rfl))); simp only [Act.put, List.setIfInBounds_toArray, List.set_cons_succ, List.set_cons_zero])
                  (apply O.wpG_pure; (focus rfl); (focus (intro wg Bg hbg hBg hFg; have c0 : _ = some _ := (hpm.drew.chg hbg hpM).cell 0; go_simp; (try go_bits); (first | done | exact ⟨rfl, Below.refl _ _⟩ | rfl))); simp only [Act.put, List.setIfInBounds_toArray, List.set_cons_succ, List.set_cons_zero])
                  (apply O.wpG_pure; (focus rfl); (focus (intro wg Bg hbg hBg hFg; go_simp; (try go_bits); (first | done | exact ⟨rfl, Below.refl _ _⟩ | rfl))); simp only [Act.put, List.setIfInBounds_toArray, List.set_cons_succ, List.set_cons_zero])
                  (apply O.wpG_pure; (focus rfl); (focus (intro wg Bg hbg hBg hFg; go_simp; (try go_bits); (first | done | exact ⟨rfl, Below.refl _ _⟩ | rfl))); simp only [Act.put, List.setIfInBounds_toArray, List.set_cons_succ, List.set_cons_zero])
                  (apply O.wpG_pure; (focus rfl); (focus (intro wg Bg hbg hBg hFg; have cf : _ = some v := (OwnV.chg (w := wr.drew) hFm hbg hFM).cell j v hv.out; go_simp; (try go_bits); (first | done | exact ⟨rfl, Below.refl _ _⟩ | rfl))); simp only [Act.put, List.setIfInBounds_toArray, List.set_cons_succ, List.set_cons_zero])
                  (apply O.wpG_pure; (focus rfl); (focus (intro wg Bg hbg hBg hFg; go_simp; (try go_bits); (first | done | exact ⟨rfl, Below.refl _ _⟩ | rfl))); simp only [Act.put, List.setIfInBounds_toArray, List.set_cons_succ, List.set_cons_zero])
                  apply O.wpG_make; (focus rfl); (focus (intro wg Bg hbg hBg hFg; have hN : manyS (p + 1) v u vM ms j n (Bg 100) wg := hFg 100 (by decide +kernel); have zg := hbg.size; have hN' := manyS_mono hN (B' := fun b => ∃ j ∈ [100], Bg j b) (fun k hk => ⟨100, by simp, hk⟩); exact goesTo_manyX (n0 := wr.heap.size) (by go_simp) _ _ rfl (by with_unfolding_all (conv => lhs; whnf)) hN' (by with_unfolding_all (conv => lhs; whnf)) (hmr.drew.chg hbg hmlt) avM hn1 (Nat.le_trans (Nat.le_trans hpz hz1) zg) zg)); intro va; simp only [Act.put, List.setIfInBounds_toArray, List.set_cons_succ, List.set_cons_zero]
                  apply O.wpG_make; (focus rfl); (focus (intro wg Bg hbg hBg hFg; have hN : manyX (p + 1) wr.heap.size v u vM ms j n va (Bg 13) wg := hFg 13 (by decide +kernel); have hN' := manyX_mono hN (B' := fun b => ∃ j ∈ [13], Bg j b) (fun k hk => ⟨13, by simp, hk⟩); clear hFg hN; obtain ⟨A7, c7, e7, _, _, _⟩ := hN'.2.1.rd.open; subst e7; exact goesTo_manyL (by go_simp) hN' (by go_simp))); intro vb; simp only [Act.put, List.setIfInBounds_toArray, List.set_cons_succ, List.set_cons_zero]
                  apply O.wpG_make; (focus rfl); (focus (intro wg Bg hbg hBg hFg; have hN : manyL (p + 1) wr.heap.size v u vM ms j n vb (Bg 14) wg := hFg 14 (by decide +kernel); have zg := hbg.size; have hN' := manyL_mono hN (B' := fun b => ∃ j ∈ [14], Bg j b) (fun k hk => ⟨14, by simp, hk⟩); exact goesTo_manyR (by go_simp) _ _ rfl (by with_unfolding_all (conv => lhs; whnf)) (by with_unfolding_all (conv => lhs; whnf)) hN' avM (fun _ => auM) (fun g hg => Nat.lt_of_lt_of_le (Mlt g hg).2.1 hz1) (by rw [hml.out]; omega) (Nat.le_trans (Nat.le_trans hpz hz1) zg) zg)); intro vc; simp only [Act.put, List.setIfInBounds_toArray, List.set_cons_succ, List.set_cons_zero]
                  (apply O.wpG_pure; (focus rfl); (focus (intro wg Bg hbg hBg hFg; go_simp; (try go_bits); (first | done | exact ⟨rfl, Below.refl _ _⟩ | rfl))); simp only [Act.put, List.setIfInBounds_toArray, List.set_cons_succ, List.set_cons_zero])
                  (apply O.wpG_pure; (focus rfl); (focus (intro wg Bg hbg hBg hFg; go_simp; (try go_bits); (first | done | exact ⟨rfl, Below.refl _ _⟩ | rfl))); simp only [Act.put, List.setIfInBounds_toArray, List.set_cons_succ, List.set_cons_zero])
                  refine O.wpG_end (fun wg Bg hbg hBg hFg => ?_)
                  have hR : manyR (p + 1) wr.heap.size v u vM ms j n vc (Bg 15) wg := hFg 15
                  clear hFg hBg
                  obtain ⟨y, m1, _, m3, m4, m5, m6, _, m8, _, m10⟩ := hR
                  obtain ⟨g4, cp4, e4, hg4a, hg4b⟩ := m1.open (by simp)
                  obtain ⟨n4, hn4⟩ : ∃ n4, n4 = (ms ++ [y]).length := ⟨_, rfl⟩
                  rw [← hn4] at e4
                  replace hn4 := Go.Lib.hid hn4
                  subst e4
                  have hpg := hpm.drew.chg hbg hpM
                  have f3 := hpg.frozen 3
                  have k33 : _ = some vM := hpg.cell 3
                  go_wp2_with fail
                  have hset := Chg.setCell wg ⟨p, 3, none⟩ (.slice (some ⟨g4, 0, none⟩) n4 cp4)
                  have hch0 : Chg (fun k => vM.ownBlock = some k ∨ v.ownBlock = some k) w1 wg := Chg.chg_trans (Chg.of_below hbm) (show Chg _ wr wg from ⟨hbg.os, hbg.tape, hbg.output, hbg.size, hbg.block⟩) (fun k hk => .inr hk)
                  have hch : Chg (fun k => k = p ∨ vM.ownBlock = some k ∨ v.ownBlock = some k) w1 (wg.setCell ⟨p, 3, none⟩ (.slice (some ⟨g4, 0, none⟩) n4 cp4)) :=
                    Chg.chg_trans (hch0.mono (fun k hk => .inr hk)) hset (fun k hk => .inr (.inl hk))
                  have setk : ∀ {z : Value} {l : List UInt8}, Own8 wg (p + 1) 5 z l → Own8 (wg.setCell ⟨p, 3, none⟩ (.slice (some ⟨g4, 0, none⟩) n4 cp4)) (p + 1) 5 z l := fun h =>
                    h.chg hset (fun g hg e => by have := h.base_le g hg; have e' : g = p := e; omega)
                  have g4o : (vM.ownBlock = some g4 ∨ wr.heap.size ≤ g4) := m3 g4 rfl
                  have yo : ∀ g, y.ownBlock = some g → (v.ownBlock = some g ∨ wr.heap.size ≤ g) := fun g hg => m10 g hg
                  have r4 : ∀ g, (Value.slice (some ⟨g4, 0, none⟩) n4 cp4).ownBlock = some g → g4 = g := fun g hg => Option.some.inj hg
                  refine ⟨⟨j + 1, .slice (some ⟨g4, 0, none⟩) n4 cp4, ms ++ [y], by omega, by go_num, by rw [List.length_append, hml.out]; rfl, ?_, ?_⟩, by simp [intOf]; omega⟩
                  · refine CAt.put (j := j) hFr tB hen.out hch ?_ (hpg.stored 3 _) (hOr.chg hch ?_) ?_ (fun g hg _ => tO g hg) ?_ ?_ ?_ ?_
                    · intro k hk
                      rcases hk with h | h | h
                      · exact .inl h
                      · exact .inr (.inr (.inl (tM k h)))
                      · exact .inr (.inr (.inr (k2 k h)))
                    · intro g hg hm
                      have := Olt g hg
                      rcases hm with h | h | h
                      · omega
                      · have := Mlt g h; omega
                      · have := vlt g h; omega
                    · exact m1.chg hset (fun g hg e => by have := m1.base_le g hg; have e' : g = p := e; omega)
                    · intro g hg hlt
                      have hlt' : g < w1.heap.size := hlt
                      have e := r4 g hg
                      subst e
                      rcases g4o with h | h
                      · exact tM g4 h
                      · omega
                    · intro g hg hg'
                      have e := r4 g hg'
                      subst e
                      have := Olt g4 hg
                      rcases g4o with h | h
                      · have := Mlt g4 h; omega
                      · omega
                    · intro i hij
                      refine ⟨rfl, ?_⟩
                      rw [List.getElem?_append, hml.out]
                      split
                      · rfl
                      · rw [List.getElem?_eq_none (by rw [List.length_singleton]; omega), List.getElem?_eq_none (by rw [hml.out]; omega)]
                    · intro v' hv'
                      rw [hv.out] at hv'
                      cases hv'
                      refine ⟨n, hn1, setk m5, fun g hg => ⟨(vlt g hg).2.1, k2 g hg⟩, fun u' hu' => ?_, fun y' hy' => ?_⟩
                      · rw [hu.out] at hu'
                        cases hu'
                        refine ⟨?_, fun g hg => ⟨fun _ => k4 g hg, fun e => ?_, fun e => ?_⟩⟩
                        · by_cases he : u.ownBlock = v.ownBlock
                          · exact setk (m6 he)
                          · refine k3.chg hch (fun g hg hm => ?_)
                            have := ult g hg
                            rcases hm with h | h | h
                            · omega
                            · have := Mlt g h; omega
                            · exact he (by rw [hg, h])
                        · have := ult g hg; have := Olt g e; omega
                        · have e := r4 g e
                          subst e
                          have := ult g4 hg
                          rcases g4o with h | h
                          · have := Mlt g4 h; omega
                          · omega
                      · rw [List.getElem?_append_right (by rw [hml.out]; omega), hml.out, Nat.sub_self] at hy'
                        cases hy'
                        refine ⟨setk m8, fun g hg => ⟨fun hlt => ?_, fun e => ?_, fun e => m4 g e hg⟩⟩
                        · rcases yo g hg with h | h
                          · exact k2 g h
                          · omega
                        · have := Olt g e
                          rcases yo g hg with h | h
                          · have := vlt g h; omega
                          · omega
                  · refine hbr.trans (hch.below (by omega) (fun k hk => ?_))
                    rcases hk with h | h | h
                    · omega
                    · have := Mlt k h; omega
                    · have := vlt k h; omega
            · have q1 : ¬ (j : Int) < vs.length := by omega
              obtain rfl : j = vs.length := by omega
              have c2 : _ = some vO := hpr.cell 2
              have c3 : _ = some vM := hpr.cell 3
              have LK2 := look_c wr (p + 1) p (.slice AF vs.length cF) vW vO vM _ vO vs us hpr hFr hOr hul.out (by omega) (fun i v u hv hu => by
                obtain ⟨n, h1, h2, _, h4, _⟩ := hen i v hv
                exact ⟨n, 16, h2, (h4 u hu).1, h1, by omega⟩)
              have LK3 := look_c wr (p + 1) p (.slice AF vs.length cF) vW vO vM _ vM vs ms hpr hFr hMr hml.out (by omega) (fun i v u hv hu => by
                obtain ⟨n, h1, h2, _, _, h4⟩ := hen i v hv
                exact ⟨n, 700, h2, (h4 u hu).1, h1, by omega⟩)
              clear hen hpr hFr hOr hMr tB tO tM
              have tok0 : True := trivial
              go_wp2_with (first
                | (have _t := tok0; go_at_call 51; refine LK3.mono ?_; rintro e wz ⟨rfl, rfl⟩; clear tok0; have tok1 : True := trivial)
                | (have _t := tok1; go_at_call 51; refine LK2.mono ?_; rintro e wz ⟨rfl, rfl⟩; clear tok1; have tok2 : True := trivial))
              go_ret
              exact ⟨rfl, hbr.mono hBp⟩
end Go.Proofs.Ytfnlcnjflloecaa
