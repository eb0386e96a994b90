/- roostkeep.Book: Full, Bytes. -/
import Derived.Test.YtpjpmgpehpigaabDoorBack2
set_option linter.unusedVariables false
set_option linter.unusedSimpArgs false
namespace Go.Proofs.YtpjpmgpehpigaabDoor
open Go.RowKit
structure Kept where
  v : Value
  want : Value
  l : List UInt8
/-- A Book, of which S holds all blocks. -/
def BookAt (w : World) (B p : Nat) (S : Nat → Prop) (bs : List Kept) : Prop :=
  ∃ (vB vW : Value) (N : Nat) (tg : Nat → Nat), B ≤ p ∧ N ≤ 20000000 ∧ Blk w p 61 [vB, vW, .slice none 0 0, .slice none 0 0, .int .i64 (N : Int)] ∧
    OwnV w (p + 1) vB (bs.map (·.v)) ∧ OwnV w (p + 1) vW (bs.map (·.want)) ∧ In (fun k => tg k = 0) vB ∧ In (fun k => tg k = 1) vW ∧
    (∀ i e, bs[i]? = some e → Own8 w (p + 1) 5 e.v e.l ∧ Own8 w (p + 1) 5 e.want e.l ∧ e.l.length ≤ 10000000 ∧ In (fun k => tg k = 3 + i) e.v ∧ In (fun k => tg k = 2) e.want) ∧
    (S p ∧ In S vB ∧ In S vW ∧ (∀ e ∈ bs, In S e.v ∧ In S e.want) ∧ ∀ k, S k → k < w.heap.size)
theorem BookAt.chg {w w' : World} {B p : Nat} {S M : Nat → Prop} {bs : List Kept} (h : BookAt w B p S bs) (hc : Chg M w w') (hm : ∀ k, S k → ¬ M k) : BookAt w' B p S bs := by
  obtain ⟨vB, vW, N, tg, h0, h1, h2, h3, h4, h5, h6, h7, h8⟩ := h
  exact ⟨vB, vW, N, tg, h0, h1, h2.chg hc (hm p h8.1), h3.chg hc (fun g hg => hm g (h8.2.1 g hg)), h4.chg hc (fun g hg => hm g (h8.2.2.1 g hg)), h5, h6,
    fun i e he => ⟨(h7 i e he).1.chg hc (fun g hg => hm g ((h8.2.2.2.1 e (List.mem_of_getElem? he)).1 g hg)), (h7 i e he).2.1.chg hc (fun g hg => hm g ((h8.2.2.2.1 e (List.mem_of_getElem? he)).2 g hg)), (h7 i e he).2.2⟩,
    h8.1, h8.2.1, h8.2.2.1, h8.2.2.2.1, fun k hk => Nat.lt_of_lt_of_le (h8.2.2.2.2 k hk) hc.size⟩
theorem BookAt.below {w w' : World} {B p : Nat} {S : Nat → Prop} {bs : List Kept} (h : BookAt w B p S bs) (hb : Below w.heap.size w w') : BookAt w' B p S bs :=
  h.chg (M := fun _ => False) (Chg.of_below hb) (fun _ _ h => h)
set_option maxRecDepth 100000 in
set_option maxHeartbeats 400000 in
theorem full_c (w : World) (p : Nat) (a b c d : Value) (N : Nat) (h : Blk w p 61 [a, b, c, d, .int .i64 (N : Int)]) (hN : N ≤ 20000000) :
    Calls Tryd.prog 47 #[.pointer (some ⟨p, 0, none⟩)] w fun e w' => e = .returned (.bool (decide (200000 < N))) ∧ w = w' := by
  have c4 : _ = some _ := h.cell 4
  go_enter Tryd.func47, Tryd.ntmps47
  by_cases hlt : 200000 < N
  · have q1 : (200000 : Int) < N := by omega
    go_wp2_with fail
    go_ret
    exact ⟨by first | rfl | (rw [decide_eq_true hlt]; rfl), rfl⟩
  · have q1 : ¬ (200000 : Int) < N := by omega
    go_wp2_with fail
    go_ret
    exact ⟨by first | rfl | (rw [decide_eq_false hlt]; rfl), rfl⟩
set_option maxRecDepth 100000 in
set_option maxHeartbeats 1600000 in
theorem bkbytes_c (w : World) (B p : Nat) (S : Nat → Prop) (bs : List Kept) (v : Value) (l : List UInt8) (h : BookAt w B p S bs) (hv : Own8 w (p + 1) 5 v l) (hvS : ∀ g, v.ownBlock = some g → ¬ S g) (hl : l.length ≤ 10000000) (hn : bs.length ≤ 999) :
    Calls Tryd.prog 27 #[.pointer (some ⟨p, 0, none⟩), v] w fun e w' => ∃ (S' : Nat → Prop) (bs' : List Kept), e = .returned (.tuple #[]) ∧ BookAt w' B p S' bs' ∧ bs'.length ≤ bs.length + 1 ∧ (∀ k, S' k → S k ∨ v.ownBlock = some k ∨ w.heap.size ≤ k) ∧ Chg S w w' ∧ Below B w w' := by
  have hB0 := h
  obtain ⟨vB, vW, N, tg, hBp, hN, hp, hF, hW, htB, htW, hes, hSp, hSB, hSW, hSe, hSl⟩ := h
  have hpl := hp.lt
  have F := full_c w p _ _ _ _ N hp hN
  go_enter Tryd.func27, Tryd.ntmps27
  by_cases hlt : 200000 < N
  · rw [decide_eq_true hlt] at F
    have tok0 : True := trivial
    go_wp2_with (first
      | (have _t := tok0; go_at_call 47; refine F.mono ?_; rintro e w1 ⟨rfl, rfl⟩; clear tok0; have tok1 : True := trivial))
    first | go_end0 | ((try simp only [Exit.inBlock, Exit.then]); refine bodyPost_ret (results_none rfl _ _ _) rfl ?_)
    exact ⟨S, bs, rfl, hB0, by omega, fun k hk => .inl hk, Chg.refl _ _, Below.refl _ _⟩
  rw [decide_eq_false hlt] at F
  clear hB0
  obtain ⟨A, c, rfl, hA1, hA2, hA3⟩ := hv.rd.open
  have c4 : _ = some _ := hp.cell 4
  have f4 := hp.frozen 4
  have tok0 : True := trivial
  go_upto_region 2 with (first
    | (have _t := tok0; go_at_call 47; refine F.mono ?_; rintro e w1 ⟨rfl, rfl⟩; clear tok0; have tok1 : True := trivial))
  have hp1 : Blk (w.setCell ⟨p, 4, none⟩ (.int .i64 ((N : Int) + l.length + 1))) p 61 [vB, vW, .slice none 0 0, .slice none 0 0, .int .i64 ((N : Int) + l.length + 1)] := hp.stored 4 _
  have hne : ∀ {v : Value} {base : Nat} {e : TypeId} {size n : Nat} {us : List Value}, w.ownsRow (p + 1) e size v n us → (w.setCell ⟨p, 4, none⟩ (.int .i64 ((N : Int) + l.length + 1))).ownsRow (p + 1) e size v n us := fun h =>
    owns_chg h (Chg.setCell _ _ _) (fun g hg e => by have := (World.ownsRow.lt h g hg).1; have e' : g = p := e; omega)
  have hF1 : OwnV _ _ _ _ := hne (base := 0) hF
  have hW1 : OwnV _ _ _ _ := hne (base := 0) hW
  have hv1 : Own8 _ _ _ _ _ := hne (base := 0) hv
  have hc1 : Chg S w (w.setCell ⟨p, 4, none⟩ (.int .i64 ((N : Int) + l.length + 1))) := (Chg.setCell _ _ _).mono (fun k hk => by have e : k = p := hk; subst e; exact hSp)
  have hc0 : Chg (fun k => k = p) w (w.setCell ⟨p, 4, none⟩ (.int .i64 ((N : Int) + l.length + 1))) := Chg.setCell w ⟨p, 4, none⟩ _
  have hz1 : (w.setCell ⟨p, 4, none⟩ (.int .i64 ((N : Int) + l.length + 1))).heap.size = w.heap.size := by simp
  generalize w.setCell ⟨p, 4, none⟩ (.int .i64 ((N : Int) + l.length + 1)) = w1 at *
  clear hne c4 f4 F
  replace hz1 := Go.Lib.hid hz1
  have hpl1 : p + 1 ≤ w1.heap.size := hp1.lt
  have c0 : _ = some _ := hp1.cell 0
  have hF2 := hF1.below ((Below.refl w1.heap.size w1).alloc (Nat.le_refl _) (.cells #[.slice A l.length c] 22))
  have tok0 : True := trivial
  go_upto_region 3 with (first
    | (have _t := tok0; at_builtin; refine wpList_appL rfl _ _ rfl (by with_unfolding_all (conv => lhs; whnf)) hF2 rfl (RdW.lit1 w1 _ _ _) (own_one hv1) (by rw [List.length_map]; omega) (by simp; omega) ?_; intro v3 w3 ho3 hg3 hb3; have hp3 := (hp1.below ((Below.refl w1.heap.size w1).alloc (Nat.le_refl _) (.cells #[.slice A l.length c] 22))).grown hg3 (fun e => by have := hF2.base_le p e.symm; omega); have f3 := hp3.frozen 0; have k3 : _ = some vB := hp3.cell 0; obtain ⟨g3, cp3, e3, hg3a, hg3b⟩ := ho3.open (by simp); generalize hn3 : (List.map (fun x => x.v) bs ++ [Value.slice A l.length c]).length = n3 at e3; subst e3; clear tok0; have tok1 : True := trivial))
  have hz := hz1.out
  have hz0 : (w1.alloc (Obj.cells #[Value.slice A l.length c] 22)).heap.size = w1.heap.size + 1 := by simp
  have hchS : Chg (fun k => k = p ∨ vB.ownBlock = some k) w1 (w3.setCell ⟨p, 0, none⟩ (.slice (some ⟨g3, 0, none⟩) n3 cp3)) := by
    refine Chg.chg_trans (M := fun k => k = p ∨ vB.ownBlock = some k) ?_ (Chg.setCell w3 ⟨p, 0, none⟩ (.slice (some ⟨g3, 0, none⟩) n3 cp3)) (fun k hk => .inr (.inl hk))
    exact Chg.chg_trans (M := fun k => k = p ∨ vB.ownBlock = some k) (Chg.of_below ((Below.refl _ _).alloc (Nat.le_refl _) _)) (Chg.grown hg3 (fun k hk => hk)) (fun k hk => .inr (.inr hk))
  have hpS : Blk (w3.setCell ⟨p, 0, none⟩ (.slice (some ⟨g3, 0, none⟩) n3 cp3)) p 61 [.slice (some ⟨g3, 0, none⟩) n3 cp3, vW, .slice none 0 0, .slice none 0 0, .int .i64 ((N : Int) + l.length + 1)] := hp3.stored 0 _
  have hFS : OwnV (w3.setCell ⟨p, 0, none⟩ (.slice (some ⟨g3, 0, none⟩) n3 cp3)) (p + 1) (.slice (some ⟨g3, 0, none⟩) n3 cp3) (bs.map (·.v) ++ [.slice A l.length c]) :=
    ho3.grown (grown_setCell _ _ _) (.inr (by intro e; cases e; omega))
  have hvp : ∀ g, (Value.slice A l.length c).ownBlock = some g → p + 1 ≤ g ∧ g < w1.heap.size := fun g hg => ⟨hv1.base_le g hg, hv1.lt g hg⟩
  have hvB : ∀ k, vB.ownBlock = some k → p + 1 ≤ k ∧ k < w1.heap.size := fun k hk => ⟨hF1.base_le k hk, hF1.lt k hk⟩
  have hvW : ∀ k, vW.ownBlock = some k → p + 1 ≤ k ∧ k < w1.heap.size := fun k hk => ⟨hW1.base_le k hk, hW1.lt k hk⟩
  have hvS1 := hv1.chg hchS (fun g hg hm => by
    rcases hm with rfl | hm
    · have := (hvp _ hg).1; omega
    · exact hvS g hg (hSB g hm))
  have hBW : ap vB vW := fun g h1 h2 => by have a := htB g h1; have b := htW g h2; simp only at a b; omega
  have hWS : OwnV (w3.setCell ⟨p, 0, none⟩ (.slice (some ⟨g3, 0, none⟩) n3 cp3)) (p + 1) vW (bs.map (·.want)) := hW1.chg hchS (fun g hg hm => by
    rcases hm with rfl | hm
    · have := (hvW _ hg).1; omega
    · exact hBW g hm hg)
  have hg3n : (some g3 = vB.ownBlock ∨ w1.heap.size < g3) := by
    rcases hb3 with h | h
    · exact .inl h
    · have h' : some g3 = some _ := h
      rw [hz0] at h'
      cases h'
      exact .inr (by omega)
  clear k3 f3 hp3 hb3 hg3 hF2 c0 ho3 hz0
  generalize hwS : w3.setCell ⟨p, 0, none⟩ (.slice (some ⟨g3, 0, none⟩) n3 cp3) = wS at *
  clear hwS
  refine O.region_making 12 (fun | 7 => [5] | 8 => [7] | 9 => [100, 8] | _ => []) (fun | 5 => some fun _ => new8 5 [] | 7 => some fun _ => new8 5 ([] ++ l) | 8 => some fun _ => litL 22 5 ([] ++ l) | 9 => some fun _ => rowL (p + 1) wS.heap.size (bs.map (·.want)) 5 ([] ++ l) | _ => none) 9 100 (fun k => vW.ownBlock = some k) (oldL (p + 1) vW (bs.map (·.want))) (by kernel_rfl) (by kernel_rfl) ?_ ?_ ?_ ?_ ?_
  · intro i' S' h' e v'
    match i', h' with
    | 5, h' => cases h'; exact O.new8_loc _ _ _ _ _
    | 7, h' => cases h'; exact O.new8_loc _ _ _ _ _
    | 8, h' => cases h'; exact litL_loc _ _ _ _ _ _
    | 9, h' => cases h'; exact rowL_loc _ _ _ _ _ _ _ _
  · exact oldL_loc _ _ _ _ _
  · exact ⟨hWS, fun g hg => hg⟩
  · exact fun k hk => hWS.lt k hk
  simp only [List.take_succ_cons, List.take_zero, List.drop_succ_cons, List.drop_zero]
  have hpM : ¬ (vW.ownBlock = some p) := fun e => by have := hWS.base_le p e; omega
  have hvM : ∀ g, (Value.slice A l.length c).ownBlock = some g → ¬ (vW.ownBlock = some g) := fun g hg e => hvS g hg (hSW g e)
  have hWb : p + 1 ≤ wS.heap.size := hpS.lt
  (apply O.wpG_pure; (focus rfl); (focus (intro wg Bg hbg hBg hFg; go_simp; (try go_bits); (first | done | exact ⟨rfl, Below.refl _ _⟩ | rfl))); simp only [Act.put, List.setIfInBounds_toArray, List.set_cons_succ, List.set_cons_zero])
  (apply O.wpG_pure; (focus rfl); (focus (intro wg Bg hbg hBg hFg; go_simp; (try go_bits); (first | done | exact ⟨rfl, Below.refl _ _⟩ | rfl))); simp only [Act.put, List.setIfInBounds_toArray, List.set_cons_succ, List.set_cons_zero])
  (apply O.wpG_pure; (focus rfl); (focus (intro wg Bg hbg hBg hFg; go_simp; (try go_bits); (first | done | exact ⟨rfl, Below.refl _ _⟩ | rfl))); simp only [Act.put, List.setIfInBounds_toArray, List.set_cons_succ, List.set_cons_zero])
  (apply O.wpG_pure; (focus rfl); (focus (intro wg Bg hbg hBg hFg; go_simp; (try go_bits); (first | done | exact ⟨rfl, Below.refl _ _⟩ | rfl))); simp only [Act.put, List.setIfInBounds_toArray, List.set_cons_succ, List.set_cons_zero])
  (apply O.wpG_pure; (focus rfl); (focus (intro wg Bg hbg hBg hFg; have hpg := hpS.drew.chg hbg hpM; have cW : _ = some vW := hpg.cell 1; go_simp; (try go_bits); (first | done | exact ⟨rfl, Below.refl _ _⟩ | rfl))); simp only [Act.put, List.setIfInBounds_toArray, List.set_cons_succ, List.set_cons_zero])
  (apply O.wpG_make; (focus rfl); (focus (intro wg Bg hbg hBg hFg; refine goesTo_lit (n := 0) (by go_simp) [] rfl (by decide) (by go_simp; first | done | rfl | exact ⟨rfl, rfl⟩))); intro va; simp only [Act.put, List.setIfInBounds_toArray, List.set_cons_succ, List.set_cons_zero])
  (apply O.wpG_pure; (focus rfl); (focus (intro wg Bg hbg hBg hFg; go_simp; (try go_bits); (first | done | exact ⟨rfl, Below.refl _ _⟩ | rfl))); simp only [Act.put, List.setIfInBounds_toArray, List.set_cons_succ, List.set_cons_zero])
  (apply O.wpG_make; (focus rfl); (focus (intro wg Bg hbg hBg hFg; have hN := hFg 5 (by decide +kernel); refine goesTo_app8w (by go_simp) _ _ rfl st8 (by with_unfolding_all (conv => lhs; whnf)) (id hN).1 (by with_unfolding_all (conv => lhs; whnf)) (Rd.src (hvS1.drew.chg hbg hvM).rd Tryd.underlying22) (by first | omega | (simp; omega)) (Nat.zero_le _) (fun g hg => ⟨5, by simp, (id hN).2 g hg⟩))); intro vb; simp only [Act.put, List.setIfInBounds_toArray, List.set_cons_succ, List.set_cons_zero])
  apply O.wpG_make; (focus rfl); (focus (intro wg Bg hbg hBg hFg; have hN : new8 5 ([] ++ l) vb (Bg 7) wg := hFg 7 (by decide +kernel); have hN' : new8 5 ([] ++ l) vb (fun b => ∃ j ∈ [7], Bg j b) wg := ⟨hN.1, fun g hg => ⟨7, by simp, hN.2 g hg⟩⟩; clear hFg hN; obtain ⟨A7, c7, e7, _, _, _⟩ := hN'.1.rd.open; subst e7; exact goesTo_litL (by go_simp) hN' (by go_simp))); intro vc; simp only [Act.put, List.setIfInBounds_toArray, List.set_cons_succ, List.set_cons_zero]
  apply O.wpG_make; (focus rfl); (focus (intro wg Bg hbg hBg hFg; have hN : litL 22 5 ([] ++ l) vc (Bg 8) wg := hFg 8 (by decide +kernel); have hO : oldL (p + 1) vW (bs.map (·.want)) (Bg 100) wg := hFg 100 (by decide +kernel); exact goesTo_appL (by go_simp) _ _ rfl (by with_unfolding_all (conv => lhs; whnf)) hO.1 (by with_unfolding_all (conv => lhs; whnf)) hN (by rw [List.length_map]; omega) (by have := hbg.size; have := hWb; have e : wS.drew.heap.size = wS.heap.size := rfl; omega) (fun g hg => ⟨100, by simp, hO.2 g hg⟩) (fun g hg => ⟨⟨8, by simp, hg⟩, (hBg.lo 8 g hg).elim id (fun h => absurd (hBg.apart 8 100 g hg (hO.2 g h)) (by decide)), fun h => absurd (hBg.apart 8 100 g hg (hO.2 g h)) (by decide)⟩) hbg.size)); intro vd; simp only [Act.put, List.setIfInBounds_toArray, List.set_cons_succ, List.set_cons_zero]
  (apply O.wpG_pure; (focus rfl); (focus (intro wg Bg hbg hBg hFg; go_simp; (try go_bits); (first | done | exact ⟨rfl, Below.refl _ _⟩ | rfl))); simp only [Act.put, List.setIfInBounds_toArray, List.set_cons_succ, List.set_cons_zero])
  (apply O.wpG_pure; (focus rfl); (focus (intro wg Bg hbg hBg hFg; go_simp; (try go_bits); (first | done | exact ⟨rfl, Below.refl _ _⟩ | rfl))); simp only [Act.put, List.setIfInBounds_toArray, List.set_cons_succ, List.set_cons_zero])
  refine O.wpG_end (fun wg Bg hbg hBg hFg => ?_)
  have hR : rowL (p + 1) wS.heap.size (bs.map (·.want)) 5 ([] ++ l) vd (Bg 9) wg := hFg 9
  clear hFg
  rw [List.nil_append] at hR
  obtain ⟨x, hr1, hr2, hr3, hr4, hr5⟩ := hR
  obtain ⟨g4, cp4, e4, hg4a, hg4b⟩ := hr1.open (by simp)
  generalize hn4 : (bs.map (·.want) ++ [x]).length = n4 at e4
  subst e4
  have hpg := hpS.drew.chg hbg hpM
  have f4 := hpg.frozen 1
  have k4 : _ = some vW := hpg.cell 1
  go_wp2_with fail
  first | go_end0 | ((try simp only [Exit.inBlock, Exit.then]); refine bodyPost_ret (results_none rfl _ _ _) rfl ?_)
  have zS : w1.heap.size ≤ wS.heap.size := hchS.size
  have zg : wS.heap.size ≤ wg.heap.size := hbg.size
  have zp : p < w1.heap.size := hpl1
  have g3lt : g3 < wS.heap.size := hFS.lt g3 rfl
  have g3ge : p + 1 ≤ g3 := hFS.base_le g3 rfl
  have g4lt : g4 < wg.heap.size := hr1.lt g4 rfl
  have hg4 : wS.heap.size ≤ g4 ∨ vW.ownBlock = some g4 := hBg.lo 9 g4 (hr3 g4 rfl)
  have xlt : ∀ g, x.ownBlock = some g → g < wg.heap.size := fun g hg => hr2.1.lt g hg
  have h3M : ¬ (vW.ownBlock = some g3) := fun e => by
    rcases hg3n with h | h
    · exact hBW g3 h.symm e
    · have := hvW g3 e; omega
  have n3v : (Value.slice A l.length c).ownBlock ≠ some g3 := fun e => by
    rcases hg3n with h | h
    · exact hvS g3 e (hSB g3 h.symm)
    · have := hvp g3 e; omega
  have n4v : (Value.slice A l.length c).ownBlock ≠ some g4 := fun e => by
    rcases hg4 with h | h
    · have := hvp g4 e; omega
    · exact hvS g4 e (hSW g4 h)
  have n34 : g3 ≠ g4 := fun e => by
    subst e
    rcases hg4 with h | h
    · omega
    · exact h3M h
  have nxv : ∀ g, x.ownBlock = some g → (Value.slice A l.length c).ownBlock ≠ some g ∧ g ≠ g3 ∧ g ≠ g4 ∧ w1.heap.size ≤ g := fun g hg => by
    have h5 := hr5 g hg
    refine ⟨fun e => ?_, fun e => ?_, fun e => ?_, by omega⟩
    · have := hvp g e; omega
    · omega
    · subst e; exact hr4 g rfl hg
  have hset := Chg.setCell wg ⟨p, 1, none⟩ (.slice (some ⟨g4, 0, none⟩) n4 cp4)
  have zw : ∀ g, g < wg.heap.size → g < (wg.setCell ⟨p, 1, none⟩ (.slice (some ⟨g4, 0, none⟩) n4 cp4)).heap.size := fun g hg => Nat.lt_of_lt_of_le hg hset.size
  have hch : Chg S w1 (wg.setCell ⟨p, 1, none⟩ (.slice (some ⟨g4, 0, none⟩) n4 cp4)) := by
    refine Chg.chg_trans ?_ hset (fun k hk => .inr (by have e : k = p := hk; subst e; exact hSp))
    have h1 : Chg S w1 wS.drew := (show Chg (fun k => k = p ∨ vB.ownBlock = some k) w1 wS.drew from ⟨hchS.os, hchS.tape, hchS.output, hchS.size, hchS.block⟩).mono (fun k hk => by
      rcases hk with rfl | hk
      · exact hSp
      · exact hSB k hk)
    exact Chg.chg_trans h1 hbg (fun k hk => .inr (hSW k hk))
  have hchP : Chg (fun k => k = p ∨ vB.ownBlock = some k ∨ vW.ownBlock = some k) w1 (wg.setCell ⟨p, 1, none⟩ (.slice (some ⟨g4, 0, none⟩) n4 cp4)) := by
    refine Chg.chg_trans ?_ hset (fun k hk => .inr (.inl hk))
    have h1 : Chg (fun k => k = p ∨ vB.ownBlock = some k ∨ vW.ownBlock = some k) w1 wS.drew := (show Chg (fun k => k = p ∨ vB.ownBlock = some k) w1 wS.drew from ⟨hchS.os, hchS.tape, hchS.output, hchS.size, hchS.block⟩).mono (fun k hk => hk.imp id (fun h => Or.inl h))
    exact Chg.chg_trans h1 hbg (fun k hk => .inr (.inr (.inr hk)))
  have hB6 : Below B w1 (wg.setCell ⟨p, 1, none⟩ (.slice (some ⟨g4, 0, none⟩) n4 cp4)) := hchP.below (by omega) (fun k hk => by
    rcases hk with rfl | hk | hk
    · exact hBp
    · have := hvB k hk; omega
    · have := hvW k hk; omega)
  have hB5 : Below B w w1 := by
    refine ⟨hc1.os, hc1.tape, hc1.output, hc1.size, fun k hk => hc0.block k (by omega) (fun e => by have e' : k = p := e; omega)⟩
  have kept : ∀ {v' : Value} {m : List UInt8}, Own8 w (p + 1) 5 v' m → (∀ g, v'.ownBlock = some g → vB.ownBlock ≠ some g ∧ vW.ownBlock ≠ some g) → Own8 (wg.setCell ⟨p, 1, none⟩ (.slice (some ⟨g4, 0, none⟩) n4 cp4)) (p + 1) 5 v' m := fun h h' => by
    refine Own8.chg (w := w1) (h.chg hc0 (fun g hg e => ?_)) hchP (fun g hg hm => ?_)
    · have e' : g = p := e; have := h.base_le g hg; omega
    · rcases hm with rfl | hm | hm
      · have := h.base_le _ hg; omega
      · exact (h' g hg).1 hm
      · exact (h' g hg).2 hm
  have hold : ∀ (v' : Value) (m : List UInt8) (T : Nat), Own8 w (p + 1) 5 v' m → In S v' → In (fun k => tg k = T) v' → 2 ≤ T →
      In (fun k => (if (Value.slice A l.length c).ownBlock = some k then 3 + bs.length else if k = g3 then 0 else if k = g4 then 1 else if x.ownBlock = some k then 2 else tg k) = T) v' := fun v' m T ho h1 h2 hT g hg => by
    have hlt := ho.lt g hg
    have ht := h2 g hg
    have hs := h1 g hg
    simp only at ht ⊢
    have p3 : g ≠ g3 := fun e => by
      subst e
      rcases hg3n with h | h
      · have := htB g h.symm; simp only at this; omega
      · omega
    have p4 : g ≠ g4 := fun e => by
      subst e
      rcases hg4 with h | h
      · omega
      · have := htW g h; simp only at this; omega
    have px : ¬ (x.ownBlock = some g) := fun e => by have := nxv g e; omega
    rw [if_neg (fun e => hvS g e hs), if_neg p3, if_neg p4, if_neg px]
    exact ht
  refine ⟨fun k => S k ∨ (Value.slice A l.length c).ownBlock = some k ∨ (w.heap.size ≤ k ∧ k < (wg.setCell ⟨p, 1, none⟩ (.slice (some ⟨g4, 0, none⟩) n4 cp4)).heap.size), bs ++ [⟨.slice A l.length c, x, l⟩], rfl,
    ⟨.slice (some ⟨g3, 0, none⟩) n3 cp3, .slice (some ⟨g4, 0, none⟩) n4 cp4, N + l.length + 1, fun k => if (Value.slice A l.length c).ownBlock = some k then 3 + bs.length else if k = g3 then 0 else if k = g4 then 1 else if x.ownBlock = some k then 2 else tg k,
      hBp, by omega, hpg.stored 1 _, ?_, ?_, ?_, ?_, ?_, .inl hSp, ?_, ?_, ?_, ?_⟩, by simp, fun k hk => hk.imp id (fun h => h.imp id (fun h => h.1)), Chg.chg_trans hc1 hch (fun k hk => .inr hk), hB5.trans hB6⟩
  · rw [List.map_append]
    have h7 : OwnV wg _ _ _ := OwnV.chg (w := wS.drew) hFS hbg (fun g hg hm => by cases hg; exact h3M hm)
    refine h7.chg hset (fun g hg e => ?_)
    cases hg; have : g3 = p := e; omega
  · rw [List.map_append]
    refine hr1.chg hset (fun g hg e => ?_)
    cases hg
    have : g4 = p := e
    rcases hg4 with h | h
    · omega
    · have := hvW g4 h; omega
  · intro g hg
    cases hg
    show (if _ then _ else _) = _
    rw [if_neg n3v, if_pos rfl]
  · intro g hg
    cases hg
    show (if _ then _ else _) = _
    rw [if_neg n4v, if_neg (fun e => n34 e.symm), if_pos rfl]
  · intro i e he
    rcases Nat.lt_or_ge i bs.length with hi | hi
    · rw [List.getElem?_append_left hi] at he
      obtain ⟨k1, k2, k3, k4, k5⟩ := hes i e he
      have hm := List.mem_of_getElem? he
      refine ⟨kept k1 (fun g hg => ⟨fun e' => ?_, fun e' => ?_⟩), kept k2 (fun g hg => ⟨fun e' => ?_, fun e' => ?_⟩), k3, hold _ _ _ k1 (hSe e hm).1 k4 (by omega), hold _ _ _ k2 (hSe e hm).2 k5 (by omega)⟩
      · have a := k4 g hg; have b := htB g e'; simp only at a b; omega
      · have a := k4 g hg; have b := htW g e'; simp only at a b; omega
      · have a := k5 g hg; have b := htB g e'; simp only at a b; omega
      · have a := k5 g hg; have b := htW g e'; simp only at a b; omega
    · rw [List.getElem?_append_right hi] at he
      obtain rfl : i = bs.length := by
        have := (List.getElem?_eq_some_iff.1 he).1; simp at this; omega
      rw [Nat.sub_self] at he
      cases he
      refine ⟨kept hv (fun g hg => ⟨fun e' => hvS g hg (hSB g e'), fun e' => hvS g hg (hSW g e')⟩), ?_, hl, fun g hg => ?_, fun g hg => ?_⟩
      · exact (hr2.1.rebase (fun g hg => by have := hr5 g hg; omega)).chg hset (fun g hg e => by have := hr5 g hg; have e' : g = p := e; omega)
      · show (if _ then _ else _) = _
        rw [if_pos hg]
      · obtain ⟨q1, q2, q3, _⟩ := nxv g hg
        show (if _ then _ else _) = _
        rw [if_neg q1, if_neg q2, if_neg q3, if_pos hg]
  · intro g hg
    cases hg
    rcases hg3n with h | h
    · exact .inl (hSB g3 h.symm)
    · exact .inr (.inr ⟨show w.heap.size ≤ g3 by omega, zw g3 (by omega)⟩)
  · intro g hg
    cases hg
    rcases hg4 with h | h
    · exact .inr (.inr ⟨show w.heap.size ≤ g4 by omega, zw g4 g4lt⟩)
    · exact .inl (hSW g4 h)
  · intro e he
    rcases List.mem_append.1 he with he | he
    · exact ⟨(hSe e he).1.mono (fun k hk => .inl hk), (hSe e he).2.mono (fun k hk => .inl hk)⟩
    · rcases List.mem_singleton.1 he with rfl
      refine ⟨fun g hg => .inr (.inl hg), fun g hg => .inr (.inr ⟨?_, zw g (xlt g hg)⟩)⟩
      have := (nxv g hg).2.2.2; omega
  · intro k hk
    rcases hk with hk | hk | hk
    · have := hSl k hk; exact zw k (by omega)
    · have := hvp k hk; exact zw k (by omega)
    · exact hk.2
end Go.Proofs.YtpjpmgpehpigaabDoor
