/- The laws' own helpers: Client, Twin, Same, wakes. -/
import Derived.Test.YtocfcgjjepegmaaDoorStz8
import Derived.Test.YtocfcgjjepegmaaDoorStz9
set_option linter.unusedVariables false
set_option linter.unusedSimpArgs false
namespace Go.Proofs.YtocfcgjjepegmaaDoor
open Go.RowKit
set_option maxRecDepth 100000 in
theorem client_c (k : Int) (w : World) : Calls Tryd.prog 19 #[.int .i64 k] w fun e w' => e = .returned (.bool (decide (1 ≤ k) && decide (k ≤ 19))) ∧ w = w' := by
  by_cases h1 : 1 ≤ k
  · by_cases h2 : k ≤ 19
    · rw [decide_eq_true h1, decide_eq_true h2]
      go_enter Tryd.func19, Tryd.ntmps19
      go_wp2_with fail
      go_ret
      exact ⟨rfl, rfl⟩
    · rw [decide_eq_true h1, decide_eq_false h2]
      go_enter Tryd.func19, Tryd.ntmps19
      go_wp2_with fail
      go_ret
      exact ⟨rfl, rfl⟩
  · rw [decide_eq_false h1]
    go_enter Tryd.func19, Tryd.ntmps19
    go_wp2_with fail
    go_ret
    exact ⟨rfl, rfl⟩
def twinS (s : Stz) : Stz := { s with a := s.a.take 1100, b := s.b.take 1100, t := s.t.take 1100, l := cutT 70 1100 s.l }
theorem twinS_twinS (s : Stz) : twinS (twinS s) = twinS s := by
  have e : cutT 70 1100 (cutT 70 1100 s.l) = cutT 70 1100 s.l := by
    unfold cutT
    rw [← List.map_take, List.take_take, List.map_map]
    congr 1
    funext x
    simp [List.take_take]
  unfold twinS
  simp only [e, List.take_take, Nat.min_self]
theorem twinS_ok (s : Stz) (h1 : s.id < 18446744073709551616) (h2 : -9223372036854775808 ≤ s.n ∧ s.n ≤ 9223372036854775807) (h3 : s.f < 18446744073709551616) : StzOk (twinS s) := by
  refine ⟨?_, ?_, ?_, ?_, ?_, h1, h2, h3⟩
  · simp [twinS]; omega
  · simp [twinS]; omega
  · simp [twinS]; omega
  · intro x hx
    have := cutT_mem 70 1100 s.l x hx
    omega
  · have := cutT_len 70 1100 s.l
    simp only [twinS]; omega
/-- Bounds of what is handed in. -/
structure StzIn (s : Stz) : Prop where
  a : s.a.length ≤ 9223372036854775807
  b : s.b.length ≤ 9223372036854775807
  t : s.t.length ≤ 9223372036854775807
  l : ∀ x ∈ s.l, x.length ≤ 9223372036854775807
def GivesZ (w : World) (s : Stz) (e : Ending) (w' : World) : Prop := ∃ vl, e = .returned (stzV s vl) ∧ OwnT w' w.heap.size vl s.l ∧ Below w.heap.size w w'
set_option maxRecDepth 100000 in
set_option maxHeartbeats 1600000 in
theorem twin4_c (w : World) (s : Stz) (vl : Value) (hl : RdT w vl s.l) (hs : StzIn s) :
    Calls Tryd.prog 15 #[stzV s vl] w (GivesZ w (twinS s)) := by
  obtain ⟨ha, hb, ht, hll⟩ := hs
  have Ta := fun wr => (text_c s.a 1100 wr ha (by omega)).mono (fun e w' h => (⟨h.1, by rw [← h.2]; exact Below.refl _ _⟩ : e = .returned (.string (strB (s.a.take 1100))) ∧ Below wr.heap.size wr w'))
  have Tb := fun wr => (text_c s.b 1100 wr hb (by omega)).mono (fun e w' h => (⟨h.1, by rw [← h.2]; exact Below.refl _ _⟩ : e = .returned (.string (strB (s.b.take 1100))) ∧ Below wr.heap.size wr w'))
  have Tt := fun wr => (text_c s.t 1100 wr ht (by omega)).mono (fun e w' h => (⟨h.1, by rw [← h.2]; exact Below.refl _ _⟩ : e = .returned (.string (strB (s.t.take 1100))) ∧ Below wr.heap.size wr w'))
  have TL := fun w1 (hb : Below w.heap.size w w1) => texts_c w1 vl s.l 70 1100 (hl.below hb) hll (by omega) (by omega)
  obtain ⟨A, c, rfl, h1, h2, h3⟩ := hl.open
  clear h3
  unfold GivesTs at TL
  obtain ⟨kind, idn, a, b, t, l, n, f⟩ := s
  unfold twinS
  unfold stzV
  simp only at *
  generalize hsa : strB (a.take 1100) = sa' at *
  replace hsa := Go.Lib.hid hsa
  generalize hsb : strB (b.take 1100) = sb' at *
  replace hsb := Go.Lib.hid hsb
  generalize hst : strB (t.take 1100) = st' at *
  replace hst := Go.Lib.hid hst
  generalize strB a = sa at *
  generalize strB b = sb at *
  generalize strB t = st at *
  generalize l.length = ln at *
  go_enter Tryd.func15, Tryd.ntmps15
  have tok0 : True := trivial
  go_wp2_with (first
    | (have _t := tok0; (with_reducible refine G_box ?_; refine L_box (by with_unfolding_all (conv => lhs; whnf)) ?_); intro wx hkx hbx hsx; have ex := Go.Lib.hid hsx; clear hsx; clear tok0; have tok1 : True := trivial))
  have b1 := (Below.refl wx.heap.size wx).alloc (Nat.le_refl _) (.cells #[.int .i64 0, .int .u64 0, .string ⟨#[]⟩, .string ⟨#[]⟩, .string ⟨#[]⟩, .slice none 0 0, .int .i64 0, .float .f64 0] 26)
  have k1 : Blk (wx.alloc (.cells #[.int .i64 0, .int .u64 0, .string ⟨#[]⟩, .string ⟨#[]⟩, .string ⟨#[]⟩, .slice none 0 0, .int .i64 0, .float .f64 0] 26)) wx.heap.size 26 (stzCells zS (.slice none 0 0)) := Blk.new wx 26 (stzCells zS (.slice none 0 0))
  have hk1 := hkx.below b1
  have hb1 := below_below hbx b1
  generalize wx.alloc (.cells #[.int .i64 0, .int .u64 0, .string ⟨#[]⟩, .string ⟨#[]⟩, .string ⟨#[]⟩, .slice none 0 0, .int .i64 0, .float .f64 0] 26) = w1 at *
  clear b1 hkx hbx
  have hgx : w.heap.size < wx.heap.size := by have := ex.out; omega
  generalize hG : wx.heap.size = G at *
  clear hG ex
  have hk1' : Blk w1.drew w.heap.size 26 [.int .i64 kind, .int .u64 (idn : Int), .string sa, .string sb, .string st, .slice A ln c, .int .i64 n, .float .f64 f] := hk1
  refine O.region_making2 15 (fun | 10 => [100] | 12 => [10] | 14 => [12] | _ => []) (fun | 10 => some fun _ => oneB w.heap.size 26 [.int .i64 kind, .int .u64 (idn : Int), .string sa', .string sb, .string st, .slice A ln c, .int .i64 n, .float .f64 f] | 12 => some fun _ => oneB w.heap.size 26 [.int .i64 kind, .int .u64 (idn : Int), .string sa', .string sb', .string st, .slice A ln c, .int .i64 n, .float .f64 f] | 14 => some fun _ => oneB w.heap.size 26 [.int .i64 kind, .int .u64 (idn : Int), .string sa', .string sb', .string st', .slice A ln c, .int .i64 n, .float .f64 f] | _ => none) [1, 4, 7, 10] 100 (fun k => k = w.heap.size) (oneB w.heap.size 26 [.int .i64 kind, .int .u64 (idn : Int), .string sa, .string sb, .string st, .slice A ln c, .int .i64 n, .float .f64 f] undef) (by kernel_rfl) (by kernel_rfl) ?_ ?_ ?_ ?_ ?_
  · intro i' S' h' e v'
    match i', h' with
    | 10, h' => cases h'; exact oneB_loc _ _ _ _ _ _
    | 12, h' => cases h'; exact oneB_loc _ _ _ _ _ _
    | 14, h' => cases h'; exact oneB_loc _ _ _ _ _ _
  · exact oneB_loc _ _ _ _ _ _
  · exact ⟨hk1', rfl⟩
  · rintro k rfl
    exact hk1.lt
  simp only [List.take_succ_cons, List.take_zero, List.drop_succ_cons, List.drop_zero]
  (apply O.wpG_pure; (focus rfl); (focus (intro wg Bg hbg hBg hFg; go_simp; (try go_bits); (first | done | exact ⟨rfl, Below.refl _ _⟩ | rfl))); simp only [Act.put, List.setIfInBounds_toArray, List.set_cons_succ, List.set_cons_zero])
  (apply O.wpG_pure; (focus rfl); (focus (intro wg Bg hbg hBg hFg; have hS1 : oneB _ _ _ undef (Bg 100) wg := hFg 100 (by decide +kernel); have cx : _ = some _ := hS1.1.cell 2; go_simp; (try go_bits); (first | done | exact ⟨rfl, Below.refl _ _⟩ | rfl))); simp only [Act.put, List.setIfInBounds_toArray, List.set_cons_succ, List.set_cons_zero])
  (apply O.wpG_pure; (focus rfl); (focus (intro wg Bg hbg hBg hFg; go_simp; (try refine ⟨by kernel_rfl, ?_⟩); go_at_call 30; exact Calls.mono (Ta _) (fun e w' h => (by obtain ⟨rfl, hb⟩ := h; exact ⟨rfl, hb⟩)))); simp only [Act.put, List.setIfInBounds_toArray, List.set_cons_succ, List.set_cons_zero])
  (apply O.wpG_pure; (focus rfl); (focus (intro wg Bg hbg hBg hFg; go_simp; (try go_bits); (first | done | exact ⟨rfl, Below.refl _ _⟩ | rfl))); simp only [Act.put, List.setIfInBounds_toArray, List.set_cons_succ, List.set_cons_zero])
  (apply O.wpG_pure; (focus rfl); (focus (intro wg Bg hbg hBg hFg; have hS1 : oneB _ _ _ undef (Bg 100) wg := hFg 100 (by decide +kernel); have cx : _ = some _ := hS1.1.cell 3; go_simp; (try go_bits); (first | done | exact ⟨rfl, Below.refl _ _⟩ | rfl))); simp only [Act.put, List.setIfInBounds_toArray, List.set_cons_succ, List.set_cons_zero])
  (apply O.wpG_pure; (focus rfl); (focus (intro wg Bg hbg hBg hFg; go_simp; (try refine ⟨by kernel_rfl, ?_⟩); go_at_call 30; exact Calls.mono (Tb _) (fun e w' h => (by obtain ⟨rfl, hb⟩ := h; exact ⟨rfl, hb⟩)))); simp only [Act.put, List.setIfInBounds_toArray, List.set_cons_succ, List.set_cons_zero])
  (apply O.wpG_pure; (focus rfl); (focus (intro wg Bg hbg hBg hFg; go_simp; (try go_bits); (first | done | exact ⟨rfl, Below.refl _ _⟩ | rfl))); simp only [Act.put, List.setIfInBounds_toArray, List.set_cons_succ, List.set_cons_zero])
  (apply O.wpG_pure; (focus rfl); (focus (intro wg Bg hbg hBg hFg; have hS1 : oneB _ _ _ undef (Bg 100) wg := hFg 100 (by decide +kernel); have cx : _ = some _ := hS1.1.cell 4; go_simp; (try go_bits); (first | done | exact ⟨rfl, Below.refl _ _⟩ | rfl))); simp only [Act.put, List.setIfInBounds_toArray, List.set_cons_succ, List.set_cons_zero])
  (apply O.wpG_pure; (focus rfl); (focus (intro wg Bg hbg hBg hFg; go_simp; (try refine ⟨by kernel_rfl, ?_⟩); go_at_call 30; exact Calls.mono (Tt _) (fun e w' h => (by obtain ⟨rfl, hb⟩ := h; exact ⟨rfl, hb⟩)))); simp only [Act.put, List.setIfInBounds_toArray, List.set_cons_succ, List.set_cons_zero])
  (apply O.wpG_pure; (focus rfl); (focus (intro wg Bg hbg hBg hFg; go_simp; (try go_bits); (first | done | exact ⟨rfl, Below.refl _ _⟩ | rfl))); simp only [Act.put, List.setIfInBounds_toArray, List.set_cons_succ, List.set_cons_zero])
  (apply O.wpG_make; (focus rfl); (focus (intro wg Bg hbg hBg hFg; have hS1 : oneB _ _ _ undef (Bg 100) wg := hFg 100 (by decide +kernel); have x1 : _ = some _ := hS1.1.cell 2; have x2 := hS1.1.frozen 2; exact goesTo_oneB hS1 (by go_simp) rfl (by with_unfolding_all (conv => lhs; whnf)) rfl (by simp [go_sem, x1, x2]) rfl (fun k hk => ⟨100, by simp, hk⟩))); intro va; simp only [Act.put, List.setIfInBounds_toArray, List.set_cons_succ, List.set_cons_zero])
  (apply O.wpG_pure; (focus rfl); (focus (intro wg Bg hbg hBg hFg; go_simp; (try go_bits); (first | done | exact ⟨rfl, Below.refl _ _⟩ | rfl))); simp only [Act.put, List.setIfInBounds_toArray, List.set_cons_succ, List.set_cons_zero])
  (apply O.wpG_make; (focus rfl); (focus (intro wg Bg hbg hBg hFg; have hS1 : oneB _ _ _ va (Bg 10) wg := hFg 10 (by decide +kernel); have x1 : _ = some _ := hS1.1.cell 3; have x2 := hS1.1.frozen 3; exact goesTo_oneB hS1 (by go_simp) rfl (by with_unfolding_all (conv => lhs; whnf)) rfl (by simp [go_sem, x1, x2]) rfl (fun k hk => ⟨10, by simp, hk⟩))); intro vb; simp only [Act.put, List.setIfInBounds_toArray, List.set_cons_succ, List.set_cons_zero])
  (apply O.wpG_pure; (focus rfl); (focus (intro wg Bg hbg hBg hFg; go_simp; (try go_bits); (first | done | exact ⟨rfl, Below.refl _ _⟩ | rfl))); simp only [Act.put, List.setIfInBounds_toArray, List.set_cons_succ, List.set_cons_zero])
  (apply O.wpG_make; (focus rfl); (focus (intro wg Bg hbg hBg hFg; have hS1 : oneB _ _ _ vb (Bg 12) wg := hFg 12 (by decide +kernel); have x1 : _ = some _ := hS1.1.cell 4; have x2 := hS1.1.frozen 4; exact goesTo_oneB hS1 (by go_simp) rfl (by with_unfolding_all (conv => lhs; whnf)) rfl (by simp [go_sem, x1, x2]) rfl (fun k hk => ⟨12, by simp, hk⟩))); intro vc; simp only [Act.put, List.setIfInBounds_toArray, List.set_cons_succ, List.set_cons_zero])
  refine O.wpG_end (fun wg Bg hbg hBg hFg => ?_)
  have hR : oneB w.heap.size 26 [.int .i64 kind, .int .u64 (idn : Int), .string sa', .string sb', .string st', .slice A ln c, .int .i64 n, .float .f64 f] vc (Bg 14) wg := hFg 14
  have hcn : Chg (fun k => k = w.heap.size) w1 wg := ⟨hbg.os, hbg.tape, hbg.output, hbg.size, hbg.block⟩
  replace hk1 := hR.1
  have hkG := k1.chg hcn (fun e => by omega)
  have hbG : Below w.heap.size w wg := hb1.trans (hcn.below hb1.size (fun k hk => by cases hk; exact Nat.le_refl _))
  clear hFg hBg hR hbg hcn hb1 k1 hk1'
  have c5 : _ = some _ := hk1.cell 5
  have tb0 : True := trivial
  go_upto_region 3 with (first
    | (have _t := tb0; go_at_call 55; refine (TL _ hbG).mono ?_; rintro e w2 ⟨u, rfl, ho, hb2⟩; have hk2 := hk1.below hb2; have f5 := hk2.frozen 5; have d5 : _ = some _ := hk2.cell 5; obtain ⟨Au, cu, eu, eur⟩ := ho.rd.open; clear eur; generalize (cutT 70 1100 l).length = nu at *; subst eu; clear tb0; have tb1 : True := trivial))
  have hk3 : Blk (w2.setCell ⟨w.heap.size, 5, none⟩ (.slice Au nu cu)) w.heap.size 26 [.int .i64 kind, .int .u64 (idn : Int), .string sa', .string sb', .string st', .slice Au nu cu, .int .i64 n, .float .f64 f] := hk2.stored 5 (.slice Au nu cu)
  have hkG2 := (hkG.below hb2).other (a := ⟨w.heap.size, 5, none⟩) (show G ≠ w.heap.size by omega) (.slice Au nu cu)
  have hb3 := below_set (below_below hbG hb2) w.heap.size 5 (.slice Au nu cu) (Nat.le_refl _) (below_below hbG hb2).size
  have hz2 := hbG.size
  have hGl := hkG.lt
  have ho3 : OwnT (w2.setCell ⟨w.heap.size, 5, none⟩ (.slice Au nu cu)) (G + 1) (.slice Au nu cu) (cutT 70 1100 l) := (ho.mono (by omega)).set (by omega)
  clear hk2 hkG f5 d5 c5 hk1 ho hbG hb2 TL Ta Tb Tt
  generalize w2.setCell ⟨w.heap.size, 5, none⟩ (.slice Au nu cu) = w3 at *
  have h1c : ∀ v ∈ ([.int .i64 kind, .int .u64 (idn : Int), .string sa', .string sb', .string st', .slice Au nu cu, .int .i64 n, .float .f64 f] : List Value).toArray.toList, v.oneCell' = true := by
    intro v hv
    simp at hv
    rcases hv with rfl | rfl | rfl | rfl | rfl | rfl | rfl | rfl <;> rfl
  have tc0 : True := trivial
  go_wp2_with (first
    | (have _t := tc0; (with_reducible refine G_load ?_; refine L_load_agg agS (by with_unfolding_all (conv => lhs; whnf)) hk3 rfl ?_); clear tc0; have tc1 : True := trivial)
    | (have _t := tc1; (with_reducible refine G_store ?_; refine L_store_agg agS (by with_unfolding_all (conv => lhs; whnf)) (by with_unfolding_all (conv => lhs; whnf)) hkG2 rfl rfl h1c ?_); intro wz hkz hgz hsz; clear tc1; have tc2 : True := trivial))
  have hcz : Chg (fun k => k = G) w3 wz := Chg.grown hgz (fun k hk => by cases hk; rfl)
  exact ret_agg (cs := [.int .i64 kind, .int .u64 (idn : Int), .string sa', .string sb', .string st', .slice Au nu cu, .int .i64 n, .float .f64 f]) rfl agS rfl rfl (by simpa using hkz) rfl ⟨.slice Au nu cu, by unfold stzV; simp only; rw [hsa.out, hsb.out, hst.out], (ho3.chg hcz (fun g hg e => by have := ho3.base_le g hg; have e' : g = G := e; omega)).mono (by omega), hb3.trans (hcz.below hb3.size (fun k hk => by cases hk; omega))⟩
set_option maxRecDepth 100000 in
set_option maxHeartbeats 3200000 in
theorem same4_c (w : World) (s1 s2 : Stz) (v1 v2 : Value) (h1 : RdT w v1 s1.l) (h2 : RdT w v2 s2.l) (hs : s1 = { s2 with f := s1.f }) (hf : bitsI s1.f = bitsI s2.f) :
    Calls Tryd.prog 25 #[stzV s1 v1, stzV s2 v2] w (Ok w) := by
  have KS := fun w1 (hb : Below w.heap.size w w1) => ksame_c w1 v1 v2 s1.l s2.l (h1.below hb) (h2.below hb)
  have RS := fun w1 => refsame_c s1.f s2.f w1
  rw [hf] at RS
  rw [decide_eq_true rfl] at RS
  have el : s1.l = s2.l := by rw [hs]
  rw [el] at KS
  rw [decide_eq_true rfl] at KS
  obtain ⟨A1, c1, rfl, r1⟩ := h1.open
  obtain ⟨A2, c2, rfl, r2⟩ := h2.open
  clear r1 r2
  have en : s1.l.length = s2.l.length := by rw [el]
  clear h1 h2 el hf
  obtain ⟨kind, idn, a, b, t, l, n, f⟩ := s1
  obtain ⟨kind2, idn2, a2, b2, t2, l2, n2, f2⟩ := s2
  simp only [Stz.mk.injEq] at hs
  obtain ⟨rfl, rfl, rfl, rfl, rfl, rfl, rfl, _⟩ := hs
  unfold stzV
  simp only at *
  generalize strB a = sa at *
  generalize strB b = sb at *
  generalize strB t = st at *
  generalize l.length = ln at *
  go_enter Tryd.func25, Tryd.ntmps25
  have tok0 : True := trivial
  go_wp2_with (first
    | (have _t := tok0; (with_reducible refine G_box ?_; refine L_box (by with_unfolding_all (conv => lhs; whnf)) ?_); intro wx hkx hbx hsx; have ex := Go.Lib.hid hsx; clear hsx; clear tok0; have tok1 : True := trivial)
    | (have _t := tok1; (with_reducible refine G_box ?_; refine L_box (by with_unfolding_all (conv => lhs; whnf)) ?_); intro wy hky hby hsy; have ey := Go.Lib.hid hsy; clear hsy; have hkx2 := hkx.below hby; have hbw := below_below hbx hby; clear hkx; have x0 : _ = some _ := hkx2.cell 0; have x1 : _ = some _ := hkx2.cell 1; have x2 : _ = some _ := hkx2.cell 2; have x3 : _ = some _ := hkx2.cell 3; have x4 : _ = some _ := hkx2.cell 4; have x5 : _ = some _ := hkx2.cell 5; have y0 : _ = some _ := hky.cell 0; have y1 : _ = some _ := hky.cell 1; have y2 : _ = some _ := hky.cell 2; have y3 : _ = some _ := hky.cell 3; have y4 : _ = some _ := hky.cell 4; have y5 : _ = some _ := hky.cell 5; clear tok1; have tok2 : True := trivial)
    | (have _t := tok2; go_at_call 83; refine (KS _ hbw).mono ?_; rintro e w3 ⟨rfl, hb3⟩; have hkx3 := hkx2.below hb3; have hky3 := hky.below hb3; replace hbw := below_below hbw hb3; have x6 : _ = some _ := hkx3.cell 6; have x7 : _ = some _ := hkx3.cell 7; have y6 : _ = some _ := hky3.cell 6; have y7 : _ = some _ := hky3.cell 7; clear tok2; have tok3 : True := trivial)
    | (have _t := tok3; go_at_call 84; refine (RS _).mono ?_; rintro e w4 ⟨rfl, rfl⟩; clear tok3; have tok4 : True := trivial))
  go_ret
  exact ⟨rfl, hbw⟩
end Go.Proofs.YtocfcgjjepegmaaDoor
