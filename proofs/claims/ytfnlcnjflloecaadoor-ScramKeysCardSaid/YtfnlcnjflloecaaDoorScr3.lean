/- roostref07.Keys. -/
import Derived.Test.YtfnlcnjflloecaaDoorHi
import Derived.Test.YtfnlcnjflloecaaDoorRec
import Derived.Test.YtfnlcnjflloecaaDoorGrowP
/-! ### Scr1 -/
set_option linter.unusedVariables false
set_option linter.unusedSimpArgs false
set_option linter.unnecessarySimpa false
namespace Go.Proofs.YtfnlcnjflloecaaDoor
open Go.RowKit
def ckS : List UInt8 := [67, 108, 105, 101, 110, 116, 32, 75, 101, 121]
def svS : List UInt8 := [83, 101, 114, 118, 101, 114, 32, 75, 101, 121]
theorem hiR_bad {p s : List UInt8} {n : Int} (h : (hiR p s n).2 ≠ 0) : (hiR p s n).1 = zB := by
  unfold hiR at h ⊢
  split
  · rfl
  · rename_i hc
    rw [if_neg hc] at h
    exact absurd rfl h
theorem hiR_l (p s : List UInt8) (n : Int) : (hiR p s n).1.length = 32 := by
  unfold hiR
  split
  · simp
  · exact hiS_len _ _ _
def ckC (p s : List UInt8) (n : Int) : List UInt8 := if (hiR p s n).2 ≠ 0 then zB else hmacI (hiR p s n).1 ckS
theorem ckC_len (p s : List UInt8) (n : Int) : (ckC p s n).length = 32 := by
  unfold ckC
  split
  · rfl
  · exact hmacI_len _ _
set_option maxRecDepth 100000 in
set_option maxHeartbeats 3200000 in
theorem clientkey_c (u : Value) (p s : List UInt8) (n : Int) (w : World) (hs : Rd w u s) (hp : p.length ≤ 100000) (hsl : s.length ≤ 100000) :
    Calls Tryd.prog 74 #[.string (strB p), u, .int .i64 n] w fun e w' =>
      e = .returned (.tuple #[.agg (bvs (ckC p s n)).toArray, .agg (bvs (hiR p s n).1).toArray, .int .i64 (hiR p s n).2]) ∧ Below w.heap.size w w' := by
  have HI := fun v1 w1 h1 h2 => hi_c v1 u p s n w1 h1 h2 (by omega) (by omega)
  have CB := fun w1 => conv_bytes w1 (strB p) (by rw [strB_size]; omega)
  have eP : (strB p).data.toList = p := rfl
  rw [eP] at CB
  clear eP
  have hC : ckC p s n = if (hiR p s n).2 ≠ 0 then zB else hmacI (hiR p s n).1 ckS := rfl
  have hHl := hiR_l p s n
  have hHb := hiR_bad (p := p) (s := s) (n := n)
  have hCl := ckC_len p s n
  unfold GivesHi at HI
  generalize hiR p s n = R at *
  generalize ckC p s n = C at *
  obtain ⟨H, E⟩ := R
  simp only at HI hC hHl hHb
  have nH := (bvs_length H).trans hHl
  have oH := bvs_one H
  have nC := (bvs_length C).trans hCl
  have oC := bvs_one C
  have nZ : (bvs zB).length = 32 := rfl
  have oZ := bvs_one zB
  have z32' : (Tryd.prog.info? 40).map (·.zero) = some (some (.agg (bvs zB).toArray)) := z32
  have hz : Tryd.prog.built 40 [] = some (bvs zB).toArray := by kernel_rfl
  replace hC := Go.Lib.hid hC
  replace hHb := Go.Lib.hid hHb
  replace hHl := Go.Lib.hid hHl
  generalize strB p = P at *
  generalize zB = Z at *
  go_enter Tryd.func74, Tryd.ntmps74
  have ta0 : True := trivial
  go_upto_region 2 with (first
    | (have _t := ta0; (with_reducible refine G_alloc ?_; refine L_alloc z32' ?_); intro w1 hk1 hb1 hs1; clear ta0; have ta1 : True := trivial)
    | (have _t := ta1; (with_reducible refine G_alloc ?_; refine L_alloc z32' ?_); intro w2 hk2 hb2 hs2; replace hk1 := hk1.below hb2; replace hb1 := below_below hb1 hb2; rw [hs1] at hk2; clear ta1; have ta2 : True := trivial)
    | (have _t := ta2; with_reducible refine G_conv ?_; refine L_convb (by with_unfolding_all (conv => lhs; whnf)) (CB _) ?_; rintro v3 w3 ⟨hr3, hv3, hb3⟩; replace hk1 := hk1.below hb3; replace hk2 := hk2.below hb3; replace hb1 := below_below hb1 hb3; have hs3 := hs.below hb1; clear ta2; have ta3 : True := trivial)
    | (have _t := ta3; go_at_call 112; refine (HI _ _ hr3 hs3).mono ?_; rintro e w4 ⟨rfl, hb4⟩; replace hk1 := hk1.below hb4; replace hk2 := hk2.below hb4; replace hb1 := below_below hb1 hb4; clear ta3; have ta4 : True := trivial)
    | (have _t := ta4; (with_reducible refine G_store ?_; refine L_store_agg ag32 (by with_unfolding_all (conv => lhs; whnf)) (by with_unfolding_all (conv => lhs; whnf)) hk2 nZ (by simpa using nH) (fun u hu => oH u (by simpa using hu)) ?_); intro w5 hk5 hg5 hs5; clear ta4; have ta5 : True := trivial))
  replace hk1 := hk1.grown hg5 (by simp)
  replace hk5 : Blk w5 (w.heap.size + 1) 40 (bvs H) := by simpa using hk5
  have hb5 : Below w.heap.size w w5 := hb1.grown hg5 hb1.size (by intro k hk; cases hk; omega)
  clear hb1 hg5 hs5 hs1 hs2 HI CB hr3 hv3 hb3 hb4 hb2 hs3
  by_cases hE : E = 0
  · subst hE
    have hC2 := Go.Lib.hid (hC.out.trans (if_neg (by simp)))
    have HM := fun v1 v2 w1 h1 h2 => hmac_c v1 v2 H ckS w1 h1 h2 (by have := hHl.out; omega) (by decide)
    rw [← hC2.out] at HM
    unfold GivesB at HM
    clear hC hHb
    have n32 : H.length ≤ 1000000 := by have := hHl.out; omega
    have q10 : (bvs ckS).toArray = #[.int .u8 67, .int .u8 108, .int .u8 105, .int .u8 101, .int .u8 110, .int .u8 116, .int .u8 32, .int .u8 75, .int .u8 101, .int .u8 121] := rfl
    replace q10 := Go.Lib.hid q10
    go_wp2_with fail
    refine O.region_making 6 (fun | 2 => [1] | 5 => [100] | _ => []) (fun | 1 => some fun _ => rd8 ckS | 2 => some fun _ => rd8 ckS | 5 => some fun _ => oneB w.heap.size 40 (bvs C) | _ => none) 5 100 (fun k => k = w.heap.size) (oneB w.heap.size 40 (bvs Z) undef) (by kernel_rfl) (by kernel_rfl) ?_ ?_ ?_ ?_ ?_
    · intro i' S' h' e v'
      match i', h' with
      | 1, h' => cases h'; exact rd8_locO _ _ _ _
      | 2, h' => cases h'; exact rd8_locO _ _ _ _
      | 5, h' => cases h'; exact oneB_loc _ _ _ _ _ _
    · exact oneB_loc _ _ _ _ _ _
    · exact ⟨hk1, rfl⟩
    · rintro k rfl
      exact hk1.lt
    simp only [List.take_succ_cons, List.take_zero, List.drop_succ_cons, List.drop_zero]
    (apply O.wpG_pure; (focus rfl); (focus (intro wg Bg hbg hBg hFg; go_simp; (try go_bits); (first | done | exact ⟨rfl, Below.refl _ _⟩ | rfl))); simp only [Act.put, List.setIfInBounds_toArray, List.set_cons_succ, List.set_cons_zero])
    (apply O.wpG_make; (focus rfl); (focus (intro wg Bg hbg hBg hFg; refine goesTo_row (l := ckS) (n := 10) (by go_simp) rfl (by go_simp; first | done | rfl | exact ⟨rfl, rfl⟩))); intro va; simp only [Act.put, List.setIfInBounds_toArray, List.set_cons_succ, List.set_cons_zero])
    (apply O.wpG_make; (focus rfl); (focus (intro wg Bg hbg hBg hFg; have hN : rd8 ckS va (Bg 1) wg := hFg 1 (by decide +kernel); exact goesTo_mark hN (by go_simp) rfl Tryd.underlying37 Tryd.underlying5 (by with_unfolding_all (conv => lhs; whnf)) (fun k hk => ⟨1, by simp, hk⟩))); intro vb; simp only [Act.put, List.setIfInBounds_toArray, List.set_cons_succ, List.set_cons_zero])
    (apply O.wpG_pure; (focus rfl); (focus (intro wg Bg hbg hBg hFg; go_simp; (try refine ⟨by kernel_rfl, ?_⟩); go_at_call 76; exact Calls.mono (HM _ _ wg ((hk5.drew.chg hbg (by simp)).rd n32 hHl.out.symm hHl.out.symm) (rd8_rd (show rd8 ckS vb (Bg 2) wg from hFg 2 (by decide +kernel)) (by decide))) (fun e w' h => (by obtain ⟨rfl, hb⟩ := h; exact ⟨rfl, hb⟩)))); simp only [Act.put, List.setIfInBounds_toArray, List.set_cons_succ, List.set_cons_zero])
    (apply O.wpG_pure; (focus rfl); (focus (intro wg Bg hbg hBg hFg; exact pureTo_load_agg ag32 (by with_unfolding_all (conv => lhs; whnf)) (hk5.drew.chg hbg (by simp)) nH)); simp only [Act.put, List.setIfInBounds_toArray, List.set_cons_succ, List.set_cons_zero])
    apply O.wpG_make; (focus rfl); (focus (intro wg Bg hbg hBg hFg; have hS : oneB w.heap.size 40 (bvs Z) undef (Bg 100) wg := hFg 100 (by decide +kernel); exact goesTo_aggB (cs' := (bvs C).toArray) ag32 hS (by go_simp) rfl (by with_unfolding_all (conv => lhs; whnf)) (by with_unfolding_all (conv => lhs; whnf)) nZ (by simpa using nC) (fun u hu => oC u (by simpa using hu)) (fun k hk => ⟨100, by simp, hk⟩))); intro vc; simp only [Act.put, List.setIfInBounds_toArray, List.set_cons_succ, List.set_cons_zero]
    refine O.wpG_end (fun wg Bg hbg hBg hFg => ?_)
    have hR : oneB w.heap.size 40 (bvs C) vc (Bg 5) wg := hFg 5
    have hk6 := hR.1
    have hk7 := hk5.drew.chg hbg (by simp)
    have hb6 : Below w.heap.size w wg := hb5.drew.trans (hbg.below hb5.size (fun k hk => by cases hk; exact Nat.le_refl _))
    have tc0 : True := trivial
    go_wp2_with (first
      | (have _t := tc0; (with_reducible refine G_store ?_; refine L_store_agg ag32 (by with_unfolding_all (conv => lhs; whnf)) (by with_unfolding_all (conv => lhs; whnf)) hk7 nH (by simpa using nH) (fun u hu => oH u (by simpa using hu)) ?_); intro w8 hk8 hg8 hs8; clear tc0; have tc1 : True := trivial))
    exact ret_2agg (c1 := bvs C) (c2 := bvs H) rfl ag32 rfl rfl rfl (hk6.grown hg8 (by simp)) (by simpa using hk8) nC nH rfl ⟨rfl, hb6.grown hg8 hb6.size (by intro k hk; cases hk; omega)⟩
  · have q1 : (E != 0) = true := bne_iff_ne.2 hE
    have hC2 := Go.Lib.hid (hC.out.trans (if_pos hE))
    have hH2 := Go.Lib.hid (hHb.out hE)
    clear hC hHb
    have tb0 : True := trivial
    go_wp2_with (first
      | (have _t := tb0; (with_reducible refine G_load ?_; refine L_load_agg ag32 (by with_unfolding_all (conv => lhs; whnf)) hk1 nZ ?_); clear tb0; have tb1 : True := trivial)
      | (have _t := tb1; (with_reducible refine G_build ?_; refine L_build (bvs Z).toArray (by kernel_rfl) ?_); clear tb1; have tb2 : True := trivial)
      | (have _t := tb2; (with_reducible refine G_store ?_; refine L_store_agg ag32 (by with_unfolding_all (conv => lhs; whnf)) (by with_unfolding_all (conv => lhs; whnf)) hk1 nZ (by simpa using nZ) (fun u hu => oZ u (by simpa using hu)) ?_); intro w6 hk6 hg6 hs6; have hk56 := hk5.grown hg6 (by simp); have hb6 := hb5.grown hg6 hb5.size (by intro k hk; cases hk; exact Nat.le_refl _); clear tb2; have tb3 : True := trivial)
      | (have _t := tb3; (with_reducible refine G_store ?_; refine L_store_agg ag32 (by with_unfolding_all (conv => lhs; whnf)) (by with_unfolding_all (conv => lhs; whnf)) hk56 nH (by simpa using nZ) (fun u hu => oZ u (by simpa using hu)) ?_); intro w7 hk7 hg7 hs7; clear tb3; have tb4 : True := trivial))
    rw [hC2.out, hH2.out]
    exact ret_2agg (c1 := bvs Z) (c2 := bvs Z) rfl ag32 rfl rfl rfl (by have := hk6.grown hg7 (by simp); simpa using this) (by simpa using hk7) nZ nZ rfl ⟨rfl, hb6.grown hg7 hb6.size (by intro k hk; cases hk; omega)⟩
end Go.Proofs.YtfnlcnjflloecaaDoor
/-! ### GrowQ -/
set_option linter.unusedVariables false
set_option linter.unusedSimpArgs false
namespace Go.Proofs.YtfnlcnjflloecaaDoor
open Go.RowKit
namespace O
section
variable {P : Program} {ops : Array Oper} {M0 : Nat → Prop} {w0 : World} {dep dp cons : Nat → List Nat} {Q : Act → World → Prop}
theorem region_growF {id : Nat} {l : List Oper} {Q' : Exit → Act → World → Prop} {a : Act} {w : World} (n : Nat) (dep dp cons : Nat → List Nat) (sg : Nat → Option ((Tmp → Value) → GSpec)) (F0 : Nat → (Nat → Prop) → World → Prop) (B0 : Nat → Nat → Prop) (M0 : Nat → Prop) (hm : P.follows .mixedOrders = true)
    (hB : growB l.toArray dep dp cons n = true)
    (hst : ∀ i S, sg i = some S → ∀ e v, Loc M0 w.drew (S e v))
    (hSL : ∀ j, Loc M0 w.drew (F0 j)) (hS0 : ∀ j, F0 j (B0 j) w.drew) (hM0 : ∀ k, M0 k → k < w.heap.size) (hB0 : ∀ j k, B0 j k → M0 k) (hB1 : ∀ i j k, B0 i k → B0 j k → i = j)
    (h : wpG P l.toArray M0 w.drew dp cons (fun a' w' => wpList P l.toArray Q' (l.drop n) a' w') (gitems sg (l.take n) 0) F0 a) : (Code.region id l.toArray true).wp P Q' a w := by
  have G := growB_spec hB
  have hle : n ≤ l.length := by simpa using G.le
  have htl : (l.take n).length = n := by simp; omega
  have hlen : (gitems sg (l.take n) 0).length = n := by simp [gitems]; omega
  have hids : (gitems sg (l.take n) 0).map (·.i) = List.range n := by
    simp only [gitems, List.map_map]
    have : ((fun x : GItem => x.i) ∘ fun p : Oper × Nat => (⟨p.2, p.1, sg p.2⟩ : GItem)) = Prod.snd := by funext p; rfl
    rw [this]
    simp [List.range_eq_range', htl]
  have inv0 : HeadInv .any l.toArray n (Array.replicate l.toArray.size false) :=
    ⟨by simp, fun j oj _ hl => (by rw [getD_replicate_false] at hl; cases hl), fun t _ ht => getD_in (by simpa using ht) (getD_replicate_false _ _)⟩
  refine wp_region_any hm ?_
  have H := wpAny_grow (g := l.toArray.size - n) G (Q' := Q') (Q := fun a' w' => wpList P l.toArray Q' (l.drop n) a' w') (P := P) (M0 := M0) (w0 := w.drew) (dp := dp) ?_ n (gitems sg (l.take n) 0) F0 B0 (Array.replicate l.toArray.size false) a w.drew hlen
    (by rw [hids]; exact List.pairwise_lt_range) ?_ ?_ inv0 ?_ ?_ ?_ ?_ (Chg.refl _ _) h
  · rw [show n + (l.toArray.size - n) = l.toArray.size by have := G.le; omega] at H
    exact H
  · intro listed a w inv hall hq
    have hdl : (l.drop n).length = l.toArray.size - n := by simp
    have e : listed = (Array.replicate n true) ++ (Array.replicate (l.toArray.size - n) false) := by
      apply Array.ext
      · rw [inv.size]; simp; omega
      · intro j h1 h2
        rw [Array.getElem_append]
        split
        · rename_i hj
          have := hall j (by simpa using hj)
          simpa [h1] using this
        · rename_i hj
          have hj' : n ≤ j := by simpa using hj
          have := inv.tail j hj' (by rw [← inv.size]; exact h1)
          simpa [h1] using this
    rcases Nat.lt_or_ge n l.toArray.size with hlt | hge
    · have hseq := (G.tail hlt).2.2
      rw [← e, ← hdl] at hseq
      rw [← hdl]
      exact wpAny_of_seq (md := .any) (Q' := Q') (l.drop n) n listed a w (fun j => by simp [List.getElem?_drop]) hseq hq
    · have h0 : l.toArray.size - n = 0 := by omega
      have hd : l.drop n = [] := List.drop_eq_nil_of_le (by simpa using hge)
      rw [h0]
      refine ⟨?_, by rw [hd] at hq; exact hq⟩
      cases hr : Region.ready .any l.toArray listed with
      | nil => rfl
      | cons i rest =>
        have hi : i ∈ Region.ready .any l.toArray listed := by rw [hr]; simp
        obtain ⟨hun, oi, hoi, _⟩ := mem_ready.1 hi
        have := (Array.getElem?_eq_some_iff.1 hoi).1
        have := hall i (by omega)
        rw [getD_both hun] at this; cases this
  · intro it hit
    simp only [gitems, List.mem_map] at hit
    obtain ⟨⟨o, k⟩, hk, rfl⟩ := hit
    have := List.mem_zipIdx_iff_getElem?.1 hk
    simp only at this
    have hkn : k < n := by have := (List.getElem?_eq_some_iff.1 this).1; simpa [htl] using this
    refine ⟨?_, hkn⟩
    rw [List.getElem?_take, if_pos hkn] at this
    simpa using this
  · intro it hit S hS
    simp only [gitems, List.mem_map] at hit
    obtain ⟨⟨o, k⟩, hk, rfl⟩ := hit
    exact hst k S hS
  · intro j hj
    rw [hids, getD_replicate_false]
    simp [hj]
  · exact hSL
  · exact hS0
  · exact ⟨fun j k h => .inr (hB0 j k h), fun j k h => hM0 k (hB0 j k h), hB1⟩
end
def dpEx (l : List Oper) (ex : Nat → List Nat) (i : Nat) : List Nat := ex i ++ depOf l i
/-- Two old blocks, told apart: vertices 100 and 101. -/
theorem region_making_ab {P : Program} {id : Nat} {l : List Oper} {Q' : Exit → Act → World → Prop} {a : Act} {w : World} (n : Nat) (cons : Nat → List Nat) (sg : Nat → Option ((Tmp → Value) → GSpec)) (ex : Nat → List Nat) (g1 g2 : Nat) (T1 T2 : TypeId) (c1 c2 : List Value) (hne : g1 ≠ g2)
    (hk1 : Blk w g1 T1 c1) (hk2 : Blk w g2 T2 c2) (hm : P.follows .mixedOrders = true)
    (hB : growB l.toArray (depOf l) (dpEx l ex) cons n = true) (hst : ∀ i S, sg i = some S → ∀ e v, Loc (fun k => k = g1 ∨ k = g2) w.drew (S e v))
    (h : wpG P l.toArray (fun k => k = g1 ∨ k = g2) w.drew (dpEx l ex) cons (fun a' w' => wpList P l.toArray Q' (l.drop n) a' w') (gitems sg (l.take n) 0) (fun j B w => if j = 100 then oneB g1 T1 c1 undef B w else if j = 101 then oneB g2 T2 c2 undef B w else True) a) : (Code.region id l.toArray true).wp P Q' a w := by
  refine region_growF n (depOf l) (dpEx l ex) cons sg _ (fun j k => (j = 100 ∧ k = g1) ∨ (j = 101 ∧ k = g2)) (fun k => k = g1 ∨ k = g2) hm hB hst ?_ ?_ ?_ ?_ ?_ h
  · intro j B w1 w2 h1 h2 h3
    by_cases e : j = 100
    · simp only [if_pos e] at h1 ⊢; exact oneB_loc _ _ _ _ _ _ B w1 w2 h1 h2 h3
    · by_cases e2 : j = 101
      · simp only [if_neg e, if_pos e2] at h1 ⊢; exact oneB_loc _ _ _ _ _ _ B w1 w2 h1 h2 h3
      · simp only [if_neg e, if_neg e2]
  · intro j
    by_cases e : j = 100
    · simp only [if_pos e]; exact ⟨hk1, .inl ⟨e, rfl⟩⟩
    · by_cases e2 : j = 101
      · simp only [if_neg e, if_pos e2]; exact ⟨hk2, .inr ⟨e2, rfl⟩⟩
      · simp only [if_neg e, if_neg e2]
  · rintro k (rfl | rfl)
    · exact hk1.lt
    · exact hk2.lt
  · rintro j k (⟨_, rfl⟩ | ⟨_, rfl⟩)
    · exact .inl rfl
    · exact .inr rfl
  · rintro i j k (⟨rfl, rfl⟩ | ⟨rfl, rfl⟩) (⟨rfl, h⟩ | ⟨rfl, h⟩)
    · rfl
    · exact absurd h hne
    · exact absurd h.symm hne
    · rfl
end O
end Go.Proofs.YtfnlcnjflloecaaDoor
/-! ### Scr2 -/
set_option linter.unusedVariables false
set_option linter.unusedSimpArgs false
set_option linter.unnecessarySimpa false
namespace Go.Proofs.YtfnlcnjflloecaaDoor
open Go.RowKit
def ksA (p s : List UInt8) (n : Int) : List UInt8 := if (hiR p s n).2 ≠ 0 then zB else shaI (ckC p s n)
def ksB (p s : List UInt8) (n : Int) : List UInt8 := if (hiR p s n).2 ≠ 0 then zB else hmacI (hiR p s n).1 svS
theorem ksA_len (p s : List UInt8) (n : Int) : (ksA p s n).length = 32 := by unfold ksA; split; rfl; exact shaI_len _
theorem ksB_len (p s : List UInt8) (n : Int) : (ksB p s n).length = 32 := by unfold ksB; split; rfl; exact hmacI_len _ _
set_option maxRecDepth 100000 in
set_option maxHeartbeats 3200000 in
theorem keys_c (u : Value) (p s : List UInt8) (n : Int) (w : World) (hs : Rd w u s) (hp : p.length ≤ 100000) (hsl : s.length ≤ 100000) :
    Calls Tryd.prog 30 #[.string (strB p), u, .int .i64 n] w fun e w' =>
      e = .returned (.tuple #[.agg (bvs (ksA p s n)).toArray, .agg (bvs (ksB p s n)).toArray, .int .i64 (hiR p s n).2]) ∧ Below w.heap.size w w' := by
  have CK := fun w1 (hb : Below w.heap.size w w1) => clientkey_c u p s n w1 (hs.below hb) hp hsl
  have hA : ksA p s n = if (hiR p s n).2 ≠ 0 then zB else shaI (ckC p s n) := rfl
  have hB : ksB p s n = if (hiR p s n).2 ≠ 0 then zB else hmacI (hiR p s n).1 svS := rfl
  have hHl := hiR_l p s n
  have hCl := ckC_len p s n
  have hAl := ksA_len p s n
  have hBl := ksB_len p s n
  generalize ksA p s n = A at *
  generalize ksB p s n = B at *
  generalize hiR p s n = R at *
  generalize ckC p s n = C at *
  obtain ⟨H, E⟩ := R
  simp only at CK hA hB hHl
  have nH := (bvs_length H).trans hHl
  have oH := bvs_one H
  have nC := (bvs_length C).trans hCl
  have oC := bvs_one C
  have nA := (bvs_length A).trans hAl
  have oA := bvs_one A
  have nB := (bvs_length B).trans hBl
  have oB := bvs_one B
  have nZ : (bvs zB).length = 32 := rfl
  have oZ := bvs_one zB
  have z32' : (Tryd.prog.info? 40).map (·.zero) = some (some (.agg (bvs zB).toArray)) := z32
  have SH := fun v1 w1 h1 => sha_c v1 C w1 h1 (by omega)
  have HM := fun v1 v2 w1 h1 h2 => hmac_c v1 v2 H svS w1 h1 h2 (by omega) (by decide)
  unfold GivesB at SH HM
  have n32H : H.length ≤ 1000000 := by omega
  have n32C : C.length ≤ 1000000 := by omega
  replace hA := Go.Lib.hid hA
  replace hB := Go.Lib.hid hB
  replace hHl := Go.Lib.hid hHl
  replace hCl := Go.Lib.hid hCl
  clear hAl hBl
  generalize strB p = P at *
  generalize zB = Z at *
  go_enter Tryd.func30, Tryd.ntmps30
  have ta0 : True := trivial
  go_upto_region 2 with (first
    | (have _t := ta0; (with_reducible refine G_alloc ?_; refine L_alloc z32' ?_); intro w1 hk1 hb1 hs1; clear ta0; have ta1 : True := trivial)
    | (have _t := ta1; (with_reducible refine G_alloc ?_; refine L_alloc z32' ?_); intro w2 hk2 hb2 hs2; replace hk1 := hk1.below hb2; replace hb1 := below_below hb1 hb2; rw [hs1] at hk2; clear ta1; have ta2 : True := trivial)
    | (have _t := ta2; go_at_call 74; refine (CK _ hb1).mono ?_; rintro e w4 ⟨rfl, hb4⟩; replace hk1 := hk1.below hb4; replace hk2 := hk2.below hb4; replace hb1 := below_below hb1 hb4; clear ta2; have ta3 : True := trivial)
    | (have _t := ta3; (with_reducible refine G_alloc ?_; refine L_alloc z32' ?_); intro w5 hk5 hb5 hs5; clear ta3; have ta4 : True := trivial)
    | (have _t := ta4; (with_reducible refine G_alloc ?_; refine L_alloc z32' ?_); intro w6 hk6 hb6 hs6; replace hk5 := hk5.below hb6; replace hk1 := (hk1.below hb5).below hb6; replace hk2 := (hk2.below hb5).below hb6; replace hb1 := below_below (below_below hb1 hb5) hb6; clear ta4; have ta5 : True := trivial)
    | (have _t := ta5; (with_reducible refine G_store ?_; refine L_store_agg ag32 (by with_unfolding_all (conv => lhs; whnf)) (by with_unfolding_all (conv => lhs; whnf)) hk5 nZ (by simpa using nC) (fun u hu => oC u (by simpa using hu)) ?_); intro w7 hk7 hg7 hs7; have hk67 := hk6.grown hg7 (by simp [hs5]); clear ta5; have ta6 : True := trivial)
    | (have _t := ta6; (with_reducible refine G_store ?_; refine L_store_agg ag32 (by with_unfolding_all (conv => lhs; whnf)) (by with_unfolding_all (conv => lhs; whnf)) hk67 nZ (by simpa using nH) (fun u hu => oH u (by simpa using hu)) ?_); intro w8 hk8 hg8 hs8; clear ta6; have ta7 : True := trivial))
  have l2 : w.heap.size + 1 < w4.heap.size := by have h1 := hk2.lt; rw [hs6, hs5] at h1; have := hb4.size; omega
  rw [hs5] at hk8 hg8
  replace hk1 := (hk1.grown hg7 (by simp; omega)).grown hg8 (by simp; omega)
  replace hk2 := (hk2.grown hg7 (by simp; omega)).grown hg8 (by simp; omega)
  replace hk7 : Blk w8 w4.heap.size 40 (bvs C) := by have := hk7.grown hg8 (by simp); simpa using this
  replace hk8 : Blk w8 (w4.heap.size + 1) 40 (bvs H) := by simpa using hk8
  have hb8 : Below w.heap.size w w8 := (hb1.grown hg7 hb1.size (by intro k hk; cases hk; omega)).grown hg8 (by have := hb1.size; have := hg7.size; omega) (by intro k hk; cases hk; omega)
  clear hb1 hg7 hg8 hs7 hs8 hs1 hs2 hs5 hs6 hk5 hk6 hk67 CK hb2 hb4 hb5 hb6
  generalize w4.heap.size = g9 at *
  by_cases hE : E = 0
  · subst hE
    have hA2 := Go.Lib.hid (hA.out.trans (if_neg (by simp)))
    have hB2 := Go.Lib.hid (hB.out.trans (if_neg (by simp)))
    rw [← hA2.out] at SH
    rw [← hB2.out] at HM
    clear hA hB
    go_wp2_with fail
    refine region_making 6 (fun | 4 => [3] | _ => []) (fun | 3 => some fun _ => rd8 svS | 4 => some fun _ => rd8 svS | _ => none) (by kernel_rfl) (by kernel_rfl) ?_ ?_
    · intro i' S' h' e v'
      match i', h' with
      | 3, h' => cases h'; exact rd8_loc _ _ _
      | 4, h' => cases h'; exact rd8_loc _ _ _
    simp only [List.take_succ_cons, List.take_zero, List.drop_succ_cons, List.drop_zero]
    (apply wpG_pure; (focus rfl); (focus (intro wg Bg hbg hBg hFg; go_simp; (try go_bits); (first | done | exact ⟨rfl, Below.refl _ _⟩ | rfl))); simp only [Act.put, List.setIfInBounds_toArray, List.set_cons_succ, List.set_cons_zero])
    (apply wpG_pure; (focus rfl); (focus (intro wg Bg hbg hBg hFg; go_simp; (try refine ⟨by kernel_rfl, ?_⟩); go_at_call 75; exact Calls.mono (SH _ wg ((hk7.drew.below hbg).rd n32C hCl.out.symm hCl.out.symm)) (fun e w' h => (by obtain ⟨rfl, hb⟩ := h; exact ⟨rfl, hb⟩)))); simp only [Act.put, List.setIfInBounds_toArray, List.set_cons_succ, List.set_cons_zero])
    (apply wpG_pure; (focus rfl); (focus (intro wg Bg hbg hBg hFg; go_simp; (try go_bits); (first | done | exact ⟨rfl, Below.refl _ _⟩ | rfl))); simp only [Act.put, List.setIfInBounds_toArray, List.set_cons_succ, List.set_cons_zero])
    (apply wpG_make; (focus rfl); (focus (intro wg Bg hbg hBg hFg; refine goesTo_row (l := svS) (n := 10) (by go_simp) rfl (by go_simp; first | done | rfl | exact ⟨rfl, rfl⟩))); intro va; simp only [Act.put, List.setIfInBounds_toArray, List.set_cons_succ, List.set_cons_zero])
    (apply wpG_make; (focus rfl); (focus (intro wg Bg hbg hBg hFg; have hN : rd8 svS va (Bg 3) wg := hFg 3 (by decide +kernel); exact goesTo_mark hN (by go_simp) rfl Tryd.underlying37 Tryd.underlying5 (by with_unfolding_all (conv => lhs; whnf)) (fun k hk => ⟨3, by simp, hk⟩))); intro vb; simp only [Act.put, List.setIfInBounds_toArray, List.set_cons_succ, List.set_cons_zero])
    (apply wpG_pure; (focus rfl); (focus (intro wg Bg hbg hBg hFg; go_simp; (try refine ⟨by kernel_rfl, ?_⟩); go_at_call 76; exact Calls.mono (HM _ _ wg ((hk8.drew.below hbg).rd n32H hHl.out.symm hHl.out.symm) (rd8_rd (show rd8 svS vb (Bg 4) wg from hFg 4 (by decide +kernel)) (by decide))) (fun e w' h => (by obtain ⟨rfl, hb⟩ := h; exact ⟨rfl, hb⟩)))); simp only [Act.put, List.setIfInBounds_toArray, List.set_cons_succ, List.set_cons_zero])
    refine wpG_end (fun wg Bg hbg hBg hFg => ?_)
    have hkg1 := hk1.drew.below hbg
    have hkg2 := hk2.drew.below hbg
    have hbG : Below w.heap.size w wg := hb8.drew.trans (hbg.mono hb8.size)
    clear hFg hBg SH HM
    have tc0 : True := trivial
    go_wp2_with (first
      | (have _t := tc0; (with_reducible refine G_store ?_; refine L_store_agg ag32 (by with_unfolding_all (conv => lhs; whnf)) (by with_unfolding_all (conv => lhs; whnf)) hkg1 nZ (by simpa using nA) (fun u hu => oA u (by simpa using hu)) ?_); intro w9 hk9 hg9 hs9; have hkg3 := hkg2.grown hg9 (by simp); clear tc0; have tc1 : True := trivial)
      | (have _t := tc1; (with_reducible refine G_store ?_; refine L_store_agg ag32 (by with_unfolding_all (conv => lhs; whnf)) (by with_unfolding_all (conv => lhs; whnf)) hkg3 nZ (by simpa using nB) (fun u hu => oB u (by simpa using hu)) ?_); intro wa hka hga hsa; clear tc1; have tc2 : True := trivial))
    exact ret_2agg (c1 := bvs A) (c2 := bvs B) rfl ag32 rfl rfl rfl (by have := hk9.grown hga (by simp); simpa using this) (by simpa using hka) nA nB rfl ⟨rfl, (hbG.grown hg9 hbG.size (by intro k hk; cases hk; exact Nat.le_refl _)).grown hga (by have := hbG.size; have := hg9.size; omega) (by intro k hk; cases hk; omega)⟩
  · have q1 : (E != 0) = true := bne_iff_ne.2 hE
    have hA2 := Go.Lib.hid (hA.out.trans (if_pos hE))
    have hB2 := Go.Lib.hid (hB.out.trans (if_pos hE))
    clear hA hB SH HM
    go_wp2_with fail
    refine O.region_making_ab 5 (fun | 3 => [100] | 4 => [101] | _ => []) (fun | 3 => some fun _ => oneB w.heap.size 40 (bvs Z) | 4 => some fun _ => oneB (w.heap.size + 1) 40 (bvs Z) | _ => none) (fun | 0 => [100] | 1 => [101] | 3 => [100] | 4 => [101] | _ => []) w.heap.size (w.heap.size + 1) 40 40 (bvs Z) (bvs Z) (by omega) hk1 hk2 (by kernel_rfl) (by kernel_rfl) ?_ ?_
    · intro i' S' h' e v'
      match i', h' with
      | 3, h' => cases h'; exact oneB_loc _ _ _ _ _ _
      | 4, h' => cases h'; exact oneB_loc _ _ _ _ _ _
    simp only [List.take_succ_cons, List.take_zero, List.drop_succ_cons, List.drop_zero]
    (apply O.wpG_pure; (focus rfl); (focus (intro wg Bg hbg hBg hFg; exact pureTo_load_agg ag32 (by with_unfolding_all (conv => lhs; whnf)) (show oneB w.heap.size 40 (bvs Z) undef (Bg 100) wg from hFg 100 (by decide +kernel)).1 nZ)); simp only [Act.put, List.setIfInBounds_toArray, List.set_cons_succ, List.set_cons_zero])
    (apply O.wpG_pure; (focus rfl); (focus (intro wg Bg hbg hBg hFg; exact pureTo_load_agg ag32 (by with_unfolding_all (conv => lhs; whnf)) (show oneB (w.heap.size + 1) 40 (bvs Z) undef (Bg 101) wg from hFg 101 (by decide +kernel)).1 nZ)); simp only [Act.put, List.setIfInBounds_toArray, List.set_cons_succ, List.set_cons_zero])
    (apply O.wpG_pure; (focus rfl); (focus (intro wg Bg hbg hBg hFg; go_simp; (try go_bits); (first | done | exact ⟨rfl, Below.refl _ _⟩ | rfl))); simp only [Act.put, List.setIfInBounds_toArray, List.set_cons_succ, List.set_cons_zero])
    (apply O.wpG_make; (focus rfl); (focus (intro wg Bg hbg hBg hFg; have hS : oneB w.heap.size 40 (bvs Z) undef (Bg 100) wg := hFg 100 (by decide +kernel); exact goesTo_aggB (cs' := (bvs Z).toArray) ag32 hS (by go_simp) rfl (by with_unfolding_all (conv => lhs; whnf)) (by with_unfolding_all (conv => lhs; whnf)) nZ (by simpa using nZ) (fun u hu => oZ u (by simpa using hu)) (fun k hk => ⟨100, by simp, hk⟩))); intro va; simp only [Act.put, List.setIfInBounds_toArray, List.set_cons_succ, List.set_cons_zero])
    (apply O.wpG_make; (focus rfl); (focus (intro wg Bg hbg hBg hFg; have hS : oneB (w.heap.size + 1) 40 (bvs Z) undef (Bg 101) wg := hFg 101 (by decide +kernel); exact goesTo_aggB (cs' := (bvs Z).toArray) ag32 hS (by go_simp) rfl (by with_unfolding_all (conv => lhs; whnf)) (by with_unfolding_all (conv => lhs; whnf)) nZ (by simpa using nZ) (fun u hu => oZ u (by simpa using hu)) (fun k hk => ⟨101, by simp, hk⟩))); intro vb; simp only [Act.put, List.setIfInBounds_toArray, List.set_cons_succ, List.set_cons_zero])
    refine O.wpG_end (fun wg Bg hbg hBg hFg => ?_)
    have hR1 : oneB w.heap.size 40 (bvs Z) va (Bg 3) wg := hFg 3
    have hR2 : oneB (w.heap.size + 1) 40 (bvs Z) vb (Bg 4) wg := hFg 4
    have hbG : Below w.heap.size w wg := hb8.drew.trans (hbg.below hb8.size (fun k hk => by rcases hk with rfl | rfl <;> omega))
    go_wp2_with fail
    rw [hA2.out, hB2.out]
    exact ret_2agg (c1 := bvs Z) (c2 := bvs Z) rfl ag32 rfl rfl rfl hR1.1 hR2.1 nZ nZ rfl ⟨rfl, hbG⟩
end Go.Proofs.YtfnlcnjflloecaaDoor
/-! ### Scr3 -/
set_option linter.unusedVariables false
set_option linter.unusedSimpArgs false
set_option linter.unnecessarySimpa false
namespace Go.Proofs.YtfnlcnjflloecaaDoor
open Go.RowKit
set_option maxRecDepth 100000 in
set_option maxHeartbeats 3200000 in
theorem refkeys_c (u : Value) (p s : List UInt8) (n : Int) (w : World) (hs : Rd w u s) (hp : p.length ≤ 100000) (hsl : s.length ≤ 100000) :
    Calls Tryd.prog 32 #[.string (strB p), u, .int .i64 n] w fun e w' =>
      e = .returned (.tuple #[.agg (bvs (ksA p s n)).toArray, .agg (bvs (ksB p s n)).toArray, .agg (bvs (ckC p s n)).toArray, .int .i64 (hiR p s n).2]) ∧ Below w.heap.size w w' := by
  have HI := fun v1 w1 h1 h2 => refhi_c v1 u p s n w1 h1 h2 (by omega) (by omega)
  have CB := fun w1 => conv_bytes w1 (strB p) (by rw [strB_size]; omega)
  have eP : (strB p).data.toList = p := rfl
  rw [eP] at CB
  clear eP
  have hA : ksA p s n = if (hiR p s n).2 ≠ 0 then zB else shaI (ckC p s n) := rfl
  have hB : ksB p s n = if (hiR p s n).2 ≠ 0 then zB else hmacI (hiR p s n).1 svS := rfl
  have hC : ckC p s n = if (hiR p s n).2 ≠ 0 then zB else hmacI (hiR p s n).1 ckS := rfl
  have hHl := hiR_l p s n
  have hCl := ckC_len p s n
  have hAl := ksA_len p s n
  have hBl := ksB_len p s n
  unfold GivesHi at HI
  generalize ksA p s n = A at *
  generalize ksB p s n = B at *
  generalize hiR p s n = R at *
  generalize ckC p s n = C at *
  obtain ⟨H, E⟩ := R
  simp only at HI hA hB hC hHl
  have nH := (bvs_length H).trans hHl
  have oH := bvs_one H
  have nC := (bvs_length C).trans hCl
  have oC := bvs_one C
  have nA := (bvs_length A).trans hAl
  have oA := bvs_one A
  have nB := (bvs_length B).trans hBl
  have oB := bvs_one B
  have nZ : (bvs zB).length = 32 := rfl
  have oZ := bvs_one zB
  have z32' : (Tryd.prog.info? 40).map (·.zero) = some (some (.agg (bvs zB).toArray)) := z32
  have hz : Tryd.prog.built 40 [] = some (bvs zB).toArray := by kernel_rfl
  have SH := fun v1 w1 h1 => refsha_c v1 C w1 h1 (by omega)
  have HMc := fun v1 v2 w1 h1 h2 => refhmac_c v1 v2 H ckS w1 h1 h2 (by omega) (by decide)
  have HM := fun v1 v2 w1 h1 h2 => refhmac_c v1 v2 H svS w1 h1 h2 (by omega) (by decide)
  unfold GivesB at SH HM HMc
  have n32H : H.length ≤ 1000000 := by omega
  have n32C : C.length ≤ 1000000 := by omega
  replace hA := Go.Lib.hid hA
  replace hB := Go.Lib.hid hB
  replace hC := Go.Lib.hid hC
  replace hHl := Go.Lib.hid hHl
  replace hCl := Go.Lib.hid hCl
  clear hAl hBl
  generalize strB p = P at *
  generalize zB = Z at *
  go_enter Tryd.func32, Tryd.ntmps32
  have ta0 : True := trivial
  go_upto_region 2 with (first
    | (have _t := ta0; (with_reducible refine G_alloc ?_; refine L_alloc z32' ?_); intro w1 hk1 hb1 hs1; clear ta0; have ta1 : True := trivial)
    | (have _t := ta1; (with_reducible refine G_alloc ?_; refine L_alloc z32' ?_); intro w2 hk2 hb2 hs2; replace hk1 := hk1.below hb2; replace hb1 := below_below hb1 hb2; clear ta1; have ta2 : True := trivial)
    | (have _t := ta2; (with_reducible refine G_alloc ?_; refine L_alloc z32' ?_); intro w3 hk3 hb3 hs3; replace hk1 := hk1.below hb3; replace hk2 := hk2.below hb3; replace hb1 := below_below hb1 hb3; clear ta2; have ta3 : True := trivial)
    | (have _t := ta3; with_reducible refine G_conv ?_; refine L_convb (by with_unfolding_all (conv => lhs; whnf)) (CB _) ?_; rintro v4 w4 ⟨hr4, hv4, hb4⟩; replace hk1 := hk1.below hb4; replace hk2 := hk2.below hb4; replace hk3 := hk3.below hb4; replace hb1 := below_below hb1 hb4; have hs4 := hs.below hb1; clear ta3; have ta4 : True := trivial)
    | (have _t := ta4; go_at_call 77; refine (HI _ _ hr4 hs4).mono ?_; rintro e w5 ⟨rfl, hb5⟩; replace hk1 := hk1.below hb5; replace hk2 := hk2.below hb5; replace hk3 := hk3.below hb5; replace hb1 := below_below hb1 hb5; clear ta4; have ta5 : True := trivial)
    | (have _t := ta5; (with_reducible refine G_alloc ?_; refine L_alloc z32' ?_); intro w6 hk6 hb6 hs6; replace hk1 := hk1.below hb6; replace hk2 := hk2.below hb6; replace hk3 := hk3.below hb6; replace hb1 := below_below hb1 hb6; clear ta5; have ta6 : True := trivial)
    | (have _t := ta6; (with_reducible refine G_store ?_; refine L_store_agg ag32 (by with_unfolding_all (conv => lhs; whnf)) (by with_unfolding_all (conv => lhs; whnf)) hk6 nZ (by simpa using nH) (fun u hu => oH u (by simpa using hu)) ?_); intro w7 hk7 hg7 hs7; clear ta6; have ta7 : True := trivial))
  have hs12 : w2.heap.size = w.heap.size + 1 + 1 := by omega
  rw [hs1] at hk2
  rw [hs12] at hk3
  have l2 : w.heap.size + 1 + 1 < w5.heap.size := by have h1 := hb4.size; have h2 := hb5.size; omega
  replace hk1 := hk1.grown hg7 (by simp; omega)
  replace hk2 := hk2.grown hg7 (by simp; omega)
  replace hk3 := hk3.grown hg7 (by simp; omega)
  replace hk7 : Blk w7 w5.heap.size 40 (bvs H) := by simpa using hk7
  replace hb1 : Below w.heap.size w w7 := hb1.grown hg7 hb1.size (by intro k hk; cases hk; omega)
  clear hg7 hs7 hs1 hs2 hs3 hs6 hs12 hk6 hb2 hb3 hb4 hb5 hb6 hr4 hv4 hs4 CB HI
  generalize w5.heap.size = g9 at *
  by_cases hE : E = 0
  · subst hE
    have hA2 := Go.Lib.hid (hA.out.trans (if_neg (by simp)))
    have hB2 := Go.Lib.hid (hB.out.trans (if_neg (by simp)))
    have hC2 := Go.Lib.hid (hC.out.trans (if_neg (by simp)))
    rw [← hA2.out] at SH
    rw [← hB2.out] at HM
    rw [← hC2.out] at HMc
    clear hA hB hC
    have kc := fun (w : World) (C : Array Value) (n c : Nat) => Lib.run_convert_bytes_const (P := Tryd.prog) w 37 5 C n c Tryd.underlying37 Tryd.underlying5
    have tb0 : True := trivial
    go_upto_region 5 with (first
      | (have _t := tb0; go_at_call 78; refine (HMc _ _ _ ((hk7.below ((Below.refl _ _).alloc (Nat.le_refl _) _)).rd n32H hHl.out.symm hHl.out.symm) (Rd.lit _ _ _ ckS rfl rfl (by decide) (by decide))).mono ?_; rintro e w8 ⟨rfl, hb8⟩; have hb8 := below_below ((Below.refl _ _).alloc (Nat.le_refl _) _) hb8; replace hk1 := hk1.below hb8; replace hk2 := hk2.below hb8; replace hk3 := hk3.below hb8; replace hk7 := hk7.below hb8; replace hb1 := below_below hb1 hb8; clear hb8; have z8 := hk7.lt; clear tb0; have tb1 : True := trivial)
      | (have _t := tb1; (with_reducible refine G_alloc ?_; refine L_alloc z32' ?_); intro w9 hk9 hb9 hs9; replace hk1 := hk1.below hb9; replace hk2 := hk2.below hb9; replace hk3 := hk3.below hb9; replace hk7 := hk7.below hb9; replace hb1 := below_below hb1 hb9; clear tb1; have tb2 : True := trivial)
      | (have _t := tb2; (with_reducible refine G_store ?_; refine L_store_agg ag32 (by with_unfolding_all (conv => lhs; whnf)) (by with_unfolding_all (conv => lhs; whnf)) hk9 nZ (by simpa using nC) (fun u hu => oC u (by simpa using hu)) ?_); intro wa hka hga hsa; clear tb2; have tb3 : True := trivial))
    replace hk1 := hk1.grown hga (by simp; omega)
    replace hk2 := hk2.grown hga (by simp; omega)
    replace hk3 := hk3.grown hga (by simp; omega)
    replace hk7 := hk7.grown hga (by simp; omega)
    replace hka : Blk wa w8.heap.size 40 (bvs C) := by simpa using hka
    replace hb1 : Below w.heap.size w wa := hb1.grown hga hb1.size (by intro k hk; cases hk; omega)
    clear hga hsa hk9 hb9 hs9 kc HMc
    generalize w8.heap.size = gc at *
    have hne : w.heap.size ≠ w.heap.size + 1 := by omega
    have m9 : ¬ (g9 = w.heap.size ∨ g9 = w.heap.size + 1) := by omega
    have mc : ¬ (gc = w.heap.size ∨ gc = w.heap.size + 1) := by omega
    have m3 : ¬ (w.heap.size + 1 + 1 = w.heap.size ∨ w.heap.size + 1 + 1 = w.heap.size + 1) := by omega
    refine O.region_making_ab 9 (fun | 4 => [3] | 7 => [100] | 8 => [101] | _ => []) (fun | 3 => some fun _ => rd8 svS | 4 => some fun _ => rd8 svS | 7 => some fun _ => oneB w.heap.size 40 (bvs A) | 8 => some fun _ => oneB (w.heap.size + 1) 40 (bvs B) | _ => none) (fun | 7 => [100] | 8 => [101] | _ => []) w.heap.size (w.heap.size + 1) 40 40 (bvs Z) (bvs Z) hne hk1 hk2 (by kernel_rfl) (by kernel_rfl) ?_ ?_
    · intro i' S' h' e v'
      match i', h' with
      | 3, h' => cases h'; exact rd8_locO _ _ _ _
      | 4, h' => cases h'; exact rd8_locO _ _ _ _
      | 7, h' => cases h'; exact oneB_loc _ _ _ _ _ _
      | 8, h' => cases h'; exact oneB_loc _ _ _ _ _ _
    simp only [List.take_succ_cons, List.take_zero, List.drop_succ_cons, List.drop_zero]
    (apply O.wpG_pure; (focus rfl); (focus (intro wg Bg hbg hBg hFg; go_simp; (try go_bits); (first | done | exact ⟨rfl, Below.refl _ _⟩ | rfl))); simp only [Act.put, List.setIfInBounds_toArray, List.set_cons_succ, List.set_cons_zero])
    (apply O.wpG_pure; (focus rfl); (focus (intro wg Bg hbg hBg hFg; go_simp; (try refine ⟨by kernel_rfl, ?_⟩); go_at_call 79; exact Calls.mono (SH _ wg ((hka.drew.chg hbg mc).rd n32C hCl.out.symm hCl.out.symm)) (fun e w' h => (by obtain ⟨rfl, hb⟩ := h; exact ⟨rfl, hb⟩)))); simp only [Act.put, List.setIfInBounds_toArray, List.set_cons_succ, List.set_cons_zero])
    (apply O.wpG_pure; (focus rfl); (focus (intro wg Bg hbg hBg hFg; go_simp; (try go_bits); (first | done | exact ⟨rfl, Below.refl _ _⟩ | rfl))); simp only [Act.put, List.setIfInBounds_toArray, List.set_cons_succ, List.set_cons_zero])
    (apply O.wpG_make; (focus rfl); (focus (intro wg Bg hbg hBg hFg; refine goesTo_row (l := svS) (n := 10) (by go_simp) rfl (by go_simp; first | done | rfl | exact ⟨rfl, rfl⟩))); intro va; simp only [Act.put, List.setIfInBounds_toArray, List.set_cons_succ, List.set_cons_zero])
    (apply O.wpG_make; (focus rfl); (focus (intro wg Bg hbg hBg hFg; have hN : rd8 svS va (Bg 3) wg := hFg 3 (by decide +kernel); exact goesTo_mark hN (by go_simp) rfl Tryd.underlying37 Tryd.underlying5 (by with_unfolding_all (conv => lhs; whnf)) (fun k hk => ⟨3, by simp, hk⟩))); intro vb; simp only [Act.put, List.setIfInBounds_toArray, List.set_cons_succ, List.set_cons_zero])
    (apply O.wpG_pure; (focus rfl); (focus (intro wg Bg hbg hBg hFg; go_simp; (try refine ⟨by kernel_rfl, ?_⟩); go_at_call 78; exact Calls.mono (HM _ _ wg ((hk7.drew.chg hbg m9).rd n32H hHl.out.symm hHl.out.symm) (rd8_rd (show rd8 svS vb (Bg 4) wg from hFg 4 (by decide +kernel)) (by decide))) (fun e w' h => (by obtain ⟨rfl, hb⟩ := h; exact ⟨rfl, hb⟩)))); simp only [Act.put, List.setIfInBounds_toArray, List.set_cons_succ, List.set_cons_zero])
    (apply O.wpG_pure; (focus rfl); (focus (intro wg Bg hbg hBg hFg; exact pureTo_load_agg ag32 (by with_unfolding_all (conv => lhs; whnf)) (hka.drew.chg hbg mc) nC)); simp only [Act.put, List.setIfInBounds_toArray, List.set_cons_succ, List.set_cons_zero])
    (apply O.wpG_make; (focus rfl); (focus (intro wg Bg hbg hBg hFg; have hS : oneB w.heap.size 40 (bvs Z) undef (Bg 100) wg := hFg 100 (by decide +kernel); exact goesTo_aggB (cs' := (bvs A).toArray) ag32 hS (by go_simp) rfl (by with_unfolding_all (conv => lhs; whnf)) (by with_unfolding_all (conv => lhs; whnf)) nZ (by simpa using nA) (fun u hu => oA u (by simpa using hu)) (fun k hk => ⟨100, by simp, hk⟩))); intro vc; simp only [Act.put, List.setIfInBounds_toArray, List.set_cons_succ, List.set_cons_zero])
    (apply O.wpG_make; (focus rfl); (focus (intro wg Bg hbg hBg hFg; have hS : oneB (w.heap.size + 1) 40 (bvs Z) undef (Bg 101) wg := hFg 101 (by decide +kernel); exact goesTo_aggB (cs' := (bvs B).toArray) ag32 hS (by go_simp) rfl (by with_unfolding_all (conv => lhs; whnf)) (by with_unfolding_all (conv => lhs; whnf)) nZ (by simpa using nB) (fun u hu => oB u (by simpa using hu)) (fun k hk => ⟨101, by simp, hk⟩))); intro vd; simp only [Act.put, List.setIfInBounds_toArray, List.set_cons_succ, List.set_cons_zero])
    refine O.wpG_end (fun wg Bg hbg hBg hFg => ?_)
    have hR1 : oneB w.heap.size 40 (bvs A) vc (Bg 7) wg := hFg 7
    have hR2 : oneB (w.heap.size + 1) 40 (bvs B) vd (Bg 8) wg := hFg 8
    have hkg3 := hk3.drew.chg hbg m3
    have hbG : Below w.heap.size w wg := hb1.drew.trans (hbg.below hb1.size (fun k hk => by rcases hk with rfl | rfl <;> omega))
    clear SH HM
    have td0 : True := trivial
    go_wp2_with (first
      | (have _t := td0; (with_reducible refine G_store ?_; refine L_store_agg ag32 (by with_unfolding_all (conv => lhs; whnf)) (by with_unfolding_all (conv => lhs; whnf)) hkg3 nZ (by simpa using nC) (fun u hu => oC u (by simpa using hu)) ?_); intro wb hkb hgb hsb; clear td0; have td1 : True := trivial))
    exact ret_3agg (c1 := bvs A) (c2 := bvs B) (c3 := bvs C) rfl ag32 rfl rfl rfl rfl (hR1.1.grown hgb (by simp; omega)) (hR2.1.grown hgb (by simp)) (by simpa using hkb) nA nB nC rfl ⟨rfl, hbG.grown hgb hbG.size (by intro k hk; cases hk; omega)⟩
  · have q1 : (E != 0) = true := bne_iff_ne.2 hE
    have hA2 := Go.Lib.hid (hA.out.trans (if_pos hE))
    have hB2 := Go.Lib.hid (hB.out.trans (if_pos hE))
    have hC2 := Go.Lib.hid (hC.out.trans (if_pos hE))
    clear hA hB hC SH HM HMc
    have te0 : True := trivial
    go_wp2_with (first
      | (have _t := te0; (with_reducible refine G_build ?_; refine L_build (bvs Z).toArray (by kernel_rfl) ?_); clear te0; have te1 : True := trivial)
      | (have _t := te1; (with_reducible refine G_build ?_; refine L_build (bvs Z).toArray (by kernel_rfl) ?_); clear te1; have te2 : True := trivial)
      | (have _t := te2; (with_reducible refine G_build ?_; refine L_build (bvs Z).toArray (by kernel_rfl) ?_); clear te2; have te3 : True := trivial)
      | (have _t := te3; (with_reducible refine G_store ?_; refine L_store_agg ag32 (by with_unfolding_all (conv => lhs; whnf)) (by with_unfolding_all (conv => lhs; whnf)) hk1 nZ (by simpa using nZ) (fun u hu => oZ u (by simpa using hu)) ?_); intro w8 hk8 hg8 hs8; replace hk2 := hk2.grown hg8 (by simp); replace hk3 := hk3.grown hg8 (by simp; omega); replace hb1 := hb1.grown hg8 hb1.size (by intro k hk; cases hk; exact Nat.le_refl _); clear te3; have te4 : True := trivial)
      | (have _t := te4; (with_reducible refine G_store ?_; refine L_store_agg ag32 (by with_unfolding_all (conv => lhs; whnf)) (by with_unfolding_all (conv => lhs; whnf)) hk2 nZ (by simpa using nZ) (fun u hu => oZ u (by simpa using hu)) ?_); intro w9 hk9 hg9 hs9; replace hk3 := hk3.grown hg9 (by simp); replace hk8 := hk8.grown hg9 (by simp); replace hb1 := hb1.grown hg9 hb1.size (by intro k hk; cases hk; omega); clear te4; have te5 : True := trivial)
      | (have _t := te5; (with_reducible refine G_store ?_; refine L_store_agg ag32 (by with_unfolding_all (conv => lhs; whnf)) (by with_unfolding_all (conv => lhs; whnf)) hk3 nZ (by simpa using nZ) (fun u hu => oZ u (by simpa using hu)) ?_); intro wa hka hga hsa; replace hk8 := hk8.grown hga (by simp; omega); replace hk9 := hk9.grown hga (by simp); replace hb1 := hb1.grown hga hb1.size (by intro k hk; cases hk; omega); clear te5; have te6 : True := trivial))
    rw [hA2.out, hB2.out, hC2.out]
    exact ret_3agg (c1 := bvs Z) (c2 := bvs Z) (c3 := bvs Z) rfl ag32 rfl rfl rfl rfl (by simpa using hk8) (by simpa using hk9) (by simpa using hka) nZ nZ nZ rfl ⟨rfl, hb1⟩
end Go.Proofs.YtfnlcnjflloecaaDoor
