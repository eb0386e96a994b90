/- OctetOwn. -/
import Derived.Test.YtpjpmgpehpigaabDoorBookB
import Derived.Test.YtpjpmgpehpigaabDoorOct8
import Derived.Test.YtpjpmgpehpigaabDoorOct4
set_option linter.unusedVariables false
set_option linter.unusedSimpArgs false
namespace Go.Proofs.YtpjpmgpehpigaabDoor
open Go.RowKit
theorem uintI_len (l : List UInt8) : (uintI l).2.1.length ≤ l.length := by
  unfold uintI; split <;> simp
theorem intI_len (l : List UInt8) : (intI l).2.1.length ≤ l.length := by
  unfold intI; split <;> simp
theorem floatI_len (l : List UInt8) : (floatI l).2.1.length ≤ l.length := by
  unfold floatI; split
  · simp
  · split <;> simp
theorem textI_len (l : List UInt8) (m : Nat) : (textI l m).2.1.length ≤ l.length := by
  unfold textI
  split
  · split
    · simp
    · split
      · simp
      · split <;> simp
  · simp
theorem KeepAt.up {w : World} {B pL pB N N' : Nat} {es : List Lent} {bs : List Kept} (h : KeepAt w B pL pB N es bs) (hN : N ≤ N') : KeepAt w B pL pB N' es bs := by
  obtain ⟨SL, SB, h1, h2, h3, h4, h5⟩ := h
  exact ⟨SL, SB, h1, h2, h3, fun k hk => Nat.lt_of_lt_of_le (h4 k hk) hN, fun k hk => Nat.lt_of_lt_of_le (h5 k hk) hN⟩
theorem KeepAt.next {w w' : World} {B pL pB : Nat} {es : List Lent} {bs : List Kept} (h : KeepAt w B pL pB w.heap.size es bs) (hb : Below w.heap.size w w') : KeepAt w' B pL pB w'.heap.size es bs := (h.below hb).up hb.size
theorem keep_loan' (w : World) (B pL pB N : Nat) (es : List Lent) (bs : List Kept) (v : Value) (l : List UInt8) (h : KeepAt w B pL pB N es bs) (hv : Rd w v l) (hl : l.length ≤ 1000000) (hn : es.length ≤ 999) :
    Calls Tryd.prog 28 #[.pointer (some ⟨pL, 0, none⟩), v] w fun e w' => ∃ (u : Value) (es' : List Lent), e = .returned u ∧ es'.length = es.length + 1 ∧ Rd w' u l ∧ KeepAt w' B pL pB w'.heap.size es' bs ∧ Below B w w' :=
  (keep_loan w B pL pB N es bs v l h hv hl hn).mono fun e w' ⟨x, h1, _, h2, h3, h4⟩ => ⟨_, _, h1, by simp, h2, h3, h4⟩
def OwnLoop (w : World) (B pL pB m : Nat) (i : Value) (wr : World) : Prop :=
  ∃ (j : Nat) (es : List Lent) (bs : List Kept), j ≤ 10 ∧ i = .int .i64 j ∧ es.length ≤ m * j ∧ bs.length ≤ m * j ∧ KeepAt wr B pL pB wr.heap.size es bs ∧ Below B w wr
set_option maxRecDepth 100000 in
set_option maxHeartbeats 3200000 in
theorem octetOwn_c (w : World) (hT : Tabs w) (v : Value) (l : List UInt8) (h : Rd w v l) (n : Nat) (hn : n < 18446744073709551616) (i : Int) (hi : -9223372036854775808 ≤ i ∧ i ≤ 9223372036854775807) (f : Nat) (k : List UInt8) (hk : k.length ≤ 9223372036854775807) (v2 : Value) (l2 : List UInt8) (h2 : Rd w v2 l2) :
    Calls Tryd.prog 5 #[.agg #[v, .int .u64 (n : Int), .int .i64 i, .int .u64 (f : Int), .string (strB k)], v2] w (Ok w) := by
  have F1 := fun w1 (hb : Below w.heap.size w w1) => few1_c v l w1 (h.below hb)
  have F2 := fun w1 (hb : Below w.heap.size w w1) => few1_c v2 l2 w1 (h2.below hb)
  have hx : (l.take 2000).length ≤ 2000 := by simp; omega
  have hz : (l2.take 2000).length ≤ 2000 := by simp; omega
  have hy : (k.take 300).length ≤ 300 := by simp; omega
  have T := fun w1 => text_c k 300 w1 hk (by omega)
  generalize l.take 2000 = x at *
  generalize l2.take 2000 = z at *
  generalize k.take 300 = y at *
  have h1l : (x ++ formU n).length ≤ 3000 := by have := formU_len64 n hn; simp; omega
  have h2l : (x ++ formU (zig i)).length ≤ 3000 := by have := formU_len64 (zig i) (zig_lt i hi); simp; omega
  have h3l : (x ++ beBs (bitsI 4609434218613702656) 8).length ≤ 3000 := by have : (beBs (bitsI 4609434218613702656) 8).length = 8 := (by simp [beBs]); simp; omega
  have h4l : (x ++ formU y.length ++ y).length ≤ 3000 := by have := formU_len64 y.length (by omega); simp; omega
  have PU := fun v1 w1 h1 => putuint_c v1 x n w1 h1 (by omega) hn
  have PI := fun v1 w1 h1 => putint_c v1 x i w1 h1 (by omega) hi
  have PF := fun v1 w1 h1 => putfloat_c v1 x 4609434218613702656 w1 h1 (by omega) (by omega)
  have PT := fun v1 w1 h1 => puttext_c v1 x y w1 h1 (by omega) (by omega)
  generalize x ++ formU n = X1 at *
  generalize x ++ formU (zig i) = X2 at *
  generalize x ++ beBs (bitsI 4609434218613702656) 8 = X3 at *
  generalize x ++ formU y.length ++ y = X4 at *
  clear h h2 hk hn hi
  go_enter Tryd.func5, Tryd.ntmps5
  have tok0 : True := trivial
  go_wp2_with (first
    | (have _t := tok0; (with_reducible refine G_box ?_; refine L_box (by with_unfolding_all (conv => lhs; whnf)) ?_); intro wx hkx hbx hsx; clear hsx; clear tok0; have tok1 : True := trivial)
    | (have _t := tok1; (with_reducible refine G_box ?_; refine L_box (by with_unfolding_all (conv => lhs; whnf)) ?_); intro wa hka hba hsa; have ea := Go.Lib.hid hsa; clear hsa; clear tok1; have tok2 : True := trivial)
    | (have _t := tok2; (with_reducible refine G_box ?_; refine L_box (by with_unfolding_all (conv => lhs; whnf)) ?_); intro wb hkb hbb hsb; have hlt := hka.lt; have eb := Go.Lib.hid hsb; clear hsb; clear tok2; have tok3 : True := trivial))
  have hK : KeepAt wb wx.heap.size wx.heap.size wa.heap.size wb.heap.size [] [] := KeepAt.new (hka.below hbb) hkb (Nat.le_refl _) hba.size (by omega)
  have hb := below_below hba hbb
  have X := fun w1 (hb : Below wx.heap.size wx w1) => hkx.below hb
  replace F1 := fun w1 (hb : Below wx.heap.size wx w1) => F1 w1 (below_below hbx hb)
  replace F2 := fun w1 (hb : Below wx.heap.size wx w1) => F2 w1 (below_below hbx hb)
  have TB := fun w1 (hb : Below wx.heap.size wx w1) => (hT.below hbx).below hb
  clear hka hba hkb hbb ea eb hkx hlt
  generalize hpB : wa.heap.size = pB at *
  clear hpB
  go_loopw [7] (fun i wr => OwnLoop wx wx.heap.size wx.heap.size pB 8 i wr) (fun i _ => 2 - (intOf i).toNat)
  case atStart => exact ⟨0, [], [], by omega, rfl, by simp, by simp, hK, hb⟩
  clear hK hb
  case round =>
    obtain ⟨j, es, bs, hj, rfl, hes, hbs, hK, hb⟩ := hrel
    by_cases hlt3 : j < 2
    · have q1 : (j : Int) < 2 := by omega
      obtain ⟨S, hKB, hSl⟩ := KeepAt.toB hK
      have hSp : ∀ k, S k → wx.heap.size ≤ k := fun k hk => (hSl k hk).1
      have zw : pB + 1 ≤ wr.heap.size := KeepAt.pB_lt hK
      go_wp2_with fail
      refine O.region_making 10 (fun | 5 => [100] | 9 => [5, 8] | _ => []) (fun | 4 => some fun _ => newN 0 x | 5 => some fun _ => lentS wx.heap.size wx.heap.size pB es bs x | 8 => some fun _ => newN wr.heap.size X1 | 9 => some fun _ => keptS wx.heap.size wx.heap.size pB es bs | _ => none) 5 100 S (KeepB wx.heap.size wx.heap.size pB es bs) (by kernel_rfl) (by kernel_rfl) ?_ ?_ ?_ ?_ ?_
      · intro i' S' h' e v'
        match i', h' with
        | 4, h' => cases h'; exact newN_loc _ _ _ _ _
        | 5, h' => cases h'; exact lentS_loc _ _ _ _ _ _ _ _ _
        | 8, h' => cases h'; exact newN_loc _ _ _ _ _
        | 9, h' => cases h'; exact keptS_loc _ _ _ _ _ _ _ _
      · exact KeepB.loc _ _ _ _ _ _ _
      · exact hKB
      · exact fun k hk => (hSl k hk).2
      simp only [List.take_succ_cons, List.take_zero, List.drop_succ_cons, List.drop_zero]
      have low : ∀ wg, Chg S wr.drew wg → Below wx.heap.size wx wg := fun wg hg => hb.trans (show Below wx.heap.size wr wg from ⟨hg.os, hg.tape, hg.output, hg.size, fun k hk => hg.block k (Nat.lt_of_lt_of_le hk hb.size) (fun hm => by have := hSp k hm; omega)⟩)
      (apply O.wpG_pure; (focus rfl); (focus (intro wg Bg hbg hBg hFg; go_simp; (try go_bits); (first | done | exact ⟨rfl, Below.refl _ _⟩ | rfl))); simp only [Act.put, List.setIfInBounds_toArray, List.set_cons_succ, List.set_cons_zero])
      (apply O.wpG_pure; (focus rfl); (focus (intro wg Bg hbg hBg hFg; go_simp; (try go_bits); (first | done | exact ⟨rfl, Below.refl _ _⟩ | rfl))); simp only [Act.put, List.setIfInBounds_toArray, List.set_cons_succ, List.set_cons_zero])
      (apply O.wpG_pure; (focus rfl); (focus (intro wg Bg hbg hBg hFg; go_simp; (try go_bits); (first | done | exact ⟨rfl, Below.refl _ _⟩ | rfl))); simp only [Act.put, List.setIfInBounds_toArray, List.set_cons_succ, List.set_cons_zero])
      (apply O.wpG_pure; (focus rfl); (focus (intro wg Bg hbg hBg hFg; have cx : _ = some v := (X _ (low _ hbg)).cell 0; go_simp; (try go_bits); (first | done | exact ⟨rfl, Below.refl _ _⟩ | rfl))); simp only [Act.put, List.setIfInBounds_toArray, List.set_cons_succ, List.set_cons_zero])
      apply O.wpG_make; (focus rfl); (focus (intro wg Bg hbg hBg hFg; go_simp; go_at_call 10; exact Calls.mono (F1 _ (low _ hbg)) (fun e w' h => (by obtain ⟨u, rfl, ho, hb'⟩ := h; exact ⟨u, rfl, Chg.of_below hb', ho.mono (Nat.zero_le _), fun g hg => (by first | exact ⟨ho.base_le g hg, ho.lt g hg⟩ | exact .inr ⟨ho.base_le g hg, ho.lt g hg⟩)⟩)))); intro va; simp only [Act.put, List.setIfInBounds_toArray, List.set_cons_succ, List.set_cons_zero]
      apply O.wpG_make; (focus rfl); (focus (intro wg Bg hbg hBg hFg; have hN : newN 0 x va (Bg 4) wg := hFg 4 (by decide +kernel); have hO : KeepB wx.heap.size wx.heap.size pB es bs (Bg 100) wg := hFg 100 (by decide +kernel); go_simp; go_at_call 28; exact Calls.mono (keepB_loan _ _ _ _ _ _ _ _ x hO hN.1.rd (by omega) (by omega)) (fun e w' h => (by obtain ⟨u, rfl, hc, hl⟩ := h; exact ⟨u, rfl, hc, hl⟩)))); intro vb; simp only [Act.put, List.setIfInBounds_toArray, List.set_cons_succ, List.set_cons_zero]
      (apply O.wpG_pure; (focus rfl); (focus (intro wg Bg hbg hBg hFg; go_simp; (try go_bits); (first | done | exact ⟨rfl, Below.refl _ _⟩ | rfl))); simp only [Act.put, List.setIfInBounds_toArray, List.set_cons_succ, List.set_cons_zero])
      (apply O.wpG_pure; (focus rfl); (focus (intro wg Bg hbg hBg hFg; have cx : _ = some (Value.int .u64 (n : Int)) := (X _ (low _ hbg)).cell 1; go_simp; (try go_bits); (first | done | exact ⟨rfl, Below.refl _ _⟩ | rfl))); simp only [Act.put, List.setIfInBounds_toArray, List.set_cons_succ, List.set_cons_zero])
      apply O.wpG_make; (focus rfl); (focus (intro wg Bg hbg hBg hFg; have hL : lentS wx.heap.size wx.heap.size pB es bs x vb (Bg 5) wg := hFg 5 (by decide +kernel); have hr : Rd wg vb x := (by obtain ⟨_, _, _, h, _⟩ := hL; exact h); have zg := hbg.size; go_simp; go_at_call 22; exact Calls.mono (PU vb wg hr) (fun e w' h => (by obtain ⟨u, rfl, ho, hb'⟩ := h; exact ⟨u, rfl, Chg.of_below hb', ho.mono zg, fun g hg => (by first | exact ⟨ho.base_le g hg, ho.lt g hg⟩ | exact .inr ⟨ho.base_le g hg, ho.lt g hg⟩)⟩)))); intro vc; simp only [Act.put, List.setIfInBounds_toArray, List.set_cons_succ, List.set_cons_zero]
      apply O.wpG_make; (focus rfl); (focus (intro wg Bg hbg hBg hFg; have hL : lentS wx.heap.size wx.heap.size pB es bs x vb (Bg 5) wg := hFg 5 (by decide +kernel); have hN : newN wr.heap.size X1 vc (Bg 8) wg := hFg 8 (by decide +kernel); go_simp; go_at_call 27; exact Calls.mono (keepB_book _ _ _ _ _ _ (Bg 5) x vb vc X1 hL (hN.1.mono zw) (fun g hg hs => absurd (hBg.apart 5 8 g hs (hN.2 g hg)) (by decide)) (by omega) (by omega)) (fun e w' h => (by obtain ⟨u, rfl, hc, hk⟩ := h; refine ⟨u, rfl, hc.mono (fun k hk => .inl hk), ?_⟩; obtain ⟨q, bs', h1, h2⟩ := hk; exact ⟨q, bs', h1, h2.mono (fun k hk => by rcases hk with (hk | hk) | hk; exact .inl (.inl hk); exact .inl (.inr (hN.2 k hk)); exact .inr hk)⟩)))); intro vd; simp only [Act.put, List.setIfInBounds_toArray, List.set_cons_succ, List.set_cons_zero]
      refine O.wpG_end (fun wg Bg hbg hBg hFg => ?_)
      have hR : keptS wx.heap.size wx.heap.size pB es bs vd (Bg 9) wg := hFg 9
      have hbnA := low _ hbg
      obtain ⟨eA, bsA, hlA, hR⟩ := hR
      have hKnA := hR.toAt (N := wg.heap.size) (fun k hk => hBg.hi 9 k hk)
      clear hFg hBg hR hKB hSl hSp low hbg hK hb zw
      replace hK := hKnA
      replace hb := hbnA
      clear hKnA hbnA
      have hesA : (es ++ [eA]).length = es.length + 1 := by simp
      generalize es ++ [eA] = esA at *
      obtain ⟨wr, ewr⟩ : ∃ w', w' = wg := ⟨_, rfl⟩
      subst ewr
      obtain ⟨S, hKB, hSl⟩ := KeepAt.toB hK
      have hSp : ∀ k, S k → wx.heap.size ≤ k := fun k hk => (hSl k hk).1
      have zw : pB + 1 ≤ wr.heap.size := KeepAt.pB_lt hK
      go_wp2_with fail
      refine O.region_making 10 (fun | 5 => [100] | 9 => [5, 8] | _ => []) (fun | 4 => some fun _ => newN 0 x | 5 => some fun _ => lentS wx.heap.size wx.heap.size pB esA bsA x | 8 => some fun _ => newN wr.heap.size X2 | 9 => some fun _ => keptS wx.heap.size wx.heap.size pB esA bsA | _ => none) 5 100 S (KeepB wx.heap.size wx.heap.size pB esA bsA) (by kernel_rfl) (by kernel_rfl) ?_ ?_ ?_ ?_ ?_
      · intro i' S' h' e v'
        match i', h' with
        | 4, h' => cases h'; exact newN_loc _ _ _ _ _
        | 5, h' => cases h'; exact lentS_loc _ _ _ _ _ _ _ _ _
        | 8, h' => cases h'; exact newN_loc _ _ _ _ _
        | 9, h' => cases h'; exact keptS_loc _ _ _ _ _ _ _ _
      · exact KeepB.loc _ _ _ _ _ _ _
      · exact hKB
      · exact fun k hk => (hSl k hk).2
      simp only [List.take_succ_cons, List.take_zero, List.drop_succ_cons, List.drop_zero]
      have low : ∀ wg, Chg S wr.drew wg → Below wx.heap.size wx wg := fun wg hg => hb.trans (show Below wx.heap.size wr wg from ⟨hg.os, hg.tape, hg.output, hg.size, fun k hk => hg.block k (Nat.lt_of_lt_of_le hk hb.size) (fun hm => by have := hSp k hm; omega)⟩)
      (apply O.wpG_pure; (focus rfl); (focus (intro wg Bg hbg hBg hFg; go_simp; (try go_bits); (first | done | exact ⟨rfl, Below.refl _ _⟩ | rfl))); simp only [Act.put, List.setIfInBounds_toArray, List.set_cons_succ, List.set_cons_zero])
      (apply O.wpG_pure; (focus rfl); (focus (intro wg Bg hbg hBg hFg; go_simp; (try go_bits); (first | done | exact ⟨rfl, Below.refl _ _⟩ | rfl))); simp only [Act.put, List.setIfInBounds_toArray, List.set_cons_succ, List.set_cons_zero])
      (apply O.wpG_pure; (focus rfl); (focus (intro wg Bg hbg hBg hFg; go_simp; (try go_bits); (first | done | exact ⟨rfl, Below.refl _ _⟩ | rfl))); simp only [Act.put, List.setIfInBounds_toArray, List.set_cons_succ, List.set_cons_zero])
      (apply O.wpG_pure; (focus rfl); (focus (intro wg Bg hbg hBg hFg; have cx : _ = some v := (X _ (low _ hbg)).cell 0; go_simp; (try go_bits); (first | done | exact ⟨rfl, Below.refl _ _⟩ | rfl))); simp only [Act.put, List.setIfInBounds_toArray, List.set_cons_succ, List.set_cons_zero])
      apply O.wpG_make; (focus rfl); (focus (intro wg Bg hbg hBg hFg; go_simp; go_at_call 10; exact Calls.mono (F1 _ (low _ hbg)) (fun e w' h => (by obtain ⟨u, rfl, ho, hb'⟩ := h; exact ⟨u, rfl, Chg.of_below hb', ho.mono (Nat.zero_le _), fun g hg => (by first | exact ⟨ho.base_le g hg, ho.lt g hg⟩ | exact .inr ⟨ho.base_le g hg, ho.lt g hg⟩)⟩)))); intro va; simp only [Act.put, List.setIfInBounds_toArray, List.set_cons_succ, List.set_cons_zero]
      apply O.wpG_make; (focus rfl); (focus (intro wg Bg hbg hBg hFg; have hN : newN 0 x va (Bg 4) wg := hFg 4 (by decide +kernel); have hO : KeepB wx.heap.size wx.heap.size pB esA bsA (Bg 100) wg := hFg 100 (by decide +kernel); go_simp; go_at_call 28; exact Calls.mono (keepB_loan _ _ _ _ _ _ _ _ x hO hN.1.rd (by omega) (by omega)) (fun e w' h => (by obtain ⟨u, rfl, hc, hl⟩ := h; exact ⟨u, rfl, hc, hl⟩)))); intro vb; simp only [Act.put, List.setIfInBounds_toArray, List.set_cons_succ, List.set_cons_zero]
      (apply O.wpG_pure; (focus rfl); (focus (intro wg Bg hbg hBg hFg; go_simp; (try go_bits); (first | done | exact ⟨rfl, Below.refl _ _⟩ | rfl))); simp only [Act.put, List.setIfInBounds_toArray, List.set_cons_succ, List.set_cons_zero])
      (apply O.wpG_pure; (focus rfl); (focus (intro wg Bg hbg hBg hFg; have cx : _ = some (Value.int .i64 i) := (X _ (low _ hbg)).cell 2; go_simp; (try go_bits); (first | done | exact ⟨rfl, Below.refl _ _⟩ | rfl))); simp only [Act.put, List.setIfInBounds_toArray, List.set_cons_succ, List.set_cons_zero])
      apply O.wpG_make; (focus rfl); (focus (intro wg Bg hbg hBg hFg; have hL : lentS wx.heap.size wx.heap.size pB esA bsA x vb (Bg 5) wg := hFg 5 (by decide +kernel); have hr : Rd wg vb x := (by obtain ⟨_, _, _, h, _⟩ := hL; exact h); have zg := hbg.size; go_simp; go_at_call 23; exact Calls.mono (PI vb wg hr) (fun e w' h => (by obtain ⟨u, rfl, ho, hb'⟩ := h; exact ⟨u, rfl, Chg.of_below hb', ho.mono zg, fun g hg => (by first | exact ⟨ho.base_le g hg, ho.lt g hg⟩ | exact .inr ⟨ho.base_le g hg, ho.lt g hg⟩)⟩)))); intro vc; simp only [Act.put, List.setIfInBounds_toArray, List.set_cons_succ, List.set_cons_zero]
      apply O.wpG_make; (focus rfl); (focus (intro wg Bg hbg hBg hFg; have hL : lentS wx.heap.size wx.heap.size pB esA bsA x vb (Bg 5) wg := hFg 5 (by decide +kernel); have hN : newN wr.heap.size X2 vc (Bg 8) wg := hFg 8 (by decide +kernel); go_simp; go_at_call 27; exact Calls.mono (keepB_book _ _ _ _ _ _ (Bg 5) x vb vc X2 hL (hN.1.mono zw) (fun g hg hs => absurd (hBg.apart 5 8 g hs (hN.2 g hg)) (by decide)) (by omega) (by omega)) (fun e w' h => (by obtain ⟨u, rfl, hc, hk⟩ := h; refine ⟨u, rfl, hc.mono (fun k hk => .inl hk), ?_⟩; obtain ⟨q, bs', h1, h2⟩ := hk; exact ⟨q, bs', h1, h2.mono (fun k hk => by rcases hk with (hk | hk) | hk; exact .inl (.inl hk); exact .inl (.inr (hN.2 k hk)); exact .inr hk)⟩)))); intro vd; simp only [Act.put, List.setIfInBounds_toArray, List.set_cons_succ, List.set_cons_zero]
      refine O.wpG_end (fun wg Bg hbg hBg hFg => ?_)
      have hR : keptS wx.heap.size wx.heap.size pB esA bsA vd (Bg 9) wg := hFg 9
      have hbnB := low _ hbg
      obtain ⟨eB, bsB, hlB, hR⟩ := hR
      have hKnB := hR.toAt (N := wg.heap.size) (fun k hk => hBg.hi 9 k hk)
      clear hFg hBg hR hKB hSl hSp low hbg hK hb zw
      replace hK := hKnB
      replace hb := hbnB
      clear hKnB hbnB
      have hesB : (esA ++ [eB]).length = esA.length + 1 := by simp
      generalize esA ++ [eB] = esB at *
      obtain ⟨wr, ewr⟩ : ∃ w', w' = wg := ⟨_, rfl⟩
      subst ewr
      have cx : _ = some v := (X _ hb).cell 0
      have tm0 : True := trivial
      go_upto_region 9 with (first
        | (have _t := tm0; go_at_call 10; refine (F1 _ hb).mono ?_; rintro e wa3 ⟨ua3, rfl, ho, hb1⟩; replace hK := hK.next hb1; replace hb := below_below hb hb1; clear hb1; clear tm0; have tm1 : True := trivial)
        | (have _t := tm1; go_at_call 28; refine (keep_loan' _ _ _ _ _ esB bsB _ x hK ho.rd (by omega) (by omega)).mono ?_; clear hK; rintro e wb3 ⟨ub3, esC, rfl, hesC, hr, hK, hb2⟩; replace hb := hb.trans hb2; clear hb2 ho; clear tm1; have tm2 : True := trivial)
        | (have _t := tm2; go_at_call 24; refine (PF _ _ hr).mono ?_; rintro e wc3 ⟨uc3, rfl, ho, hb3⟩; replace hK := hK.below hb3; replace hb := below_below hb hb3; clear hb3 hr; clear tm2; have tm3 : True := trivial)
        | (have _t := tm3; go_at_call 27; refine (keep_book _ _ _ _ _ esC bsB _ _ hK ho (by omega) (by omega)).mono ?_; clear hK ho; rintro e wd3 ⟨bsC, rfl, hbsC, hK, hb4⟩; replace hb := hb.trans hb4; clear hb4; clear tm3; have tm4 : True := trivial))
      clear cx
      obtain ⟨wr, ewr⟩ : ∃ w', w' = wd3 := ⟨_, rfl⟩
      subst ewr
      obtain ⟨S, hKB, hSl⟩ := KeepAt.toB hK
      have hSp : ∀ k, S k → wx.heap.size ≤ k := fun k hk => (hSl k hk).1
      have zw : pB + 1 ≤ wr.heap.size := KeepAt.pB_lt hK
      go_wp2_with fail
      refine O.region_making 11 (fun | 5 => [100] | 10 => [5, 9] | _ => []) (fun | 4 => some fun _ => newN 0 x | 5 => some fun _ => lentS wx.heap.size wx.heap.size pB esC bsC x | 8 => some fun _ => isV (.string (strB y)) | 9 => some fun _ => newN wr.heap.size X4 | 10 => some fun _ => keptS wx.heap.size wx.heap.size pB esC bsC | _ => none) 5 100 S (KeepB wx.heap.size wx.heap.size pB esC bsC) (by kernel_rfl) (by kernel_rfl) ?_ ?_ ?_ ?_ ?_
      · intro i' S' h' e v'
        match i', h' with
        | 4, h' => cases h'; exact newN_loc _ _ _ _ _
        | 5, h' => cases h'; exact lentS_loc _ _ _ _ _ _ _ _ _
        | 8, h' => cases h'; exact O.isV_loc _ _ _ _
        | 9, h' => cases h'; exact newN_loc _ _ _ _ _
        | 10, h' => cases h'; exact keptS_loc _ _ _ _ _ _ _ _
      · exact KeepB.loc _ _ _ _ _ _ _
      · exact hKB
      · exact fun k hk => (hSl k hk).2
      simp only [List.take_succ_cons, List.take_zero, List.drop_succ_cons, List.drop_zero]
      have low : ∀ wg, Chg S wr.drew wg → Below wx.heap.size wx wg := fun wg hg => hb.trans (show Below wx.heap.size wr wg from ⟨hg.os, hg.tape, hg.output, hg.size, fun k hk => hg.block k (Nat.lt_of_lt_of_le hk hb.size) (fun hm => by have := hSp k hm; omega)⟩)
      (apply O.wpG_pure; (focus rfl); (focus (intro wg Bg hbg hBg hFg; go_simp; (try go_bits); (first | done | exact ⟨rfl, Below.refl _ _⟩ | rfl))); simp only [Act.put, List.setIfInBounds_toArray, List.set_cons_succ, List.set_cons_zero])
      (apply O.wpG_pure; (focus rfl); (focus (intro wg Bg hbg hBg hFg; go_simp; (try go_bits); (first | done | exact ⟨rfl, Below.refl _ _⟩ | rfl))); simp only [Act.put, List.setIfInBounds_toArray, List.set_cons_succ, List.set_cons_zero])
      (apply O.wpG_pure; (focus rfl); (focus (intro wg Bg hbg hBg hFg; go_simp; (try go_bits); (first | done | exact ⟨rfl, Below.refl _ _⟩ | rfl))); simp only [Act.put, List.setIfInBounds_toArray, List.set_cons_succ, List.set_cons_zero])
      (apply O.wpG_pure; (focus rfl); (focus (intro wg Bg hbg hBg hFg; have cx : _ = some v := (X _ (low _ hbg)).cell 0; go_simp; (try go_bits); (first | done | exact ⟨rfl, Below.refl _ _⟩ | rfl))); simp only [Act.put, List.setIfInBounds_toArray, List.set_cons_succ, List.set_cons_zero])
      apply O.wpG_make; (focus rfl); (focus (intro wg Bg hbg hBg hFg; go_simp; go_at_call 10; exact Calls.mono (F1 _ (low _ hbg)) (fun e w' h => (by obtain ⟨u, rfl, ho, hb'⟩ := h; exact ⟨u, rfl, Chg.of_below hb', ho.mono (Nat.zero_le _), fun g hg => (by first | exact ⟨ho.base_le g hg, ho.lt g hg⟩ | exact .inr ⟨ho.base_le g hg, ho.lt g hg⟩)⟩)))); intro va; simp only [Act.put, List.setIfInBounds_toArray, List.set_cons_succ, List.set_cons_zero]
      apply O.wpG_make; (focus rfl); (focus (intro wg Bg hbg hBg hFg; have hN : newN 0 x va (Bg 4) wg := hFg 4 (by decide +kernel); have hO : KeepB wx.heap.size wx.heap.size pB esC bsC (Bg 100) wg := hFg 100 (by decide +kernel); go_simp; go_at_call 28; exact Calls.mono (keepB_loan _ _ _ _ _ _ _ _ x hO hN.1.rd (by omega) (by omega)) (fun e w' h => (by obtain ⟨u, rfl, hc, hl⟩ := h; exact ⟨u, rfl, hc, hl⟩)))); intro vb; simp only [Act.put, List.setIfInBounds_toArray, List.set_cons_succ, List.set_cons_zero]
      (apply O.wpG_pure; (focus rfl); (focus (intro wg Bg hbg hBg hFg; go_simp; (try go_bits); (first | done | exact ⟨rfl, Below.refl _ _⟩ | rfl))); simp only [Act.put, List.setIfInBounds_toArray, List.set_cons_succ, List.set_cons_zero])
      (apply O.wpG_pure; (focus rfl); (focus (intro wg Bg hbg hBg hFg; have cx : _ = some (Value.string (strB k)) := (X _ (low _ hbg)).cell 4; go_simp; (try go_bits); (first | done | exact ⟨rfl, Below.refl _ _⟩ | rfl))); simp only [Act.put, List.setIfInBounds_toArray, List.set_cons_succ, List.set_cons_zero])
      apply O.wpG_make; (focus rfl); (focus (intro wg Bg hbg hBg hFg; go_simp; go_at_call 29; exact Calls.mono (T wg) (fun e w' h => (by obtain ⟨rfl, rfl⟩ := h; exact ⟨_, rfl, Chg.refl _ _, rfl⟩)))); intro vt; simp only [Act.put, List.setIfInBounds_toArray, List.set_cons_succ, List.set_cons_zero]
      apply O.wpG_make; (focus rfl); (focus (intro wg Bg hbg hBg hFg; have hL : lentS wx.heap.size wx.heap.size pB esC bsC x vb (Bg 5) wg := hFg 5 (by decide +kernel); have hT' : vt = .string (strB y) := hFg 8 (by decide +kernel); subst hT'; have hr : Rd wg vb x := (by obtain ⟨_, _, _, h, _⟩ := hL; exact h); have zg := hbg.size; go_simp; go_at_call 26; exact Calls.mono (PT vb wg hr) (fun e w' h => (by obtain ⟨u, rfl, ho, hb'⟩ := h; exact ⟨u, rfl, Chg.of_below hb', ho.mono zg, fun g hg => (by first | exact ⟨ho.base_le g hg, ho.lt g hg⟩ | exact .inr ⟨ho.base_le g hg, ho.lt g hg⟩)⟩)))); intro vc; simp only [Act.put, List.setIfInBounds_toArray, List.set_cons_succ, List.set_cons_zero]
      apply O.wpG_make; (focus rfl); (focus (intro wg Bg hbg hBg hFg; have hL : lentS wx.heap.size wx.heap.size pB esC bsC x vb (Bg 5) wg := hFg 5 (by decide +kernel); have hN : newN wr.heap.size X4 vc (Bg 9) wg := hFg 9 (by decide +kernel); go_simp; go_at_call 27; exact Calls.mono (keepB_book _ _ _ _ _ _ (Bg 5) x vb vc X4 hL (hN.1.mono zw) (fun g hg hs => absurd (hBg.apart 5 9 g hs (hN.2 g hg)) (by decide)) (by omega) (by omega)) (fun e w' h => (by obtain ⟨u, rfl, hc, hk⟩ := h; refine ⟨u, rfl, hc.mono (fun k hk => .inl hk), ?_⟩; obtain ⟨q, bs', h1, h2⟩ := hk; exact ⟨q, bs', h1, h2.mono (fun k hk => by rcases hk with (hk | hk) | hk; exact .inl (.inl hk); exact .inl (.inr (hN.2 k hk)); exact .inr hk)⟩)))); intro vd; simp only [Act.put, List.setIfInBounds_toArray, List.set_cons_succ, List.set_cons_zero]
      refine O.wpG_end (fun wg Bg hbg hBg hFg => ?_)
      have hR : keptS wx.heap.size wx.heap.size pB esC bsC vd (Bg 10) wg := hFg 10
      have hbnD := low _ hbg
      obtain ⟨eD, bsD, hlD, hR⟩ := hR
      have hKnD := hR.toAt (N := wg.heap.size) (fun k hk => hBg.hi 10 k hk)
      clear hFg hBg hR hKB hSl hSp low hbg hK hb zw
      replace hK := hKnD
      replace hb := hbnD
      clear hKnD hbnD
      have hesD : (esC ++ [eD]).length = esC.length + 1 := by simp
      generalize esC ++ [eD] = esD at *
      obtain ⟨wr, ewr⟩ : ∃ w', w' = wg := ⟨_, rfl⟩
      subst ewr
      have tt0 : True := trivial
      go_wp2_with (first
        | (have _t := tt0; go_at_call 10; refine (F2 _ hb).mono ?_; rintro e wa5 ⟨ua5, rfl, ho, hb1⟩; replace hK := hK.next hb1; replace hb := below_below hb hb1; clear hb1; clear tt0; have tt1 : True := trivial)
        | (have _t := tt1; go_at_call 28; refine (keep_loan' _ _ _ _ _ esD bsD _ z hK ho.rd (by omega) (by omega)).mono ?_; clear hK; rintro e wb5 ⟨ub5, esE, rfl, hesE, hr, hK, hb2⟩; replace hb := hb.trans hb2; clear hb2 ho; clear tt1; have tt2 : True := trivial)
        | (have _t := tt2; go_at_call 11; refine (uint_c _ z _ hr (by omega)).mono ?_; rintro e wc5 ⟨uc5, rfl, ho, hb3⟩; replace hK := hK.below hb3; replace hb := below_below hb hb3; clear hb3 hr; clear tt2; have tt3 : True := trivial)
        | (have _t := tt3; go_at_call 27; refine (keep_book _ _ _ _ _ esE bsD _ _ hK ho (by have := uintI_len z; omega) (by omega)).mono ?_; clear hK ho; rintro e wd5 ⟨bsE, rfl, hbsE, hK, hb4⟩; replace hb := hb.trans hb4; clear hb4; clear tt3; have tt4 : True := trivial)
        | (have _t := tt4; go_at_call 10; refine (F2 _ hb).mono ?_; rintro e wa6 ⟨ua6, rfl, ho, hb1⟩; replace hK := hK.next hb1; replace hb := below_below hb hb1; clear hb1; clear tt4; have tt5 : True := trivial)
        | (have _t := tt5; go_at_call 28; refine (keep_loan' _ _ _ _ _ esE bsE _ z hK ho.rd (by omega) (by omega)).mono ?_; clear hK; rintro e wb6 ⟨ub6, esF, rfl, hesF, hr, hK, hb2⟩; replace hb := hb.trans hb2; clear hb2 ho; clear tt5; have tt6 : True := trivial)
        | (have _t := tt6; go_at_call 13; refine (int_c _ z _ hr (by omega)).mono ?_; rintro e wc6 ⟨uc6, rfl, ho, hb3⟩; replace hK := hK.below hb3; replace hb := below_below hb hb3; clear hb3 hr; clear tt6; have tt7 : True := trivial)
        | (have _t := tt7; go_at_call 27; refine (keep_book _ _ _ _ _ esF bsE _ _ hK ho (by have := intI_len z; omega) (by omega)).mono ?_; clear hK ho; rintro e wd6 ⟨bsF, rfl, hbsF, hK, hb4⟩; replace hb := hb.trans hb4; clear hb4; clear tt7; have tt8 : True := trivial)
        | (have _t := tt8; go_at_call 10; refine (F2 _ hb).mono ?_; rintro e wa7 ⟨ua7, rfl, ho, hb1⟩; replace hK := hK.next hb1; replace hb := below_below hb hb1; clear hb1; clear tt8; have tt9 : True := trivial)
        | (have _t := tt9; go_at_call 28; refine (keep_loan' _ _ _ _ _ esF bsF _ z hK ho.rd (by omega) (by omega)).mono ?_; clear hK; rintro e wb7 ⟨ub7, esG, rfl, hesG, hr, hK, hb2⟩; replace hb := hb.trans hb2; clear hb2 ho; clear tt9; have tt10 : True := trivial)
        | (have _t := tt10; go_at_call 15; refine (float_c _ z _ hr (by omega)).mono ?_; rintro e wc7 ⟨uc7, rfl, ho, hb3⟩; replace hK := hK.below hb3; replace hb := below_below hb hb3; clear hb3 hr; clear tt10; have tt11 : True := trivial)
        | (have _t := tt11; go_at_call 27; refine (keep_book _ _ _ _ _ esG bsF _ _ hK ho (by have := floatI_len z; omega) (by omega)).mono ?_; clear hK ho; rintro e wd7 ⟨bsG, rfl, hbsG, hK, hb4⟩; replace hb := hb.trans hb4; clear hb4; clear tt11; have tt12 : True := trivial)
        | (have _t := tt12; go_at_call 10; refine (F2 _ hb).mono ?_; rintro e wa8 ⟨ua8, rfl, ho, hb1⟩; replace hK := hK.next hb1; replace hb := below_below hb hb1; clear hb1; clear tt12; have tt13 : True := trivial)
        | (have _t := tt13; go_at_call 28; refine (keep_loan' _ _ _ _ _ esG bsG _ z hK ho.rd (by omega) (by omega)).mono ?_; clear hK; rintro e wb8 ⟨ub8, esH, rfl, hesH, hr, hK, hb2⟩; replace hb := hb.trans hb2; clear hb2 ho; clear tt13; have tt14 : True := trivial)
        | (have _t := tt14; go_at_call 18; refine (octtext_c _ z 1000 _ hr (by omega) (by omega) (TB _ hb)).mono ?_; rintro e wc8 ⟨uc8, rfl, ho, hb3⟩; replace hK := hK.below hb3; replace hb := below_below hb hb3; clear hb3 hr; clear tt14; have tt15 : True := trivial)
        | (have _t := tt15; go_at_call 27; refine (keep_book _ _ _ _ _ esH bsG _ _ hK ho (by have := textI_len z (1000 : Int).toNat; omega) (by omega)).mono ?_; clear hK ho; rintro e wd8 ⟨bsH, rfl, hbsH, hK, hb4⟩; replace hb := hb.trans hb4; clear hb4; clear tt15; have tt16 : True := trivial))
      exact ⟨⟨j + 1, esH, bsH, by omega, by go_num, by omega, by omega, hK, hb⟩, by simp [intOf]; omega⟩
    · have q1 : ¬ (j : Int) < 2 := by omega
      have tu0 : True := trivial
      go_wp2_with (first
        | (have _t := tu0; go_at_call 30; refine (keep_back _ _ _ _ _ es bs hK (by omega)).mono ?_; clear hK; rintro e w1 ⟨rfl, ⟨SB, hBk⟩, hb1⟩; replace hb := hb.trans hb1; clear hb1; clear tu0; have tu1 : True := trivial)
        | (have _t := tu1; go_at_call 31; refine (bkclose_c _ _ _ SB bs hBk (by omega)).mono ?_; clear hBk; rintro e w2 ⟨rfl, hb2⟩; replace hb := hb.trans hb2; clear hb2; clear tu1; have tu2 : True := trivial)
        | (have _t := tu2; go_at_call 20; refine (wakes1_c _).mono ?_; rintro e w3 ⟨rfl, hb3⟩; replace hb := below_below hb hb3; clear hb3; clear tu2; have tu3 : True := trivial))
      go_ret
      exact ⟨rfl, below_below hbx hb⟩
theorem octetOwn_w (w : World) (hT : Tabs w) (va : Value) (la : List UInt8) (ha : Rd w va la) (n : Int) (hn : 0 ≤ n ∧ n < 18446744073709551616) (i : Int) (hi : -9223372036854775808 ≤ i ∧ i ≤ 9223372036854775807) (f : Int) (hf : 0 ≤ f ∧ f < 18446744073709551616) (s : ByteArray) (hs : s.size ≤ maxLen) (v : Value) (l : List UInt8) (h : Rd w v l) :
    Calls Tryd.prog 5 #[.agg #[va, .int .u64 n, .int .i64 i, .int .u64 f, .string s], v] w (Ok w) := by
  obtain ⟨n, rfl⟩ := Int.eq_ofNat_of_zero_le hn.1
  obtain ⟨f, rfl⟩ := Int.eq_ofNat_of_zero_le hf.1
  have e : s = strB s.data.toList := rfl
  rw [e]
  exact octetOwn_c w hT va la ha n (by omega) i hi f _ (by unfold maxLen at hs; have : s.data.toList.length = s.size := rfl; omega) v l h
end Go.Proofs.YtpjpmgpehpigaabDoor
