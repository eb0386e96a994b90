/- DigestLong. -/
import Derived.Test.YtpjpmgpehpigaaaDigHmac
set_option linter.unusedVariables false
set_option linter.unusedSimpArgs false
namespace Go.Proofs.Ytpjpmgpehpigaaa
open Go.RowKit
theorem hmac_long (k m : List UInt8) (h : 64 < k.length) : hmacI (shaI k) m = hmacI k m := by
  have h1 : keyB k = shaI k := by unfold keyB; rw [if_pos h]
  have h2 : keyB (shaI k) = shaI k := by unfold keyB; rw [if_neg (by rw [shaI_len]; omega)]
  unfold hmacI padX
  rw [h1, h2]
def LK (w : World) (v : Value) (wr : World) : Prop := ∃ L : List UInt8, L.length ≤ 1000 ∧ Own8 wr w.heap.size 5 v L ∧ Below w.heap.size w wr
set_option maxRecDepth 100000 in
set_option maxHeartbeats 800000 in
theorem digestLong_w (w : World) (v : Value) (l : List UInt8) (h : Rd w v l) (v' : Value) (l' : List UInt8) (h' : Rd w v' l') :
    Calls Try.prog 10 #[v, v'] w (Ok w) := by
  have F2 := fun w1 (hb : Below w.heap.size w w1) => few5_c v' l' w1 (h'.below hb)
  have hk : (l.take 1000).length ≤ 1000 := by simp; omega
  have hm : (l'.take 1000).length ≤ 1000 := by simp; omega
  have F1 := few5_c v l w h
  generalize l.take 1000 = k at *
  generalize l'.take 1000 = m at *
  unfold Gives8 at F2
  go_enter Try.func10, Try.ntmps10
  go_wp2_with fail
  refine F1.mono ?_
  rintro e w1 ⟨v1, rfl, ho1, hb1⟩
  go_wp2_with fail
  go_loopw [5] (fun v wr => LK w v wr) (fun v _ => 65 - slen v)
  case atStart => exact ⟨k, hk, ho1, hb1⟩
  case round =>
    clear ho1 hb1 F1 h
    obtain ⟨L, hL, ho, hbr⟩ := hrel
    have hRd := ho.rd
    have hbs := hbr.size
    by_cases hlt : L.length ≤ 64
    · have q0 : (L.length : Int) ≤ 64 := by omega
      have q1 : (0 : Int) ≤ L.length := by omega
      go_wp2_with (first | (with_reducible refine G_len ?_; refine L8_len Try.underlying23 (by with_unfolding_all (conv => lhs; whnf)) (by assumption) ?_) | ((at_builtin; refine wpList_app8 rfl _ _ rfl st8 (by with_unfolding_all (conv => lhs; whnf)) (Own8.below ho ((Below.refl _ _).alloc (Nat.le_refl _) _)) rfl (Rd.src (Rd.lit _ _ _ [UInt8.ofNat L.length] (by simp [bvs, bv]; omega) rfl (by omega) (by decide)) Try.underlying23) (by first | omega | (simp; omega)) (by first | (simp; done) | omega | (simp; omega)) ?_); intro v3 w3 ho3 hg3 hb3))
      have hw := app_step hbr ho (Nat.le_refl _) hg3
      refine ⟨⟨_, by simp; omega, ho3, hw.1⟩, ?_⟩
      rw [hRd.slen, ho3.rd.slen]; simp; omega
    · have q0 : ¬ (L.length : Int) ≤ 64 := by omega
      have q1 : (0 : Int) ≤ L.length := by omega
      have SH := fun v1 w1 hv => sha_c v1 L w1 hv (by omega)
      have HM1 := fun v1 v2 w1 h1 h2 => hmac_c v1 v2 L m w1 h1 h2 (by omega) (by omega)
      have HM2 := fun v1 v2 w1 h1 h2 => hmac_c v1 v2 (shaI L) m w1 h1 h2 (by rw [shaI_len]; omega) (by omega)
      simp only [hmac_long L m (by omega)] at HM2
      have n1 := shaI_len L
      have nS : (bvs (shaI L)).length = 32 := by rw [bvs_length]; exact n1
      have oS := bvs_one (shaI L)
      generalize shaI L = H at *
      have n2 := hmacI_len L m
      generalize hmacI L m = s at *
      have hE : ∀ w', (Op.equalIn 10000 33 (.agg (bvs s).toArray) (.agg (bvs s).toArray)).run Try.prog w' = .ok true w' := fun w' => by rw [eq32_run w' s s n2 n2]; simp
      generalize hS : bvs s = S at *
      unfold GivesB at SH HM1 HM2
      rw [hS] at HM1 HM2
      have h1 := hRd.below ((Below.refl wr.heap.size wr).alloc (Nat.le_refl _) (.cells #[] 5))
      go_wp2_with (first
        | (with_reducible refine G_len ?_; refine L8_len Try.underlying23 (by with_unfolding_all (conv => lhs; whnf)) (by assumption) ?_)
        | ((at_builtin; refine wpList_app8 rfl _ _ rfl st8 (by with_unfolding_all (conv => lhs; whnf)) (Own8.empty wr wr.heap.size _ (Nat.le_refl _)) rfl (Rd.src h1 Try.underlying23) (by first | omega | (simp; omega)) (by first | (simp; done) | omega | (simp; omega)) ?_); intro v3 w3 ho3 hg3 hb3)
        | (go_at_call 21; refine (SH _ _ ho3.rd).mono ?_; rintro e w4 ⟨rfl, hb4⟩)
        | ((with_reducible refine G_alloc ?_; refine L_alloc z32 ?_); intro w5 hk5 hb5 hs5; clear hs5)
        | ((with_reducible refine G_store ?_; refine L_store_agg ag32 (by with_unfolding_all (conv => lhs; whnf)) (by with_unfolding_all (conv => lhs; whnf)) hk5 rfl (by simpa using nS) (fun u hu => oS u (by simpa using hu)) ?_); intro w6 hk6 hg6 hs6; replace hk6 : Blk w6 w4.heap.size _ (bvs H) := (by simpa using hk6)))
      simp only [List.nil_append] at ho3
      have hbA := below_below hbr ((Below.refl wr.heap.size wr).alloc (Nat.le_refl _) (.cells #[] 5))
      have hw := app_step0 hbA (Own8.empty wr wr.heap.size 5 (Nat.le_refl _)) hbs hg3
      have hR3 := rd_app hRd hg3 (fun _ e => Nat.lt_irrefl _ (ho.lt wr.heap.size e))
      have hb14 := below_below hw.1 hb4
      have hR4 := hR3.below hb4
      have hb16 := (below_below hb14 hb5).grown hg6 (below_below hb14 hb5).size (by intro k hk; cases hk; exact hb14.size)
      have hR6 := (hR4.below hb5).grown hg6 (fun hn e => by have := hR4.lt _ e hn; omega)
      generalize w4.heap.size = g6 at *
      clear hw hbA hb14 hR3 hR4 hb4 hb5 hk5 hg6 hs6 hg3 hb3 ho3 ho hRd hbr hbs h1 SH h'
      refine region_making 17 (fun | 2 => [0] | 8 => [6] | _ => []) (fun | 0 => some fun _ => new8 5 [] | 2 => some fun _ => new8 5 ([] ++ L) | 4 => some fun _ => new8 5 m | 5 => some fun _ => isV (.agg S.toArray) | 6 => some fun _ => new8 5 [] | 8 => some fun _ => new8 5 ([] ++ H) | 10 => some fun _ => new8 5 m | 11 => some fun _ => isV (.agg S.toArray) | _ => none) (by kernel_rfl) (by kernel_rfl) ?_ ?_
      · intro i' S' h' e v'
        match i', h' with
        | 0, h' => cases h'; exact new8_loc _ _ _ _
        | 2, h' => cases h'; exact new8_loc _ _ _ _
        | 4, h' => cases h'; exact new8_loc _ _ _ _
        | 5, h' => cases h'; exact isV_loc _ _ _
        | 6, h' => cases h'; exact new8_loc _ _ _ _
        | 8, h' => cases h'; exact new8_loc _ _ _ _
        | 10, h' => cases h'; exact new8_loc _ _ _ _
        | 11, h' => cases h'; exact isV_loc _ _ _
      simp only [List.take_succ_cons, List.take_zero, List.drop_succ_cons, List.drop_zero]
      (apply wpG_make; (focus rfl); (focus (intro wg Bg hbg hBg hFg; refine goesTo_lit (n := 0) (by go_simp) [] rfl (by decide) (by go_simp; first | done | rfl | exact ⟨rfl, rfl⟩))); intro va; simp only [Act.put, List.setIfInBounds_toArray, List.set_cons_succ, List.set_cons_zero])
      (apply wpG_pure; (focus rfl); (focus (intro wg Bg hbg hBg hFg; go_simp; (try go_bits); (first | done | exact ⟨rfl, Below.refl _ _⟩ | rfl))); simp only [Act.put, List.setIfInBounds_toArray, List.set_cons_succ, List.set_cons_zero])
      (apply wpG_make; (focus rfl); (focus (intro wg Bg hbg hBg hFg; have hN := hFg 0 (by decide +kernel); refine goesTo_app8w (by go_simp) _ _ rfl st8 (by with_unfolding_all (conv => lhs; whnf)) (id hN).1 (by with_unfolding_all (conv => lhs; whnf)) (Rd.src (hR6.drew.below hbg) Try.underlying23) (by first | omega | (simp; omega)) (Nat.zero_le _) (fun g hg => ⟨0, by simp, (id hN).2 g hg⟩))); intro vb; simp only [Act.put, List.setIfInBounds_toArray, List.set_cons_succ, List.set_cons_zero])
      (apply wpG_pure; (focus rfl); (focus (intro wg Bg hbg hBg hFg; go_simp; (try go_bits); (first | done | exact ⟨rfl, Below.refl _ _⟩ | rfl))); simp only [Act.put, List.setIfInBounds_toArray, List.set_cons_succ, List.set_cons_zero])
      (apply wpG_make; (focus rfl); (focus (intro wg Bg hbg hBg hFg; go_simp; go_at_call 22; exact Calls.mono (F2 _ (below_below hb16.drew hbg)) (fun e w' h => (by obtain ⟨u, rfl, ho, hb⟩ := h; exact ⟨u, rfl, Chg.of_below hb, ⟨ho.mono (Nat.zero_le _), fun g hg => (by first | exact .inr ⟨ho.base_le g hg, ho.lt g hg⟩ | exact ⟨ho.base_le g hg, ho.lt g hg⟩)⟩⟩)))); intro vc; simp only [Act.put, List.setIfInBounds_toArray, List.set_cons_succ, List.set_cons_zero])
      (apply wpG_make; (focus rfl); (focus (intro wg Bg hbg hBg hFg; go_simp; go_at_call 26; exact Calls.mono (HM1 _ _ _ (Own8.rd (hFg 2 (by decide +kernel) : new8 5 L vb (Bg 2) wg).1) (Own8.rd (hFg 4 (by decide +kernel) : new8 5 m vc (Bg 4) wg).1)) (fun e w' h => ⟨_, h.1, Chg.of_below h.2, rfl⟩))); intro vB; simp only [Act.put, List.setIfInBounds_toArray, List.set_cons_succ, List.set_cons_zero])
      (apply wpG_make; (focus rfl); (focus (intro wg Bg hbg hBg hFg; refine goesTo_lit (n := 0) (by go_simp) [] rfl (by decide) (by go_simp; first | done | rfl | exact ⟨rfl, rfl⟩))); intro vd; simp only [Act.put, List.setIfInBounds_toArray, List.set_cons_succ, List.set_cons_zero])
      (apply wpG_pure; (focus rfl); (focus (intro wg Bg hbg hBg hFg; go_simp; (try go_bits); (first | done | exact ⟨rfl, Below.refl _ _⟩ | rfl))); simp only [Act.put, List.setIfInBounds_toArray, List.set_cons_succ, List.set_cons_zero])
      (apply wpG_make; (focus rfl); (focus (intro wg Bg hbg hBg hFg; have hN := hFg 6 (by decide +kernel); refine goesTo_app8w (by go_simp) _ _ rfl st8 (by with_unfolding_all (conv => lhs; whnf)) (id hN).1 (by with_unfolding_all (conv => lhs; whnf)) (Rd.src ((hk6.drew.below hbg).rd (by omega) n1.symm n1.symm) Try.underlying23) (by first | omega | (simp; omega)) (Nat.zero_le _) (fun g hg => ⟨6, by simp, (id hN).2 g hg⟩))); intro ve; simp only [Act.put, List.setIfInBounds_toArray, List.set_cons_succ, List.set_cons_zero])
      (apply wpG_pure; (focus rfl); (focus (intro wg Bg hbg hBg hFg; go_simp; (try go_bits); (first | done | exact ⟨rfl, Below.refl _ _⟩ | rfl))); simp only [Act.put, List.setIfInBounds_toArray, List.set_cons_succ, List.set_cons_zero])
      (apply wpG_make; (focus rfl); (focus (intro wg Bg hbg hBg hFg; go_simp; go_at_call 22; exact Calls.mono (F2 _ (below_below hb16.drew hbg)) (fun e w' h => (by obtain ⟨u, rfl, ho, hb⟩ := h; exact ⟨u, rfl, Chg.of_below hb, ⟨ho.mono (Nat.zero_le _), fun g hg => (by first | exact .inr ⟨ho.base_le g hg, ho.lt g hg⟩ | exact ⟨ho.base_le g hg, ho.lt g hg⟩)⟩⟩)))); intro vf; simp only [Act.put, List.setIfInBounds_toArray, List.set_cons_succ, List.set_cons_zero])
      (apply wpG_make; (focus rfl); (focus (intro wg Bg hbg hBg hFg; go_simp; go_at_call 26; exact Calls.mono (HM2 _ _ _ (Own8.rd (hFg 8 (by decide +kernel) : new8 5 H ve (Bg 8) wg).1) (Own8.rd (hFg 10 (by decide +kernel) : new8 5 m vf (Bg 10) wg).1)) (fun e w' h => ⟨_, h.1, Chg.of_below h.2, rfl⟩))); intro vB2; simp only [Act.put, List.setIfInBounds_toArray, List.set_cons_succ, List.set_cons_zero])
      (apply wpG_pure; (focus rfl); (focus (intro wg Bg hbg hBg hFg; (have e1 : vB = .agg S.toArray := hFg 5 (by decide +kernel); subst e1); (have e1 : vB2 = .agg S.toArray := hFg 11 (by decide +kernel); subst e1); go_simp; (try go_bits); (first | done | exact ⟨rfl, Below.refl _ _⟩ | rfl))); simp only [Act.put, List.setIfInBounds_toArray, List.set_cons_succ, List.set_cons_zero])
      (apply wpG_pure; (focus rfl); (focus (intro wg Bg hbg hBg hFg; go_simp; (try go_bits); (first | done | exact ⟨rfl, Below.refl _ _⟩ | rfl))); simp only [Act.put, List.setIfInBounds_toArray, List.set_cons_succ, List.set_cons_zero])
      (apply wpG_pure; (focus rfl); (focus (intro wg Bg hbg hBg hFg; go_simp; (try refine ⟨by kernel_rfl, ?_⟩); go_at_call 24; exact Calls.mono (wakes5_c _) (fun e w' h => (by obtain ⟨rfl, hb⟩ := h; exact ⟨rfl, hb⟩)))); simp only [Act.put, List.setIfInBounds_toArray, List.set_cons_succ, List.set_cons_zero])
      repeat (apply wpG_pure; (focus rfl); (focus (intro wg Bg hbg hBg hFg; go_simp; (try go_bits); (first | done | exact ⟨rfl, Below.refl _ _⟩ | rfl))); simp only [Act.put, List.setIfInBounds_toArray, List.set_cons_succ, List.set_cons_zero])
      refine wpG_end (fun wg2 Bg hbg hBg hFg => ?_)
      go_wp2
      go_ret
      exact ⟨rfl, below_below hb16.drew hbg⟩
end Go.Proofs.Ytpjpmgpehpigaaa
