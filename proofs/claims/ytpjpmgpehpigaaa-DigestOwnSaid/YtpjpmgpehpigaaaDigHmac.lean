/- DigestHmac. -/
import Derived.Test.YtpjpmgpehpigaaaGrowMore
import Derived.Test.YtpjpmgpehpigaaaRefHmac
import Derived.Test.YtpjpmgpehpigaaaDigWakes
import Derived.Test.YtpjpmgpehpigaaaArrEq
set_option linter.unusedVariables false
set_option linter.unusedSimpArgs false
namespace Go.Proofs.Ytpjpmgpehpigaaa
open Go.RowKit
theorem hmac_zero (k m : List UInt8) (h : k.length < 64) : hmacI (k ++ [0]) m = hmacI k m := by
  have h1 : keyB k = k := by unfold keyB; rw [if_neg (by omega)]
  have h2 : keyB (k ++ [0]) = k ++ [0] := by unfold keyB; rw [if_neg (by simp; omega)]
  have h3 : over (List.replicate 64 0) (keyB (k ++ [0])) = over (List.replicate 64 0) (keyB k) := by
    rw [h1, h2, over_zero _ (by simp; omega), over_zero _ (by omega)]
    rw [show 64 - k.length = (64 - (k ++ [0]).length) + 1 by simp; omega, List.replicate_succ]
    simp
  unfold hmacI padX
  rw [h3]
set_option maxRecDepth 100000 in
set_option maxHeartbeats 800000 in
theorem digestHmac_w (w : World) (v : Value) (l : List UInt8) (h : Rd w v l) (v' : Value) (l' : List UInt8) (h' : Rd w v' l') :
    Calls Try.prog 9 #[v, v'] w (Ok w) := by
  have F1 := fun w1 (hb : Below w.heap.size w w1) => few5_c v l w1 (h.below hb)
  have F2 := fun w1 (hb : Below w.heap.size w w1) => few5_c v' l' w1 (h'.below hb)
  have hk : (l.take 1000).length ≤ 1000 := by simp; omega
  have hm : (l'.take 1000).length ≤ 1000 := by simp; omega
  have ht : (l.take 1000).take 1000 = l.take 1000 := by rw [List.take_take]; simp
  generalize l.take 1000 = k at *
  generalize l'.take 1000 = m at *
  have F3 := fun v1 w1 (hv : Rd w1 v1 k) => few5_c v1 k w1 hv
  rw [ht] at F3
  clear ht
  unfold Gives8 at F1 F2 F3
  have HM := fun v1 v2 w1 h1 h2 => hmac_c v1 v2 k m w1 h1 h2 (by omega) (by omega)
  have HZ := fun (hlt : k.length < 64) v1 v2 w1 h1 h2 => hmac_c v1 v2 (k ++ [0]) m w1 h1 h2 (by simp; omega) (by omega)
  have HZe := fun (hlt : k.length < 64) => hmac_zero k m hlt
  have HR := fun v1 v2 w1 h1 h2 => refhmac_c v1 v2 k m w1 h1 h2 (by omega) (by omega)
  have hls := hmacI_len k m
  have nS : (bvs (hmacI k m)).length = 32 := by rw [bvs_length]; exact hls
  have oS := bvs_one (hmacI k m)
  generalize hmacI k m = s at *
  unfold GivesB at HM HR
  have hE : ∀ w', (Op.equalIn 10000 33 (.agg (bvs s).toArray) (.agg (bvs s).toArray)).run Try.prog w' = .ok true w' := fun w' => by rw [eq32_run w' s s hls hls]; simp
  generalize hS : bvs s = S at *
  go_enter Try.func9, Try.ntmps9
  go_wp2_with fail
  refine (F1 w (Below.refl _ _)).mono ?_
  rintro e w1 ⟨v1, rfl, ho1, hb1⟩
  go_wp2_with fail
  refine (F3 _ _ ho1.rd).mono ?_
  rintro e w2 ⟨v2, rfl, ho2, hb2⟩
  have hb12 := below_below hb1 hb2
  go_wp2_with fail
  refine (F2 _ hb12).mono ?_
  rintro e w3 ⟨v3, rfl, ho3, hb3⟩
  have hb13 := below_below hb12 hb3
  go_wp2_with fail
  refine (HM _ _ _ (ho2.rd.below hb3) ho3.rd).mono ?_
  rintro e w4 ⟨rfl, hb4⟩
  have hb14 := below_below hb13 hb4
  have hR1 := ((ho1.rd.below hb2).below hb3).below hb4
  clear ho1 ho2 ho3 hb1 hb2 hb3 hb12 hb13
  go_wp2_with (first
    | ((with_reducible refine G_alloc ?_; refine L_alloc z32 ?_); intro w5 hk5 hb5 hs5; clear hs5)
    | ((with_reducible refine G_store ?_; refine L_store_agg ag32 (by with_unfolding_all (conv => lhs; whnf)) (by with_unfolding_all (conv => lhs; whnf)) hk5 rfl (by simpa using nS) (fun u hu => oS u (by simpa using hu)) ?_); intro w6 hk6 hg6 hs6; replace hk6 : Blk w6 w4.heap.size _ S := (by simpa using hk6)))
  have hb16 := (below_below hb14 hb5).grown hg6 (below_below hb14 hb5).size (by intro k hk; cases hk; exact hb14.size)
  have hR6 := (hR1.below hb5).grown hg6 (fun hn e => by have := hR1.lt _ e hn; omega)
  generalize w4.heap.size = g6 at *
  clear hk5 hg6 hb5 hs6 hb14 hb4 hR1
  refine region_making 6 (fun _ => []) (fun | 3 => some fun _ => new8 5 m | 4 => some fun _ => isV (.agg S.toArray) | _ => none) (by kernel_rfl) (by kernel_rfl) ?_ ?_
  · intro i' S' h' e v'
    match i', h' with
    | 3, h' => cases h'; exact new8_loc _ _ _ _
    | 4, h' => cases h'; exact isV_loc _ _ _
  simp only [List.take_succ_cons, List.take_zero, List.drop_succ_cons, List.drop_zero]
  (apply wpG_pure; (focus rfl); (focus (intro wg Bg hbg hBg hFg; exact pureTo_load_agg ag32 (by with_unfolding_all (conv => lhs; whnf)) (hk6.drew.below hbg) nS)); simp only [Act.put, List.setIfInBounds_toArray, List.set_cons_succ, List.set_cons_zero])
  (apply wpG_pure; (focus rfl); (focus (intro wg Bg hbg hBg hFg; go_simp; (try go_bits); (first | done | exact ⟨rfl, Below.refl _ _⟩ | rfl))); simp only [Act.put, List.setIfInBounds_toArray, List.set_cons_succ, List.set_cons_zero])
  (apply wpG_pure; (focus rfl); (focus (intro wg Bg hbg hBg hFg; go_simp; (try go_bits); (first | done | exact ⟨rfl, Below.refl _ _⟩ | rfl))); simp only [Act.put, List.setIfInBounds_toArray, List.set_cons_succ, List.set_cons_zero])
  (apply wpG_make; (focus rfl); (focus (intro wg Bg hbg hBg hFg; go_simp; go_at_call 22; exact Calls.mono (F2 _ (below_below hb16.drew hbg)) (fun e w' h => (by obtain ⟨u, rfl, ho, hb⟩ := h; exact ⟨u, rfl, Chg.of_below hb, ⟨ho.mono (Nat.zero_le _), fun g hg => (by first | exact .inr ⟨ho.base_le g hg, ho.lt g hg⟩ | exact ⟨ho.base_le g hg, ho.lt g hg⟩)⟩⟩)))); intro vf; simp only [Act.put, List.setIfInBounds_toArray, List.set_cons_succ, List.set_cons_zero])
  (apply wpG_make; (focus rfl); (focus (intro wg Bg hbg hBg hFg; go_simp; go_at_call 27; exact Calls.mono (HR _ vf _ (hR6.drew.below hbg) (Own8.rd (hFg 3 (by decide +kernel) : new8 5 m vf (Bg 3) wg).1)) (fun e w' h => ⟨_, h.1, Chg.of_below h.2, rfl⟩))); intro vB; simp only [Act.put, List.setIfInBounds_toArray, List.set_cons_succ, List.set_cons_zero])
  (apply wpG_pure; (focus rfl); (focus (intro wg Bg hbg hBg hFg; (have e1 : vB = .agg S.toArray := hFg 4 (by decide +kernel); subst e1); go_simp; (try go_bits); (first | done | exact ⟨rfl, Below.refl _ _⟩ | rfl))); simp only [Act.put, List.setIfInBounds_toArray, List.set_cons_succ, List.set_cons_zero])
  refine wpG_end (fun wg Bg hbg hBg hFg => ?_)
  clear hFg hBg
  have hk7 := hk6.drew.below hbg
  have hR7 := hR6.drew.below hbg
  have hb17 := below_below hb16.drew hbg
  clear hbg hk6 hR6 hb16
  have hkl : (k.length : Int) ≤ 1000 := by omega
  by_cases hlt : 64 ≤ k.length
  · have q1 : (64 : Int) ≤ k.length := by omega
    clear HZ HZe F1 F3 HM HR h h'
    go_wp2
    refine region_making 18 (fun _ => []) (fun _ => none) (by kernel_rfl) (by kernel_rfl) ?_ ?_
    · intro i S h; cases h
    simp only [List.take_succ_cons, List.take_zero, List.drop_succ_cons, List.drop_zero]
    (apply wpG_pure; (focus rfl); (focus (intro wg Bg hbg hBg hFg; go_simp; (try go_bits); (first | done | exact ⟨rfl, Below.refl _ _⟩ | rfl))); simp only [Act.put, List.setIfInBounds_toArray, List.set_cons_succ, List.set_cons_zero])
    (refine wpG_len rfl Try.underlying23 (by with_unfolding_all (conv => lhs; whnf)) hR7 ?_; simp only [Act.put, List.setIfInBounds_toArray, List.set_cons_succ, List.set_cons_zero])
    repeat (apply wpG_pure; (focus rfl); (focus (intro wg Bg hbg hBg hFg; go_simp; (try go_bits); (first | done | exact ⟨rfl, Below.refl _ _⟩ | rfl))); simp only [Act.put, List.setIfInBounds_toArray, List.set_cons_succ, List.set_cons_zero])
    (apply wpG_pure; (focus rfl); (focus (intro wg Bg hbg hBg hFg; go_simp; (try refine ⟨by kernel_rfl, ?_⟩); go_at_call 24; exact Calls.mono (wakes5_c _) (fun e w' h => (by obtain ⟨rfl, hb⟩ := h; exact ⟨rfl, hb⟩)))); simp only [Act.put, List.setIfInBounds_toArray, List.set_cons_succ, List.set_cons_zero])
    repeat (apply wpG_pure; (focus rfl); (focus (intro wg Bg hbg hBg hFg; go_simp; (try go_bits); (first | done | exact ⟨rfl, Below.refl _ _⟩ | rfl))); simp only [Act.put, List.setIfInBounds_toArray, List.set_cons_succ, List.set_cons_zero])
    refine wpG_end (fun wg2 Bg hbg hBg hFg => ?_)
    go_wp2
    go_ret
    exact ⟨rfl, below_below hb17.drew hbg⟩
  · have q1 : ¬ (64 : Int) ≤ k.length := by omega
    have hlt' : k.length < 64 := by omega
    replace HZ := HZ hlt'
    unfold GivesB at HZ
    simp only [HZe hlt', hS] at HZ
    clear HZe F1 HM HR h h'
    go_wp2
    refine region_making 18 (fun | 7 => [5] | _ => []) (fun | 5 => some fun _ => new8 5 k | 6 => some fun _ => new8 5 [0] | 7 => some fun _ => new8 5 (k ++ [0]) | 9 => some fun _ => new8 5 m | 10 => some fun _ => isV (.agg S.toArray) | _ => none) (by kernel_rfl) (by kernel_rfl) ?_ ?_
    · intro i' S' h' e v'
      match i', h' with
      | 5, h' => cases h'; exact new8_loc _ _ _ _
      | 6, h' => cases h'; exact new8_loc _ _ _ _
      | 7, h' => cases h'; exact new8_loc _ _ _ _
      | 9, h' => cases h'; exact new8_loc _ _ _ _
      | 10, h' => cases h'; exact isV_loc _ _ _
    simp only [List.take_succ_cons, List.take_zero, List.drop_succ_cons, List.drop_zero]
    (apply wpG_pure; (focus rfl); (focus (intro wg Bg hbg hBg hFg; go_simp; (try go_bits); (first | done | exact ⟨rfl, Below.refl _ _⟩ | rfl))); simp only [Act.put, List.setIfInBounds_toArray, List.set_cons_succ, List.set_cons_zero])
    (refine wpG_len rfl Try.underlying23 (by with_unfolding_all (conv => lhs; whnf)) hR7 ?_; simp only [Act.put, List.setIfInBounds_toArray, List.set_cons_succ, List.set_cons_zero])
    (apply wpG_pure; (focus rfl); (focus (intro wg Bg hbg hBg hFg; go_simp; (try go_bits); (first | done | exact ⟨rfl, Below.refl _ _⟩ | rfl))); simp only [Act.put, List.setIfInBounds_toArray, List.set_cons_succ, List.set_cons_zero])
    (apply wpG_pure; (focus rfl); (focus (intro wg Bg hbg hBg hFg; go_simp; (try go_bits); (first | done | exact ⟨rfl, Below.refl _ _⟩ | rfl))); simp only [Act.put, List.setIfInBounds_toArray, List.set_cons_succ, List.set_cons_zero])
    (apply wpG_pure; (focus rfl); (focus (intro wg Bg hbg hBg hFg; go_simp; (try go_bits); (first | done | exact ⟨rfl, Below.refl _ _⟩ | rfl))); simp only [Act.put, List.setIfInBounds_toArray, List.set_cons_succ, List.set_cons_zero])
    (apply wpG_make; (focus rfl); (focus (intro wg Bg hbg hBg hFg; go_simp; go_at_call 22; exact Calls.mono (F3 _ _ (hR7.drew.below hbg)) (fun e w' h => (by obtain ⟨u, rfl, ho, hb⟩ := h; exact ⟨u, rfl, Chg.of_below hb, ⟨ho.mono (Nat.zero_le _), fun g hg => (by first | exact .inr ⟨ho.base_le g hg, ho.lt g hg⟩ | exact ⟨ho.base_le g hg, ho.lt g hg⟩)⟩⟩)))); intro va; simp only [Act.put, List.setIfInBounds_toArray, List.set_cons_succ, List.set_cons_zero])
    (apply wpG_make; (focus rfl); (focus (intro wg Bg hbg hBg hFg; refine goesTo_lit (n := 1) (by go_simp) [0] rfl (by decide) (by go_simp; first | done | rfl | exact ⟨rfl, rfl⟩))); intro vb; simp only [Act.put, List.setIfInBounds_toArray, List.set_cons_succ, List.set_cons_zero])
    (apply wpG_make; (focus rfl); (focus (intro wg Bg hbg hBg hFg; have hN := hFg 5 (by decide +kernel); refine goesTo_app8w (by go_simp) _ _ rfl st8 (by with_unfolding_all (conv => lhs; whnf)) (id hN).1 (by with_unfolding_all (conv => lhs; whnf)) (Rd.src (Own8.rd (hFg 6 (by decide +kernel) : new8 5 [0] vb (Bg 6) wg).1) Try.underlying23) (by first | omega | (simp; omega)) (Nat.zero_le _) (fun g hg => ⟨5, by simp, (id hN).2 g hg⟩))); intro vc; simp only [Act.put, List.setIfInBounds_toArray, List.set_cons_succ, List.set_cons_zero])
    (apply wpG_pure; (focus rfl); (focus (intro wg Bg hbg hBg hFg; go_simp; (try go_bits); (first | done | exact ⟨rfl, Below.refl _ _⟩ | rfl))); simp only [Act.put, List.setIfInBounds_toArray, List.set_cons_succ, List.set_cons_zero])
    (apply wpG_make; (focus rfl); (focus (intro wg Bg hbg hBg hFg; go_simp; go_at_call 22; exact Calls.mono (F2 _ (below_below hb17.drew hbg)) (fun e w' h => (by obtain ⟨u, rfl, ho, hb⟩ := h; exact ⟨u, rfl, Chg.of_below hb, ⟨ho.mono (Nat.zero_le _), fun g hg => (by first | exact .inr ⟨ho.base_le g hg, ho.lt g hg⟩ | exact ⟨ho.base_le g hg, ho.lt g hg⟩)⟩⟩)))); intro vd; simp only [Act.put, List.setIfInBounds_toArray, List.set_cons_succ, List.set_cons_zero])
    (apply wpG_make; (focus rfl); (focus (intro wg Bg hbg hBg hFg; go_simp; go_at_call 26; exact Calls.mono (HZ _ _ _ (Own8.rd (hFg 7 (by decide +kernel) : new8 5 (k ++ [0]) vc (Bg 7) wg).1) (Own8.rd (hFg 9 (by decide +kernel) : new8 5 m vd (Bg 9) wg).1)) (fun e w' h => ⟨_, h.1, Chg.of_below h.2, rfl⟩))); intro vB2; simp only [Act.put, List.setIfInBounds_toArray, List.set_cons_succ, List.set_cons_zero])
    (apply wpG_pure; (focus rfl); (focus (intro wg Bg hbg hBg hFg; exact pureTo_load_aggw (by go_simp) ag32 (by with_unfolding_all (conv => lhs; whnf)) (hk7.drew.below hbg) nS)); simp only [Act.put, List.setIfInBounds_toArray, List.set_cons_succ, List.set_cons_zero])
    (apply wpG_pure; (focus rfl); (focus (intro wg Bg hbg hBg hFg; (have e1 : vB2 = .agg S.toArray := hFg 10 (by decide +kernel); subst e1); go_simp; (try go_bits); (first | done | exact ⟨rfl, Below.refl _ _⟩ | rfl))); simp only [Act.put, List.setIfInBounds_toArray, List.set_cons_succ, List.set_cons_zero])
    (apply wpG_pure; (focus rfl); (focus (intro wg Bg hbg hBg hFg; go_simp; (try go_bits); (first | done | exact ⟨rfl, Below.refl _ _⟩ | rfl))); simp only [Act.put, List.setIfInBounds_toArray, List.set_cons_succ, List.set_cons_zero])
    (apply wpG_pure; (focus rfl); (focus (intro wg Bg hbg hBg hFg; go_simp; (try go_bits); (first | done | exact ⟨rfl, Below.refl _ _⟩ | rfl))); simp only [Act.put, List.setIfInBounds_toArray, List.set_cons_succ, List.set_cons_zero])
    (apply wpG_pure; (focus rfl); (focus (intro wg Bg hbg hBg hFg; go_simp; (try refine ⟨by kernel_rfl, ?_⟩); go_at_call 24; exact Calls.mono (wakes5_c _) (fun e w' h => (by obtain ⟨rfl, hb⟩ := h; exact ⟨rfl, hb⟩)))); simp only [Act.put, List.setIfInBounds_toArray, List.set_cons_succ, List.set_cons_zero])
    repeat (apply wpG_pure; (focus rfl); (focus (intro wg Bg hbg hBg hFg; go_simp; (try go_bits); (first | done | exact ⟨rfl, Below.refl _ _⟩ | rfl))); simp only [Act.put, List.setIfInBounds_toArray, List.set_cons_succ, List.set_cons_zero])
    refine wpG_end (fun wg2 Bg hbg hBg hFg => ?_)
    go_wp2
    go_ret
    exact ⟨rfl, below_below hb17.drew hbg⟩
end Go.Proofs.Ytpjpmgpehpigaaa
