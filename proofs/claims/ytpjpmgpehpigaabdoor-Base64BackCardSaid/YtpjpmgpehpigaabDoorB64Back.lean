/- Base64Back. -/
import Derived.Test.YtpjpmgpehpigaabDoorB64Laws
set_option linter.unusedVariables false
set_option linter.unusedSimpArgs false
namespace Go.Proofs.YtpjpmgpehpigaabDoor
open Go.RowKit
theorem tmodK (m : Int) (L : Int) (h : 0 < L) (hL : L < 1000000000) : ∃ K : Nat, (wrap64 (m.tmod L + L)).tmod L = (K : Int) ∧ (K : Int) < L := by
  have h1 := Int.tmod_lt_of_pos m h
  have h2 := Int.lt_tmod_of_pos m h
  have e : wrap64 (m.tmod L + L) = m.tmod L + L := by unfold wrap64; omega
  rw [e, Int.tmod_eq_emod_of_nonneg (by omega)]
  refine ⟨((m.tmod L + L) % L).toNat, ?_, ?_⟩
  · have := Int.emod_nonneg (m.tmod L + L) (show L ≠ 0 by omega); omega
  · have := Int.emod_lt_of_pos (m.tmod L + L) h; have := Int.emod_nonneg (m.tmod L + L) (show L ≠ 0 by omega); omega
set_option maxRecDepth 100000 in
set_option maxHeartbeats 3200000 in
theorem base64Back_c (w : World) (v : Value) (l : List UInt8) (h : Rd w v l) (k : List UInt8) (hk : k.length ≤ 9223372036854775807) (m : Int) (hm : -9223372036854775808 ≤ m ∧ m ≤ 9223372036854775807) (b : UInt8) :
    Calls Tryd.prog 7 #[.agg #[v, .string (strB k), .int .i64 m, .int .u8 (b.toNat : Int)]] w (Ok w) := by
  have F1 := fun w1 (hb : Below w.heap.size w w1) => few6_c v l w1 (h.below hb)
  have hxl : (l.take 1000).length ≤ 1000 := by simp; omega
  have hkl : (k.take 1000).length ≤ 1000 := by simp; omega
  have T := fun w1 => text_c k 1000 w1 hk (by omega)
  generalize l.take 1000 = x at *
  generalize k.take 1000 = t at *
  clear h hk
  have hL := encL_len x.length x (Nat.le_refl _)
  have D := fun w1 => decode_c (encL x) w1 (by omega)
  rw [decI_enc] at D
  unfold GivesD at D
  simp only at D
  have E := fun v1 w1 h1 => encode_c v1 x w1 h1 (by omega)
  go_enter Tryd.func7, Tryd.ntmps7
  have tok0 : True := trivial
  go_upto_region 1 with (first
    | (have _t := tok0; (with_reducible refine G_box ?_; refine L_box (by with_unfolding_all (conv => lhs; whnf)) ?_); intro w1 hk1 hb1 hs1; clear hs1; clear tok0; have tok1 : True := trivial))
  refine region_making 12 (fun _ => []) (fun _ => none) (by kernel_rfl) (by kernel_rfl) ?_ ?_
  · intro i' S' h' e v'
    cases h'
  simp only [List.take_succ_cons, List.take_zero, List.drop_succ_cons, List.drop_zero]
  (apply wpG_pure; (focus rfl); (focus (intro wg Bg hbg hBg hFg; go_simp; (try go_bits); (first | done | exact ⟨rfl, Below.refl _ _⟩ | rfl))); simp only [Act.put, List.setIfInBounds_toArray, List.set_cons_succ, List.set_cons_zero])
  (apply wpG_pure; (focus rfl); (focus (intro wg Bg hbg hBg hFg; have hc : _ = some v := (hk1.drew.below hbg).cell 0; go_simp; (try go_bits); (first | done | exact ⟨rfl, Below.refl _ _⟩ | rfl))); simp only [Act.put, List.setIfInBounds_toArray, List.set_cons_succ, List.set_cons_zero])
  (apply wpG_pure; (focus rfl); (focus (intro wg Bg hbg hBg hFg; go_simp; (try go_bits); (first | done | exact ⟨rfl, Below.refl _ _⟩ | rfl))); simp only [Act.put, List.setIfInBounds_toArray, List.set_cons_succ, List.set_cons_zero])
  (apply wpG_pure; (focus rfl); (focus (intro wg Bg hbg hBg hFg; have hc : _ = some (Value.string (strB k)) := (hk1.drew.below hbg).cell 1; go_simp; (try go_bits); (first | done | exact ⟨rfl, Below.refl _ _⟩ | rfl))); simp only [Act.put, List.setIfInBounds_toArray, List.set_cons_succ, List.set_cons_zero])
  (apply wpG_pure; (focus rfl); (focus (intro wg Bg hbg hBg hFg; go_simp; (try go_bits); (first | done | exact ⟨rfl, Below.refl _ _⟩ | rfl))); simp only [Act.put, List.setIfInBounds_toArray, List.set_cons_succ, List.set_cons_zero])
  (apply wpG_pure; (focus rfl); (focus (intro wg Bg hbg hBg hFg; have hc : _ = some (Value.int .i64 m) := (hk1.drew.below hbg).cell 2; go_simp; (try go_bits); (first | done | exact ⟨rfl, Below.refl _ _⟩ | rfl))); simp only [Act.put, List.setIfInBounds_toArray, List.set_cons_succ, List.set_cons_zero])
  (apply wpG_pure; (focus rfl); (focus (intro wg Bg hbg hBg hFg; go_simp; (try go_bits); (first | done | exact ⟨rfl, Below.refl _ _⟩ | rfl))); simp only [Act.put, List.setIfInBounds_toArray, List.set_cons_succ, List.set_cons_zero])
  (apply wpG_pure; (focus rfl); (focus (intro wg Bg hbg hBg hFg; have hc : _ = some (Value.int .u8 (b.toNat : Int)) := (hk1.drew.below hbg).cell 3; go_simp; (try go_bits); (first | done | exact ⟨rfl, Below.refl _ _⟩ | rfl))); simp only [Act.put, List.setIfInBounds_toArray, List.set_cons_succ, List.set_cons_zero])
  repeat (apply wpG_pure; (focus rfl); (focus (intro wg Bg hbg hBg hFg; go_simp; (try go_bits); (first | done | exact ⟨rfl, Below.refl _ _⟩ | rfl))); simp only [Act.put, List.setIfInBounds_toArray, List.set_cons_succ, List.set_cons_zero])
  refine wpG_end (fun wg Bg hbg hBg hFg => ?_)
  have hwg := below_below hb1.drew hbg
  clear hFg hBg hk1
  have tok0 : True := trivial
  go_upto_region 4 with (first
    | (have _t := tok0; go_at_call 35; refine (F1 _ hwg).mono ?_; rintro e w2 ⟨v2, rfl, ho2, hb2⟩; have hw2 := below_below hwg hb2; clear tok0; have tok1 : True := trivial)
    | (have _t := tok1; go_at_call 34; refine (E _ _ ho2.rd).mono ?_; rintro e w3 ⟨rfl, hb3⟩; have hw3 := below_below hw2 hb3; clear tok1; have tok2 : True := trivial)
    | (have _t := tok2; go_at_call 32; refine (D _).mono ?_; rintro e w4 ⟨v4, rfl, ho4, hb4⟩; have hw4 := below_below hw3 hb4; have r4 := ho4.rd; clear tok2; have tok3 : True := trivial))
  clear E
  refine region_making 21 (fun _ => []) (fun | 6 => some fun _ => new8 5 x | 14 => some fun _ => new8 5 x | _ => none) (by kernel_rfl) (by kernel_rfl) ?_ ?_
  · intro i' S' h' e v'
    match i', h' with
    | 6, h' => cases h'; exact new8_loc _ _ _ _
    | 14, h' => cases h'; exact new8_loc _ _ _ _
  simp only [List.take_succ_cons, List.take_zero, List.drop_succ_cons, List.drop_zero]
  (apply wpG_pure; (focus rfl); (focus (intro wg Bg hbg hBg hFg; go_simp; (try go_bits); (first | done | exact ⟨rfl, Below.refl _ _⟩ | rfl))); simp only [Act.put, List.setIfInBounds_toArray, List.set_cons_succ, List.set_cons_zero])
  (apply wpG_pure; (focus rfl); (focus (intro wg Bg hbg hBg hFg; go_simp; (try go_bits); (first | done | exact ⟨rfl, Below.refl _ _⟩ | rfl))); simp only [Act.put, List.setIfInBounds_toArray, List.set_cons_succ, List.set_cons_zero])
  (apply wpG_pure; (focus rfl); (focus (intro wg Bg hbg hBg hFg; go_simp; (try go_bits); (first | done | exact ⟨rfl, Below.refl _ _⟩ | rfl))); simp only [Act.put, List.setIfInBounds_toArray, List.set_cons_succ, List.set_cons_zero])
  (apply wpG_pure; (focus rfl); (focus (intro wg Bg hbg hBg hFg; go_simp; (try go_bits); (first | done | exact ⟨rfl, Below.refl _ _⟩ | rfl))); simp only [Act.put, List.setIfInBounds_toArray, List.set_cons_succ, List.set_cons_zero])
  (apply wpG_pure; (focus rfl); (focus (intro wg Bg hbg hBg hFg; have hc := convert_str (r4.drew.below hbg); go_simp; (try go_bits); (first | done | exact ⟨rfl, Below.refl _ _⟩ | rfl))); simp only [Act.put, List.setIfInBounds_toArray, List.set_cons_succ, List.set_cons_zero])
  (apply wpG_pure; (focus rfl); (focus (intro wg Bg hbg hBg hFg; go_simp; (try go_bits); (first | done | exact ⟨rfl, Below.refl _ _⟩ | rfl))); simp only [Act.put, List.setIfInBounds_toArray, List.set_cons_succ, List.set_cons_zero])
  (apply wpG_make; (focus rfl); (focus (intro wg Bg hbg hBg hFg; go_simp; go_at_call 35; exact Calls.mono (F1 _ (below_below hw4.drew hbg)) (fun e w' h => (by obtain ⟨u, rfl, ho, hb⟩ := h; exact ⟨u, rfl, Chg.of_below hb, ⟨ho.mono (Nat.zero_le _), fun g hg => (by first | exact .inr ⟨ho.base_le g hg, ho.lt g hg⟩ | exact ⟨ho.base_le g hg, ho.lt g hg⟩)⟩⟩)))); intro a6; simp only [Act.put, List.setIfInBounds_toArray, List.set_cons_succ, List.set_cons_zero])
  (apply wpG_pure; (focus rfl); (focus (intro wg Bg hbg hBg hFg; have hc := convert_str (Own8.rd (hFg 6 (by decide +kernel) : new8 5 x a6 (Bg 6) wg).1); go_simp; (try go_bits); (first | done | exact ⟨rfl, Below.refl _ _⟩ | rfl))); simp only [Act.put, List.setIfInBounds_toArray, List.set_cons_succ, List.set_cons_zero])
  (apply wpG_pure; (focus rfl); (focus (intro wg Bg hbg hBg hFg; go_simp; (try go_bits); (first | done | exact ⟨rfl, Below.refl _ _⟩ | rfl))); simp only [Act.put, List.setIfInBounds_toArray, List.set_cons_succ, List.set_cons_zero])
  (apply wpG_pure; (focus rfl); (focus (intro wg Bg hbg hBg hFg; go_simp; (try go_bits); (first | done | exact ⟨rfl, Below.refl _ _⟩ | rfl))); simp only [Act.put, List.setIfInBounds_toArray, List.set_cons_succ, List.set_cons_zero])
  (apply wpG_pure; (focus rfl); (focus (intro wg Bg hbg hBg hFg; go_simp; (try go_bits); (first | done | exact ⟨rfl, Below.refl _ _⟩ | rfl))); simp only [Act.put, List.setIfInBounds_toArray, List.set_cons_succ, List.set_cons_zero])
  (apply wpG_pure; (focus rfl); (focus (intro wg Bg hbg hBg hFg; go_simp; (try go_bits); (first | done | exact ⟨rfl, Below.refl _ _⟩ | rfl))); simp only [Act.put, List.setIfInBounds_toArray, List.set_cons_succ, List.set_cons_zero])
  (apply wpG_pure; (focus rfl); (focus (intro wg Bg hbg hBg hFg; go_simp; (try go_bits); (first | done | exact ⟨rfl, Below.refl _ _⟩ | rfl))); simp only [Act.put, List.setIfInBounds_toArray, List.set_cons_succ, List.set_cons_zero])
  (apply wpG_pure; (focus rfl); (focus (intro wg Bg hbg hBg hFg; go_simp; (try go_bits); (first | done | exact ⟨rfl, Below.refl _ _⟩ | rfl))); simp only [Act.put, List.setIfInBounds_toArray, List.set_cons_succ, List.set_cons_zero])
  (apply wpG_make; (focus rfl); (focus (intro wg Bg hbg hBg hFg; go_simp; go_at_call 35; exact Calls.mono (F1 _ (below_below hw4.drew hbg)) (fun e w' h => (by obtain ⟨u, rfl, ho, hb⟩ := h; exact ⟨u, rfl, Chg.of_below hb, ⟨ho.mono (Nat.zero_le _), fun g hg => (by first | exact .inr ⟨ho.base_le g hg, ho.lt g hg⟩ | exact ⟨ho.base_le g hg, ho.lt g hg⟩)⟩⟩)))); intro a14; simp only [Act.put, List.setIfInBounds_toArray, List.set_cons_succ, List.set_cons_zero])
  (refine wpG_pure rfl (.int .i64 ((x).length : Int)) (fun wg Bg hbg hBg hFg => ?_) ?_; (focus (have hN : new8 5 x _ (Bg 14) wg := hFg 14 (by decide +kernel); obtain ⟨A, c, e, _, _, _⟩ := hN.1.rd.open; subst e; go_simp; (try go_bits); first | done | exact ⟨rfl, Below.refl _ _⟩ | exact Below.refl _ _ | rfl)); simp only [Act.put, List.setIfInBounds_toArray, List.set_cons_succ, List.set_cons_zero])
  have hz : ((strB (encL x)).size : Int) = ((x.length : Int) + 2) / 3 * 4 := by rw [strB_size]; omega
  repeat (apply wpG_pure; (focus rfl); (focus (intro wg Bg hbg hBg hFg; go_simp; (try go_bits); (first | done | exact ⟨rfl, Below.refl _ _⟩ | rfl))); simp only [Act.put, List.setIfInBounds_toArray, List.set_cons_succ, List.set_cons_zero])
  refine wpG_end (fun wr Bg hbg2 hBg hFg => ?_)
  have hwr := below_below hw4.drew hbg2
  have q4 := r4.drew.below hbg2
  clear hFg hBg hz F1 ho4 r4
  have hsz : (strB (encL x)).size = (x.length + 2) / 3 * 4 := by rw [strB_size, hL]
  have hSl : (strB (encL x)).data.toList = encL x := by simp [strB]
  have hstr := strB_toList (encL x)
  by_cases h0 : x.length = 0
  · have q0 : ¬ (0 : Int) < ((strB (encL x)).size : Int) := by omega
    have q1 : ¬ (0 : Nat) < (strB (encL x)).size := by omega
    rcases decI_back t with ⟨e1, e2⟩ | ⟨e1, e2⟩
    · have D2 := fun w1 => decode_c t w1 (by omega)
      have e3 := encL_len _ (decI t).1 (Nat.le_refl _)
      unfold GivesD at D2
      rw [e1] at D2
      have tok0 : True := trivial
      go_wp2_with (first
        | (have _t := tok0; go_at_call 29; refine (T _).mono ?_; rintro e w3 ⟨rfl, rfl⟩; clear tok0; have tok1 : True := trivial)
        | (have _t := tok1; go_at_call 32; refine (D2 _).mono ?_; rintro e w6 ⟨v6, rfl, ho6, hb6⟩; have hw6 := below_below hwr hb6; clear tok1; have tok2 : True := trivial)
        | (have _t := tok2; go_at_call 34; refine (encode_c _ (decI t).1 _ ho6.rd (by rw [e2] at e3; omega)).mono ?_; rintro e w7 ⟨rfl, hb7⟩; rw [e2]; have hw7 := below_below hw6 hb7; clear tok2; have tok3 : True := trivial)
        | (have _t := tok3; go_at_call 37; refine (wakes6_c _).mono ?_; rintro e w8 ⟨rfl, hb8⟩; have hw8 := below_below hw7 hb8; clear tok3; have tok4 : True := trivial))
      go_ret
      exact ⟨rfl, hw8⟩
    · have D2 := fun w1 => decode_c t w1 (by omega)
      unfold GivesD at D2
      rw [e1, e2] at D2
      have tok0 : True := trivial
      go_wp2_with (first
        | (have _t := tok0; go_at_call 29; refine (T _).mono ?_; rintro e w3 ⟨rfl, rfl⟩; clear tok0; have tok1 : True := trivial)
        | (have _t := tok1; go_at_call 32; refine (D2 _).mono ?_; rintro e w6 ⟨v6, rfl, ho6, hb6⟩; have hw6 := below_below hwr hb6; have r6 := ho6.rd; obtain ⟨A6, c6, e6, _, _, _⟩ := r6.open; subst e6; clear tok1; have tok2 : True := trivial)
        | (have _t := tok2; go_at_call 37; refine (wakes6_c _).mono ?_; rintro e w8 ⟨rfl, hb8⟩; have hw8 := below_below hw6 hb8; clear tok2; have tok3 : True := trivial))
      go_ret
      exact ⟨rfl, hw8⟩
  · have hneS : ∀ u, u ≠ encL x → ((strB u).toList == (strB (encL x)).toList) = false := fun u hu => by rw [strB_beq]; exact decide_eq_false hu
    clear hstr
    generalize hS : strB (encL x) = S at *
    obtain ⟨L, hL2⟩ : ∃ L, S.size = L := ⟨_, rfl⟩
    have hLb : 0 < L ∧ L ≤ 2000 := by omega
    have q0 : (0 : Int) < (L : Int) := by omega
    clear hsz
    obtain ⟨K, hK, hK2⟩ := tmodK m (L : Int) (by omega) (by omega)
    have hK3 : K < L := by omega
    have q2 : (0 : Int) ≤ K := by omega
    have hlen : (encL x).length = L := by rw [← hL2, ← hS, strB_size]
    have hul : ((encL x).set K b).length = L := by rw [List.length_set]; exact hlen
    obtain ⟨u, hu⟩ : ∃ u, (encL x).set K b = u := ⟨_, rfl⟩
    rw [hu] at hul
    have DU := fun w1 => decode_c u w1 (by omega)
    unfold GivesD at DU
    rcases decI_back t with ⟨e1, e2⟩ | ⟨e1, e2⟩
    · have D2 := fun w1 => decode_c t w1 (by omega)
      have e3 := encL_len _ (decI t).1 (Nat.le_refl _)
      unfold GivesD at D2
      rw [e1] at D2
      rcases decI_back u with ⟨f1, f2⟩ | ⟨f1, f2⟩
      · rw [f1] at DU
        by_cases hux : u = encL x
        · have hSu : strB u = S := by rw [hux]; exact hS
          have hqq : (S.toList == S.toList) = true := by simp
          rw [hSu] at DU
          have tok0 : True := trivial
          go_wp2_with (first
            | (have _t := tok0; with_reducible refine G_conv ?_; refine L_convb (by with_unfolding_all (conv => lhs; whnf)) (conv_brow _ _ (by omega)) ?_; rintro v7 w7 ⟨c7, rfl, hr7, hb7⟩; rw [hL2, hSl] at hr7; have cK := hr7.cell K hK3; have fK := hr7.frozen K hK3; have hst := hr7.stored K hK3 b; rw [hu] at hst; have hsc := convert_str hst.rd; have hb8 := below_below hwr (hb7.setCell (p := ⟨wr.heap.size, K, none⟩) (Nat.le_refl _) (.int .u8 (b.toNat : Int))); have hr8 := hst.rd; rw [hSu] at hsc; clear tok0; have tok1 : True := trivial))
          refine (DU _).mono ?_
          rintro e w9 ⟨v9, rfl, ho9, hb9⟩
          have hw9 := below_below hb8 hb9
          have hc10 := convert_str (hr8.below hb9)
          rw [hSu] at hc10
          have tok0 : True := trivial
          go_wp2_with (first
            | (have _t := tok0; go_at_call 29; refine (T _).mono ?_; rintro e w3 ⟨rfl, rfl⟩; clear tok0; have tok1 : True := trivial)
            | (have _t := tok1; go_at_call 32; refine (D2 _).mono ?_; rintro e w6 ⟨v6, rfl, ho6, hb6⟩; have hw6 := below_below hw9 hb6; clear tok1; have tok2 : True := trivial)
            | (have _t := tok2; go_at_call 34; refine (encode_c _ (decI t).1 _ ho6.rd (by rw [e2] at e3; omega)).mono ?_; rintro e w7 ⟨rfl, hb7⟩; rw [e2]; have hw7 := below_below hw6 hb7; clear tok2; have tok3 : True := trivial)
            | (have _t := tok3; go_at_call 37; refine (wakes6_c _).mono ?_; rintro e w8 ⟨rfl, hb8⟩; have hw8 := below_below hw7 hb8; clear tok3; have tok4 : True := trivial))
          go_ret
          exact ⟨rfl, hw8⟩
        · have hqq := hneS u hux
          have hdx : (decI u).1 ≠ x := fun e => hux (by rw [← f2, e])
          have hqd : ((strB (decI u).1).toList == (strB x).toList) = false := by rw [strB_beq]; exact decide_eq_false hdx
          have tok0 : True := trivial
          go_wp2_with (first
            | (have _t := tok0; with_reducible refine G_conv ?_; refine L_convb (by with_unfolding_all (conv => lhs; whnf)) (conv_brow _ _ (by omega)) ?_; rintro v7 w7 ⟨c7, rfl, hr7, hb7⟩; rw [hL2, hSl] at hr7; have cK := hr7.cell K hK3; have fK := hr7.frozen K hK3; have hst := hr7.stored K hK3 b; rw [hu] at hst; have hsc := convert_str hst.rd; have hb8 := below_below hwr (hb7.setCell (p := ⟨wr.heap.size, K, none⟩) (Nat.le_refl _) (.int .u8 (b.toNat : Int))); have hr8 := hst.rd; clear tok0; have tok1 : True := trivial))
          refine (DU _).mono ?_
          rintro e w9 ⟨v9, rfl, ho9, hb9⟩
          have hw9 := below_below hb8 hb9
          have hc9 := convert_str ho9.rd
          have hc4 := convert_str ((q4.below (hb7.setCell (p := ⟨wr.heap.size, K, none⟩) (Nat.le_refl _) (.int .u8 (b.toNat : Int)))).below hb9)
          have hc10 := convert_str (hr8.below hb9)
          have tok0 : True := trivial
          go_wp2_with (first
            | (have _t := tok0; go_at_call 29; refine (T _).mono ?_; rintro e w3 ⟨rfl, rfl⟩; clear tok0; have tok1 : True := trivial)
            | (have _t := tok1; go_at_call 32; refine (D2 _).mono ?_; rintro e w6 ⟨v6, rfl, ho6, hb6⟩; have hw6 := below_below hw9 hb6; clear tok1; have tok2 : True := trivial)
            | (have _t := tok2; go_at_call 34; refine (encode_c _ (decI t).1 _ ho6.rd (by rw [e2] at e3; omega)).mono ?_; rintro e w7 ⟨rfl, hb7⟩; rw [e2]; have hw7 := below_below hw6 hb7; clear tok2; have tok3 : True := trivial)
            | (have _t := tok3; go_at_call 37; refine (wakes6_c _).mono ?_; rintro e w8 ⟨rfl, hb8⟩; have hw8 := below_below hw7 hb8; clear tok3; have tok4 : True := trivial))
          go_ret
          exact ⟨rfl, hw8⟩
      · rw [f1] at DU
        have tok0 : True := trivial
        go_wp2_with (first
          | (have _t := tok0; with_reducible refine G_conv ?_; refine L_convb (by with_unfolding_all (conv => lhs; whnf)) (conv_brow _ _ (by omega)) ?_; rintro v7 w7 ⟨c7, rfl, hr7, hb7⟩; rw [hL2, hSl] at hr7; have cK := hr7.cell K hK3; have fK := hr7.frozen K hK3; have hst := hr7.stored K hK3 b; rw [hu] at hst; have hsc := convert_str hst.rd; have hb8 := below_below hwr (hb7.setCell (p := ⟨wr.heap.size, K, none⟩) (Nat.le_refl _) (.int .u8 (b.toNat : Int))); have hr8 := hst.rd; clear tok0; have tok1 : True := trivial))
        refine (DU _).mono ?_
        rintro e w9 ⟨v9, rfl, ho9, hb9⟩
        have hw9 := below_below hb8 hb9
        have tok0 : True := trivial
        go_wp2_with (first
          | (have _t := tok0; go_at_call 29; refine (T _).mono ?_; rintro e w3 ⟨rfl, rfl⟩; clear tok0; have tok1 : True := trivial)
          | (have _t := tok1; go_at_call 32; refine (D2 _).mono ?_; rintro e w6 ⟨v6, rfl, ho6, hb6⟩; have hw6 := below_below hw9 hb6; clear tok1; have tok2 : True := trivial)
          | (have _t := tok2; go_at_call 34; refine (encode_c _ (decI t).1 _ ho6.rd (by rw [e2] at e3; omega)).mono ?_; rintro e w7 ⟨rfl, hb7⟩; rw [e2]; have hw7 := below_below hw6 hb7; clear tok2; have tok3 : True := trivial)
          | (have _t := tok3; go_at_call 37; refine (wakes6_c _).mono ?_; rintro e w8 ⟨rfl, hb8⟩; have hw8 := below_below hw7 hb8; clear tok3; have tok4 : True := trivial))
        go_ret
        exact ⟨rfl, hw8⟩
    · have D2 := fun w1 => decode_c t w1 (by omega)
      unfold GivesD at D2
      rw [e1, e2] at D2
      rcases decI_back u with ⟨f1, f2⟩ | ⟨f1, f2⟩
      · rw [f1] at DU
        by_cases hux : u = encL x
        · have hSu : strB u = S := by rw [hux]; exact hS
          have hqq : (S.toList == S.toList) = true := by simp
          rw [hSu] at DU
          have tok0 : True := trivial
          go_wp2_with (first
            | (have _t := tok0; with_reducible refine G_conv ?_; refine L_convb (by with_unfolding_all (conv => lhs; whnf)) (conv_brow _ _ (by omega)) ?_; rintro v7 w7 ⟨c7, rfl, hr7, hb7⟩; rw [hL2, hSl] at hr7; have cK := hr7.cell K hK3; have fK := hr7.frozen K hK3; have hst := hr7.stored K hK3 b; rw [hu] at hst; have hsc := convert_str hst.rd; have hb8 := below_below hwr (hb7.setCell (p := ⟨wr.heap.size, K, none⟩) (Nat.le_refl _) (.int .u8 (b.toNat : Int))); have hr8 := hst.rd; rw [hSu] at hsc; clear tok0; have tok1 : True := trivial))
          refine (DU _).mono ?_
          rintro e w9 ⟨v9, rfl, ho9, hb9⟩
          have hw9 := below_below hb8 hb9
          have hc10 := convert_str (hr8.below hb9)
          rw [hSu] at hc10
          have tok0 : True := trivial
          go_wp2_with (first
            | (have _t := tok0; go_at_call 29; refine (T _).mono ?_; rintro e w3 ⟨rfl, rfl⟩; clear tok0; have tok1 : True := trivial)
            | (have _t := tok1; go_at_call 32; refine (D2 _).mono ?_; rintro e w6 ⟨v6, rfl, ho6, hb6⟩; have hw6 := below_below hw9 hb6; have r6 := ho6.rd; obtain ⟨A6, c6, e6, _, _, _⟩ := r6.open; subst e6; clear tok1; have tok2 : True := trivial)
            | (have _t := tok2; go_at_call 37; refine (wakes6_c _).mono ?_; rintro e w8 ⟨rfl, hb8⟩; have hw8 := below_below hw6 hb8; clear tok2; have tok3 : True := trivial))
          go_ret
          exact ⟨rfl, hw8⟩
        · have hqq := hneS u hux
          have hdx : (decI u).1 ≠ x := fun e => hux (by rw [← f2, e])
          have hqd : ((strB (decI u).1).toList == (strB x).toList) = false := by rw [strB_beq]; exact decide_eq_false hdx
          have tok0 : True := trivial
          go_wp2_with (first
            | (have _t := tok0; with_reducible refine G_conv ?_; refine L_convb (by with_unfolding_all (conv => lhs; whnf)) (conv_brow _ _ (by omega)) ?_; rintro v7 w7 ⟨c7, rfl, hr7, hb7⟩; rw [hL2, hSl] at hr7; have cK := hr7.cell K hK3; have fK := hr7.frozen K hK3; have hst := hr7.stored K hK3 b; rw [hu] at hst; have hsc := convert_str hst.rd; have hb8 := below_below hwr (hb7.setCell (p := ⟨wr.heap.size, K, none⟩) (Nat.le_refl _) (.int .u8 (b.toNat : Int))); have hr8 := hst.rd; clear tok0; have tok1 : True := trivial))
          refine (DU _).mono ?_
          rintro e w9 ⟨v9, rfl, ho9, hb9⟩
          have hw9 := below_below hb8 hb9
          have hc9 := convert_str ho9.rd
          have hc4 := convert_str ((q4.below (hb7.setCell (p := ⟨wr.heap.size, K, none⟩) (Nat.le_refl _) (.int .u8 (b.toNat : Int)))).below hb9)
          have hc10 := convert_str (hr8.below hb9)
          have tok0 : True := trivial
          go_wp2_with (first
            | (have _t := tok0; go_at_call 29; refine (T _).mono ?_; rintro e w3 ⟨rfl, rfl⟩; clear tok0; have tok1 : True := trivial)
            | (have _t := tok1; go_at_call 32; refine (D2 _).mono ?_; rintro e w6 ⟨v6, rfl, ho6, hb6⟩; have hw6 := below_below hw9 hb6; have r6 := ho6.rd; obtain ⟨A6, c6, e6, _, _, _⟩ := r6.open; subst e6; clear tok1; have tok2 : True := trivial)
            | (have _t := tok2; go_at_call 37; refine (wakes6_c _).mono ?_; rintro e w8 ⟨rfl, hb8⟩; have hw8 := below_below hw6 hb8; clear tok2; have tok3 : True := trivial))
          go_ret
          exact ⟨rfl, hw8⟩
      · rw [f1] at DU
        have tok0 : True := trivial
        go_wp2_with (first
          | (have _t := tok0; with_reducible refine G_conv ?_; refine L_convb (by with_unfolding_all (conv => lhs; whnf)) (conv_brow _ _ (by omega)) ?_; rintro v7 w7 ⟨c7, rfl, hr7, hb7⟩; rw [hL2, hSl] at hr7; have cK := hr7.cell K hK3; have fK := hr7.frozen K hK3; have hst := hr7.stored K hK3 b; rw [hu] at hst; have hsc := convert_str hst.rd; have hb8 := below_below hwr (hb7.setCell (p := ⟨wr.heap.size, K, none⟩) (Nat.le_refl _) (.int .u8 (b.toNat : Int))); have hr8 := hst.rd; clear tok0; have tok1 : True := trivial))
        refine (DU _).mono ?_
        rintro e w9 ⟨v9, rfl, ho9, hb9⟩
        have hw9 := below_below hb8 hb9
        have tok0 : True := trivial
        go_wp2_with (first
          | (have _t := tok0; go_at_call 29; refine (T _).mono ?_; rintro e w3 ⟨rfl, rfl⟩; clear tok0; have tok1 : True := trivial)
          | (have _t := tok1; go_at_call 32; refine (D2 _).mono ?_; rintro e w6 ⟨v6, rfl, ho6, hb6⟩; have hw6 := below_below hw9 hb6; have r6 := ho6.rd; obtain ⟨A6, c6, e6, _, _, _⟩ := r6.open; subst e6; clear tok1; have tok2 : True := trivial)
          | (have _t := tok2; go_at_call 37; refine (wakes6_c _).mono ?_; rintro e w8 ⟨rfl, hb8⟩; have hw8 := below_below hw6 hb8; clear tok2; have tok3 : True := trivial))
        go_ret
        exact ⟨rfl, hw8⟩
theorem base64Back_w (w : World) (v : Value) (l : List UInt8) (h : Rd w v l) (s : ByteArray) (hs : s.size ≤ maxLen) (m : Int) (hm : -9223372036854775808 ≤ m ∧ m ≤ 9223372036854775807) (b : Int) (hb : 0 ≤ b ∧ b < 256) :
    Calls Tryd.prog 7 #[.agg #[v, .string s, .int .i64 m, .int .u8 b]] w (Ok w) := by
  have e : s = strB s.data.toList := rfl
  have e2 : b = ((UInt8.ofNat b.toNat).toNat : Int) := by simp; omega
  rw [e, e2]
  exact base64Back_c w v l h _ (by unfold maxLen at hs; have : s.data.toList.length = s.size := rfl; omega) m hm _
end Go.Proofs.YtpjpmgpehpigaabDoor
