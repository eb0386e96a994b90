/- The base64 laws: helpers; Base64Joins. -/
import Derived.Test.YtpjpmgpehpigaabDoorB64Dec
import Derived.Test.YtpjpmgpehpigaabDoorOct4
set_option linter.unusedVariables false
set_option linter.unusedSimpArgs false
namespace Go.Proofs.YtpjpmgpehpigaabDoor
open Go.RowKit
theorem decI_enc (x : List UInt8) : decI (encL x) = (x, 0) := by
  unfold decI decP
  rw [pdec_enc]
  simp
theorem decI_back (s : List UInt8) : ((decI s).2 = 0 ∧ encL (decI s).1 = s) ∨ ((decI s).2 = 2 ∧ (decI s).1 = []) := by
  unfold decI
  cases decP s with
  | none => exact .inr ⟨rfl, rfl⟩
  | some x =>
    simp only
    by_cases h : encL x = s
    · rw [if_pos h]; exact .inl ⟨rfl, h⟩
    · rw [if_neg h]; exact .inr ⟨rfl, rfl⟩
theorem few6_c (v : Value) (l : List UInt8) (w : World) (h : Rd w v l) :
    Calls Tryd.prog 35 #[v] w (Gives8 5 w (l.take 1000)) := by
  go_enter Tryd.func35, Tryd.ntmps35
  go_wp2_with (refine (twin_c _ l 1000 _ h (by omega) (by omega)).mono ?_; rintro e w' ⟨v', rfl, ho, hb⟩)
  go_ret
  exact ⟨v', rfl, ho, hb⟩
theorem enc_ex : encL [102, 111] = [90, 109, 56, 61] := by decide +kernel
theorem enc_ex2 : encL [102, 111, 111] = [90, 109, 57, 118] := by decide +kernel
set_option maxRecDepth 100000 in
set_option maxHeartbeats 800000 in
theorem wakes6_c (w : World) : Calls Tryd.prog 37 #[] w (Ok w) := by
  have D := fun w1 => decode_c [90, 109, 56, 61] w1 (by simp)
  rw [← enc_ex, decI_enc, enc_ex] at D
  have E := fun w1 v1 h => encode_c v1 [102, 111, 111] w1 h (by simp)
  rw [enc_ex2] at E
  have s1 := str_toList [102, 111]
  have kc := kconst
  have s2 := str_toList [90, 109, 57, 118]
  unfold GivesD at D
  go_enter Tryd.func37, Tryd.ntmps37
  have c0 : True := trivial
  go_wp2_with (first
    | (have _t := c0; go_at_call 32; refine (D _).mono ?_; rintro e w1 ⟨v1, rfl, ho1, hb1⟩; have hc1 := convert_str ho1.rd; clear c0; have c1 : True := trivial)
    | (have _t := c1; go_at_call 34; refine (E _ _ (Rd.lit w1 _ _ [102, 111, 111] rfl rfl (by simp) (by decide))).mono ?_; rintro e w2 ⟨rfl, hb2⟩; have hb := below_below hb1 (below_below ((Below.refl _ _).alloc (Nat.le_refl _) _) hb2); clear c1; have c2 : True := trivial))
  go_ret
  exact ⟨rfl, hb⟩
set_option maxRecDepth 100000 in
set_option maxHeartbeats 1600000 in
theorem base64Joins_w (w : World) (v : Value) (l : List UInt8) (h : Rd w v l) (v' : Value) (l' : List UInt8) (h' : Rd w v' l') :
    Calls Tryd.prog 9 #[v, v'] w (Ok w) := by
  have F1 := fun w1 (hb : Below w.heap.size w w1) => few6_c v l w1 (h.below hb)
  have F2 := fun w1 (hb : Below w.heap.size w w1) => few6_c v' l' w1 (h'.below hb)
  have hk : (l.take 1000).length ≤ 1000 := by simp; omega
  have hm : (l'.take 1000).length ≤ 1000 := by simp; omega
  generalize l.take 1000 = x at *
  generalize l'.take 1000 = y at *
  clear h h'
  have hx3 : (x.take (x.length / 3 * 3)).length = 3 * (x.length / 3) := by simp; omega
  have hJ := encL_append _ (x.take (x.length / 3 * 3)) y hx3
  have sz : ∀ a b : List UInt8, a.length ≤ 1000 → b.length ≤ 1000 → ¬ 9223372036854775807 < (strB a).size + (strB b).size ∧ ¬ 9223372036854775807 < (strB (encL a)).size + (strB (encL b)).size := fun a b h1 h2 => by
    rw [strB_size, strB_size, strB_size, strB_size, encL_len _ _ (Nat.le_refl _), encL_len _ _ (Nat.le_refl _)]; omega
  go_enter Tryd.func9, Tryd.ntmps9
  have tok0 : True := trivial
  go_wp2_with (first
    | (have _t := tok0; go_at_call 35; refine (F1 _ (Below.refl _ _)).mono ?_; rintro e w1 ⟨v1, rfl, ho1, hb1⟩; clear tok0; have tok1 : True := trivial)
    | (have _t := tok1; go_at_call 35; refine (F2 _ hb1).mono ?_; rintro e w2 ⟨v2, rfl, ho2, hb2⟩; have hx := (ho1.below hb2).rd; have hy := ho2.rd; have hb := below_below hb1 hb2; clear tok1; have tok2 : True := trivial)
    | (have _t := tok2; (with_reducible refine G_len ?_; refine L8_len Tryd.underlying22 (by with_unfolding_all (conv => lhs; whnf)) (by assumption) ?_); clear tok2; have tok3 : True := trivial)
    | (have _t := tok3; (with_reducible refine G_slice ?_; refine L8_slice_h st8 (hi := (x.length / 3 * 3)) (by with_unfolding_all (conv => lhs; whnf)) (by assumption) (by with_unfolding_all (conv => lhs; whnf)) (by omega) (by omega) ?_); intro v3 hv3 hvb3; generalize x.take (x.length / 3 * 3) = z at *; clear hx; have z1 := (sz z y (by omega) hm).1; have z2 := (sz z y (by omega) hm).2; clear sz; clear tok3; have tok4 : True := trivial)
    | (have _t := tok4; (at_builtin; refine wpList_cp8 rfl _ _ rfl st8 Tryd.underlying22 rfl rfl hv3 (by omega) ?_); intro u1 w4 o1 g1; have y1 := hy.below g1; clear tok4; have tok5 : True := trivial)
    | (have _t := tok5; go_at_call 34; refine (encode_c _ z _ o1.rd (by omega)).mono ?_; rintro e w5 ⟨rfl, g2⟩; have y2 := y1.below g2; clear tok5; have tok6 : True := trivial)
    | (have _t := tok6; (at_builtin; refine wpList_cp8 rfl _ _ rfl st8 Tryd.underlying22 rfl rfl y2 (by omega) ?_); intro u2 w6 o2 g3; clear tok6; have tok7 : True := trivial)
    | (have _t := tok7; go_at_call 34; refine (encode_c _ y _ o2.rd (by omega)).mono ?_; rintro e w7 ⟨rfl, g4⟩; clear tok7; have tok8 : True := trivial)
    | (have _t := tok8; go_at_call 32; rw [strB_append, ← hJ]; have D := decode_c (encL (z ++ y)) w7 (by rw [encL_len _ _ (Nat.le_refl _)]; simp; omega); rw [decI_enc] at D; unfold GivesD at D; simp only at D; refine D.mono ?_; clear D; rintro e w8 ⟨v8, rfl, o3, g5⟩; have g48 := below_below (below_below g3 g4) g5; have c8 := convert_str o3.rd; have c3 := convert_str ((hv3.below (below_below g1 g2)).below g48); have r2 := y2.below g48; have c2 := convert_str r2; have r3 := (hv3.below (below_below g1 g2)).below g48; clear tok8; have tok9 : True := trivial)
    | (have _t := tok9; (at_builtin; refine wpList_cp8w (by go_simp) _ _ rfl st8 Tryd.underlying22 rfl rfl r3 (by omega) ?_); intro u4 w9 o4 g6; have q2 := r2.below g6; clear tok9; have tok10 : True := trivial)
    | (have _t := tok10; at_builtin; refine wpList_app8w (by go_simp) _ _ rfl st8 (by with_unfolding_all (conv => lhs; whnf)) o4 rfl (Rd.src q2 Tryd.underlying22) (by omega) (by have := g6.size; omega) ?_; intro u5 w10 o5 g7 _; have g8 := (app_step0 g6 o4 (Nat.le_refl _) g7).1; clear tok10; have tok11 : True := trivial)
    | (have _t := tok11; go_at_call 34; refine (encode_c _ (z ++ y) _ o5.rd (by simp; omega)).mono ?_; rintro e w11 ⟨rfl, g9⟩; have g10 := below_below g8 g9; have r5 := r3.below g10; have r6 := r2.below g10; clear tok11; have tok12 : True := trivial)
    | (have _t := tok12; (at_builtin; refine wpList_cp8w (by go_simp) _ _ rfl st8 Tryd.underlying22 rfl rfl r5 (by omega) ?_); intro u6 w12 o6 g11; clear tok12; have tok13 : True := trivial)
    | (have _t := tok13; go_at_call 34; refine (encode_c _ z _ o6.rd (by omega)).mono ?_; rintro e w13 ⟨rfl, g12⟩; have r7 := r6.below (below_below g11 g12); clear tok13; have tok14 : True := trivial)
    | (have _t := tok14; (at_builtin; refine wpList_cp8w (by go_simp) _ _ rfl st8 Tryd.underlying22 rfl rfl r7 (by omega) ?_); intro u7 w14 o7 g13; clear tok14; have tok15 : True := trivial)
    | (have _t := tok15; go_at_call 34; refine (encode_c _ y _ o7.rd (by omega)).mono ?_; rintro e w15 ⟨rfl, g14⟩; clear tok15; have tok16 : True := trivial)
    | (have _t := tok16; go_at_call 37; refine (wakes6_c _).mono ?_; rintro e w16 ⟨rfl, g15⟩; clear tok16; have tok17 : True := trivial))
  go_ret
  exact ⟨rfl, below_below hb (below_below (below_below g1 g2) (below_below g48 (below_below g10 (below_below (below_below g11 g12) (below_below (below_below g13 g14) g15)))))⟩
end Go.Proofs.YtpjpmgpehpigaabDoor
