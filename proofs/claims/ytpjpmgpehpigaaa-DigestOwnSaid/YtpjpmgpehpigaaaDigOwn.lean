/- DigestOwn. -/
import Derived.Test.YtpjpmgpehpigaaaBack
import Derived.Test.YtpjpmgpehpigaaaDigHi
set_option linter.unusedVariables false
set_option linter.unusedSimpArgs false
namespace Go.Proofs.Ytpjpmgpehpigaaa
open Go.RowKit
theorem LoanAt.rd {w : World} {B p : Nat} {es : List Lent} (h : LoanAt w B p es) (e : Lent) (he : e ∈ es) : Rd w e.given e.l := by
  obtain ⟨vF, vW, _, _, _, _, _, h5, _⟩ := h
  exact (h5 e he).1.2.2.1
theorem LoanAt.new {w : World} (B p : Nat) (hB : B ≤ p) (h : Blk w p 49 [.slice none 0 0, .slice none 0 0]) : LoanAt w B p [] :=
  ⟨_, _, hB, h, World.ownsRow_nil _ _ _ _, World.ownsRow_nil _ _ _ _, fun g hg => (by cases hg), fun e he => (by simp at he), List.Pairwise.nil, fun a ha => (by simp at ha)⟩
set_option maxRecDepth 100000 in
set_option maxHeartbeats 1600000 in
theorem digestOwn_w (w : World) (v : Value) (l : List UInt8) (h : Rd w v l) (v' : Value) (l' : List UInt8) (h' : Rd w v' l') :
    Calls Try.prog 13 #[v, v'] w (Ok w) := by
  have F1 := fun w1 (hb : Below w.heap.size w w1) => few5_c v l w1 (h.below hb)
  have F2 := fun w1 (hb : Below w.heap.size w w1) => few5_c v' l' w1 (h'.below hb)
  have hk : (l.take 1000).length ≤ 1000 := by simp; omega
  have hm : (l'.take 1000).length ≤ 1000 := by simp; omega
  generalize l.take 1000 = x at *
  generalize l'.take 1000 = y at *
  clear h h'
  go_enter Try.func13, Try.ntmps13
  have tok0 : True := trivial
  go_wp2_with (first
    | (have _t := tok0; (with_reducible refine G_box ?_; refine L_box (by with_unfolding_all (conv => lhs; whnf)) ?_); intro wa hka hba hsa; have hL := LoanAt.new _ _ (Nat.le_refl _) hka; have hb := hba; clear hka hba hsa; clear tok0; have tok1 : True := trivial)
    | (have _t := tok1; go_at_call 22; refine (F1 _ hb).mono ?_; rintro e w1 ⟨u1, rfl, ho, hb1⟩; replace hL := hL.below hb1; replace hb := below_below hb hb1; clear hb1; clear tok1; have tok2 : True := trivial)
    | (have _t := tok2; go_at_call 32; refine (bytes_c _ _ _ _ _ _ hL ho.rd (by omega) (by simp)).mono ?_; clear hL; rintro e w2 ⟨⟨f2, g2, v2, l2⟩, rfl, hl, hL, hb2⟩; replace hb := hb.trans hb2; clear hb2 ho; replace hl : l2 = x := hl; subst l2; clear tok2; have tok3 : True := trivial)
    | (have _t := tok3; go_at_call 21; refine (sha_c _ x _ (hL.rd ⟨f2, g2, v2, x⟩ (by simp)) (by omega)).mono ?_; rintro e wz ⟨rfl, hb1⟩; replace hL := hL.below hb1; replace hb := below_below hb hb1; clear hb1; clear tok3; have tok4 : True := trivial)
    | (have _t := tok4; go_at_call 22; refine (F1 _ hb).mono ?_; rintro e w3 ⟨u3, rfl, ho, hb1⟩; replace hL := hL.below hb1; replace hb := below_below hb hb1; clear hb1; clear tok4; have tok5 : True := trivial)
    | (have _t := tok5; go_at_call 32; refine (bytes_c _ _ _ _ _ _ hL ho.rd (by omega) (by simp)).mono ?_; clear hL; rintro e w4 ⟨⟨f4, g4, v4, l4⟩, rfl, hl, hL, hb2⟩; replace hb := hb.trans hb2; clear hb2 ho; replace hl : l4 = x := hl; subst l4; clear tok5; have tok6 : True := trivial)
    | (have _t := tok6; go_at_call 22; refine (F2 _ hb).mono ?_; rintro e w5 ⟨u5, rfl, ho, hb1⟩; replace hL := hL.below hb1; replace hb := below_below hb hb1; clear hb1; clear tok6; have tok7 : True := trivial)
    | (have _t := tok7; go_at_call 32; refine (bytes_c _ _ _ _ _ _ hL ho.rd (by omega) (by simp)).mono ?_; clear hL; rintro e w6 ⟨⟨f6, g6, v6, l6⟩, rfl, hl, hL, hb2⟩; replace hb := hb.trans hb2; clear hb2 ho; replace hl : l6 = y := hl; subst l6; clear tok7; have tok8 : True := trivial)
    | (have _t := tok8; go_at_call 26; refine (hmac_c _ _ x y _ (hL.rd ⟨f4, g4, v4, x⟩ (by simp)) (hL.rd ⟨f6, g6, v6, y⟩ (by simp)) (by omega) (by omega)).mono ?_; rintro e wz ⟨rfl, hb1⟩; replace hL := hL.below hb1; replace hb := below_below hb hb1; clear hb1; clear tok8; have tok9 : True := trivial)
    | (have _t := tok9; go_at_call 22; refine (F1 _ hb).mono ?_; rintro e w7 ⟨u7, rfl, ho, hb1⟩; replace hL := hL.below hb1; replace hb := below_below hb hb1; clear hb1; clear tok9; have tok10 : True := trivial)
    | (have _t := tok10; go_at_call 32; refine (bytes_c _ _ _ _ _ _ hL ho.rd (by omega) (by simp)).mono ?_; clear hL; rintro e w8 ⟨⟨f8, g8, v8, l8⟩, rfl, hl, hL, hb2⟩; replace hb := hb.trans hb2; clear hb2 ho; replace hl : l8 = x := hl; subst l8; clear tok10; have tok11 : True := trivial)
    | (have _t := tok11; go_at_call 22; refine (F2 _ hb).mono ?_; rintro e w9 ⟨u9, rfl, ho, hb1⟩; replace hL := hL.below hb1; replace hb := below_below hb hb1; clear hb1; clear tok11; have tok12 : True := trivial)
    | (have _t := tok12; go_at_call 32; refine (bytes_c _ _ _ _ _ _ hL ho.rd (by omega) (by simp)).mono ?_; clear hL; rintro e w10 ⟨⟨f10, g10, v10, l10⟩, rfl, hl, hL, hb2⟩; replace hb := hb.trans hb2; clear hb2 ho; replace hl : l10 = y := hl; subst l10; clear tok12; have tok13 : True := trivial)
    | (have _t := tok13; go_at_call 29; refine (hi_c _ _ x y 3 _ (hL.rd ⟨f8, g8, v8, x⟩ (by simp)) (hL.rd ⟨f10, g10, v10, y⟩ (by simp)) (by omega) (by omega)).mono ?_; rintro e wz ⟨rfl, hb1⟩; replace hL := hL.below hb1; replace hb := below_below hb hb1; clear hb1; clear tok13; have tok14 : True := trivial)
    | (have _t := tok14; go_at_call 22; refine (F1 _ hb).mono ?_; rintro e w11 ⟨u11, rfl, ho, hb1⟩; replace hL := hL.below hb1; replace hb := below_below hb hb1; clear hb1; clear tok14; have tok15 : True := trivial)
    | (have _t := tok15; go_at_call 32; refine (bytes_c _ _ _ _ _ _ hL ho.rd (by omega) (by simp)).mono ?_; clear hL; rintro e w12 ⟨⟨f12, g12, v12, l12⟩, rfl, hl, hL, hb2⟩; replace hb := hb.trans hb2; clear hb2 ho; replace hl : l12 = x := hl; subst l12; clear tok15; have tok16 : True := trivial)
    | (have _t := tok16; go_at_call 22; refine (F2 _ hb).mono ?_; rintro e w13 ⟨u13, rfl, ho, hb1⟩; replace hL := hL.below hb1; replace hb := below_below hb hb1; clear hb1; clear tok16; have tok17 : True := trivial)
    | (have _t := tok17; go_at_call 32; refine (bytes_c _ _ _ _ _ _ hL ho.rd (by omega) (by simp)).mono ?_; clear hL; rintro e w14 ⟨⟨f14, g14, v14, l14⟩, rfl, hl, hL, hb2⟩; replace hb := hb.trans hb2; clear hb2 ho; replace hl : l14 = y := hl; subst l14; clear tok17; have tok18 : True := trivial)
    | (have _t := tok18; go_at_call 25; refine (equal_c _ _ x y _ (hL.rd ⟨f12, g12, v12, x⟩ (by simp)) (hL.rd ⟨f14, g14, v14, y⟩ (by simp))).mono ?_; rintro e wz ⟨rfl, hb1⟩; replace hL := hL.below hb1; replace hb := below_below hb hb1; clear hb1; clear tok18; have tok19 : True := trivial)
    | (have _t := tok19; go_at_call 33; refine (back_c _ _ _ _ hL (by simp)).mono ?_; rintro e wy ⟨rfl, hb1⟩; replace hb := hb.trans hb1; clear hb1 hL; clear tok19; have tok20 : True := trivial)
    | (have _t := tok20; go_at_call 24; refine (wakes5_c _).mono ?_; rintro e wx ⟨rfl, hb1⟩; replace hb := below_below hb hb1; clear hb1; clear tok20; have tok21 : True := trivial))
  go_ret
  exact ⟨rfl, hb⟩
end Go.Proofs.Ytpjpmgpehpigaaa
