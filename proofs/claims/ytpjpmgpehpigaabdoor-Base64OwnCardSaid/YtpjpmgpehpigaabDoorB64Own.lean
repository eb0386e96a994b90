/- Base64Own. -/
import Derived.Test.YtpjpmgpehpigaabDoorBookK
import Derived.Test.YtpjpmgpehpigaabDoorB64Laws
set_option linter.unusedVariables false
set_option linter.unusedSimpArgs false
namespace Go.Proofs.YtpjpmgpehpigaabDoor
open Go.RowKit
theorem decB_len (l : List UInt8) : ∀ (n b : Nat) (out x : List UInt8), decB l n b out = some x → x.length ≤ out.length + l.length := by
  induction l with
  | nil => intro n b out x h; rw [decB] at h; cases h; simp
  | cons c l ih =>
    intro n b out x h
    rw [decB] at h
    split at h
    · cases h
    · split at h
      · have := ih _ _ _ _ h; simp at this ⊢; omega
      · have := ih _ _ _ _ h; simp at this ⊢; omega
theorem decI_len (s : List UInt8) : (decI s).1.length ≤ s.length := by
  unfold decI
  cases h : decP s with
  | none => simp
  | some x =>
    simp only
    have := decB_len _ _ _ _ _ h
    have := trim_len s
    split
    · simp at *; omega
    · simp
theorem KeepAt.up {w : World} {B pL pB N N' : Nat} {es : List Lent} {bs : List Kept} (h : KeepAt w B pL pB N es bs) (hN : N ≤ N') : KeepAt w B pL pB N' es bs := by
  obtain ⟨SL, SB, h1, h2, h3, h4, h5⟩ := h
  exact ⟨SL, SB, h1, h2, h3, fun k hk => Nat.lt_of_lt_of_le (h4 k hk) hN, fun k hk => Nat.lt_of_lt_of_le (h5 k hk) hN⟩
theorem KeepAt.next {w w' : World} {B pL pB : Nat} {es : List Lent} {bs : List Kept} (h : KeepAt w B pL pB w.heap.size es bs) (hb : Below w.heap.size w w') : KeepAt w' B pL pB w'.heap.size es bs := (h.below hb).up hb.size
def OwnLoop (w : World) (B pL pB m : Nat) (i : Value) (wr : World) : Prop :=
  ∃ (j : Nat) (es : List Lent) (bs : List Kept), j ≤ 10 ∧ i = .int .i64 j ∧ es.length ≤ m * j ∧ bs.length ≤ m * j ∧ KeepAt wr B pL pB wr.heap.size es bs ∧ Below B w wr
set_option maxRecDepth 100000 in
set_option maxHeartbeats 1600000 in
theorem base64Own_c (w : World) (v : Value) (l k : List UInt8) (h : Rd w v l) (hk : k.length ≤ 9223372036854775807) :
    Calls Tryd.prog 8 #[v, .string (strB k)] w (Ok w) := by
  have F := fun w1 (hb : Below w.heap.size w w1) => few6_c v l w1 (h.below hb)
  have T := fun w1 => text_c k 1000 w1 hk (by omega)
  have hx : (l.take 1000).length ≤ 1000 := by simp; omega
  have hy : (k.take 1000).length ≤ 1000 := by simp; omega
  generalize l.take 1000 = x at *
  generalize k.take 1000 = y at *
  generalize strB k = K at *
  clear h hk
  go_enter Tryd.func8, Tryd.ntmps8
  have tok0 : True := trivial
  go_wp2_with (first
    | (have _t := tok0; (with_reducible refine G_box ?_; refine L_box (by with_unfolding_all (conv => lhs; whnf)) ?_); intro wa hka hba hsa; have ea := Go.Lib.hid hsa; clear hsa; clear tok0; have tok1 : True := trivial)
    | (have _t := tok1; (with_reducible refine G_box ?_; refine L_box (by with_unfolding_all (conv => lhs; whnf)) ?_); intro wb hkb hbb hsb; have hlt := hka.lt; have eb := Go.Lib.hid hsb; clear hsb; clear tok1; have tok2 : True := trivial))
  have hK : KeepAt wb w.heap.size w.heap.size wa.heap.size wb.heap.size [] [] := KeepAt.new (hka.below hbb) hkb (Nat.le_refl _) hba.size (by omega)
  have hb := below_below hba hbb
  clear hka hba hkb hbb ea eb
  generalize hpB : wa.heap.size = pB at *
  clear hpB
  go_loopw [7] (fun i wr => OwnLoop w w.heap.size w.heap.size pB 2 i wr) (fun i _ => 3 - (intOf i).toNat)
  case atStart => exact ⟨0, [], [], by omega, rfl, by simp, by simp, hK, hb⟩
  clear hK hb
  case round =>
    obtain ⟨j, es, bs, hj, rfl, hes, hbs, hK, hb⟩ := hrel
    by_cases hlt3 : j < 3
    · have q1 : (j : Int) < 3 := by omega
      have tok0 : True := trivial
      go_wp2_with (first
        | (have _t := tok0; go_at_call 35; refine (F _ hb).mono ?_; rintro e w1 ⟨u1, rfl, ho, hb1⟩; replace hK := hK.next hb1; replace hb := below_below hb hb1; clear hb1; clear tok0; have tok1 : True := trivial)
        | (have _t := tok1; go_at_call 28; refine (keep_loan _ _ _ _ _ es bs _ x hK ho.rd (by omega) (by omega)).mono ?_; clear hK; rintro e w2 ⟨⟨f2, g2, v2, l2⟩, rfl, hl2, hr2, hK, hb2⟩; replace hb := hb.trans hb2; clear hb2 ho hl2; clear tok1; have tok2 : True := trivial)
        | (have _t := tok2; go_at_call 34; refine (encode_c _ x _ hr2 (by omega)).mono ?_; rintro e w3 ⟨rfl, hb3⟩; replace hK := hK.next hb3; replace hb := below_below hb hb3; clear hb3 hr2; clear tok2; have tok3 : True := trivial)
        | (have _t := tok3; go_at_call 32; refine (decode_c (encL x) _ (by rw [encL_len x.length x (Nat.le_refl _)]; omega)).mono ?_; rintro e w4 ⟨v4, rfl, ho4, hb4⟩; replace hK := hK.below hb4; replace hb := below_below hb hb4; clear hb4; clear tok3; have tok4 : True := trivial)
        | (have _t := tok4; go_at_call 27; refine (keep_book _ _ _ _ _ _ bs _ _ hK ho4 (by have := decI_len (encL x); rw [encL_len x.length x (Nat.le_refl _)] at this; omega) (by omega)).mono ?_; clear hK ho4; rintro e w5 ⟨bs5, rfl, hbs5, hK, hb5⟩; replace hb := hb.trans hb5; clear hb5; clear tok4; have tok5 : True := trivial)
        | (have _t := tok5; go_at_call 29; refine (T _).mono ?_; rintro e w6 ⟨rfl, rfl⟩; clear tok5; have tok6 : True := trivial)
        | (have _t := tok6; go_at_call 32; refine (decode_c y _ (by omega)).mono ?_; rintro e w7 ⟨v7, rfl, ho7, hb7⟩; replace hK := hK.below hb7; replace hb := below_below hb hb7; clear hb7; clear tok6; have tok7 : True := trivial)
        | (have _t := tok7; go_at_call 27; refine (keep_book _ _ _ _ _ _ bs5 _ _ hK ho7 (by have := decI_len y; omega) (by omega)).mono ?_; clear hK ho7; rintro e w8 ⟨bs8, rfl, hbs8, hK, hb8⟩; replace hb := hb.trans hb8; clear hb8; clear tok7; have tok8 : True := trivial))
      exact ⟨⟨j + 1, _, bs8, by omega, by go_num, by simp; omega, by omega, hK, hb⟩, by simp [intOf]; omega⟩
    · have q1 : ¬ (j : Int) < 3 := by omega
      have tok0 : True := trivial
      go_wp2_with (first
        | (have _t := tok0; go_at_call 30; refine (keep_back _ _ _ _ _ es bs hK (by omega)).mono ?_; clear hK; rintro e w1 ⟨rfl, ⟨SB, hBk⟩, hb1⟩; replace hb := hb.trans hb1; clear hb1; clear tok0; have tok1 : True := trivial)
        | (have _t := tok1; go_at_call 31; refine (bkclose_c _ _ _ SB bs hBk (by omega)).mono ?_; clear hBk; rintro e w2 ⟨rfl, hb2⟩; replace hb := hb.trans hb2; clear hb2; clear tok1; have tok2 : True := trivial)
        | (have _t := tok2; go_at_call 37; refine (wakes6_c _).mono ?_; rintro e w3 ⟨rfl, hb3⟩; replace hb := below_below hb hb3; clear hb3; clear tok2; have tok3 : True := trivial))
      go_ret
      exact ⟨rfl, hb⟩
theorem base64Own_w (w : World) (v : Value) (l : List UInt8) (h : Rd w v l) (s : ByteArray) (hs : s.size ≤ maxLen) :
    Calls Tryd.prog 8 #[v, .string s] w (Ok w) := by
  have e : s = strB s.data.toList := rfl
  rw [e]
  exact base64Own_c w v l _ h (by unfold maxLen at hs; have : s.data.toList.length = s.size := rfl; omega)
end Go.Proofs.YtpjpmgpehpigaabDoor
