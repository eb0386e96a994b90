/- roostref04.Write. -/
import Derived.Test.YtocfcgjjepegmaaDoorStz9
import Derived.Test.YtocfcgjjepegmaaDoorStz3
set_option linter.unusedVariables false
set_option linter.unusedSimpArgs false
namespace Go.Proofs.YtocfcgjjepegmaaDoor
open Go.RowKit
theorem bit_hasI : ∀ (n : Fin 256) (k : Fin 6), (Go.bits .and .i64 (n.val : Int) ((2 ^ k.val : Nat) : Int) != 0) = decide (n.val / 2 ^ k.val % 2 = 1) := by decide +kernel
theorem bit_on {n k : Nat} {c : Int} {p : Bool} (hn : n < 256) (hk : k < 6) (hc : c = ((2 ^ k : Nat) : Int)) (h : n / 2 ^ k % 2 = onB p 1) : (Go.bits .and .i64 (n : Int) c != 0) = p := by
  subst hc
  have := bit_hasI ⟨n, hn⟩ ⟨k, hk⟩
  simp only at this
  rw [this, h]
  cases p <;> rfl
set_option maxRecDepth 100000 in
set_option maxHeartbeats 3200000 in
theorem refwrite_c (w : World) (s : Stz) (vl : Value) (hl : RdT w vl s.l) (ok : StzOk s) (hC : checkI s = 0) :
    Calls Tryd.prog 20 #[stzV s vl] w (Gives8 5 w (writeL s)) := by
  have TH := fun w1 (hb : Below w.heap.size w w1) => refthere_c w1 s vl (hl.below hb)
  obtain ⟨te1, te2, te3, te4, hl64, hk'⟩ := checkI_ok hC
  have la := (textE_ok te1).1
  have lb := (textE_ok te2).1
  have lt := (textE_ok te3).1
  have lx := fun x hx => (textE_ok (te4 x hx)).1
  clear hC te1 te2 te3 te4
  have hlt := thereI_lt s
  obtain ⟨b0, b1, b2, b3, b4, b5⟩ := bits_there s
  have hW : writeL s = formU s.kind.toNat ++ (formU s.id ++ (UInt8.ofNat (thereI s) :: (pT s.a ++ (pT s.b ++ (pT s.t ++ (pL s.l ++ (pN s.n ++ pF s.f))))))) := rfl
  generalize writeL s = W at *
  obtain ⟨ha1, hb1, ht1, hl1, hl2, hid, hn, hf⟩ := ok
  obtain ⟨A, c, rfl, h1, h2, h3⟩ := hl.open
  obtain ⟨kind, idn, a, b, t, l, n, f⟩ := s
  simp only at *
  obtain ⟨K, rfl⟩ := Int.eq_ofNat_of_zero_le hk'.1
  generalize thereI ⟨(K : Int), idn, a, b, t, l, n, f⟩ = B at *
  obtain ⟨cb, rfl⟩ : ∃ cb : UInt8, B = cb.toNat := ⟨UInt8.ofNat B, by rw [UInt8.toNat_ofNat']; omega⟩
  have hcb : UInt8.ofNat cb.toNat = cb := by simp
  rw [hcb] at hW
  clear hcb
  unfold stzV at TH ⊢
  simp only [Int.toNat_natCast] at TH hW ⊢
  replace hW := Go.Lib.hid hW
  have P0 := fun w1 => refputuint_c (.slice none 0 0) [] K w1 (Rd.nil w1) (by simp) (by omega)
  have P1 := fun w1 v h => refputuint_c v (formU K) idn w1 h (by have := formU_len64 K (by omega); omega) hid
  have qk : (K : Int) < 47 := hk'.2
  have hkl : (formU K).length ≤ 10 := formU_len64 K (by omega)
  have hil : (formU idn).length ≤ 10 := formU_len64 idn hid
  have qk0 : (0 : Int) ≤ K := by omega
  have qb : (cb.toNat : Int) < 256 := by omega
  have qb0 : (0 : Int) ≤ (cb.toNat : Int) := by omega
  go_enter Tryd.func20, Tryd.ntmps20
  have tok0 : True := trivial
  go_upto_region 2 with (first
    | (have _t := tok0; (with_reducible refine G_box ?_; refine L_box (by with_unfolding_all (conv => lhs; whnf)) ?_); intro wx hkx hbx hsx; clear hsx; clear tok0; have tok1 : True := trivial)
    | (have _t := tok1; (with_reducible refine G_load ?_; refine L_load_agg agS (by with_unfolding_all (conv => lhs; whnf)) hkx rfl ?_); clear tok1; have tok2 : True := trivial)
    | (have _t := tok2; go_at_call 62; refine (TH _ hbx).mono ?_; rintro e w2 ⟨rfl, hb2⟩; replace hkx := hkx.below hb2; replace hbx := below_below hbx hb2; clear tok2; have tok3 : True := trivial))
  clear TH
  refine region_making 12 (fun | 10 => [6] | _ => []) (fun | 3 => some fun _ => new8 5 ([] ++ formU K) | 6 => some fun _ => new8 5 (formU K ++ formU idn) | 9 => some fun _ => new8 5 [cb] | 10 => some fun _ => new8 5 (formU K ++ formU idn ++ [cb]) | _ => none) (by kernel_rfl) (by kernel_rfl) ?_ ?_
  · intro i' S' h' e v'
    match i', h' with
    | 3, h' => cases h'; exact new8_loc _ _ _ _
    | 6, h' => cases h'; exact new8_loc _ _ _ _
    | 9, h' => cases h'; exact new8_loc _ _ _ _
    | 10, h' => cases h'; exact new8_loc _ _ _ _
  simp only [List.take_succ_cons, List.take_zero, List.drop_succ_cons, List.drop_zero]
  (apply wpG_pure; (focus rfl); (focus (intro wg Bg hbg hBg hFg; go_simp; (try go_bits); (first | done | exact ⟨rfl, Below.refl _ _⟩ | rfl))); simp only [Act.put, List.setIfInBounds_toArray, List.set_cons_succ, List.set_cons_zero])
  (apply wpG_pure; (focus rfl); (focus (intro wg Bg hbg hBg hFg; have c0 : _ = some _ := (hkx.drew.below hbg).cell 0; go_simp; (try go_bits); (first | done | exact ⟨rfl, Below.refl _ _⟩ | rfl))); simp only [Act.put, List.setIfInBounds_toArray, List.set_cons_succ, List.set_cons_zero])
  (apply wpG_pure; (focus rfl); (focus (intro wg Bg hbg hBg hFg; go_simp; (try go_bits); (first | done | exact ⟨rfl, Below.refl _ _⟩ | rfl))); simp only [Act.put, List.setIfInBounds_toArray, List.set_cons_succ, List.set_cons_zero])
  (apply wpG_make; (focus rfl); (focus (intro wg Bg hbg hBg hFg; go_simp; go_at_call 66; exact Calls.mono (P0 _) (fun e w' h => (by obtain ⟨u, rfl, ho, hb⟩ := h; exact ⟨u, rfl, Chg.of_below hb, ⟨ho.mono (Nat.zero_le _), fun g hg => (by first | exact .inr ⟨ho.base_le g hg, ho.lt g hg⟩ | exact ⟨ho.base_le g hg, ho.lt g hg⟩)⟩⟩)))); intro va; simp only [Act.put, List.setIfInBounds_toArray, List.set_cons_succ, List.set_cons_zero])
  (apply wpG_pure; (focus rfl); (focus (intro wg Bg hbg hBg hFg; go_simp; (try go_bits); (first | done | exact ⟨rfl, Below.refl _ _⟩ | rfl))); simp only [Act.put, List.setIfInBounds_toArray, List.set_cons_succ, List.set_cons_zero])
  (apply wpG_pure; (focus rfl); (focus (intro wg Bg hbg hBg hFg; have c0 : _ = some _ := (hkx.drew.below hbg).cell 1; go_simp; (try go_bits); (first | done | exact ⟨rfl, Below.refl _ _⟩ | rfl))); simp only [Act.put, List.setIfInBounds_toArray, List.set_cons_succ, List.set_cons_zero])
  apply wpG_make; (focus rfl); (focus (intro wg Bg hbg hBg hFg; have hN : new8 5 ([] ++ formU K) va (Bg 3) wg := hFg 3 (by decide +kernel); have hr : Rd wg va (formU K) := hN.1.rd; go_simp; go_at_call 66; exact Calls.mono (P1 wg va hr) (fun e w' h => (by obtain ⟨u, rfl, ho, hb⟩ := h; exact ⟨u, rfl, Chg.of_below hb, ⟨ho.mono (Nat.zero_le _), fun g hg => (by first | exact .inr ⟨ho.base_le g hg, ho.lt g hg⟩ | exact ⟨ho.base_le g hg, ho.lt g hg⟩)⟩⟩)))); intro vb; simp only [Act.put, List.setIfInBounds_toArray, List.set_cons_succ, List.set_cons_zero]
  (apply wpG_pure; (focus rfl); (focus (intro wg Bg hbg hBg hFg; go_simp; (try go_bits); (first | done | exact ⟨rfl, Below.refl _ _⟩ | rfl))); simp only [Act.put, List.setIfInBounds_toArray, List.set_cons_succ, List.set_cons_zero])
  (apply wpG_pure; (focus rfl); (focus (intro wg Bg hbg hBg hFg; go_simp; (try go_bits); (first | done | exact ⟨rfl, Below.refl _ _⟩ | rfl))); simp only [Act.put, List.setIfInBounds_toArray, List.set_cons_succ, List.set_cons_zero])
  (apply wpG_make; (focus rfl); (focus (intro wg Bg hbg hBg hFg; refine goesTo_lit (n := 1) (by go_simp) [cb] rfl (by decide) (by go_simp; first | done | rfl | exact ⟨rfl, rfl⟩))); intro vc; simp only [Act.put, List.setIfInBounds_toArray, List.set_cons_succ, List.set_cons_zero])
  (apply wpG_make; (focus rfl); (focus (intro wg Bg hbg hBg hFg; have hN := hFg 6 (by decide +kernel); refine goesTo_app8w (by go_simp) _ _ rfl st8 (by with_unfolding_all (conv => lhs; whnf)) (id hN).1 (by with_unfolding_all (conv => lhs; whnf)) (Rd.src ((show new8 5 [cb] vc (Bg 9) wg from hFg 9 (by decide +kernel)).1.rd) Tryd.underlying28) (by first | omega | (simp; omega)) (Nat.zero_le _) (fun g hg => ⟨6, by simp, (id hN).2 g hg⟩))); intro vd; simp only [Act.put, List.setIfInBounds_toArray, List.set_cons_succ, List.set_cons_zero])
  (apply wpG_pure; (focus rfl); (focus (intro wg Bg hbg hBg hFg; go_simp; (try go_bits); (first | done | exact ⟨rfl, Below.refl _ _⟩ | rfl))); simp only [Act.put, List.setIfInBounds_toArray, List.set_cons_succ, List.set_cons_zero])
  refine wpG_end (fun wg Bg hbg hBg hFg => ?_)
  have hN : new8 5 (formU K ++ formU idn ++ [cb]) vd (Bg 10) wg := hFg 10
  have ho : Own8 wg w.heap.size 5 vd (formU K ++ formU idn ++ [cb]) := hN.1.rebase (fun g hg => by have h := hBg.lo 10 g (hN.2 g hg); have h2 := hbx.size; exact Nat.le_trans h2 h)
  have hkg := hkx.drew.below hbg
  have hbG : Below w.heap.size w wg := hbx.drew.trans (hbg.mono hbx.size)
  clear hFg hBg hN hbg hkx hbx P0 P1
  have hpl : (formU K ++ formU idn ++ [cb]).length ≤ 100 := by have := formU_len64 K (by omega); have := formU_len64 idn hid; simp; omega
  have hW2 : Go.RowKit.Hid (W = (formU K ++ formU idn ++ [cb]) ++ (pT a ++ (pT b ++ (pT t ++ (pL l ++ (pN n ++ pF f)))))) := by rw [hW.out]; show _ = _; simp
  clear hW
  generalize formU K ++ formU idn ++ [cb] = X at *
  have hcn := cb.toNat_lt
  generalize cb.toNat = C at *
  have Q0 := fun c h => bit_on (c := c) (k := 0) hcn (by omega) h b0
  have Q1 := fun c h => bit_on (c := c) (k := 1) hcn (by omega) h b1
  have Q2 := fun c h => bit_on (c := c) (k := 2) hcn (by omega) h b2
  have Q3 := fun c h => bit_on (c := c) (k := 3) hcn (by omega) h b3
  have Q4 := fun c h => bit_on (c := c) (k := 4) hcn (by omega) h b4
  have Q5 := fun c h => bit_on (c := c) (k := 5) hcn (by omega) h b5
  replace Q0 := Go.Lib.hid (Q0 1 rfl)
  replace Q1 := Go.Lib.hid (Q1 2 rfl)
  replace Q2 := Go.Lib.hid (Q2 4 rfl)
  replace Q3 := Go.Lib.hid (Q3 8 rfl)
  replace Q4 := Go.Lib.hid (Q4 16 rfl)
  replace Q5 := Go.Lib.hid (Q5 32 rfl)
  clear b0 b1 b2 b3 b4 b5 hlt qb qb0
  have st : ∃ X2, Own8 wg w.heap.size 5 vd X2 ∧ Below wg.heap.size wg wg ∧ Below w.heap.size w wg ∧ X2.length ≤ 100 ∧ RowKit.Hid (W = X2 ++ (pT a ++ (pT b ++ (pT t ++ (pL l ++ (pN n ++ pF f)))))) := ⟨X, ho, Below.refl _ _, hbG, hpl, hW2⟩
  clear ho hbG hpl hW2
  go_upto_if 21 with fail
  go_cut [4] from 6 (fun v wc => ∃ X2, Own8 wc w.heap.size 5 v X2 ∧ Below wg.heap.size wg wc ∧ Below w.heap.size w wc ∧ X2.length ≤ 3000 ∧ RowKit.Hid (W = X2 ++ (pT b ++ (pT t ++ (pL l ++ (pN n ++ pF f))))))
  case first =>
    obtain ⟨X2, ho, hbg, hbw, hX2, hW2⟩ := st
    have c2 : _ = some _ := (hkg.below hbg).cell 2
    have q2 := Q0.out
    by_cases hx : a = []
    · have q3 : (!a.isEmpty) = false := by rw [hx]; rfl
      rw [q3] at q2
      have hp : pT a = [] := by rw [hx]; rfl
      have hW3 := Go.Lib.hid (show W = X2 ++ (pT b ++ (pT t ++ (pL l ++ (pN n ++ pF f)))) by rw [hW2.out, hp]; rfl)
      clear hx q3 hp hW2
      go_wp2_with fail
      go_meet
      case rel => exact ⟨X2, ho, hbg, hbw, by omega, hW3⟩
    · have q3 : (!a.isEmpty) = true := by simpa using hx
      rw [q3] at q2
      have hp : pT a = formU a.length ++ a := by unfold pT txtF; rw [if_neg hx]
      have hW3 := Go.Lib.hid (show W = (X2 ++ formU a.length ++ a) ++ (pT b ++ (pT t ++ (pL l ++ (pN n ++ pF f)))) by rw [hW2.out, hp] <;> simp)
      have PX := refputtext_c _ _ a _ ho.rd (by omega) (by omega)
      have hXl : (X2 ++ formU a.length ++ a).length ≤ 3000 := by have := formU_len64 a.length (by omega); simp; omega
      clear hx q3 hp hW2
      have tx00 : True := trivial
      go_wp2_with (first
        | (have _t := tx00; go_at_call 67; refine PX.mono ?_; rintro e w5 ⟨v5, rfl, ho5, hb5⟩; clear tx00; have tx01 : True := trivial))
      go_meet
      case rel => exact ⟨_, ho5.mono hbw.size, below_below hbg hb5, below_below hbw hb5, hXl, hW3⟩
  case rest =>
  clear st Q0
  have st := hcut
  clear hcut
  go_upto_if 28 with fail
  go_cut [4] from 6 (fun v wc => ∃ X2, Own8 wc w.heap.size 5 v X2 ∧ Below wg.heap.size wg wc ∧ Below w.heap.size w wc ∧ X2.length ≤ 6000 ∧ RowKit.Hid (W = X2 ++ (pT t ++ (pL l ++ (pN n ++ pF f)))))
  case first =>
    obtain ⟨X2, ho, hbg, hbw, hX2, hW2⟩ := st
    have c2 : _ = some _ := (hkg.below hbg).cell 3
    have q2 := Q1.out
    by_cases hx : b = []
    · have q3 : (!b.isEmpty) = false := by rw [hx]; rfl
      rw [q3] at q2
      have hp : pT b = [] := by rw [hx]; rfl
      have hW3 := Go.Lib.hid (show W = X2 ++ (pT t ++ (pL l ++ (pN n ++ pF f))) by rw [hW2.out, hp]; rfl)
      clear hx q3 hp hW2
      go_wp2_with fail
      go_meet
      case rel => exact ⟨X2, ho, hbg, hbw, by omega, hW3⟩
    · have q3 : (!b.isEmpty) = true := by simpa using hx
      rw [q3] at q2
      have hp : pT b = formU b.length ++ b := by unfold pT txtF; rw [if_neg hx]
      have hW3 := Go.Lib.hid (show W = (X2 ++ formU b.length ++ b) ++ (pT t ++ (pL l ++ (pN n ++ pF f))) by rw [hW2.out, hp] <;> simp)
      have PX := refputtext_c _ _ b _ ho.rd (by omega) (by omega)
      have hXl : (X2 ++ formU b.length ++ b).length ≤ 6000 := by have := formU_len64 b.length (by omega); simp; omega
      clear hx q3 hp hW2
      have tx10 : True := trivial
      go_wp2_with (first
        | (have _t := tx10; go_at_call 67; refine PX.mono ?_; rintro e w5 ⟨v5, rfl, ho5, hb5⟩; clear tx10; have tx11 : True := trivial))
      go_meet
      case rel => exact ⟨_, ho5.mono hbw.size, below_below hbg hb5, below_below hbw hb5, hXl, hW3⟩
  case rest =>
  clear st Q1
  have st := hcut
  clear hcut
  go_upto_if 35 with fail
  go_cut [4] from 6 (fun v wc => ∃ X2, Own8 wc w.heap.size 5 v X2 ∧ Below wg.heap.size wg wc ∧ Below w.heap.size w wc ∧ X2.length ≤ 9000 ∧ RowKit.Hid (W = X2 ++ (pL l ++ (pN n ++ pF f))))
  case first =>
    obtain ⟨X2, ho, hbg, hbw, hX2, hW2⟩ := st
    have c2 : _ = some _ := (hkg.below hbg).cell 4
    have q2 := Q2.out
    by_cases hx : t = []
    · have q3 : (!t.isEmpty) = false := by rw [hx]; rfl
      rw [q3] at q2
      have hp : pT t = [] := by rw [hx]; rfl
      have hW3 := Go.Lib.hid (show W = X2 ++ (pL l ++ (pN n ++ pF f)) by rw [hW2.out, hp]; rfl)
      clear hx q3 hp hW2
      go_wp2_with fail
      go_meet
      case rel => exact ⟨X2, ho, hbg, hbw, by omega, hW3⟩
    · have q3 : (!t.isEmpty) = true := by simpa using hx
      rw [q3] at q2
      have hp : pT t = formU t.length ++ t := by unfold pT txtF; rw [if_neg hx]
      have hW3 := Go.Lib.hid (show W = (X2 ++ formU t.length ++ t) ++ (pL l ++ (pN n ++ pF f)) by rw [hW2.out, hp] <;> simp)
      have PX := refputtext_c _ _ t _ ho.rd (by omega) (by omega)
      have hXl : (X2 ++ formU t.length ++ t).length ≤ 9000 := by have := formU_len64 t.length (by omega); simp; omega
      clear hx q3 hp hW2
      have tx20 : True := trivial
      go_wp2_with (first
        | (have _t := tx20; go_at_call 67; refine PX.mono ?_; rintro e w5 ⟨v5, rfl, ho5, hb5⟩; clear tx20; have tx21 : True := trivial))
      go_meet
      case rel => exact ⟨_, ho5.mono hbw.size, below_below hbg hb5, below_below hbw hb5, hXl, hW3⟩
  case rest =>
  clear st Q2
  have st := hcut
  clear hcut
  go_upto_if 42 with fail
  go_cut [4] from 5 (fun v wc => ∃ X2, Own8 wc w.heap.size 5 v X2 ∧ Below wg.heap.size wg wc ∧ Below w.heap.size w wc ∧ X2.length ≤ 100000 ∧ RowKit.Hid (W = X2 ++ (pN n ++ pF f)))
  case first =>
    obtain ⟨X2, ho, hbg, hbw, hX2, hW2⟩ := st
    have c5 : _ = some _ := (hkg.below hbg).cell 5
    have q2 := Q3.out
    by_cases hx : l = []
    · have q3 : (!l.isEmpty) = false := by rw [hx]; rfl
      rw [q3] at q2
      have hp : pL l = [] := by rw [hx]; rfl
      have hW3 := Go.Lib.hid (show W = X2 ++ (pN n ++ pF f) by rw [hW2.out, hp]; rfl)
      clear hx q3 hp hW2
      go_wp2_with fail
      go_meet
      case rel => exact ⟨X2, ho, hbg, hbw, by omega, hW3⟩
    · have q3 : (!l.isEmpty) = true := by simpa using hx
      rw [q3] at q2
      have hpl : pL l = formU l.length ++ txtsF l := by unfold pL; rw [if_neg hx]
      have hW4 := Go.Lib.hid (show W = (X2 ++ formU l.length ++ txtsF l) ++ (pN n ++ pF f) by rw [hW2.out, hpl]; simp)
      clear hx q3 hpl hW2
      have ql : (l.length : Int) ≤ 64 := by omega
      have PL := refputuint_c _ X2 l.length _ ho.rd (by omega) (by omega)
      have hfl : (formU l.length).length ≤ 10 := formU_len64 _ (by omega)
      have ta0 : True := trivial
      go_wp2_with (first
        | (have _t := ta0; go_at_call 66; refine PL.mono ?_; rintro e w5 ⟨v5, rfl, ho5, hb5⟩; have d5 : _ = some _ := ((hkg.below hbg).below hb5).cell 5; clear ta0; have ta1 : True := trivial))
      clear d5
      have hbg5 := below_below hbg hb5
      have hbw5 := below_below hbw hb5
      have ho6 : Own8 w5 w.heap.size 5 v5 (X2 ++ formU l.length) := ho5.mono hbw.size
      have hX3 : (X2 ++ formU l.length).length ≤ 10010 := by simp; omega
      generalize hXe : X2 ++ formU l.length = X3 at *
      replace hXe := Go.Lib.hid hXe
      clear ho5 PL c5 hbg hbw ho
      go_loopw [4, 5] (WlRel w wg X3 l) (fun _ i _ => l.length - (intOf i).toNat)
      case atStart => exact ⟨0, by omega, rfl, by simpa [txtsF] using ho6, hbg5, hbw5⟩
      case round =>
        obtain ⟨j, hj, rfl, ho, hbg, hbw⟩ := hrel
        have c5 : _ = some _ := (hkg.below hbg).cell 5
        by_cases hlt : j < l.length
        · have q1 : (j : Int) < l.length := by omega
          obtain ⟨bb, off, rfl, hbl, hcell⟩ := h3 (by omega)
          have hcj : _ = some _ := (hbw.cell (p := ⟨bb, off + j, none⟩) hbl).trans (hcell j hlt)
          have hxl := lx l[j] (List.getElem_mem hlt)
          have htl : (txtsF (l.take j)).length ≤ 70000 := by
            have := txtsF_len (l.take j) (fun x hx => lx x (List.mem_of_mem_take hx))
            have h2 : (l.take j).length ≤ 64 := by simp; omega
            omega
          have htk := txtsF_take l j hlt
          have PX := refputtext_c _ _ l[j] _ ho.rd (by simp; omega) (by omega)
          generalize l[j] = x at *
          replace htk := Go.Lib.hid htk
          clear h3 hcell
          have tb0 : True := trivial
          go_wp2_with (first
            | (have _t := tb0; go_at_call 67; refine PX.mono ?_; rintro e w8 ⟨v8, rfl, ho8, hb8⟩; clear tb0; have tb1 : True := trivial))
          exact ⟨⟨j + 1, by omega, by go_num, by rw [htk.out]; simpa using ho8.mono hbw.size, below_below hbg hb8, below_below hbw hb8⟩, by simp [intOf]; omega⟩
        · have q1 : ¬ (j : Int) < l.length := by omega
          have htl : (txtsF l).length ≤ 70000 := by
            have := txtsF_len l lx
            omega
          have e1 : l.take j = l := List.take_of_length_le (by omega)
          rw [e1] at ho
          clear e1
          go_wp2_with fail
          go_meet
          case rel => exact ⟨_, ho, hbg, hbw, by simp; omega, hW4⟩
  case rest =>
  clear st Q3
  have st := hcut
  clear hcut
  go_upto_if 65 with fail
  go_cut [4] from 5 (fun v wc => ∃ X2, Own8 wc w.heap.size 5 v X2 ∧ Below wg.heap.size wg wc ∧ Below w.heap.size w wc ∧ X2.length ≤ 200000 ∧ RowKit.Hid (W = X2 ++ (pF f)))
  case first =>
    obtain ⟨X2, ho, hbg, hbw, hX2, hW2⟩ := st
    have c2 : _ = some _ := (hkg.below hbg).cell 6
    have q2 := Q4.out
    by_cases hx : n = 0
    · have q3 : (n != 0) = false := by rw [hx]; rfl
      rw [q3] at q2
      have hp : pN n = [] := by rw [hx]; rfl
      have hW3 := Go.Lib.hid (show W = X2 ++ (pF f) by rw [hW2.out, hp] <;> simp)
      clear hx q3 hp hW2
      go_wp2_with fail
      go_meet
      case rel => exact ⟨X2, ho, hbg, hbw, by omega, hW3⟩
    · have q3 : (n != 0) = true := by simpa using hx
      rw [q3] at q2
      have hp : pN n = formU (zig n) := by unfold pN; rw [if_neg hx]
      have hW3 := Go.Lib.hid (show W = (X2 ++ formU (zig n)) ++ (pF f) by rw [hW2.out, hp] <;> simp)
      have PX := refputint_c _ X2 n _ ho.rd (by omega) hn
      have hXl : (X2 ++ formU (zig n)).length ≤ 200000 := by have := formU_len64 (zig n) (zig_lt n hn); simp; omega
      clear hx q3 hp hW2
      have ty40 : True := trivial
      go_wp2_with (first
        | (have _t := ty40; go_at_call 68; refine PX.mono ?_; rintro e w5 ⟨v5, rfl, ho5, hb5⟩; clear ty40; have ty41 : True := trivial))
      go_meet
      case rel => exact ⟨_, ho5.mono hbw.size, below_below hbg hb5, below_below hbw hb5, hXl, hW3⟩
  case rest =>
  clear st Q4
  have st := hcut
  clear hcut
  go_upto_if 72 with fail
  go_cut [4] from 5 (fun v wc => ∃ X2, Own8 wc w.heap.size 5 v X2 ∧ Below wg.heap.size wg wc ∧ Below w.heap.size w wc ∧ X2.length ≤ 300000 ∧ RowKit.Hid (W = X2 ++ ([])))
  case first =>
    obtain ⟨X2, ho, hbg, hbw, hX2, hW2⟩ := st
    have c2 : _ = some _ := (hkg.below hbg).cell 7
    have q2 := Q5.out
    by_cases hx : f = 0
    · have q3 : (f != 0) = false := by rw [hx]; rfl
      rw [q3] at q2
      have hp : pF f = [] := by rw [hx]; rfl
      have hW3 := Go.Lib.hid (show W = X2 ++ ([]) by rw [hW2.out, hp] <;> simp)
      clear hx q3 hp hW2
      go_wp2_with fail
      go_meet
      case rel => exact ⟨X2, ho, hbg, hbw, by omega, hW3⟩
    · have q3 : (f != 0) = true := by simpa using hx
      rw [q3] at q2
      have hp : pF f = beBs (bitsI f) 8 := by unfold pF; rw [if_neg hx]
      have hW3 := Go.Lib.hid (show W = (X2 ++ beBs (bitsI f) 8) ++ ([]) by rw [hW2.out, hp] <;> simp)
      have PX := refputfloat_c _ X2 f _ ho.rd (by omega) hf
      have hXl : (X2 ++ beBs (bitsI f) 8).length ≤ 300000 := by have : (beBs (bitsI f) 8).length = 8 := (by simp [beBs]); simp; omega
      clear hx q3 hp hW2
      have ty50 : True := trivial
      go_wp2_with (first
        | (have _t := ty50; go_at_call 69; refine PX.mono ?_; rintro e w5 ⟨v5, rfl, ho5, hb5⟩; clear ty50; have ty51 : True := trivial))
      go_meet
      case rel => exact ⟨_, ho5.mono hbw.size, below_below hbg hb5, below_below hbw hb5, hXl, hW3⟩
  case rest =>
  clear st Q5
  have st := hcut
  clear hcut
  obtain ⟨X2, ho, hbg, hbw, hX2, hW2⟩ := st
  have e : W = X2 := by rw [hW2.out]; simp
  subst e
  clear hW2
  go_wp2_with fail
  go_ret
  exact ⟨_, rfl, ho, hbw⟩
end Go.Proofs.YtocfcgjjepegmaaDoor
