/- stanza.Write. -/
import Derived.Test.YtocfcgjjepegmaaDoorStz4
import Derived.Test.YtocfcgjjepegmaaDoorStzLaws
import Derived.Test.YtocfcgjjepegmaaDoorStz1
set_option linter.unusedVariables false
set_option linter.unusedSimpArgs false
namespace Go.Proofs.YtocfcgjjepegmaaDoor
open Go.RowKit
def writeI (s : Stz) : List UInt8 × Int := if checkI s = 0 then (writeL s, 0) else ([], checkI s)
def GivesW (w : World) (r : List UInt8 × Int) (e : Ending) (w' : World) : Prop := ∃ v, e = .returned (.tuple #[v, .int .i64 r.2]) ∧ Own8 w' w.heap.size 5 v r.1 ∧ Below w.heap.size w w'
theorem checkI_ok {s : Stz} (h : checkI s = 0) : textE s.a = 0 ∧ textE s.b = 0 ∧ textE s.t = 0 ∧ (∀ x ∈ s.l, textE x = 0) ∧ s.l.length ≤ 64 ∧ 0 ≤ s.kind ∧ s.kind < 47 := by
  have hk := partsI_cases s.kind
  unfold checkI at h
  split at h
  · cases h
  · split at h
    · cases h
    · split at h
      · rename_i h3; exact absurd h h3
      · rename_i h3
        split at h
        · cases h
        · have h3 := firstE_ok (Decidable.not_not.1 h3)
          exact ⟨h3 _ (by simp), h3 _ (by simp), h3 _ (by simp), firstE_ok h, by omega, by rcases hk with hk | hk <;> omega, by rcases hk with hk | hk <;> omega⟩
theorem txtsF_len (l : List (List UInt8)) (h : ∀ x ∈ l, x.length ≤ 1024) : (txtsF l).length ≤ 1034 * l.length := by
  induction l with
  | nil => simp [txtsF]
  | cons x r ih =>
    have h1 := h x (by simp)
    have h2 := ih fun y hy => h y (by simp [hy])
    have h3 := formU_len64 x.length (by omega)
    simp only [txtsF, txtF, List.length_append, List.length_cons]
    omega
theorem txtsF_take (l : List (List UInt8)) (j : Nat) (h : j < l.length) : txtsF (l.take (j + 1)) = txtsF (l.take j) ++ (formU l[j].length ++ l[j]) := by
  rw [List.take_succ_eq_append_getElem h, txtsF_append]
  simp [txtsF, txtF]
def WlRel (w wg : World) (X : List UInt8) (l : List (List UInt8)) (v i : Value) (wr : World) : Prop :=
  ∃ j : Nat, j ≤ l.length ∧ i = .int .i64 (j : Int) ∧ Own8 wr w.heap.size 5 v (X ++ txtsF (l.take j)) ∧ Below wg.heap.size wg wr ∧ Below w.heap.size w wr
def ptI (a b t : List UInt8) : Nat → List UInt8
  | 0 => []
  | 1 => pT a
  | 2 => pT a ++ pT b
  | _ => pT a ++ (pT b ++ pT t)
theorem pT_len (x : List UInt8) (hx : x.length < 18446744073709551616) : (pT x).length ≤ 10 + x.length := by
  unfold pT
  split
  · simp
  · unfold txtF
    have := formU_len64 x.length hx; simp; omega
theorem ptI_len (a b t : List UInt8) (j : Nat) (ha : a.length ≤ 1024) (hb : b.length ≤ 1024) (ht : t.length ≤ 1024) : (ptI a b t j).length ≤ 30 + a.length + b.length + t.length := by
  have h1 := pT_len a (by omega)
  have h2 := pT_len b (by omega)
  have h3 := pT_len t (by omega)
  match j with
  | 0 => simp [ptI]
  | 1 => simp only [ptI]; omega
  | 2 => simp only [ptI, List.length_append]; omega
  | k + 3 => simp only [ptI, List.length_append]; omega
theorem bit_sh0 (n : Nat) (h : n < 2 ^ 8) : (Go.bits .and .u8 (n : Int) 1 == 1) = decide (n % 2 = 1) := by
  have H : ∀ x : Fin 256, (Go.bits .and .u8 (x.val : Int) 1 == 1) = decide (x.val % 2 = 1) := by decide +kernel
  exact H ⟨n, h⟩
theorem bit_sh1 (n : Nat) (h : n < 2 ^ 8) : (Go.bits .and .u8 ((n : Int) / 2) 1 == 1) = decide (n / 2 % 2 = 1) := by
  have H : ∀ x : Fin 256, (Go.bits .and .u8 ((x.val : Int) / 2) 1 == 1) = decide (x.val / 2 % 2 = 1) := by decide +kernel
  exact H ⟨n, h⟩
theorem bit_sh2 (n : Nat) (h : n < 2 ^ 8) : (Go.bits .and .u8 ((n : Int) / 4) 1 == 1) = decide (n / 4 % 2 = 1) := by
  have H : ∀ x : Fin 256, (Go.bits .and .u8 ((x.val : Int) / 4) 1 == 1) = decide (x.val / 4 % 2 = 1) := by decide +kernel
  exact H ⟨n, h⟩
def WtRel (w wg : World) (X a b t : List UInt8) (v i : Value) (wr : World) : Prop :=
  ∃ j : Nat, j ≤ 3 ∧ i = .int .i64 (j : Int) ∧ Own8 wr w.heap.size 5 v (X ++ ptI a b t j) ∧ Below wg.heap.size wg wr ∧ Below w.heap.size w wr
set_option maxRecDepth 100000 in
set_option maxHeartbeats 3200000 in
theorem write_c (w : World) (hT : Tabs w) (s : Stz) (vl : Value) (hl : RdT w vl s.l) (ok : StzOk s) :
    Calls Tryd.prog 16 #[stzV s vl] w (GivesW w (writeI s)) := by
  have CK := fun w1 (hb : Below w.heap.size w w1) => check_c w1 (hT.below hb) s vl (hl.below hb) ok
  have TH := fun w1 (hb : Below w.heap.size w w1) => there_c w1 s vl (hl.below hb)
  by_cases hC : checkI s = 0
  · have hI : writeI s = (writeL s, 0) := by unfold writeI; rw [if_pos hC]
    rw [hI]
    obtain ⟨te1, te2, te3, te4, hl64, hk'⟩ := checkI_ok hC
    have la := (textE_ok te1).1
    have lb := (textE_ok te2).1
    have lt := (textE_ok te3).1
    have lx := fun x hx => (textE_ok (te4 x hx)).1
    rw [hC] at CK
    clear hC hI te1 te2 te3 te4
    have hlt := thereI_lt s
    obtain ⟨b0, b1, b2, b3, b4, b5⟩ := bits_there s
    have hW : writeL s = formU s.kind.toNat ++ (formU s.id ++ (UInt8.ofNat (thereI s) :: (pT s.a ++ (pT s.b ++ (pT s.t ++ (pL s.l ++ (pN s.n ++ pF s.f))))))) := rfl
    generalize writeL s = W at *
    obtain ⟨ha1, hb1, ht1, hl1, hl2, hid, hn, hf⟩ := ok
    obtain ⟨A, c, rfl, h1, h2, h3⟩ := hl.open
    obtain ⟨kind, idn, a, b, t, l, n, f⟩ := s
    simp only at *
    obtain ⟨K, rfl⟩ := Int.eq_ofNat_of_zero_le hk'.1
    generalize thereI ⟨(K : Int), idn, a, b, t, l, n, f⟩ = B at *
    obtain ⟨cb, rfl⟩ : ∃ cb : UInt8, B = cb.toNat := ⟨UInt8.ofNat B, by rw [UInt8.toNat_ofNat']; omega⟩
    have hcb : UInt8.ofNat cb.toNat = cb := by simp
    rw [hcb] at hW
    clear hcb
    unfold stzV at CK TH ⊢
    simp only [Int.toNat_natCast] at CK TH hW ⊢
    replace hW := Go.Lib.hid hW
    have P0 := fun w1 => putuint_c (.slice none 0 0) [] K w1 (Rd.nil w1) (by simp) (by omega)
    have P1 := fun w1 v h => putuint_c v (formU K) idn w1 h (by have := formU_len64 K (by omega); omega) hid
    have qk : (K : Int) < 47 := hk'.2
    have hkl : (formU K).length ≤ 10 := formU_len64 K (by omega)
    have hil : (formU idn).length ≤ 10 := formU_len64 idn hid
    have qk0 : (0 : Int) ≤ K := by omega
    go_enter Tryd.func16, Tryd.ntmps16
    have tok0 : True := trivial
    go_upto_region 5 with (first
      | (have _t := tok0; (with_reducible refine G_box ?_; refine L_box (by with_unfolding_all (conv => lhs; whnf)) ?_); intro wx hkx hbx hsx; clear hsx; clear tok0; have tok1 : True := trivial)
      | (have _t := tok1; (with_reducible refine G_load ?_; refine L_load_agg agS (by with_unfolding_all (conv => lhs; whnf)) hkx rfl ?_); clear tok1; have tok2 : True := trivial)
      | (have _t := tok2; go_at_call 18; refine (CK _ hbx).mono ?_; rintro e w1 ⟨rfl, hb1⟩; replace hkx := hkx.below hb1; replace hbx := below_below hbx hb1; clear tok2; have tok3 : True := trivial)
      | (have _t := tok3; (with_reducible refine G_load ?_; refine L_load_agg agS (by with_unfolding_all (conv => lhs; whnf)) hkx rfl ?_); clear tok3; have tok4 : True := trivial)
      | (have _t := tok4; go_at_call 56; refine (TH _ hbx).mono ?_; rintro e w2 ⟨rfl, hb2⟩; replace hkx := hkx.below hb2; replace hbx := below_below hbx hb2; clear tok4; have tok5 : True := trivial))
    clear CK TH
    refine region_making 11 (fun | 9 => [6] | _ => []) (fun | 3 => some fun _ => new8 5 ([] ++ formU K) | 6 => some fun _ => new8 5 (formU K ++ formU idn) | 8 => some fun _ => new8 5 [cb] | 9 => some fun _ => new8 5 (formU K ++ formU idn ++ [cb]) | _ => none) (by kernel_rfl) (by kernel_rfl) ?_ ?_
    · intro i' S' h' e v'
      match i', h' with
      | 3, h' => cases h'; exact new8_loc _ _ _ _
      | 6, h' => cases h'; exact new8_loc _ _ _ _
      | 8, h' => cases h'; exact new8_loc _ _ _ _
      | 9, h' => cases h'; exact new8_loc _ _ _ _
    simp only [List.take_succ_cons, List.take_zero, List.drop_succ_cons, List.drop_zero]
    (apply wpG_pure; (focus rfl); (focus (intro wg Bg hbg hBg hFg; go_simp; (try go_bits); (first | done | exact ⟨rfl, Below.refl _ _⟩ | rfl))); simp only [Act.put, List.setIfInBounds_toArray, List.set_cons_succ, List.set_cons_zero])
    (apply wpG_pure; (focus rfl); (focus (intro wg Bg hbg hBg hFg; have c0 : _ = some _ := (hkx.drew.below hbg).cell 0; go_simp; (try go_bits); (first | done | exact ⟨rfl, Below.refl _ _⟩ | rfl))); simp only [Act.put, List.setIfInBounds_toArray, List.set_cons_succ, List.set_cons_zero])
    (apply wpG_pure; (focus rfl); (focus (intro wg Bg hbg hBg hFg; go_simp; (try go_bits); (first | done | exact ⟨rfl, Below.refl _ _⟩ | rfl))); simp only [Act.put, List.setIfInBounds_toArray, List.set_cons_succ, List.set_cons_zero])
    (apply wpG_make; (focus rfl); (focus (intro wg Bg hbg hBg hFg; go_simp; go_at_call 57; exact Calls.mono (P0 _) (fun e w' h => (by obtain ⟨u, rfl, ho, hb⟩ := h; exact ⟨u, rfl, Chg.of_below hb, ⟨ho.mono (Nat.zero_le _), fun g hg => (by first | exact .inr ⟨ho.base_le g hg, ho.lt g hg⟩ | exact ⟨ho.base_le g hg, ho.lt g hg⟩)⟩⟩)))); intro va; simp only [Act.put, List.setIfInBounds_toArray, List.set_cons_succ, List.set_cons_zero])
    (apply wpG_pure; (focus rfl); (focus (intro wg Bg hbg hBg hFg; go_simp; (try go_bits); (first | done | exact ⟨rfl, Below.refl _ _⟩ | rfl))); simp only [Act.put, List.setIfInBounds_toArray, List.set_cons_succ, List.set_cons_zero])
    (apply wpG_pure; (focus rfl); (focus (intro wg Bg hbg hBg hFg; have c0 : _ = some _ := (hkx.drew.below hbg).cell 1; go_simp; (try go_bits); (first | done | exact ⟨rfl, Below.refl _ _⟩ | rfl))); simp only [Act.put, List.setIfInBounds_toArray, List.set_cons_succ, List.set_cons_zero])
    apply wpG_make; (focus rfl); (focus (intro wg Bg hbg hBg hFg; have hN : new8 5 ([] ++ formU K) va (Bg 3) wg := hFg 3 (by decide +kernel); have hr : Rd wg va (formU K) := hN.1.rd; go_simp; go_at_call 57; exact Calls.mono (P1 wg va hr) (fun e w' h => (by obtain ⟨u, rfl, ho, hb⟩ := h; exact ⟨u, rfl, Chg.of_below hb, ⟨ho.mono (Nat.zero_le _), fun g hg => (by first | exact .inr ⟨ho.base_le g hg, ho.lt g hg⟩ | exact ⟨ho.base_le g hg, ho.lt g hg⟩)⟩⟩)))); intro vb; simp only [Act.put, List.setIfInBounds_toArray, List.set_cons_succ, List.set_cons_zero]
    (apply wpG_pure; (focus rfl); (focus (intro wg Bg hbg hBg hFg; go_simp; (try go_bits); (first | done | exact ⟨rfl, Below.refl _ _⟩ | rfl))); simp only [Act.put, List.setIfInBounds_toArray, List.set_cons_succ, List.set_cons_zero])
    (apply wpG_make; (focus rfl); (focus (intro wg Bg hbg hBg hFg; refine goesTo_lit (n := 1) (by go_simp) [cb] rfl (by decide) (by go_simp; first | done | rfl | exact ⟨rfl, rfl⟩))); intro vc; simp only [Act.put, List.setIfInBounds_toArray, List.set_cons_succ, List.set_cons_zero])
    (apply wpG_make; (focus rfl); (focus (intro wg Bg hbg hBg hFg; have hN := hFg 6 (by decide +kernel); refine goesTo_app8w (by go_simp) _ _ rfl st8 (by with_unfolding_all (conv => lhs; whnf)) (id hN).1 (by with_unfolding_all (conv => lhs; whnf)) (Rd.src ((show new8 5 [cb] vc (Bg 8) wg from hFg 8 (by decide +kernel)).1.rd) Tryd.underlying28) (by first | omega | (simp; omega)) (Nat.zero_le _) (fun g hg => ⟨6, by simp, (id hN).2 g hg⟩))); intro vd; simp only [Act.put, List.setIfInBounds_toArray, List.set_cons_succ, List.set_cons_zero])
    (apply wpG_pure; (focus rfl); (focus (intro wg Bg hbg hBg hFg; go_simp; (try go_bits); (first | done | exact ⟨rfl, Below.refl _ _⟩ | rfl))); simp only [Act.put, List.setIfInBounds_toArray, List.set_cons_succ, List.set_cons_zero])
    refine wpG_end (fun wg Bg hbg hBg hFg => ?_)
    have hN : new8 5 (formU K ++ formU idn ++ [cb]) vd (Bg 9) wg := hFg 9
    have ho : Own8 wg w.heap.size 5 vd (formU K ++ formU idn ++ [cb]) := hN.1.rebase (fun g hg => by have h := hBg.lo 9 g (hN.2 g hg); have h2 := hbx.size; exact Nat.le_trans h2 h)
    have hkg := hkx.drew.below hbg
    have hbG : Below w.heap.size w wg := hbx.drew.trans (hbg.mono hbx.size)
    clear hFg hBg hN hbg hkx hbx P0 P1
    have hpl : (formU K ++ formU idn ++ [cb]).length ≤ 100 := by have := formU_len64 K (by omega); have := formU_len64 idn hid; simp; omega
    have hW2 : Go.RowKit.Hid (W = (formU K ++ formU idn ++ [cb]) ++ (pT a ++ (pT b ++ (pT t ++ (pL l ++ (pN n ++ pF f)))))) := by rw [hW.out]; show _ = _; simp
    clear hW
    generalize formU K ++ formU idn ++ [cb] = X at *
    have c2 : _ = some _ := hkg.cell 2
    have c3 : _ = some _ := hkg.cell 3
    have c4 : _ = some _ := hkg.cell 4
    go_wp2_with fail
    go_loopw [6, 35] (WtRel w wg X a b t) (fun _ i _ => 3 - (intOf i).toNat)
    case atStart => exact ⟨0, by omega, rfl, by simpa [ptI] using ho, Below.refl _ _, hbG⟩
    clear c2 c3 c4 ho hbG
    have hb0x : cb.toNat % 2 = onB (!a.isEmpty) 1 := by simpa using b0
    have hb1x : cb.toNat / 2 % 2 = onB (!b.isEmpty) 1 := by simpa using b1
    have hb2x : cb.toNat / 4 % 2 = onB (!t.isEmpty) 1 := by simpa using b2
    clear b0 b1 b2
    case round =>
      obtain ⟨j, hj, rfl, ho, hbg, hbw⟩ := hrel
      by_cases hlt : j < 3
      · have q1 : (j : Int) < 3 := by omega
        rcases (by omega : j = 0 ∨ j = 1 ∨ j = 2) with rfl | rfl | rfl
        · have hix : ∀ w : World, (Instr.index 99 (.agg #[.string (strB a), .string (strB b), .string (strB t)]) (.int .i64 0)).run Tryd.prog w = .ok (.string (strB a)) w := fun _ => by kernel_rfl
          have hbt := bit_sh0 cb.toNat cb.toNat_lt
          by_cases hx : a = []
          · have q2 : (Go.bits .and .u8 (cb.toNat : Int) 1 == 1) = false := by rw [hbt]; apply decide_eq_false; rw [hb0x, hx]; decide
            have hp : ptI a b t 1 = ptI a b t 0 := by rw [hx]; simp [ptI, pT]
            rw [← hp] at ho
            clear hbt hp hx
            go_wp2_with fail
            exact ⟨⟨1, by omega, rfl, ho, hbg, hbw⟩, by simp [intOf]⟩
          · have q2 : (Go.bits .and .u8 (cb.toNat : Int) 1 == 1) = true := by rw [hbt]; apply decide_eq_true; rw [hb0x]; simp [onB, hx]
            have hp : ptI a b t 1 = ptI a b t 0 ++ (formU a.length ++ a) := by simp [ptI, pT, txtF, hx]
            have PX := puttext_c _ _ a _ ho.rd (by have := ptI_len a b t 0 la lb lt; simp; omega) (by omega)
            clear hbt hx
            have tx0 : True := trivial
            go_wp2_with (first
              | (have _t := tx0; go_at_call 58; refine PX.mono ?_; rintro e w5 ⟨v5, rfl, ho5, hb5⟩; clear tx0; have tx1 : True := trivial))
            have hs5 := hbw.size
            exact ⟨⟨1, by omega, rfl, by rw [hp]; simpa using ho5.mono hs5, below_below hbg hb5, below_below hbw hb5⟩, by simp [intOf]⟩
        · have hix : ∀ w : World, (Instr.index 99 (.agg #[.string (strB a), .string (strB b), .string (strB t)]) (.int .i64 1)).run Tryd.prog w = .ok (.string (strB b)) w := fun _ => by kernel_rfl
          have hbt := bit_sh1 cb.toNat cb.toNat_lt
          by_cases hx : b = []
          · have q2 : (Go.bits .and .u8 ((cb.toNat : Int) / 2) 1 == 1) = false := by rw [hbt]; apply decide_eq_false; rw [hb1x, hx]; decide
            have hp : ptI a b t 2 = ptI a b t 1 := by rw [hx]; simp [ptI, pT]
            rw [← hp] at ho
            clear hbt hp hx
            go_wp2_with fail
            exact ⟨⟨2, by omega, rfl, ho, hbg, hbw⟩, by simp [intOf]⟩
          · have q2 : (Go.bits .and .u8 ((cb.toNat : Int) / 2) 1 == 1) = true := by rw [hbt]; apply decide_eq_true; rw [hb1x]; simp [onB, hx]
            have hp : ptI a b t 2 = ptI a b t 1 ++ (formU b.length ++ b) := by simp [ptI, pT, txtF, hx]
            have PX := puttext_c _ _ b _ ho.rd (by have := ptI_len a b t 1 la lb lt; simp; omega) (by omega)
            clear hbt hx
            have tx0 : True := trivial
            go_wp2_with (first
              | (have _t := tx0; go_at_call 58; refine PX.mono ?_; rintro e w5 ⟨v5, rfl, ho5, hb5⟩; clear tx0; have tx1 : True := trivial))
            have hs5 := hbw.size
            exact ⟨⟨2, by omega, rfl, by rw [hp]; simpa using ho5.mono hs5, below_below hbg hb5, below_below hbw hb5⟩, by simp [intOf]⟩
        · have hix : ∀ w : World, (Instr.index 99 (.agg #[.string (strB a), .string (strB b), .string (strB t)]) (.int .i64 2)).run Tryd.prog w = .ok (.string (strB t)) w := fun _ => by kernel_rfl
          have hbt := bit_sh2 cb.toNat cb.toNat_lt
          by_cases hx : t = []
          · have q2 : (Go.bits .and .u8 ((cb.toNat : Int) / 4) 1 == 1) = false := by rw [hbt]; apply decide_eq_false; rw [hb2x, hx]; decide
            have hp : ptI a b t 3 = ptI a b t 2 := by rw [hx]; simp [ptI, pT]
            rw [← hp] at ho
            clear hbt hp hx
            go_wp2_with fail
            exact ⟨⟨3, by omega, rfl, ho, hbg, hbw⟩, by simp [intOf]⟩
          · have q2 : (Go.bits .and .u8 ((cb.toNat : Int) / 4) 1 == 1) = true := by rw [hbt]; apply decide_eq_true; rw [hb2x]; simp [onB, hx]
            have hp : ptI a b t 3 = ptI a b t 2 ++ (formU t.length ++ t) := by simp [ptI, pT, txtF, hx]
            have PX := puttext_c _ _ t _ ho.rd (by have := ptI_len a b t 2 la lb lt; simp; omega) (by omega)
            clear hbt hx
            have tx0 : True := trivial
            go_wp2_with (first
              | (have _t := tx0; go_at_call 58; refine PX.mono ?_; rintro e w5 ⟨v5, rfl, ho5, hb5⟩; clear tx0; have tx1 : True := trivial))
            have hs5 := hbw.size
            exact ⟨⟨3, by omega, rfl, by rw [hp]; simpa using ho5.mono hs5, below_below hbg hb5, below_below hbw hb5⟩, by simp [intOf]⟩
      · obtain rfl : j = 3 := by omega
        have hX1 : (X ++ ptI a b t 3).length ≤ 10000 := by have := ptI_len a b t 3 la lb lt; simp; omega
        have hW3 := Go.Lib.hid (show W = (X ++ ptI a b t 3) ++ (pL l ++ (pN n ++ pF f)) by rw [hW2.out]; simp [ptI])
        generalize X ++ ptI a b t 3 = X1 at *
        clear hW2
        obtain ⟨w4, e4⟩ : ∃ w4, w4 = wr := ⟨_, rfl⟩
        subst e4
        have c5 : _ = some _ := (hkg.below hbg).cell 5
        have b3' : cb.toNat / 2 ^ 3 % 2 = onB (!l.isEmpty) 1 := b3
        have hb8 := bit_has ⟨cb.toNat, cb.toNat_lt⟩ ⟨3, by omega⟩
        simp only at hb8
        by_cases hx : l = []
        focus
          have q2 : (Go.bits .and .u8 (cb.toNat : Int) 8 != 0) = false := by
            refine Eq.trans hb8 ?_
            apply decide_eq_false; rw [b3', hx]; decide
          have hW4 := Go.Lib.hid (show W = X1 ++ (pN n ++ pF f) by rw [hW3.out, hx]; simp [pL])
          clear hb8 b3' hx hW3 b3
          go_upto_region 19 with fail
          have st : ∃ X2, Own8 w4 w.heap.size 5 u6 X2 ∧ Below wg.heap.size wg w4 ∧ Below w.heap.size w w4 ∧ X2.length ≤ 100000 ∧ RowKit.Hid (W = X2 ++ (pN n ++ pF f)) := ⟨X1, ho, hbg, hbw, by omega, hW4⟩
          obtain ⟨v7, ev7⟩ : ∃ v7, v7 = u6 := ⟨_, rfl⟩
          rw [← ev7] at st ⊢
          clear ev7 ho hbg hbw hW4 c5 hX1 q2
          obtain ⟨w7, e7⟩ : ∃ w7, w7 = w4 := ⟨_, rfl⟩
          subst e7
        rotate_left
        focus
          have q2 : (Go.bits .and .u8 (cb.toNat : Int) 8 != 0) = true := by
            refine Eq.trans hb8 ?_
            apply decide_eq_true; rw [b3']; simp [onB, hx]
          have hpl : pL l = formU l.length ++ txtsF l := by unfold pL; rw [if_neg hx]
          have hW4 := Go.Lib.hid (show W = (X1 ++ formU l.length ++ txtsF l) ++ (pN n ++ pF f) by rw [hW3.out, hpl]; simp)
          clear hb8 b3' hx hW3 b3 hpl
          have ql : (l.length : Int) ≤ 64 := by omega
          have PL := fun v1 h => putuint_c v1 X1 l.length w4 h (by omega) (by omega)
          have hfl : (formU l.length).length ≤ 10 := formU_len64 _ (by omega)
          have ta0 : True := trivial
          go_wp2_with (first
            | (have _t := ta0; go_at_call 57; refine (PL _ ho.rd).mono ?_; rintro e w5 ⟨v5, rfl, ho5, hb5⟩; have d5 : _ = some _ := ((hkg.below hbg).below hb5).cell 5; clear ta0; have ta1 : True := trivial))
          clear d5
          have hbg5 := below_below hbg hb5
          have hbw5 := below_below hbw hb5
          have ho6 : Own8 w5 w.heap.size 5 v5 (X1 ++ formU l.length) := ho5.mono hbw.size
          have hX2 : (X1 ++ formU l.length).length ≤ 10010 := by simp; omega
          generalize hXe : X1 ++ formU l.length = X2 at *
          replace hXe := Go.Lib.hid hXe
          clear ho5 PL c5 hbg hbw
          go_loopw [6, 60] (WlRel w wg X2 l) (fun _ i _ => l.length - (intOf i).toNat)
          case atStart => exact ⟨0, by omega, rfl, by simpa [txtsF] using ho6, hbg5, hbw5⟩
          case' round =>
            obtain ⟨j, hj, rfl, ho, hbg, hbw⟩ := hrel
            by_cases hlt : j < l.length
            · have q1 : (j : Int) < l.length := by omega
              obtain ⟨bb, off, rfl, hbl, hcell⟩ := h3 (by omega)
              have hcj : _ = some _ := (hbw.cell (p := ⟨bb, off + j, none⟩) hbl).trans (hcell j hlt)
              have hxl := lx l[j] (List.getElem_mem hlt)
              have htl : (txtsF (l.take j)).length ≤ 70000 := by
                have := txtsF_len (l.take j) (fun x hx => lx x (List.mem_of_mem_take hx))
                have h2 : (l.take j).length ≤ 64 := by simp; omega
                omega
              have htk := txtsF_take l j hlt
              have PX := puttext_c _ _ l[j] _ ho.rd (by simp; omega) (by omega)
              generalize l[j] = x at *
              replace htk := Go.Lib.hid htk
              clear h3 hcell
              have tb0 : True := trivial
              go_wp2_with (first
                | (have _t := tb0; go_at_call 58; refine PX.mono ?_; rintro e w8 ⟨v8, rfl, ho8, hb8⟩; clear tb0; have tb1 : True := trivial))
              exact ⟨⟨j + 1, by omega, by go_num, by rw [htk.out]; simpa using ho8.mono hbw.size, below_below hbg hb8, below_below hbw hb8⟩, by simp [intOf]; omega⟩
            have q1 : ¬ (j : Int) < l.length := by omega
            have htl : (txtsF l).length ≤ 70000 := by
              have := txtsF_len l lx
              omega
            have e1 : l.take j = l := List.take_of_length_le (by omega)
            rw [e1] at ho
            clear e1
            obtain ⟨w7, e7⟩ : ∃ w7, w7 = wr := ⟨_, rfl⟩
            subst e7
            go_upto_region 19 with fail
            have st : ∃ X2, Own8 w7 w.heap.size 5 u6 X2 ∧ Below wg.heap.size wg w7 ∧ Below w.heap.size w w7 ∧ X2.length ≤ 100000 ∧ RowKit.Hid (W = X2 ++ (pN n ++ pF f)) := ⟨_, ho, hbg, hbw, by simp; omega, hW4⟩
            obtain ⟨v7, ev7⟩ : ∃ v7, v7 = u6 := ⟨_, rfl⟩
            rw [← ev7] at st ⊢
            clear ev7 ho hbg hbw hW4 q2
        rotate_left
        all_goals
          obtain ⟨X2, ho, hbg, hbw, hX2, hW4⟩ := st
          have c6 : _ = some _ := (hkg.below hbg).cell 6
          have b4' : cb.toNat / 2 ^ 4 % 2 = onB (n != 0) 1 := b4
          have hb8 := bit_has ⟨cb.toNat, cb.toNat_lt⟩ ⟨4, by omega⟩
          simp only at hb8
          by_cases hx : n = 0
          focus
            have q2 : (Go.bits .and .u8 (cb.toNat : Int) 16 != 0) = false := by
              refine Eq.trans hb8 ?_
              apply decide_eq_false; rw [b4', hx]; decide
            have hW5 := Go.Lib.hid (show W = X2 ++ pF f by rw [hW4.out, hx]; simp [pN])
            clear hb8 b4' hx hW4
            go_upto_region 21 with fail
            have st : ∃ X2, Own8 w7 w.heap.size 5 v7 X2 ∧ Below wg.heap.size wg w7 ∧ Below w.heap.size w w7 ∧ X2.length ≤ 200000 ∧ RowKit.Hid (W = X2 ++ pF f) := ⟨X2, ho, hbg, hbw, by omega, hW5⟩
            obtain ⟨v8, ev⟩ : ∃ v8, v8 = v7 := ⟨_, rfl⟩
            rw [← ev] at st ⊢
            clear ev ho hbg hbw hW5 c6 hX2 q2
            obtain ⟨w8, ew⟩ : ∃ w8, w8 = w7 := ⟨_, rfl⟩
            subst ew
          rotate_left
          focus
            have q2 : (Go.bits .and .u8 (cb.toNat : Int) 16 != 0) = true := by
              refine Eq.trans hb8 ?_
              apply decide_eq_true; rw [b4']; simp [onB, hx]
            have PL := putint_c v7 X2 n w7 ho.rd (by omega) hn
            have hxx : pN n = formU (zig n) := by { unfold pN; rw [if_neg hx] }
            have hW5 := Go.Lib.hid (show W = (X2 ++ formU (zig n)) ++ pF f by rw [hW4.out, hxx]; simp)
            have hXl : (X2 ++ formU (zig n)).length ≤ 200000 := by { have := formU_len64 (zig n) (zig_lt n hn); simp; omega }
            clear hb8 b4' hx hW4
            have t40 : True := trivial
            go_upto_region 21 with (first
              | (have _t := t40; go_at_call 59; refine PL.mono ?_; rintro e w8 ⟨v8, rfl, ho5, hb5⟩; clear t40; have t41 : True := trivial))
            have st : ∃ X2, Own8 w8 w.heap.size 5 v8 X2 ∧ Below wg.heap.size wg w8 ∧ Below w.heap.size w w8 ∧ X2.length ≤ 200000 ∧ RowKit.Hid (W = X2 ++ pF f) := ⟨_, ho5.mono hbw.size, below_below hbg hb5, below_below hbw hb5, hXl, hW5⟩
            clear ho hbg hbw hW5 c6 hX2 q2 ho5 hb5 PL
          rotate_left
          all_goals
            obtain ⟨X2, ho, hbg, hbw, hX2, hW4⟩ := st
            have c7 : _ = some _ := (hkg.below hbg).cell 7
            have b5' : cb.toNat / 2 ^ 5 % 2 = onB (f != 0) 1 := b5
            have hb8 := bit_has ⟨cb.toNat, cb.toNat_lt⟩ ⟨5, by omega⟩
            simp only at hb8
            by_cases hx : f = 0
            focus
              have q2 : (Go.bits .and .u8 (cb.toNat : Int) 32 != 0) = false := by
                refine Eq.trans hb8 ?_
                apply decide_eq_false; rw [b5', hx]; decide
              have hW5 := Go.Lib.hid (show W = X2 ++ [] by rw [hW4.out, hx]; simp [pF])
              clear hb8 b5' hx hW4
              go_upto_region 23 with fail
              have st : ∃ X2, Own8 w8 w.heap.size 5 v8 X2 ∧ Below wg.heap.size wg w8 ∧ Below w.heap.size w w8 ∧ X2.length ≤ 300000 ∧ RowKit.Hid (W = X2 ++ []) := ⟨X2, ho, hbg, hbw, by omega, hW5⟩
              obtain ⟨v9, ev⟩ : ∃ v9, v9 = v8 := ⟨_, rfl⟩
              rw [← ev] at st ⊢
              clear ev ho hbg hbw hW5 c7 hX2 q2
              obtain ⟨w9, ew⟩ : ∃ w9, w9 = w8 := ⟨_, rfl⟩
              subst ew
            rotate_left
            focus
              have q2 : (Go.bits .and .u8 (cb.toNat : Int) 32 != 0) = true := by
                refine Eq.trans hb8 ?_
                apply decide_eq_true; rw [b5']; simp [onB, hx]
              have PL := putfloat_c v8 X2 f w8 ho.rd (by omega) hf
              have hxx : pF f = beBs (bitsI f) 8 := by { unfold pF; rw [if_neg hx] }
              have hW5 := Go.Lib.hid (show W = (X2 ++ beBs (bitsI f) 8) ++ [] by rw [hW4.out, hxx]; simp)
              have hXl : (X2 ++ beBs (bitsI f) 8).length ≤ 300000 := by { have : (beBs (bitsI f) 8).length = 8 := by simp [beBs]
                                                                          simp; omega }
              clear hb8 b5' hx hW4
              have t50 : True := trivial
              go_upto_region 23 with (first
                | (have _t := t50; go_at_call 60; refine PL.mono ?_; rintro e w9 ⟨v9, rfl, ho5, hb5⟩; clear t50; have t51 : True := trivial))
              have st : ∃ X2, Own8 w9 w.heap.size 5 v9 X2 ∧ Below wg.heap.size wg w9 ∧ Below w.heap.size w w9 ∧ X2.length ≤ 300000 ∧ RowKit.Hid (W = X2 ++ []) := ⟨_, ho5.mono hbw.size, below_below hbg hb5, below_below hbw hb5, hXl, hW5⟩
              clear ho hbg hbw hW5 c7 hX2 q2 ho5 hb5 PL
            rotate_left
            all_goals
              obtain ⟨X2, ho, hbg, hbw, hX2, hW5⟩ := st
              have hW6 := Go.Lib.hid (show W = X2 by rw [hW5.out]; simp)
              clear hW5
              go_wp2_with fail
              go_ret2
              rw [hW6.out]
              exact ⟨_, rfl, ho, hbw⟩
  · have hI : writeI s = ([], checkI s) := by unfold writeI; rw [if_neg hC]
    rw [hI]
    generalize checkI s = E at *
    have q1 : (E == (0 : Int)) = false := by simpa using hC
    have q2 : (E != (0 : Int)) = true := by simpa using hC
    clear hC hI TH
    unfold stzV at CK ⊢
    go_enter Tryd.func16, Tryd.ntmps16
    have tok0 : True := trivial
    go_wp2_with (first
      | (have _t := tok0; (with_reducible refine G_box ?_; refine L_box (by with_unfolding_all (conv => lhs; whnf)) ?_); intro wx hkx hbx hsx; clear hsx; clear tok0; have tok1 : True := trivial)
      | (have _t := tok1; (with_reducible refine G_load ?_; refine L_load_agg agS (by with_unfolding_all (conv => lhs; whnf)) hkx rfl ?_); clear tok1; have tok2 : True := trivial)
      | (have _t := tok2; go_at_call 18; refine (CK _ hbx).mono ?_; rintro e w1 ⟨rfl, hb1⟩; clear tok2; have tok3 : True := trivial))
    go_ret2
    exact ⟨_, rfl, Own8.nil _ _ _, below_below hbx hb1⟩
end Go.Proofs.YtocfcgjjepegmaaDoor
