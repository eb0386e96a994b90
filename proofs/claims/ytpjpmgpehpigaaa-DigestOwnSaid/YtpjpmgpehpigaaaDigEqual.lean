/- DigestEqual. -/
import Derived.Test.YtpjpmgpehpigaaaDigHmac
import Derived.Laws.BytesArg
set_option linter.unusedVariables false
set_option linter.unusedSimpArgs false
namespace Go.Proofs.Ytpjpmgpehpigaaa
open Go.RowKit
def strB (l : List UInt8) : ByteArray := ⟨l.toArray⟩
theorem strB_eq (a b : List UInt8) : (strB a = strB b) ↔ a = b := by
  unfold strB
  simp
theorem convert_str {w : World} {v : Value} {l : List UInt8} (h : Rd w v l) : (convert 23 9 v).run Try.prog w = .ok (.string (strB l)) w := by
  obtain ⟨A, c, rfl, h1, h2, h3⟩ := h.open
  rcases Nat.eq_zero_or_pos l.length with h0 | h0
  · have hl : l = [] := List.eq_nil_of_length_eq_zero h0
    subst hl
    rw [run_convert_bytes_string w _ _ _ _ _ _ Try.underlying23 Try.underlying5 Try.underlying9]
    cases A with
    | none => simp [Conv.bytesToString]; rfl
    | some a =>
      have := run_bytesToString (P := Try.prog) w a 0 c [] (by simp [loadCells, loadCellsFrom])
      simp only [List.length_nil] at this ⊢
      rw [this]
      rfl
  · obtain ⟨b, off, rfl, hc⟩ := h3 h0
    rw [run_convert_bytes_arg w _ _ Try.underlying23 Try.underlying5 b off l.length c (l.map fun x => (x.toNat : Int)) (by simp) (fun i hi => ?_) _ Try.underlying9]
    · congr 2
      unfold strOfNums strB
      congr 1
      apply congrArg
      rw [List.map_map]
      conv => rhs; rw [← List.map_id l]
      apply List.map_congr_left
      intro x _
      simp
    · rw [hc i hi]
      unfold bt
      simp [List.getD_eq_getElem?_getD, hi]
theorem flip_idx (f : Int) (n : Nat) (hn : 0 < n) (hn2 : n ≤ 1000) : ∃ k : Nat, k < n ∧ (wrap64 (f.tmod n + n)).tmod n = k := by
  have h1 := Int.lt_tmod_of_pos f (show (0 : Int) < n by omega)
  have h2 := Int.tmod_lt_of_pos f (show (0 : Int) < n by omega)
  generalize f.tmod n = t at *
  have e1 : wrap64 (t + n) = t + n := by unfold wrap64; omega
  rw [e1, Int.tmod_eq_emod_of_nonneg (by omega)]
  have h3 := Int.emod_nonneg (t + n) (show (n : Int) ≠ 0 by omega)
  have h4 := Int.emod_lt_of_pos (t + n) (show (0 : Int) < n by omega)
  exact ⟨((t + n) % n).toNat, by omega, by omega⟩
theorem flip_ne (x : List UInt8) (k : Nat) (hk : k < x.length) : x ≠ x.set k (x.getD k 0 ^^^ 1) := by
  intro h
  have h1 : x[k] = (x.set k (x.getD k 0 ^^^ 1))[k]'(by simp; exact hk) := by congr 1
  rw [List.getElem_set_self] at h1
  rw [List.getD_eq_getElem?_getD, List.getElem?_eq_getElem hk, Option.getD_some] at h1
  have h2 : x[k] ^^^ x[k] = x[k] ^^^ (x[k] ^^^ 1) := by rw [← h1]
  rw [← UInt8.xor_assoc, UInt8.xor_self, UInt8.zero_xor] at h2
  exact absurd h2 (by decide)
def EqK (x y : List UInt8) (w : World) (v7 v8 v9 : Value) (wx : World) : Prop := ∃ z : List UInt8, Rd wx v9 z ∧ (x.length = 0 → z = x) ∧ (0 < x.length → x ≠ z) ∧ Rd wx v7 x ∧ Rd wx v8 y ∧ Below w.heap.size w wx
set_option maxRecDepth 100000 in
set_option maxHeartbeats 1600000 in
theorem digestEqual_w (w : World) (v : Value) (l : List UInt8) (h : Rd w v l) (v' : Value) (l' : List UInt8) (h' : Rd w v' l') (f : Int) (hf : -9223372036854775808 ≤ f ∧ f ≤ 9223372036854775807) :
    Calls Try.prog 8 #[v, v', .int .i64 f] w (Ok w) := by
  have F1 := fun w1 (hb : Below w.heap.size w w1) => few5_c v l w1 (h.below hb)
  have F2 := fun w1 (hb : Below w.heap.size w w1) => few5_c v' l' w1 (h'.below hb)
  have hk : (l.take 1000).length ≤ 1000 := by simp; omega
  have hm : (l'.take 1000).length ≤ 1000 := by simp; omega
  have tk : (l.take 1000).take 1000 = l.take 1000 := by rw [List.take_take]; simp
  have tm : (l'.take 1000).take 1000 = l'.take 1000 := by rw [List.take_take]; simp
  generalize l.take 1000 = x at *
  generalize l'.take 1000 = y at *
  have FX := fun v1 w1 (hv : Rd w1 v1 x) => few5_c v1 x w1 hv
  have FY := fun v1 w1 (hv : Rd w1 v1 y) => few5_c v1 y w1 hv
  rw [tk] at FX
  rw [tm] at FY
  clear tk tm h h'
  obtain ⟨f0, f1⟩ := hf
  go_enter Try.func8, Try.ntmps8
  have c0 : True := trivial
  go_upto_if 19 with (first
    | ((with_reducible refine G_len ?_; refine L8_len Try.underlying23 (by with_unfolding_all (conv => lhs; whnf)) (by assumption) ?_))
    | (have _t := c0; go_at_call 22; refine (F1 _ (Below.refl _ _)).mono ?_; rintro e w1 ⟨v1, rfl, ho1, hb1⟩; clear c0; have c1 : True := trivial)
    | (have _t := c1; go_at_call 22; refine (F2 _ hb1).mono ?_; rintro e w2 ⟨v2, rfl, ho2, hb2⟩; have hw2 := below_below hb1 hb2; clear c1; have c2 : True := trivial)
    | (have _t := c2; go_at_call 22; refine (F1 _ hw2).mono ?_; rintro e w3 ⟨v3, rfl, ho3, hb3⟩; have hw3 := below_below hw2 hb3; have p7 := ho1.rd.below hb2; have r7 := p7.below hb3; have r8 := ho2.rd.below hb3; have r9 := ho3.rd; clear c2; have c3 : True := trivial))
  go_cut [9, 10] (fun v9 v10 wx => EqK x y w v1 v2 v9 wx)
  case first =>
    by_cases h0 : x.length = 0
    · have q0 : ¬ (0 : Int) < x.length := by omega
      go_wp2_with (first | (with_reducible refine G_len ?_; refine L8_len Try.underlying23 (by with_unfolding_all (conv => lhs; whnf)) (by assumption) ?_))
      all_goals go_meet
      exact ⟨x, r9, fun _ => rfl, fun h => by omega, r7, r8, hw3⟩
    · have q0 : (0 : Int) < x.length := by omega
      have q1 : ¬ (x.length : Int) = 0 := by omega
      obtain ⟨k, hkx, hke⟩ := flip_idx f x.length (by omega) hk
      go_upto_region 4 with (first | (with_reducible refine G_len ?_; refine L8_len Try.underlying23 (by with_unfolding_all (conv => lhs; whnf)) (by assumption) ?_))
      go_cut [10] (fun v10 wx => v10 = .int .i64 k ∧ w3 = wx)
      case first =>
        go_wp2_with (first | (with_reducible refine G_len ?_; refine L8_len Try.underlying23 (by with_unfolding_all (conv => lhs; whnf)) (by assumption) ?_))
        all_goals go_meet
        exact ⟨rfl, rfl⟩
      case rest =>
      obtain ⟨rfl, rfl⟩ := hcut
      obtain ⟨g, cap, hv3, hge, hgl⟩ := ho3.open (by omega)
      have hvb : v3.ownBlock = some g := by rw [hv3]; rfl
      clear hv3
      have q2 := bt_lo x k
      have q3 := bt_hi x k
      have hX := Go.Lib.hid (show bits .xor .u8 (bt x k) 1 = ((x.getD k 0 ^^^ 1).toNat : Int) by unfold bt; exact xor8_u8 _ 1)
      go_wp2_with (first | ((with_reducible refine G_index ?_; refine L8_oindex st8 (i := k) (by with_unfolding_all (conv => lhs; whnf)) (by assumption) (by assumption) (by with_unfolding_all (conv => lhs; whnf)) (by omega) (by omega) ?_); intro hcl hfr))
      all_goals go_meet
      have hst := ho3.stored' hvb k hkx (x.getD k 0 ^^^ 1)
      rw [← hX.out] at hst
      have hgr := grown_setCell w3 ⟨g, k, none⟩ (.int .u8 (bits .xor .u8 (bt x k) 1))
      exact ⟨_, hst.rd, fun h => by omega, fun _ => flip_ne x k hkx, r7.grown hgr (fun hn e => p7.ne_own (Nat.le_refl _) ho3 hn (e.trans hvb.symm)), r8.grown hgr (fun hn e => ho2.rd.ne_own (Nat.le_refl _) ho3 hn (e.trans hvb.symm)), hw3.grown hgr hw3.size (by intro k hk; cases hk; exact Nat.le_trans hw2.size hge)⟩
  case rest =>
  obtain ⟨z, hz, hz0, hz1, hx, hy, hbw⟩ := hcut
  clear F1 F2 ho1 ho2 ho3 hb1 hb2 hb3 hw2 hw3 r7 r8 r9 p7
  have HE1 := fun va vb w1 (h1 : Rd w1 va x) (h2 : Rd w1 vb y) => equal_c va vb x y w1 h1 h2
  have HE2 := fun va vb w1 (h1 : Rd w1 va x) (h2 : Rd w1 vb x) => equal_c va vb x x w1 h1 h2
  have HE3 := fun va w1 (h1 : Rd w1 va x) (h2 : Rd w1 u9 z) => equal_c va u9 x z w1 h1 h2
  have hS2 : ((strB x).toList == (strB y).toList) = decide (x = y) := by
    have h1 : ∀ a : List UInt8, (strB a).toList = a := fun a => by rw [ByteArray.toList_eq]; rfl
    rw [h1, h1]
    by_cases h : x = y <;> simp [h]
  simp only [decide_true] at HE2
  have hZ1 : decide (x = z) = decide (x.length = 0) := by
    apply decide_eq_decide.2
    constructor
    · intro h
      by_cases h0 : x.length = 0
      · exact h0
      · exact absurd h (hz1 (by omega))
    · intro h; exact (hz0 h).symm
  have hZ2 : decide ((x.length : Int) = 0) = decide (x.length = 0) := decide_eq_decide.2 (by omega)
  have hZ3 : ((x.length : Int) == 0) = decide (x.length = 0) := by rw [← hZ2]; rfl
  rw [hZ1] at HE3
  have hCx : ∀ w1, Rd w1 v1 x → (convert 23 9 v1).run Try.prog w1 = .ok (.string (strB x)) w1 := fun w1 h => convert_str h
  have hCy : ∀ w1, Rd w1 v2 y → (convert 23 9 v2).run Try.prog w1 = .ok (.string (strB y)) w1 := fun w1 h => convert_str h
  clear hz0 hz1 hZ1
  generalize decide (x = y) = D at *
  generalize decide (x.length = 0) = E at *
  generalize strB x = sx at *
  generalize strB y = sy at *
  go_wp2_with fail
  refine region_making 32 (fun _ => []) (fun | 1 => some fun _ => new8 5 x | 3 => some fun _ => new8 5 y | 13 => some fun _ => new8 5 x | 15 => some fun _ => new8 5 x | 20 => some fun _ => new8 5 x | _ => none) (by kernel_rfl) (by kernel_rfl) ?_ ?_
  · intro i' S' h' e v'
    match i', h' with
    | 1, h' => cases h'; exact new8_loc _ _ _ _
    | 3, h' => cases h'; exact new8_loc _ _ _ _
    | 13, h' => cases h'; exact new8_loc _ _ _ _
    | 15, h' => cases h'; exact new8_loc _ _ _ _
    | 20, h' => cases h'; exact new8_loc _ _ _ _
  simp only [List.take_succ_cons, List.take_zero, List.drop_succ_cons, List.drop_zero]
  (apply wpG_pure; (focus rfl); (focus (intro wg Bg hbg hBg hFg; go_simp; (try go_bits); (first | done | exact ⟨rfl, Below.refl _ _⟩ | rfl))); simp only [Act.put, List.setIfInBounds_toArray, List.set_cons_succ, List.set_cons_zero])
  (apply wpG_make; (focus rfl); (focus (intro wg Bg hbg hBg hFg; go_simp; go_at_call 22; exact Calls.mono (FX _ _ (hx.drew.below hbg)) (fun e w' h => (by obtain ⟨u, rfl, ho, hb⟩ := h; exact ⟨u, rfl, Chg.of_below hb, ⟨ho.mono (Nat.zero_le _), fun g hg => (by first | exact .inr ⟨ho.base_le g hg, ho.lt g hg⟩ | exact ⟨ho.base_le g hg, ho.lt g hg⟩)⟩⟩)))); intro va; simp only [Act.put, List.setIfInBounds_toArray, List.set_cons_succ, List.set_cons_zero])
  (apply wpG_pure; (focus rfl); (focus (intro wg Bg hbg hBg hFg; go_simp; (try go_bits); (first | done | exact ⟨rfl, Below.refl _ _⟩ | rfl))); simp only [Act.put, List.setIfInBounds_toArray, List.set_cons_succ, List.set_cons_zero])
  (apply wpG_make; (focus rfl); (focus (intro wg Bg hbg hBg hFg; go_simp; go_at_call 22; exact Calls.mono (FY _ _ (hy.drew.below hbg)) (fun e w' h => (by obtain ⟨u, rfl, ho, hb⟩ := h; exact ⟨u, rfl, Chg.of_below hb, ⟨ho.mono (Nat.zero_le _), fun g hg => (by first | exact .inr ⟨ho.base_le g hg, ho.lt g hg⟩ | exact ⟨ho.base_le g hg, ho.lt g hg⟩)⟩⟩)))); intro vb; simp only [Act.put, List.setIfInBounds_toArray, List.set_cons_succ, List.set_cons_zero])
  (apply wpG_pure; (focus rfl); (focus (intro wg Bg hbg hBg hFg; go_simp; (try refine ⟨by kernel_rfl, ?_⟩); go_at_call 25; exact Calls.mono (HE1 _ _ _ (Own8.rd (hFg 1 (by decide +kernel) : new8 5 x va (Bg 1) wg).1) (Own8.rd (hFg 3 (by decide +kernel) : new8 5 y vb (Bg 3) wg).1)) (fun e w' h => (by obtain ⟨rfl, hb⟩ := h; exact ⟨rfl, hb⟩)))); simp only [Act.put, List.setIfInBounds_toArray, List.set_cons_succ, List.set_cons_zero])
  (apply wpG_pure; (focus rfl); (focus (intro wg Bg hbg hBg hFg; go_simp; (try go_bits); (first | done | exact ⟨rfl, Below.refl _ _⟩ | rfl))); simp only [Act.put, List.setIfInBounds_toArray, List.set_cons_succ, List.set_cons_zero])
  (apply wpG_pure; (focus rfl); (focus (intro wg Bg hbg hBg hFg; have hc := hCx _ (hx.drew.below hbg); go_simp; (try go_bits); (first | done | exact ⟨rfl, Below.refl _ _⟩ | rfl))); simp only [Act.put, List.setIfInBounds_toArray, List.set_cons_succ, List.set_cons_zero])
  (apply wpG_pure; (focus rfl); (focus (intro wg Bg hbg hBg hFg; go_simp; (try go_bits); (first | done | exact ⟨rfl, Below.refl _ _⟩ | rfl))); simp only [Act.put, List.setIfInBounds_toArray, List.set_cons_succ, List.set_cons_zero])
  (apply wpG_pure; (focus rfl); (focus (intro wg Bg hbg hBg hFg; have hc := hCy _ (hy.drew.below hbg); go_simp; (try go_bits); (first | done | exact ⟨rfl, Below.refl _ _⟩ | rfl))); simp only [Act.put, List.setIfInBounds_toArray, List.set_cons_succ, List.set_cons_zero])
  (apply wpG_pure; (focus rfl); (focus (intro wg Bg hbg hBg hFg; go_simp; (try go_bits); (first | done | exact ⟨rfl, Below.refl _ _⟩ | rfl))); simp only [Act.put, List.setIfInBounds_toArray, List.set_cons_succ, List.set_cons_zero])
  (apply wpG_pure; (focus rfl); (focus (intro wg Bg hbg hBg hFg; go_simp; (try go_bits); (first | done | exact ⟨rfl, Below.refl _ _⟩ | rfl))); simp only [Act.put, List.setIfInBounds_toArray, List.set_cons_succ, List.set_cons_zero])
  (apply wpG_pure; (focus rfl); (focus (intro wg Bg hbg hBg hFg; go_simp; (try go_bits); (first | done | exact ⟨rfl, Below.refl _ _⟩ | rfl))); simp only [Act.put, List.setIfInBounds_toArray, List.set_cons_succ, List.set_cons_zero])
  (apply wpG_pure; (focus rfl); (focus (intro wg Bg hbg hBg hFg; go_simp; (try go_bits); (first | done | exact ⟨rfl, Below.refl _ _⟩ | rfl))); simp only [Act.put, List.setIfInBounds_toArray, List.set_cons_succ, List.set_cons_zero])
  (apply wpG_make; (focus rfl); (focus (intro wg Bg hbg hBg hFg; go_simp; go_at_call 22; exact Calls.mono (FX _ _ (hx.drew.below hbg)) (fun e w' h => (by obtain ⟨u, rfl, ho, hb⟩ := h; exact ⟨u, rfl, Chg.of_below hb, ⟨ho.mono (Nat.zero_le _), fun g hg => (by first | exact .inr ⟨ho.base_le g hg, ho.lt g hg⟩ | exact ⟨ho.base_le g hg, ho.lt g hg⟩)⟩⟩)))); intro vc; simp only [Act.put, List.setIfInBounds_toArray, List.set_cons_succ, List.set_cons_zero])
  (apply wpG_pure; (focus rfl); (focus (intro wg Bg hbg hBg hFg; go_simp; (try go_bits); (first | done | exact ⟨rfl, Below.refl _ _⟩ | rfl))); simp only [Act.put, List.setIfInBounds_toArray, List.set_cons_succ, List.set_cons_zero])
  (apply wpG_make; (focus rfl); (focus (intro wg Bg hbg hBg hFg; go_simp; go_at_call 22; exact Calls.mono (FX _ _ (hx.drew.below hbg)) (fun e w' h => (by obtain ⟨u, rfl, ho, hb⟩ := h; exact ⟨u, rfl, Chg.of_below hb, ⟨ho.mono (Nat.zero_le _), fun g hg => (by first | exact .inr ⟨ho.base_le g hg, ho.lt g hg⟩ | exact ⟨ho.base_le g hg, ho.lt g hg⟩)⟩⟩)))); intro vd; simp only [Act.put, List.setIfInBounds_toArray, List.set_cons_succ, List.set_cons_zero])
  (apply wpG_pure; (focus rfl); (focus (intro wg Bg hbg hBg hFg; go_simp; (try refine ⟨by kernel_rfl, ?_⟩); go_at_call 25; exact Calls.mono (HE2 _ _ _ (Own8.rd (hFg 13 (by decide +kernel) : new8 5 x vc (Bg 13) wg).1) (Own8.rd (hFg 15 (by decide +kernel) : new8 5 x vd (Bg 15) wg).1)) (fun e w' h => (by obtain ⟨rfl, hb⟩ := h; exact ⟨rfl, hb⟩)))); simp only [Act.put, List.setIfInBounds_toArray, List.set_cons_succ, List.set_cons_zero])
  (apply wpG_pure; (focus rfl); (focus (intro wg Bg hbg hBg hFg; go_simp; (try go_bits); (first | done | exact ⟨rfl, Below.refl _ _⟩ | rfl))); simp only [Act.put, List.setIfInBounds_toArray, List.set_cons_succ, List.set_cons_zero])
  (apply wpG_pure; (focus rfl); (focus (intro wg Bg hbg hBg hFg; go_simp; (try go_bits); (first | done | exact ⟨rfl, Below.refl _ _⟩ | rfl))); simp only [Act.put, List.setIfInBounds_toArray, List.set_cons_succ, List.set_cons_zero])
  (apply wpG_pure; (focus rfl); (focus (intro wg Bg hbg hBg hFg; go_simp; (try go_bits); (first | done | exact ⟨rfl, Below.refl _ _⟩ | rfl))); simp only [Act.put, List.setIfInBounds_toArray, List.set_cons_succ, List.set_cons_zero])
  (apply wpG_make; (focus rfl); (focus (intro wg Bg hbg hBg hFg; go_simp; go_at_call 22; exact Calls.mono (FX _ _ (hx.drew.below hbg)) (fun e w' h => (by obtain ⟨u, rfl, ho, hb⟩ := h; exact ⟨u, rfl, Chg.of_below hb, ⟨ho.mono (Nat.zero_le _), fun g hg => (by first | exact .inr ⟨ho.base_le g hg, ho.lt g hg⟩ | exact ⟨ho.base_le g hg, ho.lt g hg⟩)⟩⟩)))); intro ve; simp only [Act.put, List.setIfInBounds_toArray, List.set_cons_succ, List.set_cons_zero])
  (apply wpG_pure; (focus rfl); (focus (intro wg Bg hbg hBg hFg; go_simp; (try go_bits); (first | done | exact ⟨rfl, Below.refl _ _⟩ | rfl))); simp only [Act.put, List.setIfInBounds_toArray, List.set_cons_succ, List.set_cons_zero])
  (apply wpG_pure; (focus rfl); (focus (intro wg Bg hbg hBg hFg; go_simp; (try refine ⟨by kernel_rfl, ?_⟩); go_at_call 25; exact Calls.mono (HE3 _ _ (Own8.rd (hFg 20 (by decide +kernel) : new8 5 x ve (Bg 20) wg).1) (hz.drew.below hbg)) (fun e w' h => (by obtain ⟨rfl, hb⟩ := h; exact ⟨rfl, hb⟩)))); simp only [Act.put, List.setIfInBounds_toArray, List.set_cons_succ, List.set_cons_zero])
  (apply wpG_pure; (focus rfl); (focus (intro wg Bg hbg hBg hFg; go_simp; (try go_bits); (first | done | exact ⟨rfl, Below.refl _ _⟩ | rfl))); simp only [Act.put, List.setIfInBounds_toArray, List.set_cons_succ, List.set_cons_zero])
  (refine wpG_lenw rfl (by go_simp) Try.underlying23 (by with_unfolding_all (conv => lhs; whnf)) hx ?_; simp only [Act.put, List.setIfInBounds_toArray, List.set_cons_succ, List.set_cons_zero])
  repeat (apply wpG_pure; (focus rfl); (focus (intro wg Bg hbg hBg hFg; go_simp; (try go_bits); (first | done | exact ⟨rfl, Below.refl _ _⟩ | rfl))); simp only [Act.put, List.setIfInBounds_toArray, List.set_cons_succ, List.set_cons_zero])
  (apply wpG_pure; (focus rfl); (focus (intro wg Bg hbg hBg hFg; go_simp; (try refine ⟨by kernel_rfl, ?_⟩); go_at_call 24; exact Calls.mono (wakes5_c _) (fun e w' h => (by obtain ⟨rfl, hb⟩ := h; exact ⟨rfl, hb⟩)))); simp only [Act.put, List.setIfInBounds_toArray, List.set_cons_succ, List.set_cons_zero])
  repeat (apply wpG_pure; (focus rfl); (focus (intro wg Bg hbg hBg hFg; go_simp; (try go_bits); (first | done | exact ⟨rfl, Below.refl _ _⟩ | rfl))); simp only [Act.put, List.setIfInBounds_toArray, List.set_cons_succ, List.set_cons_zero])
  refine wpG_end (fun wg2 Bg hbg hBg hFg => ?_)
  go_wp2
  go_ret
  exact ⟨rfl, below_below hbw.drew hbg⟩
end Go.Proofs.Ytpjpmgpehpigaaa
