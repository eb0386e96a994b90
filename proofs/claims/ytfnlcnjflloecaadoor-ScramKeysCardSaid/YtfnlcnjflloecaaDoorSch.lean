/- scram.Challenge and the reference's: digits. -/
import Derived.Test.YtfnlcnjflloecaaDoorSnc
import Derived.Test.YtfnlcnjflloecaaDoorB64Enc
import Derived.Test.YtfnlcnjflloecaaDoorB64Ref
set_option linter.unusedVariables false
set_option linter.unusedSimpArgs false
set_option linter.unnecessarySimpa false
namespace Go.Proofs.YtfnlcnjflloecaaDoor
open Go.RowKit
theorem dec_small {n : Nat} (h : n < 10) : Lib.decDigits n = [UInt8.ofNat (48 + n)] := by rw [Lib.decDigits, dif_pos h]
theorem dec_big {n : Nat} (h : ¬ n < 10) : Lib.decDigits n = Lib.decDigits (n / 10) ++ [UInt8.ofNat (48 + n % 10)] := by rw [Lib.decDigits, dif_neg h]
theorem dec_len : ∀ n : Nat, (Lib.decDigits n).length ≤ n + 1 := by
  intro n
  induction n using Nat.strongRecOn with
  | ind n ih =>
    by_cases h : n < 10
    · rw [dec_small h]; simp
    · rw [dec_big h]
      have := ih (n / 10) (by omega)
      simp; omega
set_option maxHeartbeats 1600000 in
set_option maxRecDepth 100000 in
theorem digits_c : ∀ (n : Nat), n ≤ 5000 → ∀ (w : World), Calls Tryd.prog 85 #[.int .i64 (n : Int)] w fun e w' => e = .returned (.string (strB (Lib.decDigits n))) ∧ Below w.heap.size w w' := by
  intro n
  induction n using Nat.strongRecOn with
  | ind n ih =>
    intro hn w
    by_cases h : n < 10
    · rw [dec_small h]
      have q1 : (n : Int) < 10 := by omega
      have hb : (UInt8.ofNat (48 + n)).toNat = 48 + n := by simp; omega
      have HC : ∀ (W : World) (z : Int), z = 48 + (n : Int) → (convert 37 9 (.slice (some ⟨W.heap.size, 0, none⟩) 1 1)).run Tryd.prog (W.alloc (.cells #[.int .u8 z] 5)) = .ok (.string (strB [UInt8.ofNat (48 + n)])) (W.alloc (.cells #[.int .u8 z] 5)) := fun W z hz => by
        have hz2 : z = (((UInt8.ofNat (48 + n)).toNat : Nat) : Int) := by rw [hb]; omega
        subst hz2
        exact convert_str (Rd.lit W 5 (0, 0) [UInt8.ofNat (48 + n)] rfl rfl (by decide) (by decide))
      have K1 := HC w (48 + (n : Int)) rfl
      have hba := (Below.refl w.heap.size w).alloc (Nat.le_refl _) (.cells #[.int .u8 (48 + (n : Int))] 5)
      have q2 : (48 : Int) + (n : Int) < 256 := by omega
      generalize strB [UInt8.ofNat (48 + n)] = D at *
      clear hb HC
      go_enter Tryd.func85, Tryd.ntmps85
      go_wp2_with fail
      go_ret
      exact ⟨rfl, hba⟩
    · rw [dec_big h]
      have q1 : ¬ (n : Int) < 10 := by omega
      have I := ih (n / 10) (by omega) (by omega)
      have hl := dec_len (n / 10)
      have hq : Int.tdiv (n : Int) 10 = ((n / 10 : Nat) : Int) := by rw [Int.tdiv_eq_ediv_of_nonneg (by omega)]; omega
      have hr : Int.tmod (n : Int) 10 = ((n % 10 : Nat) : Int) := by rw [Int.tmod_eq_emod_of_nonneg (by omega)]; omega
      have hc : (48 : Int) + ((n % 10 : Nat) : Int) = (((UInt8.ofNat (48 + n % 10)).toNat : Nat) : Int) := by
        have : (UInt8.ofNat (48 + n % 10)).toNat = 48 + n % 10 := by simp; omega
        rw [this]; omega
      have hcl := (UInt8.ofNat (48 + n % 10)).toNat_lt
      generalize UInt8.ofNat (48 + n % 10) = c at *
      have hap : strB (Lib.decDigits (n / 10)) ++ strB [c] = strB (Lib.decDigits (n / 10) ++ [c]) := strB_append _ _
      have z1 : ¬ 9223372036854775807 < (strB (Lib.decDigits (n / 10))).size + (strB [c]).size := by rw [strB_size, strB_size]; simp only [List.length_singleton]; omega
      have z2 : ¬ 9223372036854775807 < (strB (Lib.decDigits (n / 10))).size + 1 := by rw [strB_size]; omega
      replace hap := Go.Lib.hid hap
      generalize strB (Lib.decDigits (n / 10) ++ [c]) = R at *
      generalize strB (Lib.decDigits (n / 10)) = L at *
      clear hl ih
      have q2 : ((n / 10 : Nat) : Int) ≤ 5000 := by omega
      generalize n / 10 = d at *
      generalize n % 10 = r at *
      have q3 : (c.toNat : Int) < 256 := by omega
      have q4 : (0 : Int) ≤ (c.toNat : Int) := by omega
      go_enter Tryd.func85, Tryd.ntmps85
      go_upto_region 3 with fail
      refine region_making 11 (fun _ => []) (fun | 7 => some fun _ => new8 5 [c] | _ => none) (by kernel_rfl) (by kernel_rfl) ?_ ?_
      · intro i' S' h' e v'
        match i', h' with
        | 7, h' => cases h'; exact new8_loc _ _ _ _
      simp only [List.take_succ_cons, List.take_zero, List.drop_succ_cons, List.drop_zero]
      (apply wpG_pure; (focus rfl); (focus (intro wg Bg hbg hBg hFg; go_simp; (try go_bits); (first | done | exact ⟨rfl, Below.refl _ _⟩ | rfl))); simp only [Act.put, List.setIfInBounds_toArray, List.set_cons_succ, List.set_cons_zero])
      (apply wpG_pure; (focus rfl); (focus (intro wg Bg hbg hBg hFg; go_simp; (try go_bits); (first | done | exact ⟨rfl, Below.refl _ _⟩ | rfl))); simp only [Act.put, List.setIfInBounds_toArray, List.set_cons_succ, List.set_cons_zero])
      (apply wpG_pure; (focus rfl); (focus (intro wg Bg hbg hBg hFg; go_simp; (try refine ⟨by kernel_rfl, ?_⟩); go_at_call 85; exact Calls.mono (I _) (fun e w' h => (by obtain ⟨rfl, hb⟩ := h; exact ⟨rfl, hb⟩)))); simp only [Act.put, List.setIfInBounds_toArray, List.set_cons_succ, List.set_cons_zero])
      (apply wpG_pure; (focus rfl); (focus (intro wg Bg hbg hBg hFg; go_simp; (try go_bits); (first | done | exact ⟨rfl, Below.refl _ _⟩ | rfl))); simp only [Act.put, List.setIfInBounds_toArray, List.set_cons_succ, List.set_cons_zero])
      (apply wpG_pure; (focus rfl); (focus (intro wg Bg hbg hBg hFg; go_simp; (try go_bits); (first | done | exact ⟨rfl, Below.refl _ _⟩ | rfl))); simp only [Act.put, List.setIfInBounds_toArray, List.set_cons_succ, List.set_cons_zero])
      (apply wpG_pure; (focus rfl); (focus (intro wg Bg hbg hBg hFg; go_simp; (try go_bits); (first | done | exact ⟨rfl, Below.refl _ _⟩ | rfl))); simp only [Act.put, List.setIfInBounds_toArray, List.set_cons_succ, List.set_cons_zero])
      (apply wpG_pure; (focus rfl); (focus (intro wg Bg hbg hBg hFg; go_simp; (try go_bits); (first | done | exact ⟨rfl, Below.refl _ _⟩ | rfl))); simp only [Act.put, List.setIfInBounds_toArray, List.set_cons_succ, List.set_cons_zero])
      (apply wpG_make; (focus rfl); (focus (intro wg Bg hbg hBg hFg; refine goesTo_lit (n := 1) (by go_simp) [c] rfl (by decide) (by go_simp; first | done | rfl | exact ⟨rfl, rfl⟩))); intro v7; simp only [Act.put, List.setIfInBounds_toArray, List.set_cons_succ, List.set_cons_zero])
      (apply wpG_pure; (focus rfl); (focus (intro wg Bg hbg hBg hFg; have hcv := convert_str (Own8.rd (hFg 7 (by decide +kernel) : new8 5 [c] v7 (Bg 7) wg).1); go_simp; (try go_bits); (first | done | exact ⟨rfl, Below.refl _ _⟩ | rfl))); simp only [Act.put, List.setIfInBounds_toArray, List.set_cons_succ, List.set_cons_zero])
      (apply wpG_pure; (focus rfl); (focus (intro wg Bg hbg hBg hFg; go_simp; (try go_bits); (first | done | exact ⟨rfl, Below.refl _ _⟩ | rfl))); simp only [Act.put, List.setIfInBounds_toArray, List.set_cons_succ, List.set_cons_zero])
      (apply wpG_pure; (focus rfl); (focus (intro wg Bg hbg hBg hFg; go_simp; (try go_bits); (first | done | exact ⟨rfl, Below.refl _ _⟩ | rfl))); simp only [Act.put, List.setIfInBounds_toArray, List.set_cons_succ, List.set_cons_zero])
      refine wpG_end (fun wg Bg hbg hBg hFg => ?_)
      clear hFg hBg
      go_wp2_with fail
      go_ret
      exact ⟨by rw [hap.out]; rfl, (Below.refl w.heap.size w).drew.trans hbg⟩
/-- The challenge: its text, and the error's number. -/
def chalI (nn own salt : List UInt8) (n : Int) : List UInt8 × Int := if nonceI own 128 = false then ([], 2) else if n < 1 ∨ 4096 < n then ([], 3) else ([114, 61] ++ nn ++ own ++ [44, 115, 61] ++ encL salt ++ [44, 105, 61] ++ Lib.decDigits n.toNat, 0)
theorem nonceI_len {s : List UInt8} {m : Int} (h : nonceI s m = true) : (s.length : Int) ≤ m := by
  unfold nonceI at h
  simp only [Bool.and_eq_true, decide_eq_true_eq] at h
  exact h.2.1
set_option maxRecDepth 100000 in
set_option maxHeartbeats 3200000 in
theorem challenge_c (hd us nn ba own : List UInt8) (v : Value) (salt : List UInt8) (n : Int) (w : World) (hs : Rd w v salt) (hsl : salt.length ≤ 100000) (hnl : nn.length ≤ 100000) (hol : own.length ≤ 1000000) (hn : n ≤ 99 ∨ 4096 < n) :
    Calls Tryd.prog 33 #[.agg #[.string (strB hd), .string (strB us), .string (strB nn), .string (strB ba)], .string (strB own), v, .int .i64 n] w (GivesSE w (chalI nn own salt n)) := by
  have NC := fun w1 => nonce_c own 128 w1 (by omega)
  have hI : chalI nn own salt n = if nonceI own 128 = false then ([], 2) else if n < 1 ∨ 4096 < n then ([], 3) else ([114, 61] ++ nn ++ own ++ [44, 115, 61] ++ encL salt ++ [44, 105, 61] ++ Lib.decDigits n.toNat, 0) := rfl
  unfold GivesSE
  cases hN : nonceI own 128
  · rw [hN] at NC
    rw [if_pos hN] at hI
    rw [hI]
    clear hI hN
    generalize strB own = O at *
    generalize strB nn = NN at *
    generalize strB hd = S1 at *
    generalize strB us = S2 at *
    generalize strB ba = S3 at *
    go_enter Tryd.func33, Tryd.ntmps33
    have ta0 : True := trivial
    go_wp2_with (first
      | (have _t := ta0; (with_reducible refine G_box ?_; refine L_box (by with_unfolding_all (conv => lhs; whnf)) ?_); intro w1 hk1 hb1 hs1; clear ta0; have ta1 : True := trivial)
      | (have _t := ta1; go_at_call 80; refine (NC _).mono ?_; rintro e w2 ⟨rfl, hb2⟩; clear ta1; have ta2 : True := trivial))
    go_ret2
    exact ⟨rfl, below_below hb1 hb2⟩
  rw [if_neg (by rw [hN]; decide)] at hI
  rw [hN] at NC
  have hol2 := nonceI_len hN
  clear hN
  by_cases hb : n < 1 ∨ 4096 < n
  · rw [if_pos hb] at hI
    rw [hI]
    clear hI
    generalize strB own = O at *
    generalize strB nn = NN at *
    generalize strB hd = S1 at *
    generalize strB us = S2 at *
    generalize strB ba = S3 at *
    rcases (by omega : n < 1 ∨ (¬ n < 1 ∧ 4096 < n)) with c1 | ⟨c1, c2⟩
    · have d1 : decide (n < 1) = true := decide_eq_true c1
      go_enter Tryd.func33, Tryd.ntmps33
      have tb0 : True := trivial
      go_wp2_with (first
        | (have _t := tb0; (with_reducible refine G_box ?_; refine L_box (by with_unfolding_all (conv => lhs; whnf)) ?_); intro w1 hk1 hb1 hs1; clear tb0; have tb1 : True := trivial)
        | (have _t := tb1; go_at_call 80; refine (NC _).mono ?_; rintro e w2 ⟨rfl, hb2⟩; clear tb1; have tb2 : True := trivial))
      go_ret2
      exact ⟨rfl, below_below hb1 hb2⟩
    · have d1 : decide (n < 1) = false := decide_eq_false c1
      have d2 : decide (4096 < n) = true := decide_eq_true c2
      go_enter Tryd.func33, Tryd.ntmps33
      have tc0 : True := trivial
      go_wp2_with (first
        | (have _t := tc0; (with_reducible refine G_box ?_; refine L_box (by with_unfolding_all (conv => lhs; whnf)) ?_); intro w1 hk1 hb1 hs1; clear tc0; have tc1 : True := trivial)
        | (have _t := tc1; go_at_call 80; refine (NC _).mono ?_; rintro e w2 ⟨rfl, hb2⟩; clear tc1; have tc2 : True := trivial))
      go_ret2
      exact ⟨rfl, below_below hb1 hb2⟩
  rw [if_neg hb] at hI
  rw [hI]
  clear hI
  have c1 : ¬ n < 1 := by omega
  have c2 : ¬ 4096 < n := by omega
  have d1 : decide (n < 1) = false := decide_eq_false c1
  have d2 : decide (4096 < n) = false := decide_eq_false c2
  have IT := fun w1 => Tryd.strconv_Itoa_small n.toNat (by omega) w1
  rw [show ((n.toNat : Nat) : Int) = n by omega] at IT
  have EC := fun w1 h1 => encode_c v salt w1 h1 (by omega)
  have hel := encL_len salt.length salt (Nat.le_refl _)
  have hdl := dec_len n.toNat
  have hap : (⟨#[114, 61]⟩ : ByteArray) ++ strB nn ++ strB own ++ ⟨#[44, 115, 61]⟩ ++ strB (encL salt) ++ ⟨#[44, 105, 61]⟩ ++ strB (Lib.decDigits n.toNat) = strB ([114, 61] ++ nn ++ own ++ [44, 115, 61] ++ encL salt ++ [44, 105, 61] ++ Lib.decDigits n.toNat) := by
    simp only [← strB_append]; rfl
  have IT2 : ∀ w1, Calls Tryd.prog 82 #[.int .i64 n] w1 fun e w' => e = .returned (.string (strB (Lib.decDigits n.toNat))) ∧ Below w1.heap.size w1 w' := fun w1 => (IT w1).mono (fun e w' h => ⟨h.1, below_eq h.2.symm⟩)
  have l1 := strB_size nn
  have l2 := strB_size own
  have l3 := strB_size (encL salt)
  have l4 := strB_size (Lib.decDigits n.toNat)
  have z1 : ¬ 9223372036854775807 < 2 + (strB nn).size := by omega
  have z2 : ¬ 9223372036854775807 < 2 + (strB nn).size + (strB own).size := by omega
  have z3 : ¬ 9223372036854775807 < 2 + (strB nn).size + (strB own).size + 3 := by omega
  have z4 : ¬ 9223372036854775807 < 2 + (strB nn).size + (strB own).size + 3 + (strB (encL salt)).size := by omega
  have z5 : ¬ 9223372036854775807 < 2 + (strB nn).size + (strB own).size + 3 + (strB (encL salt)).size + 3 := by omega
  have z6 : ¬ 9223372036854775807 < 2 + (strB nn).size + (strB own).size + 3 + (strB (encL salt)).size + 3 + (strB (Lib.decDigits n.toNat)).size := by omega
  clear l1 l2 l3 l4 hel hdl IT hb c1 c2
  generalize strB ([114, 61] ++ nn ++ own ++ [44, 115, 61] ++ encL salt ++ [44, 105, 61] ++ Lib.decDigits n.toNat) = RES at *
  generalize strB (Lib.decDigits n.toNat) = DD at *
  generalize strB (encL salt) = EE at *
  generalize strB own = O at *
  generalize strB nn = NN at *
  generalize strB hd = S1 at *
  generalize strB us = S2 at *
  generalize strB ba = S3 at *
  replace hap := Go.Lib.hid hap
  go_enter Tryd.func33, Tryd.ntmps33
  have td0 : True := trivial
  go_upto_region 5 with (first
    | (have _t := td0; (with_reducible refine G_box ?_; refine L_box (by with_unfolding_all (conv => lhs; whnf)) ?_); intro w1 hk1 hb1 hs1; clear td0; have td1 : True := trivial)
    | (have _t := td1; go_at_call 80; refine (NC _).mono ?_; rintro e w2 ⟨rfl, hb2⟩; clear td1; have td2 : True := trivial))
  have hs2 := hs.below (below_below hb1 hb2)
  replace hk1 := hk1.below hb2
  replace hb1 := below_below hb1 hb2
  clear hb2 hs1 NC hs
  (refine region_making 15 (fun _ => []) (fun _ => none) (by kernel_rfl) (by kernel_rfl) ?_ ?_; (focus (intro i' S' h' e v'; cases h')); simp only [List.take_succ_cons, List.take_zero, List.drop_succ_cons, List.drop_zero])
  (apply wpG_pure; (focus rfl); (focus (intro wg Bg hbg hBg hFg; go_simp; (try go_bits); (first | done | exact ⟨rfl, Below.refl _ _⟩ | rfl))); simp only [Act.put, List.setIfInBounds_toArray, List.set_cons_succ, List.set_cons_zero])
  (apply wpG_pure; (focus rfl); (focus (intro wg Bg hbg hBg hFg; have hc : _ = some (Value.string NN) := (hk1.drew.below hbg).cell 2; go_simp; (try go_bits); (first | done | exact ⟨rfl, Below.refl _ _⟩ | rfl))); simp only [Act.put, List.setIfInBounds_toArray, List.set_cons_succ, List.set_cons_zero])
  (apply wpG_pure; (focus rfl); (focus (intro wg Bg hbg hBg hFg; go_simp; (try go_bits); (first | done | exact ⟨rfl, Below.refl _ _⟩ | rfl))); simp only [Act.put, List.setIfInBounds_toArray, List.set_cons_succ, List.set_cons_zero])
  (apply wpG_pure; (focus rfl); (focus (intro wg Bg hbg hBg hFg; go_simp; (try go_bits); (first | done | exact ⟨rfl, Below.refl _ _⟩ | rfl))); simp only [Act.put, List.setIfInBounds_toArray, List.set_cons_succ, List.set_cons_zero])
  (apply wpG_pure; (focus rfl); (focus (intro wg Bg hbg hBg hFg; go_simp; (try go_bits); (first | done | exact ⟨rfl, Below.refl _ _⟩ | rfl))); simp only [Act.put, List.setIfInBounds_toArray, List.set_cons_succ, List.set_cons_zero])
  (apply wpG_pure; (focus rfl); (focus (intro wg Bg hbg hBg hFg; go_simp; (try go_bits); (first | done | exact ⟨rfl, Below.refl _ _⟩ | rfl))); simp only [Act.put, List.setIfInBounds_toArray, List.set_cons_succ, List.set_cons_zero])
  (apply wpG_pure; (focus rfl); (focus (intro wg Bg hbg hBg hFg; go_simp; (try go_bits); (first | done | exact ⟨rfl, Below.refl _ _⟩ | rfl))); simp only [Act.put, List.setIfInBounds_toArray, List.set_cons_succ, List.set_cons_zero])
  (apply wpG_pure; (focus rfl); (focus (intro wg Bg hbg hBg hFg; go_simp; (try refine ⟨by kernel_rfl, ?_⟩); go_at_call 81; exact Calls.mono (EC _ (hs2.drew.below hbg)) (fun e w' h => (by obtain ⟨rfl, hb⟩ := h; exact ⟨rfl, hb⟩)))); simp only [Act.put, List.setIfInBounds_toArray, List.set_cons_succ, List.set_cons_zero])
  (apply wpG_pure; (focus rfl); (focus (intro wg Bg hbg hBg hFg; go_simp; (try go_bits); (first | done | exact ⟨rfl, Below.refl _ _⟩ | rfl))); simp only [Act.put, List.setIfInBounds_toArray, List.set_cons_succ, List.set_cons_zero])
  (apply wpG_pure; (focus rfl); (focus (intro wg Bg hbg hBg hFg; go_simp; (try go_bits); (first | done | exact ⟨rfl, Below.refl _ _⟩ | rfl))); simp only [Act.put, List.setIfInBounds_toArray, List.set_cons_succ, List.set_cons_zero])
  (apply wpG_pure; (focus rfl); (focus (intro wg Bg hbg hBg hFg; go_simp; (try go_bits); (first | done | exact ⟨rfl, Below.refl _ _⟩ | rfl))); simp only [Act.put, List.setIfInBounds_toArray, List.set_cons_succ, List.set_cons_zero])
  (apply wpG_pure; (focus rfl); (focus (intro wg Bg hbg hBg hFg; go_simp; (try refine ⟨by kernel_rfl, ?_⟩); go_at_call 82; exact Calls.mono (IT2 _) (fun e w' h => (by obtain ⟨rfl, hb⟩ := h; exact ⟨rfl, hb⟩)))); simp only [Act.put, List.setIfInBounds_toArray, List.set_cons_succ, List.set_cons_zero])
  (apply wpG_pure; (focus rfl); (focus (intro wg Bg hbg hBg hFg; go_simp; (try go_bits); (first | done | exact ⟨rfl, Below.refl _ _⟩ | rfl))); simp only [Act.put, List.setIfInBounds_toArray, List.set_cons_succ, List.set_cons_zero])
  (apply wpG_pure; (focus rfl); (focus (intro wg Bg hbg hBg hFg; go_simp; (try go_bits); (first | done | exact ⟨rfl, Below.refl _ _⟩ | rfl))); simp only [Act.put, List.setIfInBounds_toArray, List.set_cons_succ, List.set_cons_zero])
  (apply wpG_pure; (focus rfl); (focus (intro wg Bg hbg hBg hFg; go_simp; (try go_bits); (first | done | exact ⟨rfl, Below.refl _ _⟩ | rfl))); simp only [Act.put, List.setIfInBounds_toArray, List.set_cons_succ, List.set_cons_zero])
  refine wpG_end (fun wg Bg hbg hBg hFg => ?_)
  clear hFg hBg
  have hWg : Below w.heap.size w wg := hb1.drew.trans (hbg.mono hb1.size)
  clear hbg
  go_wp2_with fail
  go_ret2
  exact ⟨by rw [← hap.out]; rfl, hWg⟩
set_option maxRecDepth 100000 in
set_option maxHeartbeats 3200000 in
theorem refchallenge_c (hd us nn ba own : List UInt8) (v : Value) (salt : List UInt8) (n : Int) (w : World) (hs : Rd w v salt) (hsl : salt.length ≤ 100000) (hnl : nn.length ≤ 100000) (hol : own.length ≤ 1000000) (hn : n ≤ 99 ∨ 4096 < n) :
    Calls Tryd.prog 35 #[.agg #[.string (strB hd), .string (strB us), .string (strB nn), .string (strB ba)], .string (strB own), v, .int .i64 n] w (GivesSE w (chalI nn own salt n)) := by
  have NC := fun w1 => refnonce_c own 128 w1 (by omega)
  have hI : chalI nn own salt n = if nonceI own 128 = false then ([], 2) else if n < 1 ∨ 4096 < n then ([], 3) else ([114, 61] ++ nn ++ own ++ [44, 115, 61] ++ encL salt ++ [44, 105, 61] ++ Lib.decDigits n.toNat, 0) := rfl
  unfold GivesSE
  cases hN : nonceI own 128
  · rw [hN] at NC
    rw [if_pos hN] at hI
    rw [hI]
    clear hI hN
    generalize strB own = O at *
    generalize strB nn = NN at *
    generalize strB hd = S1 at *
    generalize strB us = S2 at *
    generalize strB ba = S3 at *
    go_enter Tryd.func35, Tryd.ntmps35
    have ua0 : True := trivial
    go_wp2_with (first
      | (have _t := ua0; (with_reducible refine G_box ?_; refine L_box (by with_unfolding_all (conv => lhs; whnf)) ?_); intro w1 hk1 hb1 hs1; clear ua0; have ua1 : True := trivial)
      | (have _t := ua1; go_at_call 83; refine (NC _).mono ?_; rintro e w2 ⟨rfl, hb2⟩; clear ua1; have ua2 : True := trivial))
    go_ret2
    exact ⟨rfl, below_below hb1 hb2⟩
  rw [if_neg (by rw [hN]; decide)] at hI
  rw [hN] at NC
  have hol2 := nonceI_len hN
  clear hN
  by_cases hb : n < 1 ∨ 4096 < n
  · rw [if_pos hb] at hI
    rw [hI]
    clear hI
    generalize strB own = O at *
    generalize strB nn = NN at *
    generalize strB hd = S1 at *
    generalize strB us = S2 at *
    generalize strB ba = S3 at *
    rcases (by omega : n < 1 ∨ (¬ n < 1 ∧ 4096 < n)) with c1 | ⟨c1, c2⟩
    · have d1 : decide (n < 1) = true := decide_eq_true c1
      go_enter Tryd.func35, Tryd.ntmps35
      have ub0 : True := trivial
      go_wp2_with (first
        | (have _t := ub0; (with_reducible refine G_box ?_; refine L_box (by with_unfolding_all (conv => lhs; whnf)) ?_); intro w1 hk1 hb1 hs1; clear ub0; have ub1 : True := trivial)
        | (have _t := ub1; go_at_call 83; refine (NC _).mono ?_; rintro e w2 ⟨rfl, hb2⟩; clear ub1; have ub2 : True := trivial))
      go_ret2
      exact ⟨rfl, below_below hb1 hb2⟩
    · have d1 : decide (n < 1) = false := decide_eq_false c1
      have d2 : decide (4096 < n) = true := decide_eq_true c2
      go_enter Tryd.func35, Tryd.ntmps35
      have uc0 : True := trivial
      go_wp2_with (first
        | (have _t := uc0; (with_reducible refine G_box ?_; refine L_box (by with_unfolding_all (conv => lhs; whnf)) ?_); intro w1 hk1 hb1 hs1; clear uc0; have uc1 : True := trivial)
        | (have _t := uc1; go_at_call 83; refine (NC _).mono ?_; rintro e w2 ⟨rfl, hb2⟩; clear uc1; have uc2 : True := trivial))
      go_ret2
      exact ⟨rfl, below_below hb1 hb2⟩
  rw [if_neg hb] at hI
  rw [hI]
  clear hI
  have c1 : ¬ n < 1 := by omega
  have c2 : ¬ 4096 < n := by omega
  have d1 : decide (n < 1) = false := decide_eq_false c1
  have d2 : decide (4096 < n) = false := decide_eq_false c2
  have IT := fun w1 => digits_c n.toNat (by omega) w1
  rw [show ((n.toNat : Nat) : Int) = n by omega] at IT
  have EC := fun w1 h1 => refencode_c v salt w1 h1 (by omega)
  have hel := encL_len salt.length salt (Nat.le_refl _)
  have hdl := dec_len n.toNat
  have hap : (⟨#[114, 61]⟩ : ByteArray) ++ strB nn ++ strB own ++ ⟨#[44, 115, 61]⟩ ++ strB (encL salt) ++ ⟨#[44, 105, 61]⟩ ++ strB (Lib.decDigits n.toNat) = strB ([114, 61] ++ nn ++ own ++ [44, 115, 61] ++ encL salt ++ [44, 105, 61] ++ Lib.decDigits n.toNat) := by
    simp only [← strB_append]; rfl
  have IT2 : ∀ w1, Calls Tryd.prog 85 #[.int .i64 n] w1 fun e w' => e = .returned (.string (strB (Lib.decDigits n.toNat))) ∧ Below w1.heap.size w1 w' := fun w1 => IT w1
  have l1 := strB_size nn
  have l2 := strB_size own
  have l3 := strB_size (encL salt)
  have l4 := strB_size (Lib.decDigits n.toNat)
  have z1 : ¬ 9223372036854775807 < 2 + (strB nn).size := by omega
  have z2 : ¬ 9223372036854775807 < 2 + (strB nn).size + (strB own).size := by omega
  have z3 : ¬ 9223372036854775807 < 2 + (strB nn).size + (strB own).size + 3 := by omega
  have z4 : ¬ 9223372036854775807 < 2 + (strB nn).size + (strB own).size + 3 + (strB (encL salt)).size := by omega
  have z5 : ¬ 9223372036854775807 < 2 + (strB nn).size + (strB own).size + 3 + (strB (encL salt)).size + 3 := by omega
  have z6 : ¬ 9223372036854775807 < 2 + (strB nn).size + (strB own).size + 3 + (strB (encL salt)).size + 3 + (strB (Lib.decDigits n.toNat)).size := by omega
  clear l1 l2 l3 l4 hel hdl IT hb c1 c2
  generalize strB ([114, 61] ++ nn ++ own ++ [44, 115, 61] ++ encL salt ++ [44, 105, 61] ++ Lib.decDigits n.toNat) = RES at *
  generalize strB (Lib.decDigits n.toNat) = DD at *
  generalize strB (encL salt) = EE at *
  generalize strB own = O at *
  generalize strB nn = NN at *
  generalize strB hd = S1 at *
  generalize strB us = S2 at *
  generalize strB ba = S3 at *
  replace hap := Go.Lib.hid hap
  go_enter Tryd.func35, Tryd.ntmps35
  have ud0 : True := trivial
  go_upto_region 5 with (first
    | (have _t := ud0; (with_reducible refine G_box ?_; refine L_box (by with_unfolding_all (conv => lhs; whnf)) ?_); intro w1 hk1 hb1 hs1; clear ud0; have ud1 : True := trivial)
    | (have _t := ud1; go_at_call 83; refine (NC _).mono ?_; rintro e w2 ⟨rfl, hb2⟩; clear ud1; have ud2 : True := trivial))
  have hs2 := hs.below (below_below hb1 hb2)
  replace hk1 := hk1.below hb2
  replace hb1 := below_below hb1 hb2
  clear hb2 hs1 NC hs
  (refine region_making 15 (fun _ => []) (fun _ => none) (by kernel_rfl) (by kernel_rfl) ?_ ?_; (focus (intro i' S' h' e v'; cases h')); simp only [List.take_succ_cons, List.take_zero, List.drop_succ_cons, List.drop_zero])
  (apply wpG_pure; (focus rfl); (focus (intro wg Bg hbg hBg hFg; go_simp; (try go_bits); (first | done | exact ⟨rfl, Below.refl _ _⟩ | rfl))); simp only [Act.put, List.setIfInBounds_toArray, List.set_cons_succ, List.set_cons_zero])
  (apply wpG_pure; (focus rfl); (focus (intro wg Bg hbg hBg hFg; have hc : _ = some (Value.string NN) := (hk1.drew.below hbg).cell 2; go_simp; (try go_bits); (first | done | exact ⟨rfl, Below.refl _ _⟩ | rfl))); simp only [Act.put, List.setIfInBounds_toArray, List.set_cons_succ, List.set_cons_zero])
  (apply wpG_pure; (focus rfl); (focus (intro wg Bg hbg hBg hFg; go_simp; (try go_bits); (first | done | exact ⟨rfl, Below.refl _ _⟩ | rfl))); simp only [Act.put, List.setIfInBounds_toArray, List.set_cons_succ, List.set_cons_zero])
  (apply wpG_pure; (focus rfl); (focus (intro wg Bg hbg hBg hFg; go_simp; (try go_bits); (first | done | exact ⟨rfl, Below.refl _ _⟩ | rfl))); simp only [Act.put, List.setIfInBounds_toArray, List.set_cons_succ, List.set_cons_zero])
  (apply wpG_pure; (focus rfl); (focus (intro wg Bg hbg hBg hFg; go_simp; (try go_bits); (first | done | exact ⟨rfl, Below.refl _ _⟩ | rfl))); simp only [Act.put, List.setIfInBounds_toArray, List.set_cons_succ, List.set_cons_zero])
  (apply wpG_pure; (focus rfl); (focus (intro wg Bg hbg hBg hFg; go_simp; (try go_bits); (first | done | exact ⟨rfl, Below.refl _ _⟩ | rfl))); simp only [Act.put, List.setIfInBounds_toArray, List.set_cons_succ, List.set_cons_zero])
  (apply wpG_pure; (focus rfl); (focus (intro wg Bg hbg hBg hFg; go_simp; (try go_bits); (first | done | exact ⟨rfl, Below.refl _ _⟩ | rfl))); simp only [Act.put, List.setIfInBounds_toArray, List.set_cons_succ, List.set_cons_zero])
  (apply wpG_pure; (focus rfl); (focus (intro wg Bg hbg hBg hFg; go_simp; (try refine ⟨by kernel_rfl, ?_⟩); go_at_call 84; exact Calls.mono (EC _ (hs2.drew.below hbg)) (fun e w' h => (by obtain ⟨rfl, hb⟩ := h; exact ⟨rfl, hb⟩)))); simp only [Act.put, List.setIfInBounds_toArray, List.set_cons_succ, List.set_cons_zero])
  (apply wpG_pure; (focus rfl); (focus (intro wg Bg hbg hBg hFg; go_simp; (try go_bits); (first | done | exact ⟨rfl, Below.refl _ _⟩ | rfl))); simp only [Act.put, List.setIfInBounds_toArray, List.set_cons_succ, List.set_cons_zero])
  (apply wpG_pure; (focus rfl); (focus (intro wg Bg hbg hBg hFg; go_simp; (try go_bits); (first | done | exact ⟨rfl, Below.refl _ _⟩ | rfl))); simp only [Act.put, List.setIfInBounds_toArray, List.set_cons_succ, List.set_cons_zero])
  (apply wpG_pure; (focus rfl); (focus (intro wg Bg hbg hBg hFg; go_simp; (try go_bits); (first | done | exact ⟨rfl, Below.refl _ _⟩ | rfl))); simp only [Act.put, List.setIfInBounds_toArray, List.set_cons_succ, List.set_cons_zero])
  (apply wpG_pure; (focus rfl); (focus (intro wg Bg hbg hBg hFg; go_simp; (try refine ⟨by kernel_rfl, ?_⟩); go_at_call 85; exact Calls.mono (IT2 _) (fun e w' h => (by obtain ⟨rfl, hb⟩ := h; exact ⟨rfl, hb⟩)))); simp only [Act.put, List.setIfInBounds_toArray, List.set_cons_succ, List.set_cons_zero])
  (apply wpG_pure; (focus rfl); (focus (intro wg Bg hbg hBg hFg; go_simp; (try go_bits); (first | done | exact ⟨rfl, Below.refl _ _⟩ | rfl))); simp only [Act.put, List.setIfInBounds_toArray, List.set_cons_succ, List.set_cons_zero])
  (apply wpG_pure; (focus rfl); (focus (intro wg Bg hbg hBg hFg; go_simp; (try go_bits); (first | done | exact ⟨rfl, Below.refl _ _⟩ | rfl))); simp only [Act.put, List.setIfInBounds_toArray, List.set_cons_succ, List.set_cons_zero])
  (apply wpG_pure; (focus rfl); (focus (intro wg Bg hbg hBg hFg; go_simp; (try go_bits); (first | done | exact ⟨rfl, Below.refl _ _⟩ | rfl))); simp only [Act.put, List.setIfInBounds_toArray, List.set_cons_succ, List.set_cons_zero])
  refine wpG_end (fun wg Bg hbg hBg hFg => ?_)
  clear hFg hBg
  have hWg : Below w.heap.size w wg := hb1.drew.trans (hbg.mono hb1.size)
  clear hbg
  go_wp2_with fail
  go_ret2
  exact ⟨by rw [← hap.out]; rfl, hWg⟩
end Go.Proofs.YtfnlcnjflloecaaDoor
