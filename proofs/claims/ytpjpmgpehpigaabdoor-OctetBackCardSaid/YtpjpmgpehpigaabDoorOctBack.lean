/- OctetBack. -/
import Derived.Test.YtpjpmgpehpigaabDoorOctBackP
set_option linter.unusedVariables false
set_option linter.unusedSimpArgs false
namespace Go.Proofs.YtpjpmgpehpigaabDoor
open Go.RowKit
theorem uintI_lt (l : List UInt8) : (uintI l).1 < 18446744073709551616 := by
  unfold uintI
  split
  · exact numI_lt l
  · simp
set_option maxRecDepth 100000 in
set_option maxHeartbeats 6400000 in
theorem octetBack_c (w : World) (hT : Tabs w) (va : Value) (n : Nat) (hn : n < 18446744073709551616) (i : Int) (hi : -9223372036854775808 ≤ i ∧ i ≤ 9223372036854775807) (f : Nat) (hf : f < 18446744073709551616) (k : ByteArray) (v : Value) (l : List UInt8) (h : Rd w v l) :
    Calls Tryd.prog 4 #[.agg #[va, .int .u64 (n : Int), .int .i64 i, .int .u64 (f : Int), .string k], v] w (Ok w) := by
  have F1 := fun w1 (hb : Below w.heap.size w w1) => few1_c v l w1 (h.below hb)
  have hl : (l.take 2000).length ≤ 2000 := by simp; omega
  have tk : (l.take 2000).take 2000 = l.take 2000 := by rw [List.take_take]; simp
  generalize l.take 2000 = b at *
  have FB := fun v1 w1 (hv : Rd w1 v1 b) => few1_c v1 b w1 hv
  rw [tk] at FB
  clear tk h
  have D := fun w' => f64frombits w' (f : Int)
  have hz := zig_lt i hi
  have hbt : bitsI f < 18446744073709551616 := by unfold bitsI; split <;> omega
  have l1 := formU_len64 n hn
  have l2 := formU_len64 (zig i) hz
  have l3 : (beBs (bitsI f) 8).length = 8 := by simp [beBs]
  have PU := fun w1 => putuint_c (.slice none 0 0) [] n w1 (Rd.nil w1) (by simp) hn
  have PI := fun w1 => putint_c (.slice none 0 0) [] i w1 (Rd.nil w1) (by simp) hi
  have PF := fun w1 => putfloat_c (.slice none 0 0) [] f w1 (Rd.nil w1) (by simp) hf
  rw [List.nil_append] at PU PI PF
  have U := fun v1 w1 (hv : Rd w1 v1 (formU n ++ b)) => uint_c v1 (formU n ++ b) w1 hv (by simp; omega)
  have I := fun v1 w1 (hv : Rd w1 v1 (formU (zig i) ++ b)) => int_c v1 (formU (zig i) ++ b) w1 hv (by simp; omega)
  have F := fun v1 w1 (hv : Rd w1 v1 (beBs (bitsI f) 8 ++ b)) => float_c v1 (beBs (bitsI f) 8 ++ b) w1 hv (by simp; omega)
  rw [uintI_form n hn] at U
  rw [intI_form i hi] at I
  rw [floatI_form (bitsI f) hbt (bitsI_nan f)] at F
  unfold GivesU at U
  unfold GivesI at I
  unfold GivesF at F
  simp only at U I F
  generalize hx1 : formU n = X1 at *
  generalize hx2 : formU (zig i) = X2 at *
  generalize hx3 : beBs (bitsI f) 8 = X3 at *
  go_enter Tryd.func4, Tryd.ntmps4
  have tok0 : True := trivial
  go_upto_region 8 with (first
    | (have _t := tok0; (with_reducible refine G_box ?_; refine L_box (by with_unfolding_all (conv => lhs; whnf)) ?_); intro w1 hk hb1 hs1; clear hs1; have hw := hb1; clear tok0; have tok1 : True := trivial)
    | (have _t := tok1; go_at_call 10; refine (F1 _ hw).mono ?_; rintro e w2 ⟨v2, rfl, ho2, hb2⟩; replace hw := below_below hw hb2; replace hk := hk.below hb2; have rb := ho2.rd; have c1 : _ = some (Value.int .u64 (n : Int)) := hk.cell 1; have c3 : _ = some (Value.int .u64 (f : Int)) := hk.cell 3; clear tok1; have tok2 : True := trivial)
    | (have _t := tok2; go_at_call 22; refine (PU _).mono ?_; rintro e w4 ⟨v4, rfl, ho4, hb4⟩; have rb4 := rb.below hb4; have z4 := hb4.size; clear tok2; have tok3 : True := trivial)
    | (have _t := tok3; (at_builtin; refine wpList_app8 rfl _ _ rfl st8 (by with_unfolding_all (conv => lhs; whnf)) ho4 rfl (Rd.src rb4 Tryd.underlying22) (by first | omega | (simp; omega)) (by first | (simp; done) | omega | (simp; omega)) ?_); intro v5 w5 ho5 hg5 _; have hs5 := (app_step0 hb4 ho4 (Nat.le_refl _) hg5).1; clear c1 c3; replace hw := below_below hw hs5; replace hk := hk.below hs5; replace rb := rb.below hs5; clear rb4; clear tok3; have tok4 : True := trivial)
    | (have _t := tok4; go_at_call 11; refine (U _ _ ho5.rd).mono ?_; rintro e w6 ⟨v6, rfl, ho6, hb6⟩; replace hw := below_below hw hb6; replace hk := hk.below hb6; replace rb := rb.below hb6; have r6 := ho6.rd; have c2 : _ = some (Value.int .i64 i) := hk.cell 2; clear tok4; have tok5 : True := trivial)
    | (have _t := tok5; go_at_call 23; refine (PI _).mono ?_; rintro e w7 ⟨v7, rfl, ho7, hb7⟩; have rb4 := rb.below hb7; have z7 := hb7.size; clear tok5; have tok6 : True := trivial)
    | (have _t := tok6; (at_builtin; refine wpList_app8 rfl _ _ rfl st8 (by with_unfolding_all (conv => lhs; whnf)) ho7 rfl (Rd.src rb4 Tryd.underlying22) (by first | omega | (simp; omega)) (by first | (simp; done) | omega | (simp; omega)) ?_); intro v8 w8 ho8 hg8 _; have hs8 := (app_step0 hb7 ho7 (Nat.le_refl _) hg8).1; clear c2; replace hw := below_below hw hs8; replace hk := hk.below hs8; replace rb := rb.below hs8; replace r6 := r6.below hs8; clear rb4; clear tok6; have tok7 : True := trivial)
    | (have _t := tok7; go_at_call 13; refine (I _ _ ho8.rd).mono ?_; rintro e w9 ⟨v9, rfl, ho9, hb9⟩; replace hw := below_below hw hb9; replace hk := hk.below hb9; replace rb := rb.below hb9; replace r6 := r6.below hb9; have r9 := ho9.rd; clear tok7; have tok8 : True := trivial)
    | (have _t := tok8; go_at_call 24; refine (PF _).mono ?_; rintro e w10 ⟨v10, rfl, ho10, hb10⟩; have rb4 := rb.below hb10; have z10 := hb10.size; clear tok8; have tok9 : True := trivial)
    | (have _t := tok9; (at_builtin; refine wpList_app8 rfl _ _ rfl st8 (by with_unfolding_all (conv => lhs; whnf)) ho10 rfl (Rd.src rb4 Tryd.underlying22) (by first | omega | (simp; omega)) (by first | (simp; done) | omega | (simp; omega)) ?_); intro v11 w11 ho11 hg11 _; have hs11 := (app_step0 hb10 ho10 (Nat.le_refl _) hg11).1; replace hw := below_below hw hs11; replace hk := hk.below hs11; replace rb := rb.below hs11; replace r6 := r6.below hs11; replace r9 := r9.below hs11; clear rb4; clear tok9; have tok10 : True := trivial)
    | (have _t := tok10; go_at_call 15; refine (F _ _ ho11.rd).mono ?_; rintro e w12 ⟨v12, rfl, ho12, hb12⟩; replace hw := below_below hw hb12; replace hk := hk.below hb12; replace rb := rb.below hb12; replace r6 := r6.below hb12; replace r9 := r9.below hb12; have r12 := ho12.rd; have c1 : _ = some (Value.int .u64 (n : Int)) := hk.cell 1; have c2 : _ = some (Value.int .i64 i) := hk.cell 2; have k1 := convert_str r6; have k2 := convert_str r9; have k3 := convert_str r12; have k4 := convert_str rb; clear tok10; have tok11 : True := trivial))
  clear U I F PU PI PF D k1 k2 k3 k4 r6 r9 r12 c1 c2 ho12 ho11 ho9 ho8 ho6 ho5 ho4 ho7 ho10 hg5 hg8 hg11 hs5 hs8 hs11
  have D2 := fun w' => f64bits w' (bitsI f)
  by_cases hf1 : fnan f = true
  · have hbf : bitsI f = nanF := by unfold bitsI; rw [if_pos hf1]; rfl
    have hnn : fnan nanF = true := by decide
    rw [hbf]
    refine region_making 20 (fun _ => []) (fun _ => none) (by kernel_rfl) (by kernel_rfl) ?_ ?_
    · intro i' S' h' e v'
      cases h'
    simp only [List.take_succ_cons, List.take_zero, List.drop_succ_cons, List.drop_zero]
    repeat (apply wpG_pure; (focus rfl); (focus (intro wg Bg hbg hBg hFg; have c3 : _ = some (Value.int .u64 (f : Int)) := (Blk.below (w := w12.drew) hk hbg).cell 3; go_simp; (try go_bits); (first | done | exact ⟨rfl, Below.refl _ _⟩ | rfl))); simp only [Act.put, List.setIfInBounds_toArray, List.set_cons_succ, List.set_cons_zero])
    refine wpG_end (fun wg Bg hbg hBg hFg => ?_)
    have rg := Rd.below (w := w12.drew) rb hbg
    have hwg := below_below hw.drew hbg
    clear hFg hBg rb hw hk hbf hnn hf1 D2
    have rb := rg
    have hw := hwg
    clear rg hwg
    have U2 := fun v1 w1 (hv : Rd w1 v1 b) => uint_c v1 b w1 hv (by omega)
    unfold GivesU at U2
    by_cases hU0 : (uintI b).2.2 = 0
    · have hcat0 := uintI_back b hU0
      have hmu := uintI_lt b
      rw [hU0] at U2
      clear hU0
      generalize (uintI b).1 = m1 at *
      generalize (uintI b).2.1 = m2 at *
      have hlen := congrArg List.length hcat0
      simp only [List.length_append] at hlen
      have hcat : strB (formU m1) ++ strB m2 = strB b := by rw [strB_append, hcat0]
      have hss : ¬ 9223372036854775807 < (strB (formU m1)).size + (strB m2).size := by rw [strB_size, strB_size]; omega
      clear hcat0 hlen
      have PX := fun w1 => putuint_c (.slice none 0 0) [] m1 w1 (Rd.nil w1) (by simp) hmu
      rw [List.nil_append] at PX
      generalize formU m1 = Y at *
      have tok0 : True := trivial
      go_upto_region 11 with (first
        | (have _t := tok0; go_at_call 10; refine (FB _ _ rb).mono ?_; rintro e wa ⟨va1, rfl, hoa, hba⟩; replace hw := below_below hw hba; replace rb := rb.below hba; clear tok0; have tok1 : True := trivial)
        | (have _t := tok1; go_at_call 11; refine (U2 _ _ hoa.rd).mono ?_; rintro e wx ⟨vx, rfl, hox, hbx⟩; replace hw := below_below hw hbx; replace rb := rb.below hbx; have rx := hox.rd; clear tok1; have tok2 : True := trivial))
      refine region_making 13 (fun _ => []) (fun | 4 => some fun _ => new8 5 Y | _ => none) (by kernel_rfl) (by kernel_rfl) ?_ ?_
      · intro i' S' h' e v'
        match i', h' with
        | 4, h' => cases h'; exact new8_loc _ _ _ _
      simp only [List.take_succ_cons, List.take_zero, List.drop_succ_cons, List.drop_zero]
      (apply wpG_pure; (focus rfl); (focus (intro wg Bg hbg hBg hFg; go_simp; (try go_bits); (first | done | exact ⟨rfl, Below.refl _ _⟩ | rfl))); simp only [Act.put, List.setIfInBounds_toArray, List.set_cons_succ, List.set_cons_zero])
      (apply wpG_pure; (focus rfl); (focus (intro wg Bg hbg hBg hFg; go_simp; (try go_bits); (first | done | exact ⟨rfl, Below.refl _ _⟩ | rfl))); simp only [Act.put, List.setIfInBounds_toArray, List.set_cons_succ, List.set_cons_zero])
      (apply wpG_pure; (focus rfl); (focus (intro wg Bg hbg hBg hFg; go_simp; (try go_bits); (first | done | exact ⟨rfl, Below.refl _ _⟩ | rfl))); simp only [Act.put, List.setIfInBounds_toArray, List.set_cons_succ, List.set_cons_zero])
      (apply wpG_pure; (focus rfl); (focus (intro wg Bg hbg hBg hFg; go_simp; (try go_bits); (first | done | exact ⟨rfl, Below.refl _ _⟩ | rfl))); simp only [Act.put, List.setIfInBounds_toArray, List.set_cons_succ, List.set_cons_zero])
      (apply wpG_make; (focus rfl); (focus (intro wg Bg hbg hBg hFg; go_simp; go_at_call 22; exact Calls.mono (PX _) (fun e w' h => (by obtain ⟨u, rfl, ho, hb⟩ := h; exact ⟨u, rfl, Chg.of_below hb, ⟨ho.mono (Nat.zero_le _), fun g hg => (by first | exact .inr ⟨ho.base_le g hg, ho.lt g hg⟩ | exact ⟨ho.base_le g hg, ho.lt g hg⟩)⟩⟩)))); intro a4; simp only [Act.put, List.setIfInBounds_toArray, List.set_cons_succ, List.set_cons_zero])
      (apply wpG_pure; (focus rfl); (focus (intro wg Bg hbg hBg hFg; have hc := convert_str (Own8.rd (hFg 4 (by decide +kernel) : new8 5 Y a4 (Bg 4) wg).1); go_simp; (try go_bits); (first | done | exact ⟨rfl, Below.refl _ _⟩ | rfl))); simp only [Act.put, List.setIfInBounds_toArray, List.set_cons_succ, List.set_cons_zero])
      (apply wpG_pure; (focus rfl); (focus (intro wg Bg hbg hBg hFg; go_simp; (try go_bits); (first | done | exact ⟨rfl, Below.refl _ _⟩ | rfl))); simp only [Act.put, List.setIfInBounds_toArray, List.set_cons_succ, List.set_cons_zero])
      (apply wpG_pure; (focus rfl); (focus (intro wg Bg hbg hBg hFg; have hc := convert_str (Rd.below (w := wx.drew) rx hbg); go_simp; (try go_bits); (first | done | exact ⟨rfl, Below.refl _ _⟩ | rfl))); simp only [Act.put, List.setIfInBounds_toArray, List.set_cons_succ, List.set_cons_zero])
      (apply wpG_pure; (focus rfl); (focus (intro wg Bg hbg hBg hFg; go_simp; (try go_bits); (first | done | exact ⟨rfl, Below.refl _ _⟩ | rfl))); simp only [Act.put, List.setIfInBounds_toArray, List.set_cons_succ, List.set_cons_zero])
      (apply wpG_pure; (focus rfl); (focus (intro wg Bg hbg hBg hFg; go_simp; (try go_bits); (first | done | exact ⟨rfl, Below.refl _ _⟩ | rfl))); simp only [Act.put, List.setIfInBounds_toArray, List.set_cons_succ, List.set_cons_zero])
      (apply wpG_pure; (focus rfl); (focus (intro wg Bg hbg hBg hFg; have hc := convert_str (Rd.below (w := wx.drew) rb hbg); go_simp; (try go_bits); (first | done | exact ⟨rfl, Below.refl _ _⟩ | rfl))); simp only [Act.put, List.setIfInBounds_toArray, List.set_cons_succ, List.set_cons_zero])
      repeat (apply wpG_pure; (focus rfl); (focus (intro wg Bg hbg hBg hFg; go_simp; (try go_bits); (first | done | exact ⟨rfl, Below.refl _ _⟩ | rfl))); simp only [Act.put, List.setIfInBounds_toArray, List.set_cons_succ, List.set_cons_zero])
      refine wpG_end (fun wg Bg hbg hBg hFg => ?_)
      have rg := Rd.below (w := wx.drew) rb hbg
      have hwg := below_below hw.drew hbg
      clear hFg hBg rb hw hcat hss PX rx hox hoa
      have rb := rg
      have hw := hwg
      clear rg hwg
      have F2 := fun v1 w1 (hv : Rd w1 v1 b) => float_c v1 b w1 hv (by omega)
      unfold GivesF at F2
      by_cases hF0 : (floatI b).2.2 = 0
      · have hcat0 := (floatI_back b hF0).1
        have hmf := (floatI_back b hF0).2
        rw [hF0] at F2
        clear hF0
        generalize (floatI b).1 = m1 at *
        generalize (floatI b).2.1 = m2 at *
        have hlen := congrArg List.length hcat0
        simp only [List.length_append] at hlen
        have hcat : strB (beBs (bitsI m1) 8) ++ strB m2 = strB b := by rw [strB_append, hcat0]
        have hss : ¬ 9223372036854775807 < (strB (beBs (bitsI m1) 8)).size + (strB m2).size := by rw [strB_size, strB_size]; omega
        clear hcat0 hlen
        have PX := fun w1 => putfloat_c (.slice none 0 0) [] m1 w1 (Rd.nil w1) (by simp) hmf
        rw [List.nil_append] at PX
        generalize beBs (bitsI m1) 8 = Y at *
        have tok0 : True := trivial
        go_upto_region 14 with (first
          | (have _t := tok0; go_at_call 10; refine (FB _ _ rb).mono ?_; rintro e wa ⟨va1, rfl, hoa, hba⟩; replace hw := below_below hw hba; replace rb := rb.below hba; clear tok0; have tok1 : True := trivial)
          | (have _t := tok1; go_at_call 15; refine (F2 _ _ hoa.rd).mono ?_; rintro e wx ⟨vx, rfl, hox, hbx⟩; replace hw := below_below hw hbx; replace rb := rb.below hbx; have rx := hox.rd; clear tok1; have tok2 : True := trivial))
        refine region_making 13 (fun _ => []) (fun | 4 => some fun _ => new8 5 Y | _ => none) (by kernel_rfl) (by kernel_rfl) ?_ ?_
        · intro i' S' h' e v'
          match i', h' with
          | 4, h' => cases h'; exact new8_loc _ _ _ _
        simp only [List.take_succ_cons, List.take_zero, List.drop_succ_cons, List.drop_zero]
        (apply wpG_pure; (focus rfl); (focus (intro wg Bg hbg hBg hFg; go_simp; (try go_bits); (first | done | exact ⟨rfl, Below.refl _ _⟩ | rfl))); simp only [Act.put, List.setIfInBounds_toArray, List.set_cons_succ, List.set_cons_zero])
        (apply wpG_pure; (focus rfl); (focus (intro wg Bg hbg hBg hFg; go_simp; (try go_bits); (first | done | exact ⟨rfl, Below.refl _ _⟩ | rfl))); simp only [Act.put, List.setIfInBounds_toArray, List.set_cons_succ, List.set_cons_zero])
        (apply wpG_pure; (focus rfl); (focus (intro wg Bg hbg hBg hFg; go_simp; (try go_bits); (first | done | exact ⟨rfl, Below.refl _ _⟩ | rfl))); simp only [Act.put, List.setIfInBounds_toArray, List.set_cons_succ, List.set_cons_zero])
        (apply wpG_pure; (focus rfl); (focus (intro wg Bg hbg hBg hFg; go_simp; (try go_bits); (first | done | exact ⟨rfl, Below.refl _ _⟩ | rfl))); simp only [Act.put, List.setIfInBounds_toArray, List.set_cons_succ, List.set_cons_zero])
        (apply wpG_make; (focus rfl); (focus (intro wg Bg hbg hBg hFg; go_simp; go_at_call 24; exact Calls.mono (PX _) (fun e w' h => (by obtain ⟨u, rfl, ho, hb⟩ := h; exact ⟨u, rfl, Chg.of_below hb, ⟨ho.mono (Nat.zero_le _), fun g hg => (by first | exact .inr ⟨ho.base_le g hg, ho.lt g hg⟩ | exact ⟨ho.base_le g hg, ho.lt g hg⟩)⟩⟩)))); intro a4; simp only [Act.put, List.setIfInBounds_toArray, List.set_cons_succ, List.set_cons_zero])
        (apply wpG_pure; (focus rfl); (focus (intro wg Bg hbg hBg hFg; have hc := convert_str (Own8.rd (hFg 4 (by decide +kernel) : new8 5 Y a4 (Bg 4) wg).1); go_simp; (try go_bits); (first | done | exact ⟨rfl, Below.refl _ _⟩ | rfl))); simp only [Act.put, List.setIfInBounds_toArray, List.set_cons_succ, List.set_cons_zero])
        (apply wpG_pure; (focus rfl); (focus (intro wg Bg hbg hBg hFg; go_simp; (try go_bits); (first | done | exact ⟨rfl, Below.refl _ _⟩ | rfl))); simp only [Act.put, List.setIfInBounds_toArray, List.set_cons_succ, List.set_cons_zero])
        (apply wpG_pure; (focus rfl); (focus (intro wg Bg hbg hBg hFg; have hc := convert_str (Rd.below (w := wx.drew) rx hbg); go_simp; (try go_bits); (first | done | exact ⟨rfl, Below.refl _ _⟩ | rfl))); simp only [Act.put, List.setIfInBounds_toArray, List.set_cons_succ, List.set_cons_zero])
        (apply wpG_pure; (focus rfl); (focus (intro wg Bg hbg hBg hFg; go_simp; (try go_bits); (first | done | exact ⟨rfl, Below.refl _ _⟩ | rfl))); simp only [Act.put, List.setIfInBounds_toArray, List.set_cons_succ, List.set_cons_zero])
        (apply wpG_pure; (focus rfl); (focus (intro wg Bg hbg hBg hFg; go_simp; (try go_bits); (first | done | exact ⟨rfl, Below.refl _ _⟩ | rfl))); simp only [Act.put, List.setIfInBounds_toArray, List.set_cons_succ, List.set_cons_zero])
        (apply wpG_pure; (focus rfl); (focus (intro wg Bg hbg hBg hFg; have hc := convert_str (Rd.below (w := wx.drew) rb hbg); go_simp; (try go_bits); (first | done | exact ⟨rfl, Below.refl _ _⟩ | rfl))); simp only [Act.put, List.setIfInBounds_toArray, List.set_cons_succ, List.set_cons_zero])
        repeat (apply wpG_pure; (focus rfl); (focus (intro wg Bg hbg hBg hFg; go_simp; (try go_bits); (first | done | exact ⟨rfl, Below.refl _ _⟩ | rfl))); simp only [Act.put, List.setIfInBounds_toArray, List.set_cons_succ, List.set_cons_zero])
        refine wpG_end (fun wg Bg hbg hBg hFg => ?_)
        have rg := Rd.below (w := wx.drew) rb hbg
        have hwg := below_below hw.drew hbg
        clear hFg hBg rb hw hcat hss PX rx hox hoa
        have rb := rg
        have hw := hwg
        clear rg hwg
        have T := fun v1 w1 (hv : Rd w1 v1 b) (ht : Tabs w1) => octtext_c v1 b 5000 w1 hv (by omega) (by omega) ht
        rw [show ((5000 : Int).toNat) = 5000 from rfl] at T
        unfold GivesT at T
        by_cases hT0 : (textI b 5000).2.2 = 0
        · as_aux_lemma =>
            have hcat0 := textI_back b 5000 hT0
            have htl := textI_len b 5000
            rw [hT0] at T
            clear hT0
            generalize (textI b 5000).1 = t1 at *
            generalize (textI b 5000).2.1 = t2 at *
            have lt1 := formU_len64 t1.length (by omega)
            have PT := fun w1 => puttext_c (.slice none 0 0) [] t1 w1 (Rd.nil w1) (by simp) (by omega)
            rw [List.nil_append] at PT
            have hlen := congrArg List.length hcat0
            simp only [List.length_append] at hlen
            have hcat : strB (formU t1.length ++ t1) ++ strB t2 = strB b := by rw [strB_append, hcat0]
            have hss : ¬ 9223372036854775807 < (strB (formU t1.length ++ t1)).size + (strB t2).size := by rw [strB_size, strB_size]; simp; omega
            clear hcat0 hlen
            generalize formU t1.length ++ t1 = Y at *
            have tok0 : True := trivial
            go_upto_region 17 with (first
              | (have _t := tok0; go_at_call 10; refine (FB _ _ rb).mono ?_; rintro e wa ⟨va1, rfl, hoa, hba⟩; replace hw := below_below hw hba; replace rb := rb.below hba; clear tok0; have tok1 : True := trivial)
              | (have _t := tok1; go_at_call 18; refine (T _ _ hoa.rd (hT.below hw)).mono ?_; rintro e wx ⟨vx, rfl, hox, hbx⟩; replace hw := below_below hw hbx; replace rb := rb.below hbx; have rx := hox.rd; clear tok1; have tok2 : True := trivial))
            refine region_making 17 (fun _ => []) (fun | 4 => some fun _ => new8 5 Y | _ => none) (by kernel_rfl) (by kernel_rfl) ?_ ?_
            · intro i' S' h' e v'
              match i', h' with
              | 4, h' => cases h'; exact new8_loc _ _ _ _
            simp only [List.take_succ_cons, List.take_zero, List.drop_succ_cons, List.drop_zero]
            (apply wpG_pure; (focus rfl); (focus (intro wg Bg hbg hBg hFg; go_simp; (try go_bits); (first | done | exact ⟨rfl, Below.refl _ _⟩ | rfl))); simp only [Act.put, List.setIfInBounds_toArray, List.set_cons_succ, List.set_cons_zero])
            (apply wpG_pure; (focus rfl); (focus (intro wg Bg hbg hBg hFg; go_simp; (try go_bits); (first | done | exact ⟨rfl, Below.refl _ _⟩ | rfl))); simp only [Act.put, List.setIfInBounds_toArray, List.set_cons_succ, List.set_cons_zero])
            (apply wpG_pure; (focus rfl); (focus (intro wg Bg hbg hBg hFg; go_simp; (try go_bits); (first | done | exact ⟨rfl, Below.refl _ _⟩ | rfl))); simp only [Act.put, List.setIfInBounds_toArray, List.set_cons_succ, List.set_cons_zero])
            (apply wpG_pure; (focus rfl); (focus (intro wg Bg hbg hBg hFg; go_simp; (try go_bits); (first | done | exact ⟨rfl, Below.refl _ _⟩ | rfl))); simp only [Act.put, List.setIfInBounds_toArray, List.set_cons_succ, List.set_cons_zero])
            (apply wpG_make; (focus rfl); (focus (intro wg Bg hbg hBg hFg; go_simp; go_at_call 26; exact Calls.mono (PT _) (fun e w' h => (by obtain ⟨u, rfl, ho, hb⟩ := h; exact ⟨u, rfl, Chg.of_below hb, ⟨ho.mono (Nat.zero_le _), fun g hg => (by first | exact .inr ⟨ho.base_le g hg, ho.lt g hg⟩ | exact ⟨ho.base_le g hg, ho.lt g hg⟩)⟩⟩)))); intro a4; simp only [Act.put, List.setIfInBounds_toArray, List.set_cons_succ, List.set_cons_zero])
            (apply wpG_pure; (focus rfl); (focus (intro wg Bg hbg hBg hFg; have hc := convert_str (Own8.rd (hFg 4 (by decide +kernel) : new8 5 Y a4 (Bg 4) wg).1); go_simp; (try go_bits); (first | done | exact ⟨rfl, Below.refl _ _⟩ | rfl))); simp only [Act.put, List.setIfInBounds_toArray, List.set_cons_succ, List.set_cons_zero])
            (apply wpG_pure; (focus rfl); (focus (intro wg Bg hbg hBg hFg; go_simp; (try go_bits); (first | done | exact ⟨rfl, Below.refl _ _⟩ | rfl))); simp only [Act.put, List.setIfInBounds_toArray, List.set_cons_succ, List.set_cons_zero])
            (apply wpG_pure; (focus rfl); (focus (intro wg Bg hbg hBg hFg; have hc := convert_str (Rd.below (w := wx.drew) rx hbg); go_simp; (try go_bits); (first | done | exact ⟨rfl, Below.refl _ _⟩ | rfl))); simp only [Act.put, List.setIfInBounds_toArray, List.set_cons_succ, List.set_cons_zero])
            (apply wpG_pure; (focus rfl); (focus (intro wg Bg hbg hBg hFg; go_simp; (try go_bits); (first | done | exact ⟨rfl, Below.refl _ _⟩ | rfl))); simp only [Act.put, List.setIfInBounds_toArray, List.set_cons_succ, List.set_cons_zero])
            (apply wpG_pure; (focus rfl); (focus (intro wg Bg hbg hBg hFg; go_simp; (try go_bits); (first | done | exact ⟨rfl, Below.refl _ _⟩ | rfl))); simp only [Act.put, List.setIfInBounds_toArray, List.set_cons_succ, List.set_cons_zero])
            (apply wpG_pure; (focus rfl); (focus (intro wg Bg hbg hBg hFg; have hc := convert_str (Rd.below (w := wx.drew) rb hbg); go_simp; (try go_bits); (first | done | exact ⟨rfl, Below.refl _ _⟩ | rfl))); simp only [Act.put, List.setIfInBounds_toArray, List.set_cons_succ, List.set_cons_zero])
            (apply wpG_pure; (focus rfl); (focus (intro wg Bg hbg hBg hFg; go_simp; (try go_bits); (first | done | exact ⟨rfl, Below.refl _ _⟩ | rfl))); simp only [Act.put, List.setIfInBounds_toArray, List.set_cons_succ, List.set_cons_zero])
            (apply wpG_pure; (focus rfl); (focus (intro wg Bg hbg hBg hFg; go_simp; (try go_bits); (first | done | exact ⟨rfl, Below.refl _ _⟩ | rfl))); simp only [Act.put, List.setIfInBounds_toArray, List.set_cons_succ, List.set_cons_zero])
            (apply wpG_pure; (focus rfl); (focus (intro wg Bg hbg hBg hFg; go_simp; (try go_bits); (first | done | exact ⟨rfl, Below.refl _ _⟩ | rfl))); simp only [Act.put, List.setIfInBounds_toArray, List.set_cons_succ, List.set_cons_zero])
            (apply wpG_pure; (focus rfl); (focus (intro wg Bg hbg hBg hFg; go_simp; (try refine ⟨by kernel_rfl, ?_⟩); go_at_call 20; exact Calls.mono (wakes1_c _) (fun e w' h => (by obtain ⟨rfl, hb⟩ := h; exact ⟨rfl, hb⟩)))); simp only [Act.put, List.setIfInBounds_toArray, List.set_cons_succ, List.set_cons_zero])
            repeat (apply wpG_pure; (focus rfl); (focus (intro wg Bg hbg hBg hFg; go_simp; (try go_bits); (first | done | exact ⟨rfl, Below.refl _ _⟩ | rfl))); simp only [Act.put, List.setIfInBounds_toArray, List.set_cons_succ, List.set_cons_zero])
            refine wpG_end (fun wg Bg hbg hBg hFg => ?_)
            go_wp2
            go_ret
            exact ⟨rfl, below_below hw.drew hbg⟩
        · as_aux_lemma =>
            have hne : ((textI b 5000).2.2 == 0) = false := by simp [hT0]
            generalize strB (textI b 5000).1 = t1 at *
            generalize (textI b 5000).2.1 = t2 at *
            generalize (textI b 5000).2.2 = t3 at *
            have tok0 : True := trivial
            go_upto_region 17 with (first
              | (have _t := tok0; go_at_call 10; refine (FB _ _ rb).mono ?_; rintro e wa ⟨va1, rfl, hoa, hba⟩; replace hw := below_below hw hba; replace rb := rb.below hba; clear tok0; have tok1 : True := trivial)
              | (have _t := tok1; go_at_call 18; refine (T _ _ hoa.rd (hT.below hw)).mono ?_; rintro e wx ⟨vx, rfl, hox, hbx⟩; replace hw := below_below hw hbx; replace rb := rb.below hbx; have rx := hox.rd; clear tok1; have tok2 : True := trivial))
            refine region_making 17 (fun _ => []) (fun _ => none) (by kernel_rfl) (by kernel_rfl) ?_ ?_
            · intro i' S' h' e v'
              cases h'
            simp only [List.take_succ_cons, List.take_zero, List.drop_succ_cons, List.drop_zero]
            (apply wpG_pure; (focus rfl); (focus (intro wg Bg hbg hBg hFg; go_simp; (try go_bits); (first | done | exact ⟨rfl, Below.refl _ _⟩ | rfl))); simp only [Act.put, List.setIfInBounds_toArray, List.set_cons_succ, List.set_cons_zero])
            (apply wpG_pure; (focus rfl); (focus (intro wg Bg hbg hBg hFg; go_simp; (try go_bits); (first | done | exact ⟨rfl, Below.refl _ _⟩ | rfl))); simp only [Act.put, List.setIfInBounds_toArray, List.set_cons_succ, List.set_cons_zero])
            (apply wpG_pure; (focus rfl); (focus (intro wg Bg hbg hBg hFg; go_simp; (try go_bits); (first | done | exact ⟨rfl, Below.refl _ _⟩ | rfl))); simp only [Act.put, List.setIfInBounds_toArray, List.set_cons_succ, List.set_cons_zero])
            (apply wpG_pure; (focus rfl); (focus (intro wg Bg hbg hBg hFg; go_simp; (try go_bits); (first | done | exact ⟨rfl, Below.refl _ _⟩ | rfl))); simp only [Act.put, List.setIfInBounds_toArray, List.set_cons_succ, List.set_cons_zero])
            (apply wpG_pure; (focus rfl); (focus (intro wg Bg hbg hBg hFg; go_simp; (try go_bits); (first | done | exact ⟨rfl, Below.refl _ _⟩ | rfl))); simp only [Act.put, List.setIfInBounds_toArray, List.set_cons_succ, List.set_cons_zero])
            (apply wpG_pure; (focus rfl); (focus (intro wg Bg hbg hBg hFg; go_simp; (try go_bits); (first | done | exact ⟨rfl, Below.refl _ _⟩ | rfl))); simp only [Act.put, List.setIfInBounds_toArray, List.set_cons_succ, List.set_cons_zero])
            (apply wpG_pure; (focus rfl); (focus (intro wg Bg hbg hBg hFg; go_simp; (try go_bits); (first | done | exact ⟨rfl, Below.refl _ _⟩ | rfl))); simp only [Act.put, List.setIfInBounds_toArray, List.set_cons_succ, List.set_cons_zero])
            (apply wpG_pure; (focus rfl); (focus (intro wg Bg hbg hBg hFg; go_simp; (try go_bits); (first | done | exact ⟨rfl, Below.refl _ _⟩ | rfl))); simp only [Act.put, List.setIfInBounds_toArray, List.set_cons_succ, List.set_cons_zero])
            (apply wpG_pure; (focus rfl); (focus (intro wg Bg hbg hBg hFg; go_simp; (try go_bits); (first | done | exact ⟨rfl, Below.refl _ _⟩ | rfl))); simp only [Act.put, List.setIfInBounds_toArray, List.set_cons_succ, List.set_cons_zero])
            (apply wpG_pure; (focus rfl); (focus (intro wg Bg hbg hBg hFg; go_simp; (try go_bits); (first | done | exact ⟨rfl, Below.refl _ _⟩ | rfl))); simp only [Act.put, List.setIfInBounds_toArray, List.set_cons_succ, List.set_cons_zero])
            (apply wpG_pure; (focus rfl); (focus (intro wg Bg hbg hBg hFg; go_simp; (try go_bits); (first | done | exact ⟨rfl, Below.refl _ _⟩ | rfl))); simp only [Act.put, List.setIfInBounds_toArray, List.set_cons_succ, List.set_cons_zero])
            (apply wpG_pure; (focus rfl); (focus (intro wg Bg hbg hBg hFg; go_simp; (try go_bits); (first | done | exact ⟨rfl, Below.refl _ _⟩ | rfl))); simp only [Act.put, List.setIfInBounds_toArray, List.set_cons_succ, List.set_cons_zero])
            (apply wpG_pure; (focus rfl); (focus (intro wg Bg hbg hBg hFg; go_simp; (try go_bits); (first | done | exact ⟨rfl, Below.refl _ _⟩ | rfl))); simp only [Act.put, List.setIfInBounds_toArray, List.set_cons_succ, List.set_cons_zero])
            (apply wpG_pure; (focus rfl); (focus (intro wg Bg hbg hBg hFg; go_simp; (try go_bits); (first | done | exact ⟨rfl, Below.refl _ _⟩ | rfl))); simp only [Act.put, List.setIfInBounds_toArray, List.set_cons_succ, List.set_cons_zero])
            (apply wpG_pure; (focus rfl); (focus (intro wg Bg hbg hBg hFg; go_simp; (try refine ⟨by kernel_rfl, ?_⟩); go_at_call 20; exact Calls.mono (wakes1_c _) (fun e w' h => (by obtain ⟨rfl, hb⟩ := h; exact ⟨rfl, hb⟩)))); simp only [Act.put, List.setIfInBounds_toArray, List.set_cons_succ, List.set_cons_zero])
            repeat (apply wpG_pure; (focus rfl); (focus (intro wg Bg hbg hBg hFg; go_simp; (try go_bits); (first | done | exact ⟨rfl, Below.refl _ _⟩ | rfl))); simp only [Act.put, List.setIfInBounds_toArray, List.set_cons_succ, List.set_cons_zero])
            refine wpG_end (fun wg Bg hbg hBg hFg => ?_)
            go_wp2
            go_ret
            exact ⟨rfl, below_below hw.drew hbg⟩
      · have hne : ((floatI b).2.2 == 0) = false := by simp [hF0]
        generalize (floatI b).1 = m1 at *
        generalize (floatI b).2.1 = m2 at *
        generalize (floatI b).2.2 = m3 at *
        have tok0 : True := trivial
        go_upto_region 14 with (first
          | (have _t := tok0; go_at_call 10; refine (FB _ _ rb).mono ?_; rintro e wa ⟨va1, rfl, hoa, hba⟩; replace hw := below_below hw hba; replace rb := rb.below hba; clear tok0; have tok1 : True := trivial)
          | (have _t := tok1; go_at_call 15; refine (F2 _ _ hoa.rd).mono ?_; rintro e wx ⟨vx, rfl, hox, hbx⟩; replace hw := below_below hw hbx; replace rb := rb.below hbx; have rx := hox.rd; clear tok1; have tok2 : True := trivial))
        refine region_making 13 (fun _ => []) (fun _ => none) (by kernel_rfl) (by kernel_rfl) ?_ ?_
        · intro i' S' h' e v'
          cases h'
        simp only [List.take_succ_cons, List.take_zero, List.drop_succ_cons, List.drop_zero]
        repeat (apply wpG_pure; (focus rfl); (focus (intro wg Bg hbg hBg hFg; go_simp; (try go_bits); (first | done | exact ⟨rfl, Below.refl _ _⟩ | rfl))); simp only [Act.put, List.setIfInBounds_toArray, List.set_cons_succ, List.set_cons_zero])
        refine wpG_end (fun wg Bg hbg hBg hFg => ?_)
        have rg := Rd.below (w := wx.drew) rb hbg
        have hwg := below_below hw.drew hbg
        clear hFg hBg rb hw rx hox hoa
        have rb := rg
        have hw := hwg
        clear rg hwg
        have T := fun v1 w1 (hv : Rd w1 v1 b) (ht : Tabs w1) => octtext_c v1 b 5000 w1 hv (by omega) (by omega) ht
        rw [show ((5000 : Int).toNat) = 5000 from rfl] at T
        unfold GivesT at T
        by_cases hT0 : (textI b 5000).2.2 = 0
        · as_aux_lemma =>
            have hcat0 := textI_back b 5000 hT0
            have htl := textI_len b 5000
            rw [hT0] at T
            clear hT0
            generalize (textI b 5000).1 = t1 at *
            generalize (textI b 5000).2.1 = t2 at *
            have lt1 := formU_len64 t1.length (by omega)
            have PT := fun w1 => puttext_c (.slice none 0 0) [] t1 w1 (Rd.nil w1) (by simp) (by omega)
            rw [List.nil_append] at PT
            have hlen := congrArg List.length hcat0
            simp only [List.length_append] at hlen
            have hcat : strB (formU t1.length ++ t1) ++ strB t2 = strB b := by rw [strB_append, hcat0]
            have hss : ¬ 9223372036854775807 < (strB (formU t1.length ++ t1)).size + (strB t2).size := by rw [strB_size, strB_size]; simp; omega
            clear hcat0 hlen
            generalize formU t1.length ++ t1 = Y at *
            have tok0 : True := trivial
            go_upto_region 17 with (first
              | (have _t := tok0; go_at_call 10; refine (FB _ _ rb).mono ?_; rintro e wa ⟨va1, rfl, hoa, hba⟩; replace hw := below_below hw hba; replace rb := rb.below hba; clear tok0; have tok1 : True := trivial)
              | (have _t := tok1; go_at_call 18; refine (T _ _ hoa.rd (hT.below hw)).mono ?_; rintro e wx ⟨vx, rfl, hox, hbx⟩; replace hw := below_below hw hbx; replace rb := rb.below hbx; have rx := hox.rd; clear tok1; have tok2 : True := trivial))
            refine region_making 17 (fun _ => []) (fun | 4 => some fun _ => new8 5 Y | _ => none) (by kernel_rfl) (by kernel_rfl) ?_ ?_
            · intro i' S' h' e v'
              match i', h' with
              | 4, h' => cases h'; exact new8_loc _ _ _ _
            simp only [List.take_succ_cons, List.take_zero, List.drop_succ_cons, List.drop_zero]
            (apply wpG_pure; (focus rfl); (focus (intro wg Bg hbg hBg hFg; go_simp; (try go_bits); (first | done | exact ⟨rfl, Below.refl _ _⟩ | rfl))); simp only [Act.put, List.setIfInBounds_toArray, List.set_cons_succ, List.set_cons_zero])
            (apply wpG_pure; (focus rfl); (focus (intro wg Bg hbg hBg hFg; go_simp; (try go_bits); (first | done | exact ⟨rfl, Below.refl _ _⟩ | rfl))); simp only [Act.put, List.setIfInBounds_toArray, List.set_cons_succ, List.set_cons_zero])
            (apply wpG_pure; (focus rfl); (focus (intro wg Bg hbg hBg hFg; go_simp; (try go_bits); (first | done | exact ⟨rfl, Below.refl _ _⟩ | rfl))); simp only [Act.put, List.setIfInBounds_toArray, List.set_cons_succ, List.set_cons_zero])
            (apply wpG_pure; (focus rfl); (focus (intro wg Bg hbg hBg hFg; go_simp; (try go_bits); (first | done | exact ⟨rfl, Below.refl _ _⟩ | rfl))); simp only [Act.put, List.setIfInBounds_toArray, List.set_cons_succ, List.set_cons_zero])
            (apply wpG_make; (focus rfl); (focus (intro wg Bg hbg hBg hFg; go_simp; go_at_call 26; exact Calls.mono (PT _) (fun e w' h => (by obtain ⟨u, rfl, ho, hb⟩ := h; exact ⟨u, rfl, Chg.of_below hb, ⟨ho.mono (Nat.zero_le _), fun g hg => (by first | exact .inr ⟨ho.base_le g hg, ho.lt g hg⟩ | exact ⟨ho.base_le g hg, ho.lt g hg⟩)⟩⟩)))); intro a4; simp only [Act.put, List.setIfInBounds_toArray, List.set_cons_succ, List.set_cons_zero])
            (apply wpG_pure; (focus rfl); (focus (intro wg Bg hbg hBg hFg; have hc := convert_str (Own8.rd (hFg 4 (by decide +kernel) : new8 5 Y a4 (Bg 4) wg).1); go_simp; (try go_bits); (first | done | exact ⟨rfl, Below.refl _ _⟩ | rfl))); simp only [Act.put, List.setIfInBounds_toArray, List.set_cons_succ, List.set_cons_zero])
            (apply wpG_pure; (focus rfl); (focus (intro wg Bg hbg hBg hFg; go_simp; (try go_bits); (first | done | exact ⟨rfl, Below.refl _ _⟩ | rfl))); simp only [Act.put, List.setIfInBounds_toArray, List.set_cons_succ, List.set_cons_zero])
            (apply wpG_pure; (focus rfl); (focus (intro wg Bg hbg hBg hFg; have hc := convert_str (Rd.below (w := wx.drew) rx hbg); go_simp; (try go_bits); (first | done | exact ⟨rfl, Below.refl _ _⟩ | rfl))); simp only [Act.put, List.setIfInBounds_toArray, List.set_cons_succ, List.set_cons_zero])
            (apply wpG_pure; (focus rfl); (focus (intro wg Bg hbg hBg hFg; go_simp; (try go_bits); (first | done | exact ⟨rfl, Below.refl _ _⟩ | rfl))); simp only [Act.put, List.setIfInBounds_toArray, List.set_cons_succ, List.set_cons_zero])
            (apply wpG_pure; (focus rfl); (focus (intro wg Bg hbg hBg hFg; go_simp; (try go_bits); (first | done | exact ⟨rfl, Below.refl _ _⟩ | rfl))); simp only [Act.put, List.setIfInBounds_toArray, List.set_cons_succ, List.set_cons_zero])
            (apply wpG_pure; (focus rfl); (focus (intro wg Bg hbg hBg hFg; have hc := convert_str (Rd.below (w := wx.drew) rb hbg); go_simp; (try go_bits); (first | done | exact ⟨rfl, Below.refl _ _⟩ | rfl))); simp only [Act.put, List.setIfInBounds_toArray, List.set_cons_succ, List.set_cons_zero])
            (apply wpG_pure; (focus rfl); (focus (intro wg Bg hbg hBg hFg; go_simp; (try go_bits); (first | done | exact ⟨rfl, Below.refl _ _⟩ | rfl))); simp only [Act.put, List.setIfInBounds_toArray, List.set_cons_succ, List.set_cons_zero])
            (apply wpG_pure; (focus rfl); (focus (intro wg Bg hbg hBg hFg; go_simp; (try go_bits); (first | done | exact ⟨rfl, Below.refl _ _⟩ | rfl))); simp only [Act.put, List.setIfInBounds_toArray, List.set_cons_succ, List.set_cons_zero])
            (apply wpG_pure; (focus rfl); (focus (intro wg Bg hbg hBg hFg; go_simp; (try go_bits); (first | done | exact ⟨rfl, Below.refl _ _⟩ | rfl))); simp only [Act.put, List.setIfInBounds_toArray, List.set_cons_succ, List.set_cons_zero])
            (apply wpG_pure; (focus rfl); (focus (intro wg Bg hbg hBg hFg; go_simp; (try refine ⟨by kernel_rfl, ?_⟩); go_at_call 20; exact Calls.mono (wakes1_c _) (fun e w' h => (by obtain ⟨rfl, hb⟩ := h; exact ⟨rfl, hb⟩)))); simp only [Act.put, List.setIfInBounds_toArray, List.set_cons_succ, List.set_cons_zero])
            repeat (apply wpG_pure; (focus rfl); (focus (intro wg Bg hbg hBg hFg; go_simp; (try go_bits); (first | done | exact ⟨rfl, Below.refl _ _⟩ | rfl))); simp only [Act.put, List.setIfInBounds_toArray, List.set_cons_succ, List.set_cons_zero])
            refine wpG_end (fun wg Bg hbg hBg hFg => ?_)
            go_wp2
            go_ret
            exact ⟨rfl, below_below hw.drew hbg⟩
        · as_aux_lemma =>
            have hne : ((textI b 5000).2.2 == 0) = false := by simp [hT0]
            generalize strB (textI b 5000).1 = t1 at *
            generalize (textI b 5000).2.1 = t2 at *
            generalize (textI b 5000).2.2 = t3 at *
            have tok0 : True := trivial
            go_upto_region 17 with (first
              | (have _t := tok0; go_at_call 10; refine (FB _ _ rb).mono ?_; rintro e wa ⟨va1, rfl, hoa, hba⟩; replace hw := below_below hw hba; replace rb := rb.below hba; clear tok0; have tok1 : True := trivial)
              | (have _t := tok1; go_at_call 18; refine (T _ _ hoa.rd (hT.below hw)).mono ?_; rintro e wx ⟨vx, rfl, hox, hbx⟩; replace hw := below_below hw hbx; replace rb := rb.below hbx; have rx := hox.rd; clear tok1; have tok2 : True := trivial))
            refine region_making 17 (fun _ => []) (fun _ => none) (by kernel_rfl) (by kernel_rfl) ?_ ?_
            · intro i' S' h' e v'
              cases h'
            simp only [List.take_succ_cons, List.take_zero, List.drop_succ_cons, List.drop_zero]
            (apply wpG_pure; (focus rfl); (focus (intro wg Bg hbg hBg hFg; go_simp; (try go_bits); (first | done | exact ⟨rfl, Below.refl _ _⟩ | rfl))); simp only [Act.put, List.setIfInBounds_toArray, List.set_cons_succ, List.set_cons_zero])
            (apply wpG_pure; (focus rfl); (focus (intro wg Bg hbg hBg hFg; go_simp; (try go_bits); (first | done | exact ⟨rfl, Below.refl _ _⟩ | rfl))); simp only [Act.put, List.setIfInBounds_toArray, List.set_cons_succ, List.set_cons_zero])
            (apply wpG_pure; (focus rfl); (focus (intro wg Bg hbg hBg hFg; go_simp; (try go_bits); (first | done | exact ⟨rfl, Below.refl _ _⟩ | rfl))); simp only [Act.put, List.setIfInBounds_toArray, List.set_cons_succ, List.set_cons_zero])
            (apply wpG_pure; (focus rfl); (focus (intro wg Bg hbg hBg hFg; go_simp; (try go_bits); (first | done | exact ⟨rfl, Below.refl _ _⟩ | rfl))); simp only [Act.put, List.setIfInBounds_toArray, List.set_cons_succ, List.set_cons_zero])
            (apply wpG_pure; (focus rfl); (focus (intro wg Bg hbg hBg hFg; go_simp; (try go_bits); (first | done | exact ⟨rfl, Below.refl _ _⟩ | rfl))); simp only [Act.put, List.setIfInBounds_toArray, List.set_cons_succ, List.set_cons_zero])
            (apply wpG_pure; (focus rfl); (focus (intro wg Bg hbg hBg hFg; go_simp; (try go_bits); (first | done | exact ⟨rfl, Below.refl _ _⟩ | rfl))); simp only [Act.put, List.setIfInBounds_toArray, List.set_cons_succ, List.set_cons_zero])
            (apply wpG_pure; (focus rfl); (focus (intro wg Bg hbg hBg hFg; go_simp; (try go_bits); (first | done | exact ⟨rfl, Below.refl _ _⟩ | rfl))); simp only [Act.put, List.setIfInBounds_toArray, List.set_cons_succ, List.set_cons_zero])
            (apply wpG_pure; (focus rfl); (focus (intro wg Bg hbg hBg hFg; go_simp; (try go_bits); (first | done | exact ⟨rfl, Below.refl _ _⟩ | rfl))); simp only [Act.put, List.setIfInBounds_toArray, List.set_cons_succ, List.set_cons_zero])
            (apply wpG_pure; (focus rfl); (focus (intro wg Bg hbg hBg hFg; go_simp; (try go_bits); (first | done | exact ⟨rfl, Below.refl _ _⟩ | rfl))); simp only [Act.put, List.setIfInBounds_toArray, List.set_cons_succ, List.set_cons_zero])
            (apply wpG_pure; (focus rfl); (focus (intro wg Bg hbg hBg hFg; go_simp; (try go_bits); (first | done | exact ⟨rfl, Below.refl _ _⟩ | rfl))); simp only [Act.put, List.setIfInBounds_toArray, List.set_cons_succ, List.set_cons_zero])
            (apply wpG_pure; (focus rfl); (focus (intro wg Bg hbg hBg hFg; go_simp; (try go_bits); (first | done | exact ⟨rfl, Below.refl _ _⟩ | rfl))); simp only [Act.put, List.setIfInBounds_toArray, List.set_cons_succ, List.set_cons_zero])
            (apply wpG_pure; (focus rfl); (focus (intro wg Bg hbg hBg hFg; go_simp; (try go_bits); (first | done | exact ⟨rfl, Below.refl _ _⟩ | rfl))); simp only [Act.put, List.setIfInBounds_toArray, List.set_cons_succ, List.set_cons_zero])
            (apply wpG_pure; (focus rfl); (focus (intro wg Bg hbg hBg hFg; go_simp; (try go_bits); (first | done | exact ⟨rfl, Below.refl _ _⟩ | rfl))); simp only [Act.put, List.setIfInBounds_toArray, List.set_cons_succ, List.set_cons_zero])
            (apply wpG_pure; (focus rfl); (focus (intro wg Bg hbg hBg hFg; go_simp; (try go_bits); (first | done | exact ⟨rfl, Below.refl _ _⟩ | rfl))); simp only [Act.put, List.setIfInBounds_toArray, List.set_cons_succ, List.set_cons_zero])
            (apply wpG_pure; (focus rfl); (focus (intro wg Bg hbg hBg hFg; go_simp; (try refine ⟨by kernel_rfl, ?_⟩); go_at_call 20; exact Calls.mono (wakes1_c _) (fun e w' h => (by obtain ⟨rfl, hb⟩ := h; exact ⟨rfl, hb⟩)))); simp only [Act.put, List.setIfInBounds_toArray, List.set_cons_succ, List.set_cons_zero])
            repeat (apply wpG_pure; (focus rfl); (focus (intro wg Bg hbg hBg hFg; go_simp; (try go_bits); (first | done | exact ⟨rfl, Below.refl _ _⟩ | rfl))); simp only [Act.put, List.setIfInBounds_toArray, List.set_cons_succ, List.set_cons_zero])
            refine wpG_end (fun wg Bg hbg hBg hFg => ?_)
            go_wp2
            go_ret
            exact ⟨rfl, below_below hw.drew hbg⟩
    · have hne : ((uintI b).2.2 == 0) = false := by simp [hU0]
      generalize (uintI b).1 = m1 at *
      generalize (uintI b).2.1 = m2 at *
      generalize (uintI b).2.2 = m3 at *
      have tok0 : True := trivial
      go_upto_region 11 with (first
        | (have _t := tok0; go_at_call 10; refine (FB _ _ rb).mono ?_; rintro e wa ⟨va1, rfl, hoa, hba⟩; replace hw := below_below hw hba; replace rb := rb.below hba; clear tok0; have tok1 : True := trivial)
        | (have _t := tok1; go_at_call 11; refine (U2 _ _ hoa.rd).mono ?_; rintro e wx ⟨vx, rfl, hox, hbx⟩; replace hw := below_below hw hbx; replace rb := rb.below hbx; have rx := hox.rd; clear tok1; have tok2 : True := trivial))
      refine region_making 13 (fun _ => []) (fun _ => none) (by kernel_rfl) (by kernel_rfl) ?_ ?_
      · intro i' S' h' e v'
        cases h'
      simp only [List.take_succ_cons, List.take_zero, List.drop_succ_cons, List.drop_zero]
      repeat (apply wpG_pure; (focus rfl); (focus (intro wg Bg hbg hBg hFg; go_simp; (try go_bits); (first | done | exact ⟨rfl, Below.refl _ _⟩ | rfl))); simp only [Act.put, List.setIfInBounds_toArray, List.set_cons_succ, List.set_cons_zero])
      refine wpG_end (fun wg Bg hbg hBg hFg => ?_)
      have rg := Rd.below (w := wx.drew) rb hbg
      have hwg := below_below hw.drew hbg
      clear hFg hBg rb hw rx hox hoa
      have rb := rg
      have hw := hwg
      clear rg hwg
      have F2 := fun v1 w1 (hv : Rd w1 v1 b) => float_c v1 b w1 hv (by omega)
      unfold GivesF at F2
      by_cases hF0 : (floatI b).2.2 = 0
      · have hcat0 := (floatI_back b hF0).1
        have hmf := (floatI_back b hF0).2
        rw [hF0] at F2
        clear hF0
        generalize (floatI b).1 = m1 at *
        generalize (floatI b).2.1 = m2 at *
        have hlen := congrArg List.length hcat0
        simp only [List.length_append] at hlen
        have hcat : strB (beBs (bitsI m1) 8) ++ strB m2 = strB b := by rw [strB_append, hcat0]
        have hss : ¬ 9223372036854775807 < (strB (beBs (bitsI m1) 8)).size + (strB m2).size := by rw [strB_size, strB_size]; omega
        clear hcat0 hlen
        have PX := fun w1 => putfloat_c (.slice none 0 0) [] m1 w1 (Rd.nil w1) (by simp) hmf
        rw [List.nil_append] at PX
        generalize beBs (bitsI m1) 8 = Y at *
        have tok0 : True := trivial
        go_upto_region 14 with (first
          | (have _t := tok0; go_at_call 10; refine (FB _ _ rb).mono ?_; rintro e wa ⟨va1, rfl, hoa, hba⟩; replace hw := below_below hw hba; replace rb := rb.below hba; clear tok0; have tok1 : True := trivial)
          | (have _t := tok1; go_at_call 15; refine (F2 _ _ hoa.rd).mono ?_; rintro e wx ⟨vx, rfl, hox, hbx⟩; replace hw := below_below hw hbx; replace rb := rb.below hbx; have rx := hox.rd; clear tok1; have tok2 : True := trivial))
        refine region_making 13 (fun _ => []) (fun | 4 => some fun _ => new8 5 Y | _ => none) (by kernel_rfl) (by kernel_rfl) ?_ ?_
        · intro i' S' h' e v'
          match i', h' with
          | 4, h' => cases h'; exact new8_loc _ _ _ _
        simp only [List.take_succ_cons, List.take_zero, List.drop_succ_cons, List.drop_zero]
        (apply wpG_pure; (focus rfl); (focus (intro wg Bg hbg hBg hFg; go_simp; (try go_bits); (first | done | exact ⟨rfl, Below.refl _ _⟩ | rfl))); simp only [Act.put, List.setIfInBounds_toArray, List.set_cons_succ, List.set_cons_zero])
        (apply wpG_pure; (focus rfl); (focus (intro wg Bg hbg hBg hFg; go_simp; (try go_bits); (first | done | exact ⟨rfl, Below.refl _ _⟩ | rfl))); simp only [Act.put, List.setIfInBounds_toArray, List.set_cons_succ, List.set_cons_zero])
        (apply wpG_pure; (focus rfl); (focus (intro wg Bg hbg hBg hFg; go_simp; (try go_bits); (first | done | exact ⟨rfl, Below.refl _ _⟩ | rfl))); simp only [Act.put, List.setIfInBounds_toArray, List.set_cons_succ, List.set_cons_zero])
        (apply wpG_pure; (focus rfl); (focus (intro wg Bg hbg hBg hFg; go_simp; (try go_bits); (first | done | exact ⟨rfl, Below.refl _ _⟩ | rfl))); simp only [Act.put, List.setIfInBounds_toArray, List.set_cons_succ, List.set_cons_zero])
        (apply wpG_make; (focus rfl); (focus (intro wg Bg hbg hBg hFg; go_simp; go_at_call 24; exact Calls.mono (PX _) (fun e w' h => (by obtain ⟨u, rfl, ho, hb⟩ := h; exact ⟨u, rfl, Chg.of_below hb, ⟨ho.mono (Nat.zero_le _), fun g hg => (by first | exact .inr ⟨ho.base_le g hg, ho.lt g hg⟩ | exact ⟨ho.base_le g hg, ho.lt g hg⟩)⟩⟩)))); intro a4; simp only [Act.put, List.setIfInBounds_toArray, List.set_cons_succ, List.set_cons_zero])
        (apply wpG_pure; (focus rfl); (focus (intro wg Bg hbg hBg hFg; have hc := convert_str (Own8.rd (hFg 4 (by decide +kernel) : new8 5 Y a4 (Bg 4) wg).1); go_simp; (try go_bits); (first | done | exact ⟨rfl, Below.refl _ _⟩ | rfl))); simp only [Act.put, List.setIfInBounds_toArray, List.set_cons_succ, List.set_cons_zero])
        (apply wpG_pure; (focus rfl); (focus (intro wg Bg hbg hBg hFg; go_simp; (try go_bits); (first | done | exact ⟨rfl, Below.refl _ _⟩ | rfl))); simp only [Act.put, List.setIfInBounds_toArray, List.set_cons_succ, List.set_cons_zero])
        (apply wpG_pure; (focus rfl); (focus (intro wg Bg hbg hBg hFg; have hc := convert_str (Rd.below (w := wx.drew) rx hbg); go_simp; (try go_bits); (first | done | exact ⟨rfl, Below.refl _ _⟩ | rfl))); simp only [Act.put, List.setIfInBounds_toArray, List.set_cons_succ, List.set_cons_zero])
        (apply wpG_pure; (focus rfl); (focus (intro wg Bg hbg hBg hFg; go_simp; (try go_bits); (first | done | exact ⟨rfl, Below.refl _ _⟩ | rfl))); simp only [Act.put, List.setIfInBounds_toArray, List.set_cons_succ, List.set_cons_zero])
        (apply wpG_pure; (focus rfl); (focus (intro wg Bg hbg hBg hFg; go_simp; (try go_bits); (first | done | exact ⟨rfl, Below.refl _ _⟩ | rfl))); simp only [Act.put, List.setIfInBounds_toArray, List.set_cons_succ, List.set_cons_zero])
        (apply wpG_pure; (focus rfl); (focus (intro wg Bg hbg hBg hFg; have hc := convert_str (Rd.below (w := wx.drew) rb hbg); go_simp; (try go_bits); (first | done | exact ⟨rfl, Below.refl _ _⟩ | rfl))); simp only [Act.put, List.setIfInBounds_toArray, List.set_cons_succ, List.set_cons_zero])
        repeat (apply wpG_pure; (focus rfl); (focus (intro wg Bg hbg hBg hFg; go_simp; (try go_bits); (first | done | exact ⟨rfl, Below.refl _ _⟩ | rfl))); simp only [Act.put, List.setIfInBounds_toArray, List.set_cons_succ, List.set_cons_zero])
        refine wpG_end (fun wg Bg hbg hBg hFg => ?_)
        have rg := Rd.below (w := wx.drew) rb hbg
        have hwg := below_below hw.drew hbg
        clear hFg hBg rb hw hcat hss PX rx hox hoa
        have rb := rg
        have hw := hwg
        clear rg hwg
        have T := fun v1 w1 (hv : Rd w1 v1 b) (ht : Tabs w1) => octtext_c v1 b 5000 w1 hv (by omega) (by omega) ht
        rw [show ((5000 : Int).toNat) = 5000 from rfl] at T
        unfold GivesT at T
        by_cases hT0 : (textI b 5000).2.2 = 0
        · as_aux_lemma =>
            have hcat0 := textI_back b 5000 hT0
            have htl := textI_len b 5000
            rw [hT0] at T
            clear hT0
            generalize (textI b 5000).1 = t1 at *
            generalize (textI b 5000).2.1 = t2 at *
            have lt1 := formU_len64 t1.length (by omega)
            have PT := fun w1 => puttext_c (.slice none 0 0) [] t1 w1 (Rd.nil w1) (by simp) (by omega)
            rw [List.nil_append] at PT
            have hlen := congrArg List.length hcat0
            simp only [List.length_append] at hlen
            have hcat : strB (formU t1.length ++ t1) ++ strB t2 = strB b := by rw [strB_append, hcat0]
            have hss : ¬ 9223372036854775807 < (strB (formU t1.length ++ t1)).size + (strB t2).size := by rw [strB_size, strB_size]; simp; omega
            clear hcat0 hlen
            generalize formU t1.length ++ t1 = Y at *
            have tok0 : True := trivial
            go_upto_region 17 with (first
              | (have _t := tok0; go_at_call 10; refine (FB _ _ rb).mono ?_; rintro e wa ⟨va1, rfl, hoa, hba⟩; replace hw := below_below hw hba; replace rb := rb.below hba; clear tok0; have tok1 : True := trivial)
              | (have _t := tok1; go_at_call 18; refine (T _ _ hoa.rd (hT.below hw)).mono ?_; rintro e wx ⟨vx, rfl, hox, hbx⟩; replace hw := below_below hw hbx; replace rb := rb.below hbx; have rx := hox.rd; clear tok1; have tok2 : True := trivial))
            refine region_making 17 (fun _ => []) (fun | 4 => some fun _ => new8 5 Y | _ => none) (by kernel_rfl) (by kernel_rfl) ?_ ?_
            · intro i' S' h' e v'
              match i', h' with
              | 4, h' => cases h'; exact new8_loc _ _ _ _
            simp only [List.take_succ_cons, List.take_zero, List.drop_succ_cons, List.drop_zero]
            (apply wpG_pure; (focus rfl); (focus (intro wg Bg hbg hBg hFg; go_simp; (try go_bits); (first | done | exact ⟨rfl, Below.refl _ _⟩ | rfl))); simp only [Act.put, List.setIfInBounds_toArray, List.set_cons_succ, List.set_cons_zero])
            (apply wpG_pure; (focus rfl); (focus (intro wg Bg hbg hBg hFg; go_simp; (try go_bits); (first | done | exact ⟨rfl, Below.refl _ _⟩ | rfl))); simp only [Act.put, List.setIfInBounds_toArray, List.set_cons_succ, List.set_cons_zero])
            (apply wpG_pure; (focus rfl); (focus (intro wg Bg hbg hBg hFg; go_simp; (try go_bits); (first | done | exact ⟨rfl, Below.refl _ _⟩ | rfl))); simp only [Act.put, List.setIfInBounds_toArray, List.set_cons_succ, List.set_cons_zero])
            (apply wpG_pure; (focus rfl); (focus (intro wg Bg hbg hBg hFg; go_simp; (try go_bits); (first | done | exact ⟨rfl, Below.refl _ _⟩ | rfl))); simp only [Act.put, List.setIfInBounds_toArray, List.set_cons_succ, List.set_cons_zero])
            (apply wpG_make; (focus rfl); (focus (intro wg Bg hbg hBg hFg; go_simp; go_at_call 26; exact Calls.mono (PT _) (fun e w' h => (by obtain ⟨u, rfl, ho, hb⟩ := h; exact ⟨u, rfl, Chg.of_below hb, ⟨ho.mono (Nat.zero_le _), fun g hg => (by first | exact .inr ⟨ho.base_le g hg, ho.lt g hg⟩ | exact ⟨ho.base_le g hg, ho.lt g hg⟩)⟩⟩)))); intro a4; simp only [Act.put, List.setIfInBounds_toArray, List.set_cons_succ, List.set_cons_zero])
            (apply wpG_pure; (focus rfl); (focus (intro wg Bg hbg hBg hFg; have hc := convert_str (Own8.rd (hFg 4 (by decide +kernel) : new8 5 Y a4 (Bg 4) wg).1); go_simp; (try go_bits); (first | done | exact ⟨rfl, Below.refl _ _⟩ | rfl))); simp only [Act.put, List.setIfInBounds_toArray, List.set_cons_succ, List.set_cons_zero])
            (apply wpG_pure; (focus rfl); (focus (intro wg Bg hbg hBg hFg; go_simp; (try go_bits); (first | done | exact ⟨rfl, Below.refl _ _⟩ | rfl))); simp only [Act.put, List.setIfInBounds_toArray, List.set_cons_succ, List.set_cons_zero])
            (apply wpG_pure; (focus rfl); (focus (intro wg Bg hbg hBg hFg; have hc := convert_str (Rd.below (w := wx.drew) rx hbg); go_simp; (try go_bits); (first | done | exact ⟨rfl, Below.refl _ _⟩ | rfl))); simp only [Act.put, List.setIfInBounds_toArray, List.set_cons_succ, List.set_cons_zero])
            (apply wpG_pure; (focus rfl); (focus (intro wg Bg hbg hBg hFg; go_simp; (try go_bits); (first | done | exact ⟨rfl, Below.refl _ _⟩ | rfl))); simp only [Act.put, List.setIfInBounds_toArray, List.set_cons_succ, List.set_cons_zero])
            (apply wpG_pure; (focus rfl); (focus (intro wg Bg hbg hBg hFg; go_simp; (try go_bits); (first | done | exact ⟨rfl, Below.refl _ _⟩ | rfl))); simp only [Act.put, List.setIfInBounds_toArray, List.set_cons_succ, List.set_cons_zero])
            (apply wpG_pure; (focus rfl); (focus (intro wg Bg hbg hBg hFg; have hc := convert_str (Rd.below (w := wx.drew) rb hbg); go_simp; (try go_bits); (first | done | exact ⟨rfl, Below.refl _ _⟩ | rfl))); simp only [Act.put, List.setIfInBounds_toArray, List.set_cons_succ, List.set_cons_zero])
            (apply wpG_pure; (focus rfl); (focus (intro wg Bg hbg hBg hFg; go_simp; (try go_bits); (first | done | exact ⟨rfl, Below.refl _ _⟩ | rfl))); simp only [Act.put, List.setIfInBounds_toArray, List.set_cons_succ, List.set_cons_zero])
            (apply wpG_pure; (focus rfl); (focus (intro wg Bg hbg hBg hFg; go_simp; (try go_bits); (first | done | exact ⟨rfl, Below.refl _ _⟩ | rfl))); simp only [Act.put, List.setIfInBounds_toArray, List.set_cons_succ, List.set_cons_zero])
            (apply wpG_pure; (focus rfl); (focus (intro wg Bg hbg hBg hFg; go_simp; (try go_bits); (first | done | exact ⟨rfl, Below.refl _ _⟩ | rfl))); simp only [Act.put, List.setIfInBounds_toArray, List.set_cons_succ, List.set_cons_zero])
            (apply wpG_pure; (focus rfl); (focus (intro wg Bg hbg hBg hFg; go_simp; (try refine ⟨by kernel_rfl, ?_⟩); go_at_call 20; exact Calls.mono (wakes1_c _) (fun e w' h => (by obtain ⟨rfl, hb⟩ := h; exact ⟨rfl, hb⟩)))); simp only [Act.put, List.setIfInBounds_toArray, List.set_cons_succ, List.set_cons_zero])
            repeat (apply wpG_pure; (focus rfl); (focus (intro wg Bg hbg hBg hFg; go_simp; (try go_bits); (first | done | exact ⟨rfl, Below.refl _ _⟩ | rfl))); simp only [Act.put, List.setIfInBounds_toArray, List.set_cons_succ, List.set_cons_zero])
            refine wpG_end (fun wg Bg hbg hBg hFg => ?_)
            go_wp2
            go_ret
            exact ⟨rfl, below_below hw.drew hbg⟩
        · as_aux_lemma =>
            have hne : ((textI b 5000).2.2 == 0) = false := by simp [hT0]
            generalize strB (textI b 5000).1 = t1 at *
            generalize (textI b 5000).2.1 = t2 at *
            generalize (textI b 5000).2.2 = t3 at *
            have tok0 : True := trivial
            go_upto_region 17 with (first
              | (have _t := tok0; go_at_call 10; refine (FB _ _ rb).mono ?_; rintro e wa ⟨va1, rfl, hoa, hba⟩; replace hw := below_below hw hba; replace rb := rb.below hba; clear tok0; have tok1 : True := trivial)
              | (have _t := tok1; go_at_call 18; refine (T _ _ hoa.rd (hT.below hw)).mono ?_; rintro e wx ⟨vx, rfl, hox, hbx⟩; replace hw := below_below hw hbx; replace rb := rb.below hbx; have rx := hox.rd; clear tok1; have tok2 : True := trivial))
            refine region_making 17 (fun _ => []) (fun _ => none) (by kernel_rfl) (by kernel_rfl) ?_ ?_
            · intro i' S' h' e v'
              cases h'
            simp only [List.take_succ_cons, List.take_zero, List.drop_succ_cons, List.drop_zero]
            (apply wpG_pure; (focus rfl); (focus (intro wg Bg hbg hBg hFg; go_simp; (try go_bits); (first | done | exact ⟨rfl, Below.refl _ _⟩ | rfl))); simp only [Act.put, List.setIfInBounds_toArray, List.set_cons_succ, List.set_cons_zero])
            (apply wpG_pure; (focus rfl); (focus (intro wg Bg hbg hBg hFg; go_simp; (try go_bits); (first | done | exact ⟨rfl, Below.refl _ _⟩ | rfl))); simp only [Act.put, List.setIfInBounds_toArray, List.set_cons_succ, List.set_cons_zero])
            (apply wpG_pure; (focus rfl); (focus (intro wg Bg hbg hBg hFg; go_simp; (try go_bits); (first | done | exact ⟨rfl, Below.refl _ _⟩ | rfl))); simp only [Act.put, List.setIfInBounds_toArray, List.set_cons_succ, List.set_cons_zero])
            (apply wpG_pure; (focus rfl); (focus (intro wg Bg hbg hBg hFg; go_simp; (try go_bits); (first | done | exact ⟨rfl, Below.refl _ _⟩ | rfl))); simp only [Act.put, List.setIfInBounds_toArray, List.set_cons_succ, List.set_cons_zero])
            (apply wpG_pure; (focus rfl); (focus (intro wg Bg hbg hBg hFg; go_simp; (try go_bits); (first | done | exact ⟨rfl, Below.refl _ _⟩ | rfl))); simp only [Act.put, List.setIfInBounds_toArray, List.set_cons_succ, List.set_cons_zero])
            (apply wpG_pure; (focus rfl); (focus (intro wg Bg hbg hBg hFg; go_simp; (try go_bits); (first | done | exact ⟨rfl, Below.refl _ _⟩ | rfl))); simp only [Act.put, List.setIfInBounds_toArray, List.set_cons_succ, List.set_cons_zero])
            (apply wpG_pure; (focus rfl); (focus (intro wg Bg hbg hBg hFg; go_simp; (try go_bits); (first | done | exact ⟨rfl, Below.refl _ _⟩ | rfl))); simp only [Act.put, List.setIfInBounds_toArray, List.set_cons_succ, List.set_cons_zero])
            (apply wpG_pure; (focus rfl); (focus (intro wg Bg hbg hBg hFg; go_simp; (try go_bits); (first | done | exact ⟨rfl, Below.refl _ _⟩ | rfl))); simp only [Act.put, List.setIfInBounds_toArray, List.set_cons_succ, List.set_cons_zero])
            (apply wpG_pure; (focus rfl); (focus (intro wg Bg hbg hBg hFg; go_simp; (try go_bits); (first | done | exact ⟨rfl, Below.refl _ _⟩ | rfl))); simp only [Act.put, List.setIfInBounds_toArray, List.set_cons_succ, List.set_cons_zero])
            (apply wpG_pure; (focus rfl); (focus (intro wg Bg hbg hBg hFg; go_simp; (try go_bits); (first | done | exact ⟨rfl, Below.refl _ _⟩ | rfl))); simp only [Act.put, List.setIfInBounds_toArray, List.set_cons_succ, List.set_cons_zero])
            (apply wpG_pure; (focus rfl); (focus (intro wg Bg hbg hBg hFg; go_simp; (try go_bits); (first | done | exact ⟨rfl, Below.refl _ _⟩ | rfl))); simp only [Act.put, List.setIfInBounds_toArray, List.set_cons_succ, List.set_cons_zero])
            (apply wpG_pure; (focus rfl); (focus (intro wg Bg hbg hBg hFg; go_simp; (try go_bits); (first | done | exact ⟨rfl, Below.refl _ _⟩ | rfl))); simp only [Act.put, List.setIfInBounds_toArray, List.set_cons_succ, List.set_cons_zero])
            (apply wpG_pure; (focus rfl); (focus (intro wg Bg hbg hBg hFg; go_simp; (try go_bits); (first | done | exact ⟨rfl, Below.refl _ _⟩ | rfl))); simp only [Act.put, List.setIfInBounds_toArray, List.set_cons_succ, List.set_cons_zero])
            (apply wpG_pure; (focus rfl); (focus (intro wg Bg hbg hBg hFg; go_simp; (try go_bits); (first | done | exact ⟨rfl, Below.refl _ _⟩ | rfl))); simp only [Act.put, List.setIfInBounds_toArray, List.set_cons_succ, List.set_cons_zero])
            (apply wpG_pure; (focus rfl); (focus (intro wg Bg hbg hBg hFg; go_simp; (try refine ⟨by kernel_rfl, ?_⟩); go_at_call 20; exact Calls.mono (wakes1_c _) (fun e w' h => (by obtain ⟨rfl, hb⟩ := h; exact ⟨rfl, hb⟩)))); simp only [Act.put, List.setIfInBounds_toArray, List.set_cons_succ, List.set_cons_zero])
            repeat (apply wpG_pure; (focus rfl); (focus (intro wg Bg hbg hBg hFg; go_simp; (try go_bits); (first | done | exact ⟨rfl, Below.refl _ _⟩ | rfl))); simp only [Act.put, List.setIfInBounds_toArray, List.set_cons_succ, List.set_cons_zero])
            refine wpG_end (fun wg Bg hbg hBg hFg => ?_)
            go_wp2
            go_ret
            exact ⟨rfl, below_below hw.drew hbg⟩
      · have hne : ((floatI b).2.2 == 0) = false := by simp [hF0]
        generalize (floatI b).1 = m1 at *
        generalize (floatI b).2.1 = m2 at *
        generalize (floatI b).2.2 = m3 at *
        have tok0 : True := trivial
        go_upto_region 14 with (first
          | (have _t := tok0; go_at_call 10; refine (FB _ _ rb).mono ?_; rintro e wa ⟨va1, rfl, hoa, hba⟩; replace hw := below_below hw hba; replace rb := rb.below hba; clear tok0; have tok1 : True := trivial)
          | (have _t := tok1; go_at_call 15; refine (F2 _ _ hoa.rd).mono ?_; rintro e wx ⟨vx, rfl, hox, hbx⟩; replace hw := below_below hw hbx; replace rb := rb.below hbx; have rx := hox.rd; clear tok1; have tok2 : True := trivial))
        refine region_making 13 (fun _ => []) (fun _ => none) (by kernel_rfl) (by kernel_rfl) ?_ ?_
        · intro i' S' h' e v'
          cases h'
        simp only [List.take_succ_cons, List.take_zero, List.drop_succ_cons, List.drop_zero]
        repeat (apply wpG_pure; (focus rfl); (focus (intro wg Bg hbg hBg hFg; go_simp; (try go_bits); (first | done | exact ⟨rfl, Below.refl _ _⟩ | rfl))); simp only [Act.put, List.setIfInBounds_toArray, List.set_cons_succ, List.set_cons_zero])
        refine wpG_end (fun wg Bg hbg hBg hFg => ?_)
        have rg := Rd.below (w := wx.drew) rb hbg
        have hwg := below_below hw.drew hbg
        clear hFg hBg rb hw rx hox hoa
        have rb := rg
        have hw := hwg
        clear rg hwg
        have T := fun v1 w1 (hv : Rd w1 v1 b) (ht : Tabs w1) => octtext_c v1 b 5000 w1 hv (by omega) (by omega) ht
        rw [show ((5000 : Int).toNat) = 5000 from rfl] at T
        unfold GivesT at T
        by_cases hT0 : (textI b 5000).2.2 = 0
        · as_aux_lemma =>
            have hcat0 := textI_back b 5000 hT0
            have htl := textI_len b 5000
            rw [hT0] at T
            clear hT0
            generalize (textI b 5000).1 = t1 at *
            generalize (textI b 5000).2.1 = t2 at *
            have lt1 := formU_len64 t1.length (by omega)
            have PT := fun w1 => puttext_c (.slice none 0 0) [] t1 w1 (Rd.nil w1) (by simp) (by omega)
            rw [List.nil_append] at PT
            have hlen := congrArg List.length hcat0
            simp only [List.length_append] at hlen
            have hcat : strB (formU t1.length ++ t1) ++ strB t2 = strB b := by rw [strB_append, hcat0]
            have hss : ¬ 9223372036854775807 < (strB (formU t1.length ++ t1)).size + (strB t2).size := by rw [strB_size, strB_size]; simp; omega
            clear hcat0 hlen
            generalize formU t1.length ++ t1 = Y at *
            have tok0 : True := trivial
            go_upto_region 17 with (first
              | (have _t := tok0; go_at_call 10; refine (FB _ _ rb).mono ?_; rintro e wa ⟨va1, rfl, hoa, hba⟩; replace hw := below_below hw hba; replace rb := rb.below hba; clear tok0; have tok1 : True := trivial)
              | (have _t := tok1; go_at_call 18; refine (T _ _ hoa.rd (hT.below hw)).mono ?_; rintro e wx ⟨vx, rfl, hox, hbx⟩; replace hw := below_below hw hbx; replace rb := rb.below hbx; have rx := hox.rd; clear tok1; have tok2 : True := trivial))
            refine region_making 17 (fun _ => []) (fun | 4 => some fun _ => new8 5 Y | _ => none) (by kernel_rfl) (by kernel_rfl) ?_ ?_
            · intro i' S' h' e v'
              match i', h' with
              | 4, h' => cases h'; exact new8_loc _ _ _ _
            simp only [List.take_succ_cons, List.take_zero, List.drop_succ_cons, List.drop_zero]
            (apply wpG_pure; (focus rfl); (focus (intro wg Bg hbg hBg hFg; go_simp; (try go_bits); (first | done | exact ⟨rfl, Below.refl _ _⟩ | rfl))); simp only [Act.put, List.setIfInBounds_toArray, List.set_cons_succ, List.set_cons_zero])
            (apply wpG_pure; (focus rfl); (focus (intro wg Bg hbg hBg hFg; go_simp; (try go_bits); (first | done | exact ⟨rfl, Below.refl _ _⟩ | rfl))); simp only [Act.put, List.setIfInBounds_toArray, List.set_cons_succ, List.set_cons_zero])
            (apply wpG_pure; (focus rfl); (focus (intro wg Bg hbg hBg hFg; go_simp; (try go_bits); (first | done | exact ⟨rfl, Below.refl _ _⟩ | rfl))); simp only [Act.put, List.setIfInBounds_toArray, List.set_cons_succ, List.set_cons_zero])
            (apply wpG_pure; (focus rfl); (focus (intro wg Bg hbg hBg hFg; go_simp; (try go_bits); (first | done | exact ⟨rfl, Below.refl _ _⟩ | rfl))); simp only [Act.put, List.setIfInBounds_toArray, List.set_cons_succ, List.set_cons_zero])
            (apply wpG_make; (focus rfl); (focus (intro wg Bg hbg hBg hFg; go_simp; go_at_call 26; exact Calls.mono (PT _) (fun e w' h => (by obtain ⟨u, rfl, ho, hb⟩ := h; exact ⟨u, rfl, Chg.of_below hb, ⟨ho.mono (Nat.zero_le _), fun g hg => (by first | exact .inr ⟨ho.base_le g hg, ho.lt g hg⟩ | exact ⟨ho.base_le g hg, ho.lt g hg⟩)⟩⟩)))); intro a4; simp only [Act.put, List.setIfInBounds_toArray, List.set_cons_succ, List.set_cons_zero])
            (apply wpG_pure; (focus rfl); (focus (intro wg Bg hbg hBg hFg; have hc := convert_str (Own8.rd (hFg 4 (by decide +kernel) : new8 5 Y a4 (Bg 4) wg).1); go_simp; (try go_bits); (first | done | exact ⟨rfl, Below.refl _ _⟩ | rfl))); simp only [Act.put, List.setIfInBounds_toArray, List.set_cons_succ, List.set_cons_zero])
            (apply wpG_pure; (focus rfl); (focus (intro wg Bg hbg hBg hFg; go_simp; (try go_bits); (first | done | exact ⟨rfl, Below.refl _ _⟩ | rfl))); simp only [Act.put, List.setIfInBounds_toArray, List.set_cons_succ, List.set_cons_zero])
            (apply wpG_pure; (focus rfl); (focus (intro wg Bg hbg hBg hFg; have hc := convert_str (Rd.below (w := wx.drew) rx hbg); go_simp; (try go_bits); (first | done | exact ⟨rfl, Below.refl _ _⟩ | rfl))); simp only [Act.put, List.setIfInBounds_toArray, List.set_cons_succ, List.set_cons_zero])
            (apply wpG_pure; (focus rfl); (focus (intro wg Bg hbg hBg hFg; go_simp; (try go_bits); (first | done | exact ⟨rfl, Below.refl _ _⟩ | rfl))); simp only [Act.put, List.setIfInBounds_toArray, List.set_cons_succ, List.set_cons_zero])
            (apply wpG_pure; (focus rfl); (focus (intro wg Bg hbg hBg hFg; go_simp; (try go_bits); (first | done | exact ⟨rfl, Below.refl _ _⟩ | rfl))); simp only [Act.put, List.setIfInBounds_toArray, List.set_cons_succ, List.set_cons_zero])
            (apply wpG_pure; (focus rfl); (focus (intro wg Bg hbg hBg hFg; have hc := convert_str (Rd.below (w := wx.drew) rb hbg); go_simp; (try go_bits); (first | done | exact ⟨rfl, Below.refl _ _⟩ | rfl))); simp only [Act.put, List.setIfInBounds_toArray, List.set_cons_succ, List.set_cons_zero])
            (apply wpG_pure; (focus rfl); (focus (intro wg Bg hbg hBg hFg; go_simp; (try go_bits); (first | done | exact ⟨rfl, Below.refl _ _⟩ | rfl))); simp only [Act.put, List.setIfInBounds_toArray, List.set_cons_succ, List.set_cons_zero])
            (apply wpG_pure; (focus rfl); (focus (intro wg Bg hbg hBg hFg; go_simp; (try go_bits); (first | done | exact ⟨rfl, Below.refl _ _⟩ | rfl))); simp only [Act.put, List.setIfInBounds_toArray, List.set_cons_succ, List.set_cons_zero])
            (apply wpG_pure; (focus rfl); (focus (intro wg Bg hbg hBg hFg; go_simp; (try go_bits); (first | done | exact ⟨rfl, Below.refl _ _⟩ | rfl))); simp only [Act.put, List.setIfInBounds_toArray, List.set_cons_succ, List.set_cons_zero])
            (apply wpG_pure; (focus rfl); (focus (intro wg Bg hbg hBg hFg; go_simp; (try refine ⟨by kernel_rfl, ?_⟩); go_at_call 20; exact Calls.mono (wakes1_c _) (fun e w' h => (by obtain ⟨rfl, hb⟩ := h; exact ⟨rfl, hb⟩)))); simp only [Act.put, List.setIfInBounds_toArray, List.set_cons_succ, List.set_cons_zero])
            repeat (apply wpG_pure; (focus rfl); (focus (intro wg Bg hbg hBg hFg; go_simp; (try go_bits); (first | done | exact ⟨rfl, Below.refl _ _⟩ | rfl))); simp only [Act.put, List.setIfInBounds_toArray, List.set_cons_succ, List.set_cons_zero])
            refine wpG_end (fun wg Bg hbg hBg hFg => ?_)
            go_wp2
            go_ret
            exact ⟨rfl, below_below hw.drew hbg⟩
        · as_aux_lemma =>
            have hne : ((textI b 5000).2.2 == 0) = false := by simp [hT0]
            generalize strB (textI b 5000).1 = t1 at *
            generalize (textI b 5000).2.1 = t2 at *
            generalize (textI b 5000).2.2 = t3 at *
            have tok0 : True := trivial
            go_upto_region 17 with (first
              | (have _t := tok0; go_at_call 10; refine (FB _ _ rb).mono ?_; rintro e wa ⟨va1, rfl, hoa, hba⟩; replace hw := below_below hw hba; replace rb := rb.below hba; clear tok0; have tok1 : True := trivial)
              | (have _t := tok1; go_at_call 18; refine (T _ _ hoa.rd (hT.below hw)).mono ?_; rintro e wx ⟨vx, rfl, hox, hbx⟩; replace hw := below_below hw hbx; replace rb := rb.below hbx; have rx := hox.rd; clear tok1; have tok2 : True := trivial))
            refine region_making 17 (fun _ => []) (fun _ => none) (by kernel_rfl) (by kernel_rfl) ?_ ?_
            · intro i' S' h' e v'
              cases h'
            simp only [List.take_succ_cons, List.take_zero, List.drop_succ_cons, List.drop_zero]
            (apply wpG_pure; (focus rfl); (focus (intro wg Bg hbg hBg hFg; go_simp; (try go_bits); (first | done | exact ⟨rfl, Below.refl _ _⟩ | rfl))); simp only [Act.put, List.setIfInBounds_toArray, List.set_cons_succ, List.set_cons_zero])
            (apply wpG_pure; (focus rfl); (focus (intro wg Bg hbg hBg hFg; go_simp; (try go_bits); (first | done | exact ⟨rfl, Below.refl _ _⟩ | rfl))); simp only [Act.put, List.setIfInBounds_toArray, List.set_cons_succ, List.set_cons_zero])
            (apply wpG_pure; (focus rfl); (focus (intro wg Bg hbg hBg hFg; go_simp; (try go_bits); (first | done | exact ⟨rfl, Below.refl _ _⟩ | rfl))); simp only [Act.put, List.setIfInBounds_toArray, List.set_cons_succ, List.set_cons_zero])
            (apply wpG_pure; (focus rfl); (focus (intro wg Bg hbg hBg hFg; go_simp; (try go_bits); (first | done | exact ⟨rfl, Below.refl _ _⟩ | rfl))); simp only [Act.put, List.setIfInBounds_toArray, List.set_cons_succ, List.set_cons_zero])
            (apply wpG_pure; (focus rfl); (focus (intro wg Bg hbg hBg hFg; go_simp; (try go_bits); (first | done | exact ⟨rfl, Below.refl _ _⟩ | rfl))); simp only [Act.put, List.setIfInBounds_toArray, List.set_cons_succ, List.set_cons_zero])
            (apply wpG_pure; (focus rfl); (focus (intro wg Bg hbg hBg hFg; go_simp; (try go_bits); (first | done | exact ⟨rfl, Below.refl _ _⟩ | rfl))); simp only [Act.put, List.setIfInBounds_toArray, List.set_cons_succ, List.set_cons_zero])
            (apply wpG_pure; (focus rfl); (focus (intro wg Bg hbg hBg hFg; go_simp; (try go_bits); (first | done | exact ⟨rfl, Below.refl _ _⟩ | rfl))); simp only [Act.put, List.setIfInBounds_toArray, List.set_cons_succ, List.set_cons_zero])
            (apply wpG_pure; (focus rfl); (focus (intro wg Bg hbg hBg hFg; go_simp; (try go_bits); (first | done | exact ⟨rfl, Below.refl _ _⟩ | rfl))); simp only [Act.put, List.setIfInBounds_toArray, List.set_cons_succ, List.set_cons_zero])
            (apply wpG_pure; (focus rfl); (focus (intro wg Bg hbg hBg hFg; go_simp; (try go_bits); (first | done | exact ⟨rfl, Below.refl _ _⟩ | rfl))); simp only [Act.put, List.setIfInBounds_toArray, List.set_cons_succ, List.set_cons_zero])
            (apply wpG_pure; (focus rfl); (focus (intro wg Bg hbg hBg hFg; go_simp; (try go_bits); (first | done | exact ⟨rfl, Below.refl _ _⟩ | rfl))); simp only [Act.put, List.setIfInBounds_toArray, List.set_cons_succ, List.set_cons_zero])
            (apply wpG_pure; (focus rfl); (focus (intro wg Bg hbg hBg hFg; go_simp; (try go_bits); (first | done | exact ⟨rfl, Below.refl _ _⟩ | rfl))); simp only [Act.put, List.setIfInBounds_toArray, List.set_cons_succ, List.set_cons_zero])
            (apply wpG_pure; (focus rfl); (focus (intro wg Bg hbg hBg hFg; go_simp; (try go_bits); (first | done | exact ⟨rfl, Below.refl _ _⟩ | rfl))); simp only [Act.put, List.setIfInBounds_toArray, List.set_cons_succ, List.set_cons_zero])
            (apply wpG_pure; (focus rfl); (focus (intro wg Bg hbg hBg hFg; go_simp; (try go_bits); (first | done | exact ⟨rfl, Below.refl _ _⟩ | rfl))); simp only [Act.put, List.setIfInBounds_toArray, List.set_cons_succ, List.set_cons_zero])
            (apply wpG_pure; (focus rfl); (focus (intro wg Bg hbg hBg hFg; go_simp; (try go_bits); (first | done | exact ⟨rfl, Below.refl _ _⟩ | rfl))); simp only [Act.put, List.setIfInBounds_toArray, List.set_cons_succ, List.set_cons_zero])
            (apply wpG_pure; (focus rfl); (focus (intro wg Bg hbg hBg hFg; go_simp; (try refine ⟨by kernel_rfl, ?_⟩); go_at_call 20; exact Calls.mono (wakes1_c _) (fun e w' h => (by obtain ⟨rfl, hb⟩ := h; exact ⟨rfl, hb⟩)))); simp only [Act.put, List.setIfInBounds_toArray, List.set_cons_succ, List.set_cons_zero])
            repeat (apply wpG_pure; (focus rfl); (focus (intro wg Bg hbg hBg hFg; go_simp; (try go_bits); (first | done | exact ⟨rfl, Below.refl _ _⟩ | rfl))); simp only [Act.put, List.setIfInBounds_toArray, List.set_cons_succ, List.set_cons_zero])
            refine wpG_end (fun wg Bg hbg hBg hFg => ?_)
            go_wp2
            go_ret
            exact ⟨rfl, below_below hw.drew hbg⟩
  · have hf2 : fnan f = false := by simpa using hf1
    have hbf : bitsI f = f := by unfold bitsI; rw [if_neg hf1]
    rw [hbf] at D2 ⊢
    clear hf1
    refine region_making 20 (fun _ => []) (fun _ => none) (by kernel_rfl) (by kernel_rfl) ?_ ?_
    · intro i' S' h' e v'
      cases h'
    simp only [List.take_succ_cons, List.take_zero, List.drop_succ_cons, List.drop_zero]
    repeat (apply wpG_pure; (focus rfl); (focus (intro wg Bg hbg hBg hFg; have c3 : _ = some (Value.int .u64 (f : Int)) := (Blk.below (w := w12.drew) hk hbg).cell 3; go_simp; (try go_bits); (first | done | exact ⟨rfl, Below.refl _ _⟩ | rfl))); simp only [Act.put, List.setIfInBounds_toArray, List.set_cons_succ, List.set_cons_zero])
    refine wpG_end (fun wg Bg hbg hBg hFg => ?_)
    have rg := Rd.below (w := w12.drew) rb hbg
    have hwg := below_below hw.drew hbg
    clear hFg hBg rb hw hk hbf hf2 D2
    have rb := rg
    have hw := hwg
    clear rg hwg
    have U2 := fun v1 w1 (hv : Rd w1 v1 b) => uint_c v1 b w1 hv (by omega)
    unfold GivesU at U2
    by_cases hU0 : (uintI b).2.2 = 0
    · have hcat0 := uintI_back b hU0
      have hmu := uintI_lt b
      rw [hU0] at U2
      clear hU0
      generalize (uintI b).1 = m1 at *
      generalize (uintI b).2.1 = m2 at *
      have hlen := congrArg List.length hcat0
      simp only [List.length_append] at hlen
      have hcat : strB (formU m1) ++ strB m2 = strB b := by rw [strB_append, hcat0]
      have hss : ¬ 9223372036854775807 < (strB (formU m1)).size + (strB m2).size := by rw [strB_size, strB_size]; omega
      clear hcat0 hlen
      have PX := fun w1 => putuint_c (.slice none 0 0) [] m1 w1 (Rd.nil w1) (by simp) hmu
      rw [List.nil_append] at PX
      generalize formU m1 = Y at *
      have tok0 : True := trivial
      go_upto_region 11 with (first
        | (have _t := tok0; go_at_call 10; refine (FB _ _ rb).mono ?_; rintro e wa ⟨va1, rfl, hoa, hba⟩; replace hw := below_below hw hba; replace rb := rb.below hba; clear tok0; have tok1 : True := trivial)
        | (have _t := tok1; go_at_call 11; refine (U2 _ _ hoa.rd).mono ?_; rintro e wx ⟨vx, rfl, hox, hbx⟩; replace hw := below_below hw hbx; replace rb := rb.below hbx; have rx := hox.rd; clear tok1; have tok2 : True := trivial))
      refine region_making 13 (fun _ => []) (fun | 4 => some fun _ => new8 5 Y | _ => none) (by kernel_rfl) (by kernel_rfl) ?_ ?_
      · intro i' S' h' e v'
        match i', h' with
        | 4, h' => cases h'; exact new8_loc _ _ _ _
      simp only [List.take_succ_cons, List.take_zero, List.drop_succ_cons, List.drop_zero]
      (apply wpG_pure; (focus rfl); (focus (intro wg Bg hbg hBg hFg; go_simp; (try go_bits); (first | done | exact ⟨rfl, Below.refl _ _⟩ | rfl))); simp only [Act.put, List.setIfInBounds_toArray, List.set_cons_succ, List.set_cons_zero])
      (apply wpG_pure; (focus rfl); (focus (intro wg Bg hbg hBg hFg; go_simp; (try go_bits); (first | done | exact ⟨rfl, Below.refl _ _⟩ | rfl))); simp only [Act.put, List.setIfInBounds_toArray, List.set_cons_succ, List.set_cons_zero])
      (apply wpG_pure; (focus rfl); (focus (intro wg Bg hbg hBg hFg; go_simp; (try go_bits); (first | done | exact ⟨rfl, Below.refl _ _⟩ | rfl))); simp only [Act.put, List.setIfInBounds_toArray, List.set_cons_succ, List.set_cons_zero])
      (apply wpG_pure; (focus rfl); (focus (intro wg Bg hbg hBg hFg; go_simp; (try go_bits); (first | done | exact ⟨rfl, Below.refl _ _⟩ | rfl))); simp only [Act.put, List.setIfInBounds_toArray, List.set_cons_succ, List.set_cons_zero])
      (apply wpG_make; (focus rfl); (focus (intro wg Bg hbg hBg hFg; go_simp; go_at_call 22; exact Calls.mono (PX _) (fun e w' h => (by obtain ⟨u, rfl, ho, hb⟩ := h; exact ⟨u, rfl, Chg.of_below hb, ⟨ho.mono (Nat.zero_le _), fun g hg => (by first | exact .inr ⟨ho.base_le g hg, ho.lt g hg⟩ | exact ⟨ho.base_le g hg, ho.lt g hg⟩)⟩⟩)))); intro a4; simp only [Act.put, List.setIfInBounds_toArray, List.set_cons_succ, List.set_cons_zero])
      (apply wpG_pure; (focus rfl); (focus (intro wg Bg hbg hBg hFg; have hc := convert_str (Own8.rd (hFg 4 (by decide +kernel) : new8 5 Y a4 (Bg 4) wg).1); go_simp; (try go_bits); (first | done | exact ⟨rfl, Below.refl _ _⟩ | rfl))); simp only [Act.put, List.setIfInBounds_toArray, List.set_cons_succ, List.set_cons_zero])
      (apply wpG_pure; (focus rfl); (focus (intro wg Bg hbg hBg hFg; go_simp; (try go_bits); (first | done | exact ⟨rfl, Below.refl _ _⟩ | rfl))); simp only [Act.put, List.setIfInBounds_toArray, List.set_cons_succ, List.set_cons_zero])
      (apply wpG_pure; (focus rfl); (focus (intro wg Bg hbg hBg hFg; have hc := convert_str (Rd.below (w := wx.drew) rx hbg); go_simp; (try go_bits); (first | done | exact ⟨rfl, Below.refl _ _⟩ | rfl))); simp only [Act.put, List.setIfInBounds_toArray, List.set_cons_succ, List.set_cons_zero])
      (apply wpG_pure; (focus rfl); (focus (intro wg Bg hbg hBg hFg; go_simp; (try go_bits); (first | done | exact ⟨rfl, Below.refl _ _⟩ | rfl))); simp only [Act.put, List.setIfInBounds_toArray, List.set_cons_succ, List.set_cons_zero])
      (apply wpG_pure; (focus rfl); (focus (intro wg Bg hbg hBg hFg; go_simp; (try go_bits); (first | done | exact ⟨rfl, Below.refl _ _⟩ | rfl))); simp only [Act.put, List.setIfInBounds_toArray, List.set_cons_succ, List.set_cons_zero])
      (apply wpG_pure; (focus rfl); (focus (intro wg Bg hbg hBg hFg; have hc := convert_str (Rd.below (w := wx.drew) rb hbg); go_simp; (try go_bits); (first | done | exact ⟨rfl, Below.refl _ _⟩ | rfl))); simp only [Act.put, List.setIfInBounds_toArray, List.set_cons_succ, List.set_cons_zero])
      repeat (apply wpG_pure; (focus rfl); (focus (intro wg Bg hbg hBg hFg; go_simp; (try go_bits); (first | done | exact ⟨rfl, Below.refl _ _⟩ | rfl))); simp only [Act.put, List.setIfInBounds_toArray, List.set_cons_succ, List.set_cons_zero])
      refine wpG_end (fun wg Bg hbg hBg hFg => ?_)
      have rg := Rd.below (w := wx.drew) rb hbg
      have hwg := below_below hw.drew hbg
      clear hFg hBg rb hw hcat hss PX rx hox hoa
      have rb := rg
      have hw := hwg
      clear rg hwg
      have F2 := fun v1 w1 (hv : Rd w1 v1 b) => float_c v1 b w1 hv (by omega)
      unfold GivesF at F2
      by_cases hF0 : (floatI b).2.2 = 0
      · have hcat0 := (floatI_back b hF0).1
        have hmf := (floatI_back b hF0).2
        rw [hF0] at F2
        clear hF0
        generalize (floatI b).1 = m1 at *
        generalize (floatI b).2.1 = m2 at *
        have hlen := congrArg List.length hcat0
        simp only [List.length_append] at hlen
        have hcat : strB (beBs (bitsI m1) 8) ++ strB m2 = strB b := by rw [strB_append, hcat0]
        have hss : ¬ 9223372036854775807 < (strB (beBs (bitsI m1) 8)).size + (strB m2).size := by rw [strB_size, strB_size]; omega
        clear hcat0 hlen
        have PX := fun w1 => putfloat_c (.slice none 0 0) [] m1 w1 (Rd.nil w1) (by simp) hmf
        rw [List.nil_append] at PX
        generalize beBs (bitsI m1) 8 = Y at *
        have tok0 : True := trivial
        go_upto_region 14 with (first
          | (have _t := tok0; go_at_call 10; refine (FB _ _ rb).mono ?_; rintro e wa ⟨va1, rfl, hoa, hba⟩; replace hw := below_below hw hba; replace rb := rb.below hba; clear tok0; have tok1 : True := trivial)
          | (have _t := tok1; go_at_call 15; refine (F2 _ _ hoa.rd).mono ?_; rintro e wx ⟨vx, rfl, hox, hbx⟩; replace hw := below_below hw hbx; replace rb := rb.below hbx; have rx := hox.rd; clear tok1; have tok2 : True := trivial))
        refine region_making 13 (fun _ => []) (fun | 4 => some fun _ => new8 5 Y | _ => none) (by kernel_rfl) (by kernel_rfl) ?_ ?_
        · intro i' S' h' e v'
          match i', h' with
          | 4, h' => cases h'; exact new8_loc _ _ _ _
        simp only [List.take_succ_cons, List.take_zero, List.drop_succ_cons, List.drop_zero]
        (apply wpG_pure; (focus rfl); (focus (intro wg Bg hbg hBg hFg; go_simp; (try go_bits); (first | done | exact ⟨rfl, Below.refl _ _⟩ | rfl))); simp only [Act.put, List.setIfInBounds_toArray, List.set_cons_succ, List.set_cons_zero])
        (apply wpG_pure; (focus rfl); (focus (intro wg Bg hbg hBg hFg; go_simp; (try go_bits); (first | done | exact ⟨rfl, Below.refl _ _⟩ | rfl))); simp only [Act.put, List.setIfInBounds_toArray, List.set_cons_succ, List.set_cons_zero])
        (apply wpG_pure; (focus rfl); (focus (intro wg Bg hbg hBg hFg; go_simp; (try go_bits); (first | done | exact ⟨rfl, Below.refl _ _⟩ | rfl))); simp only [Act.put, List.setIfInBounds_toArray, List.set_cons_succ, List.set_cons_zero])
        (apply wpG_pure; (focus rfl); (focus (intro wg Bg hbg hBg hFg; go_simp; (try go_bits); (first | done | exact ⟨rfl, Below.refl _ _⟩ | rfl))); simp only [Act.put, List.setIfInBounds_toArray, List.set_cons_succ, List.set_cons_zero])
        (apply wpG_make; (focus rfl); (focus (intro wg Bg hbg hBg hFg; go_simp; go_at_call 24; exact Calls.mono (PX _) (fun e w' h => (by obtain ⟨u, rfl, ho, hb⟩ := h; exact ⟨u, rfl, Chg.of_below hb, ⟨ho.mono (Nat.zero_le _), fun g hg => (by first | exact .inr ⟨ho.base_le g hg, ho.lt g hg⟩ | exact ⟨ho.base_le g hg, ho.lt g hg⟩)⟩⟩)))); intro a4; simp only [Act.put, List.setIfInBounds_toArray, List.set_cons_succ, List.set_cons_zero])
        (apply wpG_pure; (focus rfl); (focus (intro wg Bg hbg hBg hFg; have hc := convert_str (Own8.rd (hFg 4 (by decide +kernel) : new8 5 Y a4 (Bg 4) wg).1); go_simp; (try go_bits); (first | done | exact ⟨rfl, Below.refl _ _⟩ | rfl))); simp only [Act.put, List.setIfInBounds_toArray, List.set_cons_succ, List.set_cons_zero])
        (apply wpG_pure; (focus rfl); (focus (intro wg Bg hbg hBg hFg; go_simp; (try go_bits); (first | done | exact ⟨rfl, Below.refl _ _⟩ | rfl))); simp only [Act.put, List.setIfInBounds_toArray, List.set_cons_succ, List.set_cons_zero])
        (apply wpG_pure; (focus rfl); (focus (intro wg Bg hbg hBg hFg; have hc := convert_str (Rd.below (w := wx.drew) rx hbg); go_simp; (try go_bits); (first | done | exact ⟨rfl, Below.refl _ _⟩ | rfl))); simp only [Act.put, List.setIfInBounds_toArray, List.set_cons_succ, List.set_cons_zero])
        (apply wpG_pure; (focus rfl); (focus (intro wg Bg hbg hBg hFg; go_simp; (try go_bits); (first | done | exact ⟨rfl, Below.refl _ _⟩ | rfl))); simp only [Act.put, List.setIfInBounds_toArray, List.set_cons_succ, List.set_cons_zero])
        (apply wpG_pure; (focus rfl); (focus (intro wg Bg hbg hBg hFg; go_simp; (try go_bits); (first | done | exact ⟨rfl, Below.refl _ _⟩ | rfl))); simp only [Act.put, List.setIfInBounds_toArray, List.set_cons_succ, List.set_cons_zero])
        (apply wpG_pure; (focus rfl); (focus (intro wg Bg hbg hBg hFg; have hc := convert_str (Rd.below (w := wx.drew) rb hbg); go_simp; (try go_bits); (first | done | exact ⟨rfl, Below.refl _ _⟩ | rfl))); simp only [Act.put, List.setIfInBounds_toArray, List.set_cons_succ, List.set_cons_zero])
        repeat (apply wpG_pure; (focus rfl); (focus (intro wg Bg hbg hBg hFg; go_simp; (try go_bits); (first | done | exact ⟨rfl, Below.refl _ _⟩ | rfl))); simp only [Act.put, List.setIfInBounds_toArray, List.set_cons_succ, List.set_cons_zero])
        refine wpG_end (fun wg Bg hbg hBg hFg => ?_)
        have rg := Rd.below (w := wx.drew) rb hbg
        have hwg := below_below hw.drew hbg
        clear hFg hBg rb hw hcat hss PX rx hox hoa
        have rb := rg
        have hw := hwg
        clear rg hwg
        have T := fun v1 w1 (hv : Rd w1 v1 b) (ht : Tabs w1) => octtext_c v1 b 5000 w1 hv (by omega) (by omega) ht
        rw [show ((5000 : Int).toNat) = 5000 from rfl] at T
        unfold GivesT at T
        by_cases hT0 : (textI b 5000).2.2 = 0
        · as_aux_lemma =>
            have hcat0 := textI_back b 5000 hT0
            have htl := textI_len b 5000
            rw [hT0] at T
            clear hT0
            generalize (textI b 5000).1 = t1 at *
            generalize (textI b 5000).2.1 = t2 at *
            have lt1 := formU_len64 t1.length (by omega)
            have PT := fun w1 => puttext_c (.slice none 0 0) [] t1 w1 (Rd.nil w1) (by simp) (by omega)
            rw [List.nil_append] at PT
            have hlen := congrArg List.length hcat0
            simp only [List.length_append] at hlen
            have hcat : strB (formU t1.length ++ t1) ++ strB t2 = strB b := by rw [strB_append, hcat0]
            have hss : ¬ 9223372036854775807 < (strB (formU t1.length ++ t1)).size + (strB t2).size := by rw [strB_size, strB_size]; simp; omega
            clear hcat0 hlen
            generalize formU t1.length ++ t1 = Y at *
            have tok0 : True := trivial
            go_upto_region 17 with (first
              | (have _t := tok0; go_at_call 10; refine (FB _ _ rb).mono ?_; rintro e wa ⟨va1, rfl, hoa, hba⟩; replace hw := below_below hw hba; replace rb := rb.below hba; clear tok0; have tok1 : True := trivial)
              | (have _t := tok1; go_at_call 18; refine (T _ _ hoa.rd (hT.below hw)).mono ?_; rintro e wx ⟨vx, rfl, hox, hbx⟩; replace hw := below_below hw hbx; replace rb := rb.below hbx; have rx := hox.rd; clear tok1; have tok2 : True := trivial))
            refine region_making 17 (fun _ => []) (fun | 4 => some fun _ => new8 5 Y | _ => none) (by kernel_rfl) (by kernel_rfl) ?_ ?_
            · intro i' S' h' e v'
              match i', h' with
              | 4, h' => cases h'; exact new8_loc _ _ _ _
            simp only [List.take_succ_cons, List.take_zero, List.drop_succ_cons, List.drop_zero]
            (apply wpG_pure; (focus rfl); (focus (intro wg Bg hbg hBg hFg; go_simp; (try go_bits); (first | done | exact ⟨rfl, Below.refl _ _⟩ | rfl))); simp only [Act.put, List.setIfInBounds_toArray, List.set_cons_succ, List.set_cons_zero])
            (apply wpG_pure; (focus rfl); (focus (intro wg Bg hbg hBg hFg; go_simp; (try go_bits); (first | done | exact ⟨rfl, Below.refl _ _⟩ | rfl))); simp only [Act.put, List.setIfInBounds_toArray, List.set_cons_succ, List.set_cons_zero])
            (apply wpG_pure; (focus rfl); (focus (intro wg Bg hbg hBg hFg; go_simp; (try go_bits); (first | done | exact ⟨rfl, Below.refl _ _⟩ | rfl))); simp only [Act.put, List.setIfInBounds_toArray, List.set_cons_succ, List.set_cons_zero])
            (apply wpG_pure; (focus rfl); (focus (intro wg Bg hbg hBg hFg; go_simp; (try go_bits); (first | done | exact ⟨rfl, Below.refl _ _⟩ | rfl))); simp only [Act.put, List.setIfInBounds_toArray, List.set_cons_succ, List.set_cons_zero])
            (apply wpG_make; (focus rfl); (focus (intro wg Bg hbg hBg hFg; go_simp; go_at_call 26; exact Calls.mono (PT _) (fun e w' h => (by obtain ⟨u, rfl, ho, hb⟩ := h; exact ⟨u, rfl, Chg.of_below hb, ⟨ho.mono (Nat.zero_le _), fun g hg => (by first | exact .inr ⟨ho.base_le g hg, ho.lt g hg⟩ | exact ⟨ho.base_le g hg, ho.lt g hg⟩)⟩⟩)))); intro a4; simp only [Act.put, List.setIfInBounds_toArray, List.set_cons_succ, List.set_cons_zero])
            (apply wpG_pure; (focus rfl); (focus (intro wg Bg hbg hBg hFg; have hc := convert_str (Own8.rd (hFg 4 (by decide +kernel) : new8 5 Y a4 (Bg 4) wg).1); go_simp; (try go_bits); (first | done | exact ⟨rfl, Below.refl _ _⟩ | rfl))); simp only [Act.put, List.setIfInBounds_toArray, List.set_cons_succ, List.set_cons_zero])
            (apply wpG_pure; (focus rfl); (focus (intro wg Bg hbg hBg hFg; go_simp; (try go_bits); (first | done | exact ⟨rfl, Below.refl _ _⟩ | rfl))); simp only [Act.put, List.setIfInBounds_toArray, List.set_cons_succ, List.set_cons_zero])
            (apply wpG_pure; (focus rfl); (focus (intro wg Bg hbg hBg hFg; have hc := convert_str (Rd.below (w := wx.drew) rx hbg); go_simp; (try go_bits); (first | done | exact ⟨rfl, Below.refl _ _⟩ | rfl))); simp only [Act.put, List.setIfInBounds_toArray, List.set_cons_succ, List.set_cons_zero])
            (apply wpG_pure; (focus rfl); (focus (intro wg Bg hbg hBg hFg; go_simp; (try go_bits); (first | done | exact ⟨rfl, Below.refl _ _⟩ | rfl))); simp only [Act.put, List.setIfInBounds_toArray, List.set_cons_succ, List.set_cons_zero])
            (apply wpG_pure; (focus rfl); (focus (intro wg Bg hbg hBg hFg; go_simp; (try go_bits); (first | done | exact ⟨rfl, Below.refl _ _⟩ | rfl))); simp only [Act.put, List.setIfInBounds_toArray, List.set_cons_succ, List.set_cons_zero])
            (apply wpG_pure; (focus rfl); (focus (intro wg Bg hbg hBg hFg; have hc := convert_str (Rd.below (w := wx.drew) rb hbg); go_simp; (try go_bits); (first | done | exact ⟨rfl, Below.refl _ _⟩ | rfl))); simp only [Act.put, List.setIfInBounds_toArray, List.set_cons_succ, List.set_cons_zero])
            (apply wpG_pure; (focus rfl); (focus (intro wg Bg hbg hBg hFg; go_simp; (try go_bits); (first | done | exact ⟨rfl, Below.refl _ _⟩ | rfl))); simp only [Act.put, List.setIfInBounds_toArray, List.set_cons_succ, List.set_cons_zero])
            (apply wpG_pure; (focus rfl); (focus (intro wg Bg hbg hBg hFg; go_simp; (try go_bits); (first | done | exact ⟨rfl, Below.refl _ _⟩ | rfl))); simp only [Act.put, List.setIfInBounds_toArray, List.set_cons_succ, List.set_cons_zero])
            (apply wpG_pure; (focus rfl); (focus (intro wg Bg hbg hBg hFg; go_simp; (try go_bits); (first | done | exact ⟨rfl, Below.refl _ _⟩ | rfl))); simp only [Act.put, List.setIfInBounds_toArray, List.set_cons_succ, List.set_cons_zero])
            (apply wpG_pure; (focus rfl); (focus (intro wg Bg hbg hBg hFg; go_simp; (try refine ⟨by kernel_rfl, ?_⟩); go_at_call 20; exact Calls.mono (wakes1_c _) (fun e w' h => (by obtain ⟨rfl, hb⟩ := h; exact ⟨rfl, hb⟩)))); simp only [Act.put, List.setIfInBounds_toArray, List.set_cons_succ, List.set_cons_zero])
            repeat (apply wpG_pure; (focus rfl); (focus (intro wg Bg hbg hBg hFg; go_simp; (try go_bits); (first | done | exact ⟨rfl, Below.refl _ _⟩ | rfl))); simp only [Act.put, List.setIfInBounds_toArray, List.set_cons_succ, List.set_cons_zero])
            refine wpG_end (fun wg Bg hbg hBg hFg => ?_)
            go_wp2
            go_ret
            exact ⟨rfl, below_below hw.drew hbg⟩
        · as_aux_lemma =>
            have hne : ((textI b 5000).2.2 == 0) = false := by simp [hT0]
            generalize strB (textI b 5000).1 = t1 at *
            generalize (textI b 5000).2.1 = t2 at *
            generalize (textI b 5000).2.2 = t3 at *
            have tok0 : True := trivial
            go_upto_region 17 with (first
              | (have _t := tok0; go_at_call 10; refine (FB _ _ rb).mono ?_; rintro e wa ⟨va1, rfl, hoa, hba⟩; replace hw := below_below hw hba; replace rb := rb.below hba; clear tok0; have tok1 : True := trivial)
              | (have _t := tok1; go_at_call 18; refine (T _ _ hoa.rd (hT.below hw)).mono ?_; rintro e wx ⟨vx, rfl, hox, hbx⟩; replace hw := below_below hw hbx; replace rb := rb.below hbx; have rx := hox.rd; clear tok1; have tok2 : True := trivial))
            refine region_making 17 (fun _ => []) (fun _ => none) (by kernel_rfl) (by kernel_rfl) ?_ ?_
            · intro i' S' h' e v'
              cases h'
            simp only [List.take_succ_cons, List.take_zero, List.drop_succ_cons, List.drop_zero]
            (apply wpG_pure; (focus rfl); (focus (intro wg Bg hbg hBg hFg; go_simp; (try go_bits); (first | done | exact ⟨rfl, Below.refl _ _⟩ | rfl))); simp only [Act.put, List.setIfInBounds_toArray, List.set_cons_succ, List.set_cons_zero])
            (apply wpG_pure; (focus rfl); (focus (intro wg Bg hbg hBg hFg; go_simp; (try go_bits); (first | done | exact ⟨rfl, Below.refl _ _⟩ | rfl))); simp only [Act.put, List.setIfInBounds_toArray, List.set_cons_succ, List.set_cons_zero])
            (apply wpG_pure; (focus rfl); (focus (intro wg Bg hbg hBg hFg; go_simp; (try go_bits); (first | done | exact ⟨rfl, Below.refl _ _⟩ | rfl))); simp only [Act.put, List.setIfInBounds_toArray, List.set_cons_succ, List.set_cons_zero])
            (apply wpG_pure; (focus rfl); (focus (intro wg Bg hbg hBg hFg; go_simp; (try go_bits); (first | done | exact ⟨rfl, Below.refl _ _⟩ | rfl))); simp only [Act.put, List.setIfInBounds_toArray, List.set_cons_succ, List.set_cons_zero])
            (apply wpG_pure; (focus rfl); (focus (intro wg Bg hbg hBg hFg; go_simp; (try go_bits); (first | done | exact ⟨rfl, Below.refl _ _⟩ | rfl))); simp only [Act.put, List.setIfInBounds_toArray, List.set_cons_succ, List.set_cons_zero])
            (apply wpG_pure; (focus rfl); (focus (intro wg Bg hbg hBg hFg; go_simp; (try go_bits); (first | done | exact ⟨rfl, Below.refl _ _⟩ | rfl))); simp only [Act.put, List.setIfInBounds_toArray, List.set_cons_succ, List.set_cons_zero])
            (apply wpG_pure; (focus rfl); (focus (intro wg Bg hbg hBg hFg; go_simp; (try go_bits); (first | done | exact ⟨rfl, Below.refl _ _⟩ | rfl))); simp only [Act.put, List.setIfInBounds_toArray, List.set_cons_succ, List.set_cons_zero])
            (apply wpG_pure; (focus rfl); (focus (intro wg Bg hbg hBg hFg; go_simp; (try go_bits); (first | done | exact ⟨rfl, Below.refl _ _⟩ | rfl))); simp only [Act.put, List.setIfInBounds_toArray, List.set_cons_succ, List.set_cons_zero])
            (apply wpG_pure; (focus rfl); (focus (intro wg Bg hbg hBg hFg; go_simp; (try go_bits); (first | done | exact ⟨rfl, Below.refl _ _⟩ | rfl))); simp only [Act.put, List.setIfInBounds_toArray, List.set_cons_succ, List.set_cons_zero])
            (apply wpG_pure; (focus rfl); (focus (intro wg Bg hbg hBg hFg; go_simp; (try go_bits); (first | done | exact ⟨rfl, Below.refl _ _⟩ | rfl))); simp only [Act.put, List.setIfInBounds_toArray, List.set_cons_succ, List.set_cons_zero])
            (apply wpG_pure; (focus rfl); (focus (intro wg Bg hbg hBg hFg; go_simp; (try go_bits); (first | done | exact ⟨rfl, Below.refl _ _⟩ | rfl))); simp only [Act.put, List.setIfInBounds_toArray, List.set_cons_succ, List.set_cons_zero])
            (apply wpG_pure; (focus rfl); (focus (intro wg Bg hbg hBg hFg; go_simp; (try go_bits); (first | done | exact ⟨rfl, Below.refl _ _⟩ | rfl))); simp only [Act.put, List.setIfInBounds_toArray, List.set_cons_succ, List.set_cons_zero])
            (apply wpG_pure; (focus rfl); (focus (intro wg Bg hbg hBg hFg; go_simp; (try go_bits); (first | done | exact ⟨rfl, Below.refl _ _⟩ | rfl))); simp only [Act.put, List.setIfInBounds_toArray, List.set_cons_succ, List.set_cons_zero])
            (apply wpG_pure; (focus rfl); (focus (intro wg Bg hbg hBg hFg; go_simp; (try go_bits); (first | done | exact ⟨rfl, Below.refl _ _⟩ | rfl))); simp only [Act.put, List.setIfInBounds_toArray, List.set_cons_succ, List.set_cons_zero])
            (apply wpG_pure; (focus rfl); (focus (intro wg Bg hbg hBg hFg; go_simp; (try refine ⟨by kernel_rfl, ?_⟩); go_at_call 20; exact Calls.mono (wakes1_c _) (fun e w' h => (by obtain ⟨rfl, hb⟩ := h; exact ⟨rfl, hb⟩)))); simp only [Act.put, List.setIfInBounds_toArray, List.set_cons_succ, List.set_cons_zero])
            repeat (apply wpG_pure; (focus rfl); (focus (intro wg Bg hbg hBg hFg; go_simp; (try go_bits); (first | done | exact ⟨rfl, Below.refl _ _⟩ | rfl))); simp only [Act.put, List.setIfInBounds_toArray, List.set_cons_succ, List.set_cons_zero])
            refine wpG_end (fun wg Bg hbg hBg hFg => ?_)
            go_wp2
            go_ret
            exact ⟨rfl, below_below hw.drew hbg⟩
      · have hne : ((floatI b).2.2 == 0) = false := by simp [hF0]
        generalize (floatI b).1 = m1 at *
        generalize (floatI b).2.1 = m2 at *
        generalize (floatI b).2.2 = m3 at *
        have tok0 : True := trivial
        go_upto_region 14 with (first
          | (have _t := tok0; go_at_call 10; refine (FB _ _ rb).mono ?_; rintro e wa ⟨va1, rfl, hoa, hba⟩; replace hw := below_below hw hba; replace rb := rb.below hba; clear tok0; have tok1 : True := trivial)
          | (have _t := tok1; go_at_call 15; refine (F2 _ _ hoa.rd).mono ?_; rintro e wx ⟨vx, rfl, hox, hbx⟩; replace hw := below_below hw hbx; replace rb := rb.below hbx; have rx := hox.rd; clear tok1; have tok2 : True := trivial))
        refine region_making 13 (fun _ => []) (fun _ => none) (by kernel_rfl) (by kernel_rfl) ?_ ?_
        · intro i' S' h' e v'
          cases h'
        simp only [List.take_succ_cons, List.take_zero, List.drop_succ_cons, List.drop_zero]
        repeat (apply wpG_pure; (focus rfl); (focus (intro wg Bg hbg hBg hFg; go_simp; (try go_bits); (first | done | exact ⟨rfl, Below.refl _ _⟩ | rfl))); simp only [Act.put, List.setIfInBounds_toArray, List.set_cons_succ, List.set_cons_zero])
        refine wpG_end (fun wg Bg hbg hBg hFg => ?_)
        have rg := Rd.below (w := wx.drew) rb hbg
        have hwg := below_below hw.drew hbg
        clear hFg hBg rb hw rx hox hoa
        have rb := rg
        have hw := hwg
        clear rg hwg
        have T := fun v1 w1 (hv : Rd w1 v1 b) (ht : Tabs w1) => octtext_c v1 b 5000 w1 hv (by omega) (by omega) ht
        rw [show ((5000 : Int).toNat) = 5000 from rfl] at T
        unfold GivesT at T
        by_cases hT0 : (textI b 5000).2.2 = 0
        · as_aux_lemma =>
            have hcat0 := textI_back b 5000 hT0
            have htl := textI_len b 5000
            rw [hT0] at T
            clear hT0
            generalize (textI b 5000).1 = t1 at *
            generalize (textI b 5000).2.1 = t2 at *
            have lt1 := formU_len64 t1.length (by omega)
            have PT := fun w1 => puttext_c (.slice none 0 0) [] t1 w1 (Rd.nil w1) (by simp) (by omega)
            rw [List.nil_append] at PT
            have hlen := congrArg List.length hcat0
            simp only [List.length_append] at hlen
            have hcat : strB (formU t1.length ++ t1) ++ strB t2 = strB b := by rw [strB_append, hcat0]
            have hss : ¬ 9223372036854775807 < (strB (formU t1.length ++ t1)).size + (strB t2).size := by rw [strB_size, strB_size]; simp; omega
            clear hcat0 hlen
            generalize formU t1.length ++ t1 = Y at *
            have tok0 : True := trivial
            go_upto_region 17 with (first
              | (have _t := tok0; go_at_call 10; refine (FB _ _ rb).mono ?_; rintro e wa ⟨va1, rfl, hoa, hba⟩; replace hw := below_below hw hba; replace rb := rb.below hba; clear tok0; have tok1 : True := trivial)
              | (have _t := tok1; go_at_call 18; refine (T _ _ hoa.rd (hT.below hw)).mono ?_; rintro e wx ⟨vx, rfl, hox, hbx⟩; replace hw := below_below hw hbx; replace rb := rb.below hbx; have rx := hox.rd; clear tok1; have tok2 : True := trivial))
            refine region_making 17 (fun _ => []) (fun | 4 => some fun _ => new8 5 Y | _ => none) (by kernel_rfl) (by kernel_rfl) ?_ ?_
            · intro i' S' h' e v'
              match i', h' with
              | 4, h' => cases h'; exact new8_loc _ _ _ _
            simp only [List.take_succ_cons, List.take_zero, List.drop_succ_cons, List.drop_zero]
            (apply wpG_pure; (focus rfl); (focus (intro wg Bg hbg hBg hFg; go_simp; (try go_bits); (first | done | exact ⟨rfl, Below.refl _ _⟩ | rfl))); simp only [Act.put, List.setIfInBounds_toArray, List.set_cons_succ, List.set_cons_zero])
            (apply wpG_pure; (focus rfl); (focus (intro wg Bg hbg hBg hFg; go_simp; (try go_bits); (first | done | exact ⟨rfl, Below.refl _ _⟩ | rfl))); simp only [Act.put, List.setIfInBounds_toArray, List.set_cons_succ, List.set_cons_zero])
            (apply wpG_pure; (focus rfl); (focus (intro wg Bg hbg hBg hFg; go_simp; (try go_bits); (first | done | exact ⟨rfl, Below.refl _ _⟩ | rfl))); simp only [Act.put, List.setIfInBounds_toArray, List.set_cons_succ, List.set_cons_zero])
            (apply wpG_pure; (focus rfl); (focus (intro wg Bg hbg hBg hFg; go_simp; (try go_bits); (first | done | exact ⟨rfl, Below.refl _ _⟩ | rfl))); simp only [Act.put, List.setIfInBounds_toArray, List.set_cons_succ, List.set_cons_zero])
            (apply wpG_make; (focus rfl); (focus (intro wg Bg hbg hBg hFg; go_simp; go_at_call 26; exact Calls.mono (PT _) (fun e w' h => (by obtain ⟨u, rfl, ho, hb⟩ := h; exact ⟨u, rfl, Chg.of_below hb, ⟨ho.mono (Nat.zero_le _), fun g hg => (by first | exact .inr ⟨ho.base_le g hg, ho.lt g hg⟩ | exact ⟨ho.base_le g hg, ho.lt g hg⟩)⟩⟩)))); intro a4; simp only [Act.put, List.setIfInBounds_toArray, List.set_cons_succ, List.set_cons_zero])
            (apply wpG_pure; (focus rfl); (focus (intro wg Bg hbg hBg hFg; have hc := convert_str (Own8.rd (hFg 4 (by decide +kernel) : new8 5 Y a4 (Bg 4) wg).1); go_simp; (try go_bits); (first | done | exact ⟨rfl, Below.refl _ _⟩ | rfl))); simp only [Act.put, List.setIfInBounds_toArray, List.set_cons_succ, List.set_cons_zero])
            (apply wpG_pure; (focus rfl); (focus (intro wg Bg hbg hBg hFg; go_simp; (try go_bits); (first | done | exact ⟨rfl, Below.refl _ _⟩ | rfl))); simp only [Act.put, List.setIfInBounds_toArray, List.set_cons_succ, List.set_cons_zero])
            (apply wpG_pure; (focus rfl); (focus (intro wg Bg hbg hBg hFg; have hc := convert_str (Rd.below (w := wx.drew) rx hbg); go_simp; (try go_bits); (first | done | exact ⟨rfl, Below.refl _ _⟩ | rfl))); simp only [Act.put, List.setIfInBounds_toArray, List.set_cons_succ, List.set_cons_zero])
            (apply wpG_pure; (focus rfl); (focus (intro wg Bg hbg hBg hFg; go_simp; (try go_bits); (first | done | exact ⟨rfl, Below.refl _ _⟩ | rfl))); simp only [Act.put, List.setIfInBounds_toArray, List.set_cons_succ, List.set_cons_zero])
            (apply wpG_pure; (focus rfl); (focus (intro wg Bg hbg hBg hFg; go_simp; (try go_bits); (first | done | exact ⟨rfl, Below.refl _ _⟩ | rfl))); simp only [Act.put, List.setIfInBounds_toArray, List.set_cons_succ, List.set_cons_zero])
            (apply wpG_pure; (focus rfl); (focus (intro wg Bg hbg hBg hFg; have hc := convert_str (Rd.below (w := wx.drew) rb hbg); go_simp; (try go_bits); (first | done | exact ⟨rfl, Below.refl _ _⟩ | rfl))); simp only [Act.put, List.setIfInBounds_toArray, List.set_cons_succ, List.set_cons_zero])
            (apply wpG_pure; (focus rfl); (focus (intro wg Bg hbg hBg hFg; go_simp; (try go_bits); (first | done | exact ⟨rfl, Below.refl _ _⟩ | rfl))); simp only [Act.put, List.setIfInBounds_toArray, List.set_cons_succ, List.set_cons_zero])
            (apply wpG_pure; (focus rfl); (focus (intro wg Bg hbg hBg hFg; go_simp; (try go_bits); (first | done | exact ⟨rfl, Below.refl _ _⟩ | rfl))); simp only [Act.put, List.setIfInBounds_toArray, List.set_cons_succ, List.set_cons_zero])
            (apply wpG_pure; (focus rfl); (focus (intro wg Bg hbg hBg hFg; go_simp; (try go_bits); (first | done | exact ⟨rfl, Below.refl _ _⟩ | rfl))); simp only [Act.put, List.setIfInBounds_toArray, List.set_cons_succ, List.set_cons_zero])
            (apply wpG_pure; (focus rfl); (focus (intro wg Bg hbg hBg hFg; go_simp; (try refine ⟨by kernel_rfl, ?_⟩); go_at_call 20; exact Calls.mono (wakes1_c _) (fun e w' h => (by obtain ⟨rfl, hb⟩ := h; exact ⟨rfl, hb⟩)))); simp only [Act.put, List.setIfInBounds_toArray, List.set_cons_succ, List.set_cons_zero])
            repeat (apply wpG_pure; (focus rfl); (focus (intro wg Bg hbg hBg hFg; go_simp; (try go_bits); (first | done | exact ⟨rfl, Below.refl _ _⟩ | rfl))); simp only [Act.put, List.setIfInBounds_toArray, List.set_cons_succ, List.set_cons_zero])
            refine wpG_end (fun wg Bg hbg hBg hFg => ?_)
            go_wp2
            go_ret
            exact ⟨rfl, below_below hw.drew hbg⟩
        · as_aux_lemma =>
            have hne : ((textI b 5000).2.2 == 0) = false := by simp [hT0]
            generalize strB (textI b 5000).1 = t1 at *
            generalize (textI b 5000).2.1 = t2 at *
            generalize (textI b 5000).2.2 = t3 at *
            have tok0 : True := trivial
            go_upto_region 17 with (first
              | (have _t := tok0; go_at_call 10; refine (FB _ _ rb).mono ?_; rintro e wa ⟨va1, rfl, hoa, hba⟩; replace hw := below_below hw hba; replace rb := rb.below hba; clear tok0; have tok1 : True := trivial)
              | (have _t := tok1; go_at_call 18; refine (T _ _ hoa.rd (hT.below hw)).mono ?_; rintro e wx ⟨vx, rfl, hox, hbx⟩; replace hw := below_below hw hbx; replace rb := rb.below hbx; have rx := hox.rd; clear tok1; have tok2 : True := trivial))
            refine region_making 17 (fun _ => []) (fun _ => none) (by kernel_rfl) (by kernel_rfl) ?_ ?_
            · intro i' S' h' e v'
              cases h'
            simp only [List.take_succ_cons, List.take_zero, List.drop_succ_cons, List.drop_zero]
            (apply wpG_pure; (focus rfl); (focus (intro wg Bg hbg hBg hFg; go_simp; (try go_bits); (first | done | exact ⟨rfl, Below.refl _ _⟩ | rfl))); simp only [Act.put, List.setIfInBounds_toArray, List.set_cons_succ, List.set_cons_zero])
            (apply wpG_pure; (focus rfl); (focus (intro wg Bg hbg hBg hFg; go_simp; (try go_bits); (first | done | exact ⟨rfl, Below.refl _ _⟩ | rfl))); simp only [Act.put, List.setIfInBounds_toArray, List.set_cons_succ, List.set_cons_zero])
            (apply wpG_pure; (focus rfl); (focus (intro wg Bg hbg hBg hFg; go_simp; (try go_bits); (first | done | exact ⟨rfl, Below.refl _ _⟩ | rfl))); simp only [Act.put, List.setIfInBounds_toArray, List.set_cons_succ, List.set_cons_zero])
            (apply wpG_pure; (focus rfl); (focus (intro wg Bg hbg hBg hFg; go_simp; (try go_bits); (first | done | exact ⟨rfl, Below.refl _ _⟩ | rfl))); simp only [Act.put, List.setIfInBounds_toArray, List.set_cons_succ, List.set_cons_zero])
            (apply wpG_pure; (focus rfl); (focus (intro wg Bg hbg hBg hFg; go_simp; (try go_bits); (first | done | exact ⟨rfl, Below.refl _ _⟩ | rfl))); simp only [Act.put, List.setIfInBounds_toArray, List.set_cons_succ, List.set_cons_zero])
            (apply wpG_pure; (focus rfl); (focus (intro wg Bg hbg hBg hFg; go_simp; (try go_bits); (first | done | exact ⟨rfl, Below.refl _ _⟩ | rfl))); simp only [Act.put, List.setIfInBounds_toArray, List.set_cons_succ, List.set_cons_zero])
            (apply wpG_pure; (focus rfl); (focus (intro wg Bg hbg hBg hFg; go_simp; (try go_bits); (first | done | exact ⟨rfl, Below.refl _ _⟩ | rfl))); simp only [Act.put, List.setIfInBounds_toArray, List.set_cons_succ, List.set_cons_zero])
            (apply wpG_pure; (focus rfl); (focus (intro wg Bg hbg hBg hFg; go_simp; (try go_bits); (first | done | exact ⟨rfl, Below.refl _ _⟩ | rfl))); simp only [Act.put, List.setIfInBounds_toArray, List.set_cons_succ, List.set_cons_zero])
            (apply wpG_pure; (focus rfl); (focus (intro wg Bg hbg hBg hFg; go_simp; (try go_bits); (first | done | exact ⟨rfl, Below.refl _ _⟩ | rfl))); simp only [Act.put, List.setIfInBounds_toArray, List.set_cons_succ, List.set_cons_zero])
            (apply wpG_pure; (focus rfl); (focus (intro wg Bg hbg hBg hFg; go_simp; (try go_bits); (first | done | exact ⟨rfl, Below.refl _ _⟩ | rfl))); simp only [Act.put, List.setIfInBounds_toArray, List.set_cons_succ, List.set_cons_zero])
            (apply wpG_pure; (focus rfl); (focus (intro wg Bg hbg hBg hFg; go_simp; (try go_bits); (first | done | exact ⟨rfl, Below.refl _ _⟩ | rfl))); simp only [Act.put, List.setIfInBounds_toArray, List.set_cons_succ, List.set_cons_zero])
            (apply wpG_pure; (focus rfl); (focus (intro wg Bg hbg hBg hFg; go_simp; (try go_bits); (first | done | exact ⟨rfl, Below.refl _ _⟩ | rfl))); simp only [Act.put, List.setIfInBounds_toArray, List.set_cons_succ, List.set_cons_zero])
            (apply wpG_pure; (focus rfl); (focus (intro wg Bg hbg hBg hFg; go_simp; (try go_bits); (first | done | exact ⟨rfl, Below.refl _ _⟩ | rfl))); simp only [Act.put, List.setIfInBounds_toArray, List.set_cons_succ, List.set_cons_zero])
            (apply wpG_pure; (focus rfl); (focus (intro wg Bg hbg hBg hFg; go_simp; (try go_bits); (first | done | exact ⟨rfl, Below.refl _ _⟩ | rfl))); simp only [Act.put, List.setIfInBounds_toArray, List.set_cons_succ, List.set_cons_zero])
            (apply wpG_pure; (focus rfl); (focus (intro wg Bg hbg hBg hFg; go_simp; (try refine ⟨by kernel_rfl, ?_⟩); go_at_call 20; exact Calls.mono (wakes1_c _) (fun e w' h => (by obtain ⟨rfl, hb⟩ := h; exact ⟨rfl, hb⟩)))); simp only [Act.put, List.setIfInBounds_toArray, List.set_cons_succ, List.set_cons_zero])
            repeat (apply wpG_pure; (focus rfl); (focus (intro wg Bg hbg hBg hFg; go_simp; (try go_bits); (first | done | exact ⟨rfl, Below.refl _ _⟩ | rfl))); simp only [Act.put, List.setIfInBounds_toArray, List.set_cons_succ, List.set_cons_zero])
            refine wpG_end (fun wg Bg hbg hBg hFg => ?_)
            go_wp2
            go_ret
            exact ⟨rfl, below_below hw.drew hbg⟩
    · have hne : ((uintI b).2.2 == 0) = false := by simp [hU0]
      generalize (uintI b).1 = m1 at *
      generalize (uintI b).2.1 = m2 at *
      generalize (uintI b).2.2 = m3 at *
      have tok0 : True := trivial
      go_upto_region 11 with (first
        | (have _t := tok0; go_at_call 10; refine (FB _ _ rb).mono ?_; rintro e wa ⟨va1, rfl, hoa, hba⟩; replace hw := below_below hw hba; replace rb := rb.below hba; clear tok0; have tok1 : True := trivial)
        | (have _t := tok1; go_at_call 11; refine (U2 _ _ hoa.rd).mono ?_; rintro e wx ⟨vx, rfl, hox, hbx⟩; replace hw := below_below hw hbx; replace rb := rb.below hbx; have rx := hox.rd; clear tok1; have tok2 : True := trivial))
      refine region_making 13 (fun _ => []) (fun _ => none) (by kernel_rfl) (by kernel_rfl) ?_ ?_
      · intro i' S' h' e v'
        cases h'
      simp only [List.take_succ_cons, List.take_zero, List.drop_succ_cons, List.drop_zero]
      repeat (apply wpG_pure; (focus rfl); (focus (intro wg Bg hbg hBg hFg; go_simp; (try go_bits); (first | done | exact ⟨rfl, Below.refl _ _⟩ | rfl))); simp only [Act.put, List.setIfInBounds_toArray, List.set_cons_succ, List.set_cons_zero])
      refine wpG_end (fun wg Bg hbg hBg hFg => ?_)
      have rg := Rd.below (w := wx.drew) rb hbg
      have hwg := below_below hw.drew hbg
      clear hFg hBg rb hw rx hox hoa
      have rb := rg
      have hw := hwg
      clear rg hwg
      have F2 := fun v1 w1 (hv : Rd w1 v1 b) => float_c v1 b w1 hv (by omega)
      unfold GivesF at F2
      by_cases hF0 : (floatI b).2.2 = 0
      · have hcat0 := (floatI_back b hF0).1
        have hmf := (floatI_back b hF0).2
        rw [hF0] at F2
        clear hF0
        generalize (floatI b).1 = m1 at *
        generalize (floatI b).2.1 = m2 at *
        have hlen := congrArg List.length hcat0
        simp only [List.length_append] at hlen
        have hcat : strB (beBs (bitsI m1) 8) ++ strB m2 = strB b := by rw [strB_append, hcat0]
        have hss : ¬ 9223372036854775807 < (strB (beBs (bitsI m1) 8)).size + (strB m2).size := by rw [strB_size, strB_size]; omega
        clear hcat0 hlen
        have PX := fun w1 => putfloat_c (.slice none 0 0) [] m1 w1 (Rd.nil w1) (by simp) hmf
        rw [List.nil_append] at PX
        generalize beBs (bitsI m1) 8 = Y at *
        have tok0 : True := trivial
        go_upto_region 14 with (first
          | (have _t := tok0; go_at_call 10; refine (FB _ _ rb).mono ?_; rintro e wa ⟨va1, rfl, hoa, hba⟩; replace hw := below_below hw hba; replace rb := rb.below hba; clear tok0; have tok1 : True := trivial)
          | (have _t := tok1; go_at_call 15; refine (F2 _ _ hoa.rd).mono ?_; rintro e wx ⟨vx, rfl, hox, hbx⟩; replace hw := below_below hw hbx; replace rb := rb.below hbx; have rx := hox.rd; clear tok1; have tok2 : True := trivial))
        refine region_making 13 (fun _ => []) (fun | 4 => some fun _ => new8 5 Y | _ => none) (by kernel_rfl) (by kernel_rfl) ?_ ?_
        · intro i' S' h' e v'
          match i', h' with
          | 4, h' => cases h'; exact new8_loc _ _ _ _
        simp only [List.take_succ_cons, List.take_zero, List.drop_succ_cons, List.drop_zero]
        (apply wpG_pure; (focus rfl); (focus (intro wg Bg hbg hBg hFg; go_simp; (try go_bits); (first | done | exact ⟨rfl, Below.refl _ _⟩ | rfl))); simp only [Act.put, List.setIfInBounds_toArray, List.set_cons_succ, List.set_cons_zero])
        (apply wpG_pure; (focus rfl); (focus (intro wg Bg hbg hBg hFg; go_simp; (try go_bits); (first | done | exact ⟨rfl, Below.refl _ _⟩ | rfl))); simp only [Act.put, List.setIfInBounds_toArray, List.set_cons_succ, List.set_cons_zero])
        (apply wpG_pure; (focus rfl); (focus (intro wg Bg hbg hBg hFg; go_simp; (try go_bits); (first | done | exact ⟨rfl, Below.refl _ _⟩ | rfl))); simp only [Act.put, List.setIfInBounds_toArray, List.set_cons_succ, List.set_cons_zero])
        (apply wpG_pure; (focus rfl); (focus (intro wg Bg hbg hBg hFg; go_simp; (try go_bits); (first | done | exact ⟨rfl, Below.refl _ _⟩ | rfl))); simp only [Act.put, List.setIfInBounds_toArray, List.set_cons_succ, List.set_cons_zero])
        (apply wpG_make; (focus rfl); (focus (intro wg Bg hbg hBg hFg; go_simp; go_at_call 24; exact Calls.mono (PX _) (fun e w' h => (by obtain ⟨u, rfl, ho, hb⟩ := h; exact ⟨u, rfl, Chg.of_below hb, ⟨ho.mono (Nat.zero_le _), fun g hg => (by first | exact .inr ⟨ho.base_le g hg, ho.lt g hg⟩ | exact ⟨ho.base_le g hg, ho.lt g hg⟩)⟩⟩)))); intro a4; simp only [Act.put, List.setIfInBounds_toArray, List.set_cons_succ, List.set_cons_zero])
        (apply wpG_pure; (focus rfl); (focus (intro wg Bg hbg hBg hFg; have hc := convert_str (Own8.rd (hFg 4 (by decide +kernel) : new8 5 Y a4 (Bg 4) wg).1); go_simp; (try go_bits); (first | done | exact ⟨rfl, Below.refl _ _⟩ | rfl))); simp only [Act.put, List.setIfInBounds_toArray, List.set_cons_succ, List.set_cons_zero])
        (apply wpG_pure; (focus rfl); (focus (intro wg Bg hbg hBg hFg; go_simp; (try go_bits); (first | done | exact ⟨rfl, Below.refl _ _⟩ | rfl))); simp only [Act.put, List.setIfInBounds_toArray, List.set_cons_succ, List.set_cons_zero])
        (apply wpG_pure; (focus rfl); (focus (intro wg Bg hbg hBg hFg; have hc := convert_str (Rd.below (w := wx.drew) rx hbg); go_simp; (try go_bits); (first | done | exact ⟨rfl, Below.refl _ _⟩ | rfl))); simp only [Act.put, List.setIfInBounds_toArray, List.set_cons_succ, List.set_cons_zero])
        (apply wpG_pure; (focus rfl); (focus (intro wg Bg hbg hBg hFg; go_simp; (try go_bits); (first | done | exact ⟨rfl, Below.refl _ _⟩ | rfl))); simp only [Act.put, List.setIfInBounds_toArray, List.set_cons_succ, List.set_cons_zero])
        (apply wpG_pure; (focus rfl); (focus (intro wg Bg hbg hBg hFg; go_simp; (try go_bits); (first | done | exact ⟨rfl, Below.refl _ _⟩ | rfl))); simp only [Act.put, List.setIfInBounds_toArray, List.set_cons_succ, List.set_cons_zero])
        (apply wpG_pure; (focus rfl); (focus (intro wg Bg hbg hBg hFg; have hc := convert_str (Rd.below (w := wx.drew) rb hbg); go_simp; (try go_bits); (first | done | exact ⟨rfl, Below.refl _ _⟩ | rfl))); simp only [Act.put, List.setIfInBounds_toArray, List.set_cons_succ, List.set_cons_zero])
        repeat (apply wpG_pure; (focus rfl); (focus (intro wg Bg hbg hBg hFg; go_simp; (try go_bits); (first | done | exact ⟨rfl, Below.refl _ _⟩ | rfl))); simp only [Act.put, List.setIfInBounds_toArray, List.set_cons_succ, List.set_cons_zero])
        refine wpG_end (fun wg Bg hbg hBg hFg => ?_)
        have rg := Rd.below (w := wx.drew) rb hbg
        have hwg := below_below hw.drew hbg
        clear hFg hBg rb hw hcat hss PX rx hox hoa
        have rb := rg
        have hw := hwg
        clear rg hwg
        have T := fun v1 w1 (hv : Rd w1 v1 b) (ht : Tabs w1) => octtext_c v1 b 5000 w1 hv (by omega) (by omega) ht
        rw [show ((5000 : Int).toNat) = 5000 from rfl] at T
        unfold GivesT at T
        by_cases hT0 : (textI b 5000).2.2 = 0
        · as_aux_lemma =>
            have hcat0 := textI_back b 5000 hT0
            have htl := textI_len b 5000
            rw [hT0] at T
            clear hT0
            generalize (textI b 5000).1 = t1 at *
            generalize (textI b 5000).2.1 = t2 at *
            have lt1 := formU_len64 t1.length (by omega)
            have PT := fun w1 => puttext_c (.slice none 0 0) [] t1 w1 (Rd.nil w1) (by simp) (by omega)
            rw [List.nil_append] at PT
            have hlen := congrArg List.length hcat0
            simp only [List.length_append] at hlen
            have hcat : strB (formU t1.length ++ t1) ++ strB t2 = strB b := by rw [strB_append, hcat0]
            have hss : ¬ 9223372036854775807 < (strB (formU t1.length ++ t1)).size + (strB t2).size := by rw [strB_size, strB_size]; simp; omega
            clear hcat0 hlen
            generalize formU t1.length ++ t1 = Y at *
            have tok0 : True := trivial
            go_upto_region 17 with (first
              | (have _t := tok0; go_at_call 10; refine (FB _ _ rb).mono ?_; rintro e wa ⟨va1, rfl, hoa, hba⟩; replace hw := below_below hw hba; replace rb := rb.below hba; clear tok0; have tok1 : True := trivial)
              | (have _t := tok1; go_at_call 18; refine (T _ _ hoa.rd (hT.below hw)).mono ?_; rintro e wx ⟨vx, rfl, hox, hbx⟩; replace hw := below_below hw hbx; replace rb := rb.below hbx; have rx := hox.rd; clear tok1; have tok2 : True := trivial))
            refine region_making 17 (fun _ => []) (fun | 4 => some fun _ => new8 5 Y | _ => none) (by kernel_rfl) (by kernel_rfl) ?_ ?_
            · intro i' S' h' e v'
              match i', h' with
              | 4, h' => cases h'; exact new8_loc _ _ _ _
            simp only [List.take_succ_cons, List.take_zero, List.drop_succ_cons, List.drop_zero]
            (apply wpG_pure; (focus rfl); (focus (intro wg Bg hbg hBg hFg; go_simp; (try go_bits); (first | done | exact ⟨rfl, Below.refl _ _⟩ | rfl))); simp only [Act.put, List.setIfInBounds_toArray, List.set_cons_succ, List.set_cons_zero])
            (apply wpG_pure; (focus rfl); (focus (intro wg Bg hbg hBg hFg; go_simp; (try go_bits); (first | done | exact ⟨rfl, Below.refl _ _⟩ | rfl))); simp only [Act.put, List.setIfInBounds_toArray, List.set_cons_succ, List.set_cons_zero])
            (apply wpG_pure; (focus rfl); (focus (intro wg Bg hbg hBg hFg; go_simp; (try go_bits); (first | done | exact ⟨rfl, Below.refl _ _⟩ | rfl))); simp only [Act.put, List.setIfInBounds_toArray, List.set_cons_succ, List.set_cons_zero])
            (apply wpG_pure; (focus rfl); (focus (intro wg Bg hbg hBg hFg; go_simp; (try go_bits); (first | done | exact ⟨rfl, Below.refl _ _⟩ | rfl))); simp only [Act.put, List.setIfInBounds_toArray, List.set_cons_succ, List.set_cons_zero])
            (apply wpG_make; (focus rfl); (focus (intro wg Bg hbg hBg hFg; go_simp; go_at_call 26; exact Calls.mono (PT _) (fun e w' h => (by obtain ⟨u, rfl, ho, hb⟩ := h; exact ⟨u, rfl, Chg.of_below hb, ⟨ho.mono (Nat.zero_le _), fun g hg => (by first | exact .inr ⟨ho.base_le g hg, ho.lt g hg⟩ | exact ⟨ho.base_le g hg, ho.lt g hg⟩)⟩⟩)))); intro a4; simp only [Act.put, List.setIfInBounds_toArray, List.set_cons_succ, List.set_cons_zero])
            (apply wpG_pure; (focus rfl); (focus (intro wg Bg hbg hBg hFg; have hc := convert_str (Own8.rd (hFg 4 (by decide +kernel) : new8 5 Y a4 (Bg 4) wg).1); go_simp; (try go_bits); (first | done | exact ⟨rfl, Below.refl _ _⟩ | rfl))); simp only [Act.put, List.setIfInBounds_toArray, List.set_cons_succ, List.set_cons_zero])
            (apply wpG_pure; (focus rfl); (focus (intro wg Bg hbg hBg hFg; go_simp; (try go_bits); (first | done | exact ⟨rfl, Below.refl _ _⟩ | rfl))); simp only [Act.put, List.setIfInBounds_toArray, List.set_cons_succ, List.set_cons_zero])
            (apply wpG_pure; (focus rfl); (focus (intro wg Bg hbg hBg hFg; have hc := convert_str (Rd.below (w := wx.drew) rx hbg); go_simp; (try go_bits); (first | done | exact ⟨rfl, Below.refl _ _⟩ | rfl))); simp only [Act.put, List.setIfInBounds_toArray, List.set_cons_succ, List.set_cons_zero])
            (apply wpG_pure; (focus rfl); (focus (intro wg Bg hbg hBg hFg; go_simp; (try go_bits); (first | done | exact ⟨rfl, Below.refl _ _⟩ | rfl))); simp only [Act.put, List.setIfInBounds_toArray, List.set_cons_succ, List.set_cons_zero])
            (apply wpG_pure; (focus rfl); (focus (intro wg Bg hbg hBg hFg; go_simp; (try go_bits); (first | done | exact ⟨rfl, Below.refl _ _⟩ | rfl))); simp only [Act.put, List.setIfInBounds_toArray, List.set_cons_succ, List.set_cons_zero])
            (apply wpG_pure; (focus rfl); (focus (intro wg Bg hbg hBg hFg; have hc := convert_str (Rd.below (w := wx.drew) rb hbg); go_simp; (try go_bits); (first | done | exact ⟨rfl, Below.refl _ _⟩ | rfl))); simp only [Act.put, List.setIfInBounds_toArray, List.set_cons_succ, List.set_cons_zero])
            (apply wpG_pure; (focus rfl); (focus (intro wg Bg hbg hBg hFg; go_simp; (try go_bits); (first | done | exact ⟨rfl, Below.refl _ _⟩ | rfl))); simp only [Act.put, List.setIfInBounds_toArray, List.set_cons_succ, List.set_cons_zero])
            (apply wpG_pure; (focus rfl); (focus (intro wg Bg hbg hBg hFg; go_simp; (try go_bits); (first | done | exact ⟨rfl, Below.refl _ _⟩ | rfl))); simp only [Act.put, List.setIfInBounds_toArray, List.set_cons_succ, List.set_cons_zero])
            (apply wpG_pure; (focus rfl); (focus (intro wg Bg hbg hBg hFg; go_simp; (try go_bits); (first | done | exact ⟨rfl, Below.refl _ _⟩ | rfl))); simp only [Act.put, List.setIfInBounds_toArray, List.set_cons_succ, List.set_cons_zero])
            (apply wpG_pure; (focus rfl); (focus (intro wg Bg hbg hBg hFg; go_simp; (try refine ⟨by kernel_rfl, ?_⟩); go_at_call 20; exact Calls.mono (wakes1_c _) (fun e w' h => (by obtain ⟨rfl, hb⟩ := h; exact ⟨rfl, hb⟩)))); simp only [Act.put, List.setIfInBounds_toArray, List.set_cons_succ, List.set_cons_zero])
            repeat (apply wpG_pure; (focus rfl); (focus (intro wg Bg hbg hBg hFg; go_simp; (try go_bits); (first | done | exact ⟨rfl, Below.refl _ _⟩ | rfl))); simp only [Act.put, List.setIfInBounds_toArray, List.set_cons_succ, List.set_cons_zero])
            refine wpG_end (fun wg Bg hbg hBg hFg => ?_)
            go_wp2
            go_ret
            exact ⟨rfl, below_below hw.drew hbg⟩
        · as_aux_lemma =>
            have hne : ((textI b 5000).2.2 == 0) = false := by simp [hT0]
            generalize strB (textI b 5000).1 = t1 at *
            generalize (textI b 5000).2.1 = t2 at *
            generalize (textI b 5000).2.2 = t3 at *
            have tok0 : True := trivial
            go_upto_region 17 with (first
              | (have _t := tok0; go_at_call 10; refine (FB _ _ rb).mono ?_; rintro e wa ⟨va1, rfl, hoa, hba⟩; replace hw := below_below hw hba; replace rb := rb.below hba; clear tok0; have tok1 : True := trivial)
              | (have _t := tok1; go_at_call 18; refine (T _ _ hoa.rd (hT.below hw)).mono ?_; rintro e wx ⟨vx, rfl, hox, hbx⟩; replace hw := below_below hw hbx; replace rb := rb.below hbx; have rx := hox.rd; clear tok1; have tok2 : True := trivial))
            refine region_making 17 (fun _ => []) (fun _ => none) (by kernel_rfl) (by kernel_rfl) ?_ ?_
            · intro i' S' h' e v'
              cases h'
            simp only [List.take_succ_cons, List.take_zero, List.drop_succ_cons, List.drop_zero]
            (apply wpG_pure; (focus rfl); (focus (intro wg Bg hbg hBg hFg; go_simp; (try go_bits); (first | done | exact ⟨rfl, Below.refl _ _⟩ | rfl))); simp only [Act.put, List.setIfInBounds_toArray, List.set_cons_succ, List.set_cons_zero])
            (apply wpG_pure; (focus rfl); (focus (intro wg Bg hbg hBg hFg; go_simp; (try go_bits); (first | done | exact ⟨rfl, Below.refl _ _⟩ | rfl))); simp only [Act.put, List.setIfInBounds_toArray, List.set_cons_succ, List.set_cons_zero])
            (apply wpG_pure; (focus rfl); (focus (intro wg Bg hbg hBg hFg; go_simp; (try go_bits); (first | done | exact ⟨rfl, Below.refl _ _⟩ | rfl))); simp only [Act.put, List.setIfInBounds_toArray, List.set_cons_succ, List.set_cons_zero])
            (apply wpG_pure; (focus rfl); (focus (intro wg Bg hbg hBg hFg; go_simp; (try go_bits); (first | done | exact ⟨rfl, Below.refl _ _⟩ | rfl))); simp only [Act.put, List.setIfInBounds_toArray, List.set_cons_succ, List.set_cons_zero])
            (apply wpG_pure; (focus rfl); (focus (intro wg Bg hbg hBg hFg; go_simp; (try go_bits); (first | done | exact ⟨rfl, Below.refl _ _⟩ | rfl))); simp only [Act.put, List.setIfInBounds_toArray, List.set_cons_succ, List.set_cons_zero])
            (apply wpG_pure; (focus rfl); (focus (intro wg Bg hbg hBg hFg; go_simp; (try go_bits); (first | done | exact ⟨rfl, Below.refl _ _⟩ | rfl))); simp only [Act.put, List.setIfInBounds_toArray, List.set_cons_succ, List.set_cons_zero])
            (apply wpG_pure; (focus rfl); (focus (intro wg Bg hbg hBg hFg; go_simp; (try go_bits); (first | done | exact ⟨rfl, Below.refl _ _⟩ | rfl))); simp only [Act.put, List.setIfInBounds_toArray, List.set_cons_succ, List.set_cons_zero])
            (apply wpG_pure; (focus rfl); (focus (intro wg Bg hbg hBg hFg; go_simp; (try go_bits); (first | done | exact ⟨rfl, Below.refl _ _⟩ | rfl))); simp only [Act.put, List.setIfInBounds_toArray, List.set_cons_succ, List.set_cons_zero])
            (apply wpG_pure; (focus rfl); (focus (intro wg Bg hbg hBg hFg; go_simp; (try go_bits); (first | done | exact ⟨rfl, Below.refl _ _⟩ | rfl))); simp only [Act.put, List.setIfInBounds_toArray, List.set_cons_succ, List.set_cons_zero])
            (apply wpG_pure; (focus rfl); (focus (intro wg Bg hbg hBg hFg; go_simp; (try go_bits); (first | done | exact ⟨rfl, Below.refl _ _⟩ | rfl))); simp only [Act.put, List.setIfInBounds_toArray, List.set_cons_succ, List.set_cons_zero])
            (apply wpG_pure; (focus rfl); (focus (intro wg Bg hbg hBg hFg; go_simp; (try go_bits); (first | done | exact ⟨rfl, Below.refl _ _⟩ | rfl))); simp only [Act.put, List.setIfInBounds_toArray, List.set_cons_succ, List.set_cons_zero])
            (apply wpG_pure; (focus rfl); (focus (intro wg Bg hbg hBg hFg; go_simp; (try go_bits); (first | done | exact ⟨rfl, Below.refl _ _⟩ | rfl))); simp only [Act.put, List.setIfInBounds_toArray, List.set_cons_succ, List.set_cons_zero])
            (apply wpG_pure; (focus rfl); (focus (intro wg Bg hbg hBg hFg; go_simp; (try go_bits); (first | done | exact ⟨rfl, Below.refl _ _⟩ | rfl))); simp only [Act.put, List.setIfInBounds_toArray, List.set_cons_succ, List.set_cons_zero])
            (apply wpG_pure; (focus rfl); (focus (intro wg Bg hbg hBg hFg; go_simp; (try go_bits); (first | done | exact ⟨rfl, Below.refl _ _⟩ | rfl))); simp only [Act.put, List.setIfInBounds_toArray, List.set_cons_succ, List.set_cons_zero])
            (apply wpG_pure; (focus rfl); (focus (intro wg Bg hbg hBg hFg; go_simp; (try refine ⟨by kernel_rfl, ?_⟩); go_at_call 20; exact Calls.mono (wakes1_c _) (fun e w' h => (by obtain ⟨rfl, hb⟩ := h; exact ⟨rfl, hb⟩)))); simp only [Act.put, List.setIfInBounds_toArray, List.set_cons_succ, List.set_cons_zero])
            repeat (apply wpG_pure; (focus rfl); (focus (intro wg Bg hbg hBg hFg; go_simp; (try go_bits); (first | done | exact ⟨rfl, Below.refl _ _⟩ | rfl))); simp only [Act.put, List.setIfInBounds_toArray, List.set_cons_succ, List.set_cons_zero])
            refine wpG_end (fun wg Bg hbg hBg hFg => ?_)
            go_wp2
            go_ret
            exact ⟨rfl, below_below hw.drew hbg⟩
      · have hne : ((floatI b).2.2 == 0) = false := by simp [hF0]
        generalize (floatI b).1 = m1 at *
        generalize (floatI b).2.1 = m2 at *
        generalize (floatI b).2.2 = m3 at *
        have tok0 : True := trivial
        go_upto_region 14 with (first
          | (have _t := tok0; go_at_call 10; refine (FB _ _ rb).mono ?_; rintro e wa ⟨va1, rfl, hoa, hba⟩; replace hw := below_below hw hba; replace rb := rb.below hba; clear tok0; have tok1 : True := trivial)
          | (have _t := tok1; go_at_call 15; refine (F2 _ _ hoa.rd).mono ?_; rintro e wx ⟨vx, rfl, hox, hbx⟩; replace hw := below_below hw hbx; replace rb := rb.below hbx; have rx := hox.rd; clear tok1; have tok2 : True := trivial))
        refine region_making 13 (fun _ => []) (fun _ => none) (by kernel_rfl) (by kernel_rfl) ?_ ?_
        · intro i' S' h' e v'
          cases h'
        simp only [List.take_succ_cons, List.take_zero, List.drop_succ_cons, List.drop_zero]
        repeat (apply wpG_pure; (focus rfl); (focus (intro wg Bg hbg hBg hFg; go_simp; (try go_bits); (first | done | exact ⟨rfl, Below.refl _ _⟩ | rfl))); simp only [Act.put, List.setIfInBounds_toArray, List.set_cons_succ, List.set_cons_zero])
        refine wpG_end (fun wg Bg hbg hBg hFg => ?_)
        have rg := Rd.below (w := wx.drew) rb hbg
        have hwg := below_below hw.drew hbg
        clear hFg hBg rb hw rx hox hoa
        have rb := rg
        have hw := hwg
        clear rg hwg
        have T := fun v1 w1 (hv : Rd w1 v1 b) (ht : Tabs w1) => octtext_c v1 b 5000 w1 hv (by omega) (by omega) ht
        rw [show ((5000 : Int).toNat) = 5000 from rfl] at T
        unfold GivesT at T
        by_cases hT0 : (textI b 5000).2.2 = 0
        · as_aux_lemma =>
            have hcat0 := textI_back b 5000 hT0
            have htl := textI_len b 5000
            rw [hT0] at T
            clear hT0
            generalize (textI b 5000).1 = t1 at *
            generalize (textI b 5000).2.1 = t2 at *
            have lt1 := formU_len64 t1.length (by omega)
            have PT := fun w1 => puttext_c (.slice none 0 0) [] t1 w1 (Rd.nil w1) (by simp) (by omega)
            rw [List.nil_append] at PT
            have hlen := congrArg List.length hcat0
            simp only [List.length_append] at hlen
            have hcat : strB (formU t1.length ++ t1) ++ strB t2 = strB b := by rw [strB_append, hcat0]
            have hss : ¬ 9223372036854775807 < (strB (formU t1.length ++ t1)).size + (strB t2).size := by rw [strB_size, strB_size]; simp; omega
            clear hcat0 hlen
            generalize formU t1.length ++ t1 = Y at *
            have tok0 : True := trivial
            go_upto_region 17 with (first
              | (have _t := tok0; go_at_call 10; refine (FB _ _ rb).mono ?_; rintro e wa ⟨va1, rfl, hoa, hba⟩; replace hw := below_below hw hba; replace rb := rb.below hba; clear tok0; have tok1 : True := trivial)
              | (have _t := tok1; go_at_call 18; refine (T _ _ hoa.rd (hT.below hw)).mono ?_; rintro e wx ⟨vx, rfl, hox, hbx⟩; replace hw := below_below hw hbx; replace rb := rb.below hbx; have rx := hox.rd; clear tok1; have tok2 : True := trivial))
            refine region_making 17 (fun _ => []) (fun | 4 => some fun _ => new8 5 Y | _ => none) (by kernel_rfl) (by kernel_rfl) ?_ ?_
            · intro i' S' h' e v'
              match i', h' with
              | 4, h' => cases h'; exact new8_loc _ _ _ _
            simp only [List.take_succ_cons, List.take_zero, List.drop_succ_cons, List.drop_zero]
            (apply wpG_pure; (focus rfl); (focus (intro wg Bg hbg hBg hFg; go_simp; (try go_bits); (first | done | exact ⟨rfl, Below.refl _ _⟩ | rfl))); simp only [Act.put, List.setIfInBounds_toArray, List.set_cons_succ, List.set_cons_zero])
            (apply wpG_pure; (focus rfl); (focus (intro wg Bg hbg hBg hFg; go_simp; (try go_bits); (first | done | exact ⟨rfl, Below.refl _ _⟩ | rfl))); simp only [Act.put, List.setIfInBounds_toArray, List.set_cons_succ, List.set_cons_zero])
            (apply wpG_pure; (focus rfl); (focus (intro wg Bg hbg hBg hFg; go_simp; (try go_bits); (first | done | exact ⟨rfl, Below.refl _ _⟩ | rfl))); simp only [Act.put, List.setIfInBounds_toArray, List.set_cons_succ, List.set_cons_zero])
            (apply wpG_pure; (focus rfl); (focus (intro wg Bg hbg hBg hFg; go_simp; (try go_bits); (first | done | exact ⟨rfl, Below.refl _ _⟩ | rfl))); simp only [Act.put, List.setIfInBounds_toArray, List.set_cons_succ, List.set_cons_zero])
            (apply wpG_make; (focus rfl); (focus (intro wg Bg hbg hBg hFg; go_simp; go_at_call 26; exact Calls.mono (PT _) (fun e w' h => (by obtain ⟨u, rfl, ho, hb⟩ := h; exact ⟨u, rfl, Chg.of_below hb, ⟨ho.mono (Nat.zero_le _), fun g hg => (by first | exact .inr ⟨ho.base_le g hg, ho.lt g hg⟩ | exact ⟨ho.base_le g hg, ho.lt g hg⟩)⟩⟩)))); intro a4; simp only [Act.put, List.setIfInBounds_toArray, List.set_cons_succ, List.set_cons_zero])
            (apply wpG_pure; (focus rfl); (focus (intro wg Bg hbg hBg hFg; have hc := convert_str (Own8.rd (hFg 4 (by decide +kernel) : new8 5 Y a4 (Bg 4) wg).1); go_simp; (try go_bits); (first | done | exact ⟨rfl, Below.refl _ _⟩ | rfl))); simp only [Act.put, List.setIfInBounds_toArray, List.set_cons_succ, List.set_cons_zero])
            (apply wpG_pure; (focus rfl); (focus (intro wg Bg hbg hBg hFg; go_simp; (try go_bits); (first | done | exact ⟨rfl, Below.refl _ _⟩ | rfl))); simp only [Act.put, List.setIfInBounds_toArray, List.set_cons_succ, List.set_cons_zero])
            (apply wpG_pure; (focus rfl); (focus (intro wg Bg hbg hBg hFg; have hc := convert_str (Rd.below (w := wx.drew) rx hbg); go_simp; (try go_bits); (first | done | exact ⟨rfl, Below.refl _ _⟩ | rfl))); simp only [Act.put, List.setIfInBounds_toArray, List.set_cons_succ, List.set_cons_zero])
            (apply wpG_pure; (focus rfl); (focus (intro wg Bg hbg hBg hFg; go_simp; (try go_bits); (first | done | exact ⟨rfl, Below.refl _ _⟩ | rfl))); simp only [Act.put, List.setIfInBounds_toArray, List.set_cons_succ, List.set_cons_zero])
            (apply wpG_pure; (focus rfl); (focus (intro wg Bg hbg hBg hFg; go_simp; (try go_bits); (first | done | exact ⟨rfl, Below.refl _ _⟩ | rfl))); simp only [Act.put, List.setIfInBounds_toArray, List.set_cons_succ, List.set_cons_zero])
            (apply wpG_pure; (focus rfl); (focus (intro wg Bg hbg hBg hFg; have hc := convert_str (Rd.below (w := wx.drew) rb hbg); go_simp; (try go_bits); (first | done | exact ⟨rfl, Below.refl _ _⟩ | rfl))); simp only [Act.put, List.setIfInBounds_toArray, List.set_cons_succ, List.set_cons_zero])
            (apply wpG_pure; (focus rfl); (focus (intro wg Bg hbg hBg hFg; go_simp; (try go_bits); (first | done | exact ⟨rfl, Below.refl _ _⟩ | rfl))); simp only [Act.put, List.setIfInBounds_toArray, List.set_cons_succ, List.set_cons_zero])
            (apply wpG_pure; (focus rfl); (focus (intro wg Bg hbg hBg hFg; go_simp; (try go_bits); (first | done | exact ⟨rfl, Below.refl _ _⟩ | rfl))); simp only [Act.put, List.setIfInBounds_toArray, List.set_cons_succ, List.set_cons_zero])
            (apply wpG_pure; (focus rfl); (focus (intro wg Bg hbg hBg hFg; go_simp; (try go_bits); (first | done | exact ⟨rfl, Below.refl _ _⟩ | rfl))); simp only [Act.put, List.setIfInBounds_toArray, List.set_cons_succ, List.set_cons_zero])
            (apply wpG_pure; (focus rfl); (focus (intro wg Bg hbg hBg hFg; go_simp; (try refine ⟨by kernel_rfl, ?_⟩); go_at_call 20; exact Calls.mono (wakes1_c _) (fun e w' h => (by obtain ⟨rfl, hb⟩ := h; exact ⟨rfl, hb⟩)))); simp only [Act.put, List.setIfInBounds_toArray, List.set_cons_succ, List.set_cons_zero])
            repeat (apply wpG_pure; (focus rfl); (focus (intro wg Bg hbg hBg hFg; go_simp; (try go_bits); (first | done | exact ⟨rfl, Below.refl _ _⟩ | rfl))); simp only [Act.put, List.setIfInBounds_toArray, List.set_cons_succ, List.set_cons_zero])
            refine wpG_end (fun wg Bg hbg hBg hFg => ?_)
            go_wp2
            go_ret
            exact ⟨rfl, below_below hw.drew hbg⟩
        · as_aux_lemma =>
            have hne : ((textI b 5000).2.2 == 0) = false := by simp [hT0]
            generalize strB (textI b 5000).1 = t1 at *
            generalize (textI b 5000).2.1 = t2 at *
            generalize (textI b 5000).2.2 = t3 at *
            have tok0 : True := trivial
            go_upto_region 17 with (first
              | (have _t := tok0; go_at_call 10; refine (FB _ _ rb).mono ?_; rintro e wa ⟨va1, rfl, hoa, hba⟩; replace hw := below_below hw hba; replace rb := rb.below hba; clear tok0; have tok1 : True := trivial)
              | (have _t := tok1; go_at_call 18; refine (T _ _ hoa.rd (hT.below hw)).mono ?_; rintro e wx ⟨vx, rfl, hox, hbx⟩; replace hw := below_below hw hbx; replace rb := rb.below hbx; have rx := hox.rd; clear tok1; have tok2 : True := trivial))
            refine region_making 17 (fun _ => []) (fun _ => none) (by kernel_rfl) (by kernel_rfl) ?_ ?_
            · intro i' S' h' e v'
              cases h'
            simp only [List.take_succ_cons, List.take_zero, List.drop_succ_cons, List.drop_zero]
            (apply wpG_pure; (focus rfl); (focus (intro wg Bg hbg hBg hFg; go_simp; (try go_bits); (first | done | exact ⟨rfl, Below.refl _ _⟩ | rfl))); simp only [Act.put, List.setIfInBounds_toArray, List.set_cons_succ, List.set_cons_zero])
            (apply wpG_pure; (focus rfl); (focus (intro wg Bg hbg hBg hFg; go_simp; (try go_bits); (first | done | exact ⟨rfl, Below.refl _ _⟩ | rfl))); simp only [Act.put, List.setIfInBounds_toArray, List.set_cons_succ, List.set_cons_zero])
            (apply wpG_pure; (focus rfl); (focus (intro wg Bg hbg hBg hFg; go_simp; (try go_bits); (first | done | exact ⟨rfl, Below.refl _ _⟩ | rfl))); simp only [Act.put, List.setIfInBounds_toArray, List.set_cons_succ, List.set_cons_zero])
            (apply wpG_pure; (focus rfl); (focus (intro wg Bg hbg hBg hFg; go_simp; (try go_bits); (first | done | exact ⟨rfl, Below.refl _ _⟩ | rfl))); simp only [Act.put, List.setIfInBounds_toArray, List.set_cons_succ, List.set_cons_zero])
            (apply wpG_pure; (focus rfl); (focus (intro wg Bg hbg hBg hFg; go_simp; (try go_bits); (first | done | exact ⟨rfl, Below.refl _ _⟩ | rfl))); simp only [Act.put, List.setIfInBounds_toArray, List.set_cons_succ, List.set_cons_zero])
            (apply wpG_pure; (focus rfl); (focus (intro wg Bg hbg hBg hFg; go_simp; (try go_bits); (first | done | exact ⟨rfl, Below.refl _ _⟩ | rfl))); simp only [Act.put, List.setIfInBounds_toArray, List.set_cons_succ, List.set_cons_zero])
            (apply wpG_pure; (focus rfl); (focus (intro wg Bg hbg hBg hFg; go_simp; (try go_bits); (first | done | exact ⟨rfl, Below.refl _ _⟩ | rfl))); simp only [Act.put, List.setIfInBounds_toArray, List.set_cons_succ, List.set_cons_zero])
            (apply wpG_pure; (focus rfl); (focus (intro wg Bg hbg hBg hFg; go_simp; (try go_bits); (first | done | exact ⟨rfl, Below.refl _ _⟩ | rfl))); simp only [Act.put, List.setIfInBounds_toArray, List.set_cons_succ, List.set_cons_zero])
            (apply wpG_pure; (focus rfl); (focus (intro wg Bg hbg hBg hFg; go_simp; (try go_bits); (first | done | exact ⟨rfl, Below.refl _ _⟩ | rfl))); simp only [Act.put, List.setIfInBounds_toArray, List.set_cons_succ, List.set_cons_zero])
            (apply wpG_pure; (focus rfl); (focus (intro wg Bg hbg hBg hFg; go_simp; (try go_bits); (first | done | exact ⟨rfl, Below.refl _ _⟩ | rfl))); simp only [Act.put, List.setIfInBounds_toArray, List.set_cons_succ, List.set_cons_zero])
            (apply wpG_pure; (focus rfl); (focus (intro wg Bg hbg hBg hFg; go_simp; (try go_bits); (first | done | exact ⟨rfl, Below.refl _ _⟩ | rfl))); simp only [Act.put, List.setIfInBounds_toArray, List.set_cons_succ, List.set_cons_zero])
            (apply wpG_pure; (focus rfl); (focus (intro wg Bg hbg hBg hFg; go_simp; (try go_bits); (first | done | exact ⟨rfl, Below.refl _ _⟩ | rfl))); simp only [Act.put, List.setIfInBounds_toArray, List.set_cons_succ, List.set_cons_zero])
            (apply wpG_pure; (focus rfl); (focus (intro wg Bg hbg hBg hFg; go_simp; (try go_bits); (first | done | exact ⟨rfl, Below.refl _ _⟩ | rfl))); simp only [Act.put, List.setIfInBounds_toArray, List.set_cons_succ, List.set_cons_zero])
            (apply wpG_pure; (focus rfl); (focus (intro wg Bg hbg hBg hFg; go_simp; (try go_bits); (first | done | exact ⟨rfl, Below.refl _ _⟩ | rfl))); simp only [Act.put, List.setIfInBounds_toArray, List.set_cons_succ, List.set_cons_zero])
            (apply wpG_pure; (focus rfl); (focus (intro wg Bg hbg hBg hFg; go_simp; (try refine ⟨by kernel_rfl, ?_⟩); go_at_call 20; exact Calls.mono (wakes1_c _) (fun e w' h => (by obtain ⟨rfl, hb⟩ := h; exact ⟨rfl, hb⟩)))); simp only [Act.put, List.setIfInBounds_toArray, List.set_cons_succ, List.set_cons_zero])
            repeat (apply wpG_pure; (focus rfl); (focus (intro wg Bg hbg hBg hFg; go_simp; (try go_bits); (first | done | exact ⟨rfl, Below.refl _ _⟩ | rfl))); simp only [Act.put, List.setIfInBounds_toArray, List.set_cons_succ, List.set_cons_zero])
            refine wpG_end (fun wg Bg hbg hBg hFg => ?_)
            go_wp2
            go_ret
            exact ⟨rfl, below_below hw.drew hbg⟩
theorem octetBack_w (w : World) (hT : Tabs w) (va : Value) (la : List UInt8) (ha : Rd w va la) (n : Int) (hn : 0 ≤ n ∧ n < 18446744073709551616) (i : Int) (hi : -9223372036854775808 ≤ i ∧ i ≤ 9223372036854775807) (f : Int) (hf : 0 ≤ f ∧ f < 18446744073709551616) (s : ByteArray) (hs : s.size ≤ maxLen) (v : Value) (l : List UInt8) (h : Rd w v l) :
    Calls Tryd.prog 4 #[.agg #[va, .int .u64 n, .int .i64 i, .int .u64 f, .string s], v] w (Ok w) := by
  obtain ⟨n, rfl⟩ := Int.eq_ofNat_of_zero_le hn.1
  obtain ⟨f, rfl⟩ := Int.eq_ofNat_of_zero_le hf.1
  exact octetBack_c w hT va n (by omega) i hi f (by omega) s v l h
end Go.Proofs.YtpjpmgpehpigaabDoor
