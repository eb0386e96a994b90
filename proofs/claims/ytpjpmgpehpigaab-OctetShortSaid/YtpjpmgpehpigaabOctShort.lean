/- OctetShort. -/
import Derived.Test.YtpjpmgpehpigaabOct3
import Derived.Laws.Concat
set_option linter.unusedVariables false
set_option linter.unusedSimpArgs false
namespace Go.Proofs.Ytpjpmgpehpigaab
open Go.RowKit
theorem formU_pos (n : Nat) : 1 ≤ (formU n).length := by
  by_cases h : n < 128
  · rw [formU_lt h]; simp
  · rw [formU_ge (by omega)]; simp
theorem formU_mono (m : Nat) : ∀ n, m ≤ n → (formU m).length ≤ (formU n).length := by
  induction m using Nat.strongRecOn with
  | ind m ih =>
    intro n h
    by_cases hm : m < 128
    · rw [formU_lt hm]; exact formU_pos n
    · rw [formU_ge (show 128 ≤ m by omega), formU_ge (show 128 ≤ n by omega)]
      have := ih (m / 128) (by omega) (n / 128) (by omega)
      simp; omega
theorem pre_err (n : Nat) : ∀ k i m, k < (formU n).length → i + k ≤ 9 → numG ((formU n).take k) i m = (0, 0, 2) := by
  induction n using Nat.strongRecOn with
  | ind n ih =>
    intro k i m hk hi
    cases k with
    | zero => rfl
    | succ k =>
      by_cases hn : n < 128
      · rw [formU_lt hn] at hk; simp at hk
      · rw [formU_ge (by omega)] at hk ⊢
        rw [List.take_succ_cons]
        unfold numG
        have h1 := loB_nat n
        rw [if_neg (by omega), if_neg (by omega)]
        exact ih (n / 128) (by omega) k (i + 1) _ (by simpa using hk) (by omega)
def Sw (w : World) (v0 v1 : Value) (wx : World) : Prop := ∃ A B : Nat, A ≤ B ∧ B < 18446744073709551616 ∧ v0 = .int .u64 (A : Int) ∧ v1 = .int .u64 (B : Int) ∧ w = wx
def CnRel (w : World) (A : Nat) (n m : Value) (wr : World) : Prop := ∃ c k : Nat, n = .int .i64 (c : Int) ∧ m = .int .u64 (k : Int) ∧ k ≤ A ∧ c ≤ 20 ∧ c + (formU k).length = (formU A).length + 1 ∧ w = wr
def ShRel (w : World) (x : List UInt8) (v7 i : Value) (wr : World) : Prop := ∃ j : Nat, j ≤ x.length ∧ i = .int .i64 (j : Int) ∧ Rd wr v7 x ∧ Below w.heap.size w wr
set_option maxRecDepth 100000 in
set_option maxHeartbeats 1600000 in
theorem octetShort_w (w : World) (a0 : Int) (b0 : 0 ≤ a0 ∧ a0 < 18446744073709551616) (a1 : Int) (b1 : 0 ≤ a1 ∧ a1 < 18446744073709551616) (v : Value) (l : List UInt8) (h : Rd w v l) :
    Calls Try.prog 3 #[.int .u64 a0, .int .u64 a1, v] w (Ok w) := by
  obtain ⟨a, rfl⟩ := Int.eq_ofNat_of_zero_le b0.1
  obtain ⟨b, rfl⟩ := Int.eq_ofNat_of_zero_le b1.1
  have ha : a < 18446744073709551616 := by omega
  have hb : b < 18446744073709551616 := by omega
  clear b0 b1
  go_enter Try.func3, Try.ntmps3
  go_upto_if 19 with fail
  go_cut [0, 1] (fun v0 v1 wx => Sw w v0 v1 wx)
  case first =>
    by_cases hab : b < a
    · have q : (b : Int) < a := by omega
      go_wp2
      all_goals go_meet
      exact ⟨b, a, by omega, ha, rfl, rfl, rfl⟩
    · have q : ¬ (b : Int) < a := by omega
      go_wp2
      all_goals go_meet
      exact ⟨a, b, by omega, hb, rfl, rfl, rfl⟩
  case rest =>
  obtain ⟨A, B, hAB, hB, rfl, rfl, rfl⟩ := hcut
  clear ha hb
  have PA := fun w1 => putuint_c (.slice none 0 0) [] A w1 (Rd.nil w1) (by simp) (by omega)
  have PB := fun w1 => putuint_c (.slice none 0 0) [] B w1 (Rd.nil w1) (by simp) (by omega)
  have P2 := fun v1 p w1 (hr : Rd w1 v1 p) (hp : p.length ≤ 1000) => putuint_c v1 p A w1 hr (by omega) (by omega)
  have hlA := formU_len64 A (by omega)
  have hlB := formU_len64 B (by omega)
  have hmono := formU_mono A B hAB
  have hpos := formU_pos A
  have hpre := fun k (hk : k < (formU A).length) => pre_err A k 0 0 hk (by omega)
  have hCn : ∀ k, k < 128 → (formU k).length = 1 := fun k hk => by rw [formU_lt hk]; rfl
  have hCn2 : ∀ k, 128 ≤ k → (formU k).length = (formU (k / 128)).length + 1 := fun k hk => by rw [formU_ge hk]; rfl
  unfold Gives8 at PA PB
  simp only [List.nil_append] at PA PB
  have c0 : True := trivial
  go_wp2_with (first
    | (have _t := c0; go_at_call 7; refine (PA _).mono ?_; rintro e w1 ⟨v7, rfl, ho7, hb1⟩; clear c0; have c1 : True := trivial)
    | (have _t := c1; go_at_call 7; refine (PB _).mono ?_; rintro e w2 ⟨v8, rfl, ho8, hb2⟩; have hw2 := below_below hb1 hb2; have h7 := ho7.rd.below hb2; have h8 := ho8.rd; clear c1; have c2 : True := trivial))
  go_loopw [9, 10] (fun n m wr => CnRel w2 A n m wr) (fun _ m _ => (intOf m).toNat)
  case atStart => exact ⟨1, A, rfl, rfl, Nat.le_refl _, by omega, by omega, rfl⟩
  case round =>
    obtain ⟨c, k, rfl, rfl, hkA, hc20, hc, rfl⟩ := hrel
    by_cases hk : k < 128
    · have q : ¬ (128 : Int) ≤ k := by omega
      have h1 := hCn k hk
      obtain rfl : c = (formU A).length := by omega
      have U := fun k (hk : k < (formU A).length) v1 w1 hr => uint_c v1 ((formU A).take k) w1 hr (by simp; omega)
      have hU : ∀ k, k < (formU A).length → uintI ((formU A).take k) = (0, [], 2) := fun k hk => by
        have : numI ((formU A).take k) = (0, 0, 2) := hpre k hk
        unfold uintI; rw [this]; rfl
      clear PA PB hpre hCn hCn2 h1 hkA hc hc20 ho7 ho8 hb1 hb2
      generalize formU A = X at *
      generalize formU B = Y at *
      obtain ⟨A7, c7, rfl, _, _, _⟩ := h7.open
      obtain ⟨A8, c8, rfl, _, _, _⟩ := h8.open
      have q2 : ¬ (X.length : Int) > Y.length := by omega
      have q3 : ¬ (Y.length : Int) > 10 := by omega
      have q4 : ¬ (Y.length : Int) < X.length := by omega
      have q5 : ¬ (10 : Int) < Y.length := by omega
      go_wp2_with fail
      go_loopw [11, 12, 13, 14] (fun i _ _ _ wr' => ShRel w X (.slice A7 X.length c7) i wr') (fun i _ _ _ _ => X.length - (intOf i).toNat)
      case atStart => exact ⟨0, by omega, rfl, h7, hw2⟩
      case round =>
        obtain ⟨j, hj, rfl, hr, hbr⟩ := hrel
        have hbs := hbr.size
        by_cases hjx : j < X.length
        · have q6 : (j : Int) < X.length := by omega
          have hA := (Below.refl wr.heap.size wr).alloc (Nat.le_refl _) (.cells #[] 5)
          have hrA := hr.below hA
          replace U := U j hjx
          rw [hU j hjx] at U
          unfold GivesU at U
          have d0 : True := trivial
          go_wp2_with (first
            | (have _t := d0; (with_reducible refine G_slice ?_; refine L8_slice_h st8 (hi := j) (by with_unfolding_all (conv => lhs; whnf)) (by assumption) (by with_unfolding_all (conv => lhs; whnf)) (by omega) (by omega) ?_); intro vs hvs hvb; clear d0; have d1 : True := trivial)
            | (have _t := d1; (at_builtin; refine wpList_app8 rfl _ _ rfl st8 (by with_unfolding_all (conv => lhs; whnf)) (Own8.empty wr wr.heap.size _ (Nat.le_refl _)) rfl (Rd.src hvs Try.underlying23) (by first | omega | (simp; omega)) (by first | (simp; done) | omega | (simp; omega)) ?_); intro v3 w3 ho3 hg3 hb3; have hw3 := app_step0 (below_below hbr hA) (Own8.empty wr wr.heap.size 5 (Nat.le_refl _)) hbs hg3; have hr3 := rd_app hr hg3 (fun hn e => Nat.lt_irrefl _ (hr.lt wr.heap.size e hn)); clear d1; have d2 : True := trivial)
            | (have _t := d2; go_at_call 8; refine (U _ _ (by simpa using ho3.rd)).mono ?_; rintro e w4 ⟨v4, rfl, ho4, hb4⟩; clear d2; have d3 : True := trivial))
          refine ⟨⟨j + 1, by omega, by go_num, hr3.below hb4, below_below hw3.1 hb4⟩, ?_⟩
          simp only [intOf]
          omega
        · have q6 : ¬ (j : Int) < X.length := by omega
          clear U hU
          have hT := fun w1 (hb : Below w.heap.size w w1) => twin_c v l 100 w1 (h.below hb) (by omega) (by omega)
          rw [show (100 : Int).toNat = 100 from rfl] at hT
          have hpl : (l.take 100).length ≤ 100 := by simp; omega
          generalize l.take 100 = p at *
          have z1 : (strB p).size = p.length := rfl
          have z2 : (strB X).size = X.length := rfl
          have hcat : (strB p ++ strB X).toList = (strB (p ++ X)).toList := by unfold strB; rw [ByteArray.mk_append_mk]
          have d0 : True := trivial
          go_wp2_with (first
            | (have _t := d0; go_at_call 9; refine (hT _ hbr).mono ?_; rintro e w3 ⟨v3, rfl, ho3, hb3⟩; have hw3 := below_below hbr hb3; have p3 := ho3.rd; have x3 := hr.below hb3; have hA := (Below.refl w3.heap.size w3).alloc (Nat.le_refl _) (.cells #[] 5); have p3a := p3.below hA; clear d0; have d1 : True := trivial)
            | (have _t := d1; (at_builtin; refine wpList_app8 rfl _ _ rfl st8 (by with_unfolding_all (conv => lhs; whnf)) (Own8.empty w3 w3.heap.size _ (Nat.le_refl _)) rfl (Rd.src p3a Try.underlying23) (by first | omega | (simp; omega)) (by first | (simp; done) | omega | (simp; omega)) ?_); intro v4 w4 ho4 hg4 hb4; have hw4 := app_step0 (below_below hw3 hA) (Own8.empty w3 w3.heap.size 5 (Nat.le_refl _)) hw3.size hg4; have p4 := rd_app p3 hg4 (fun hn e => Nat.lt_irrefl _ (p3.lt w3.heap.size e hn)); have x4 := rd_app x3 hg4 (fun hn e => Nat.lt_irrefl _ (x3.lt w3.heap.size e hn)); clear d1; have d2 : True := trivial)
            | (have _t := d2; go_at_call 7; refine (P2 _ p _ (by simpa using ho4.rd) (by omega)).mono ?_; rintro e w5 ⟨v5, rfl, ho5, hb5⟩; have hw5 := below_below hw4.1 hb5; have cz := convert_str ho5.rd; have cp := convert_str (p4.below hb5); have cx := convert_str (x4.below hb5); clear d2; have d3 : True := trivial)
            | (have _t := d3; go_at_call 10; refine (wakes1_c _).mono ?_; rintro e w6 ⟨rfl, hb6⟩; clear d3; have d4 : True := trivial))
          go_ret
          exact ⟨rfl, below_below hw5 hb6⟩
    · have q : (128 : Int) ≤ k := by omega
      have h1 := hCn2 k (by omega)
      go_wp2
      refine ⟨⟨c + 1, k / 128, by go_num, by go_num, by omega, by omega, by omega, rfl⟩, ?_⟩
      simp only [intOf]
      omega
end Go.Proofs.Ytpjpmgpehpigaab
