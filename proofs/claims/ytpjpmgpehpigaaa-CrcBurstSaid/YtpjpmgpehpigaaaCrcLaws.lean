/- The laws of the check sum: what each Go law answers. -/
import Derived.Test.YtpjpmgpehpigaaaCrc
import Derived.Test.YtpjpmgpehpigaaaRow
import Derived.Lib.SlBytesConst
set_option linter.unusedVariables false
namespace Go.Proofs.Ytpjpmgpehpigaaa
open Go.RowKit

theorem few9_c (v : Value) (l : List UInt8) (w : World) (h : Rd w v l) :
    Calls Try.prog 16 #[v] w (Gives8 5 w (l.take 1000)) := by
  go_enter Try.func16, Try.ntmps16
  go_wp2_with (refine (twin_c _ l 1000 _ h (by omega) (by omega)).mono ?_; rintro e w' ⟨v', rfl, ho, hb⟩)
  go_ret
  exact ⟨v', rfl, ho, hb⟩

theorem wakes9_pure : moreN 0 [49, 50, 51, 52, 53, 54, 55, 56, 57] = 3421780262 := by decide +kernel
theorem wakes9_nil : moreN 0 [] = 0 := by decide +kernel
theorem wakes9_c (w : World) : Calls Try.prog 20 #[] w (Ok w) := by
  have kc := fun (w : World) (C : Array Value) (n c : Nat) => Lib.run_convert_bytes_const (P := Try.prog) w 23 5 C n c Try.underlying23 Try.underlying5
  go_enter Try.func20, Try.ntmps20
  go_wp2_with fail
  refine (sum_c _ [49, 50, 51, 52, 53, 54, 55, 56, 57] _ (Rd.lit _ _ _ _ rfl rfl (by simp) (by unfold maxLen; omega))).mono ?_
  rintro e w' ⟨rfl, rfl⟩
  rw [wakes9_pure]
  go_wp2_with fail
  refine (sum_c _ [] _ (Rd.nil _)).mono ?_
  rintro e w' ⟨rfl, rfl⟩
  rw [wakes9_nil]
  go_wp2
  go_ret
  exact ⟨rfl, (Below.refl _ _).alloc (Nat.le_refl _) _⟩
set_option maxHeartbeats 400000 in
theorem crcBoth_c (s : Nat) (v : Value) (l : List UInt8) (w : World) (hs : s < 4294967296) (h : Rd w v l) :
    Calls Try.prog 3 #[.int .u32 s, v] w (Ok w) := by
  go_enter Try.func3, Try.ntmps3
  go_wp2_with fail
  refine (few9_c _ l _ h).mono ?_
  rintro e w1 ⟨v1, rfl, ho1, hb1⟩
  go_wp2_with fail
  refine (sum_c _ _ _ ho1.rd).mono ?_
  rintro e w' ⟨rfl, rfl⟩
  go_wp2_with fail
  refine (few9_c _ l _ (h.below hb1)).mono ?_
  rintro e w2 ⟨v2, rfl, ho2, hb2⟩
  go_wp2_with fail
  refine (rsum_c _ _ _ ho2.rd).mono ?_
  rintro e w' ⟨rfl, rfl⟩
  go_wp2_with fail
  have hb12 := below_below hb1 hb2
  refine (few9_c _ l _ (h.below hb12)).mono ?_
  rintro e w3 ⟨v3, rfl, ho3, hb3⟩
  go_wp2_with fail
  refine (more_c s _ _ _ hs ho3.rd).mono ?_
  rintro e w' ⟨rfl, rfl⟩
  go_wp2_with fail
  have hb13 := below_below hb12 hb3
  refine (few9_c _ l _ (h.below hb13)).mono ?_
  rintro e w4 ⟨v4, rfl, ho4, hb4⟩
  go_wp2_with fail
  refine (rmore_c s _ _ _ hs ho4.rd).mono ?_
  rintro e w' ⟨rfl, rfl⟩
  go_wp2_with fail
  have hb14 := below_below hb13 hb4
  refine (wakes9_c _).mono ?_
  rintro e w5 ⟨rfl, hb5⟩
  go_wp2
  go_ret
  exact ⟨rfl, below_below hb14 hb5⟩
theorem crcBoth_w (w : World) (a0 : Int) (h0 : 0 ≤ a0 ∧ a0 < 4294967296) (v : Value) (l : List UInt8) (h : Rd w v l) :
    Calls Try.prog 3 #[.int .u32 a0, v] w (Ok w) := by
  obtain ⟨s, rfl⟩ := Int.eq_ofNat_of_zero_le h0.1
  exact crcBoth_c s v l w (by omega) h
def cutsz (z : Int) : Nat := ((z.tmod 20 + 20) % 20).toNat
theorem tmod20 (z : Int) : -19 ≤ z.tmod 20 ∧ z.tmod 20 ≤ 19 := by
  have h1 := Int.tmod_lt_of_pos z (show (0:Int) < 20 by omega)
  have h2 := Int.lt_tmod_of_pos z (show (0:Int) < 20 by omega)
  omega
theorem moreN_app (a b : List UInt8) : moreN (moreN 0 a) b = moreN 0 (a ++ b) := by
  unfold moreN
  have h := foldN_lt (r := 4294967295 - 0) a (by omega)
  have e : 4294967295 - (4294967295 - foldN (4294967295 - 0) a) = foldN (4294967295 - 0) a := by omega
  rw [e]
  unfold foldN
  rw [List.foldl_append]
theorem moreN_lt (s : Nat) (a : List UInt8) : moreN s a < 4294967296 := by unfold moreN; omega
theorem moreN_nil (s : Nat) (h : s < 4294967296) : moreN s [] = s := by unfold moreN foldN; simp; omega
def CutsRel (w : World) (X : List UInt8) (xv cv : Value) (lc : List Int) (s r i : Value) (wr : World) : Prop :=
  ∃ (j : Nat) (pre rest : List UInt8), j ≤ lc.length ∧ i = .int .i64 j ∧ pre ++ rest = X ∧ s = .int .u32 ((moreN 0 pre : Nat) : Int) ∧ Rd wr r rest ∧ Rd wr xv X ∧ RdI wr cv lc ∧ Below w.heap.size w wr
set_option maxHeartbeats 800000 in
theorem crcCuts_w (w : World) (v : Value) (l : List UInt8) (h : Rd w v l) (cv : Value) (lc : List Int) (hcv : RdI w cv lc) :
    Calls Try.prog 4 #[v, cv] w (Ok w) := by
  have hcl := hcv.1.len_le
  go_enter Try.func4, Try.ntmps4
  go_wp2_with fail
  refine (few9_c _ l _ h).mono ?_
  rintro e w1 ⟨v1, rfl, ho1, hb1⟩
  go_wp2_with fail
  refine (few9_c _ l _ (h.below hb1)).mono ?_
  rintro e w2 ⟨v2, rfl, ho2, hb2⟩
  have hb12 := below_below hb1 hb2
  have hX := ho1.rd.below hb2
  have hr0 := ho2.rd
  have hc2 := hcv.below hb12
  generalize l.take 1000 = X at hX hr0
  clear ho1 ho2
  have z0 := moreN_nil 0 (by omega)
  go_wp2_with fail
  clear z0
  go_loopw [6, 7, 8] (fun s r i wr => CutsRel w X v1 cv lc s r i wr) (fun _ _ i _ => lc.length - (intOf i).toNat)
  case atStart => exact ⟨0, [], X, by omega, rfl, rfl, rfl, hr0, hX, hc2, hb12⟩
  case round =>
    obtain ⟨j, pre, rest, hj, rfl, hpr, rfl, hR, hXr, hcr, hbr⟩ := hrel
    by_cases hlt : j < lc.length ∧ j < 50
    · obtain ⟨hlt1, hlt2⟩ := hlt
      have hci := hcr.1
      have hz := tmod20 (lc.getD j 0)
      have hzr := hcr.2 (lc.getD j 0) (by rw [List.getD_eq_getElem?_getD, List.getElem?_eq_getElem hlt1]; exact List.getElem_mem hlt1)
      have hq : ((lc.getD j 0).tmod 20 + 20) % 20 = ((cutsz (lc.getD j 0) : Nat) : Int) := by unfold cutsz; omega
      have hq2 : cutsz (lc.getD j 0) < 20 := by unfold cutsz; omega
      have hg : (ivs lc)[j * 1 + 0]? = some (.int .i64 (lc.getD j 0)) := by simp [ivs, List.getElem?_eq_getElem hlt1, List.getD_eq_getElem?_getD]
      generalize lc.getD j 0 = z at hz hzr hq hq2 hg
      generalize cutsz z = q at hq hq2
      have fin : ∀ k, k ≤ rest.length → ∃ pre', pre' ++ rest.drop k = X ∧ moreN (moreN 0 pre) (rest.take k) = moreN 0 pre' := fun k hk => ⟨pre ++ rest.take k, by rw [List.append_assoc, List.take_append_drop]; exact hpr, moreN_app ..⟩
      have hml := moreN_lt 0 pre
      by_cases hqr : rest.length < q
      · go_wp2_with (first | (with_reducible refine G_len ?_; refine L8_len Try.underlying23 (by with_unfolding_all (conv => lhs; whnf)) (by assumption) ?_) | (with_reducible refine G_len ?_; refine L_len Try.underlying29 (by with_unfolding_all (conv => lhs; whnf)) (by assumption) ?_) | ((with_reducible refine G_index ?_; refine L_index sti (i := j) (by with_unfolding_all (conv => lhs; whnf)) (by assumption) (by with_unfolding_all (conv => lhs; whnf)) (by omega) ?_); intro b o hbo hcell; replace hcell := (hcell 0 (by omega)).trans hg; rw [Nat.add_zero] at hcell) | ((with_reducible refine G_slice ?_; refine L8_slice_h st8 (hi := rest.length) (by with_unfolding_all (conv => lhs; whnf)) (by assumption) (by with_unfolding_all (conv => lhs; whnf)) (by omega) ?_); intro v' hv' hbv') | ((with_reducible refine G_slice ?_; refine L8_slice_l st8 (lo := rest.length) (by with_unfolding_all (conv => lhs; whnf)) (by assumption) (by with_unfolding_all (conv => lhs; whnf)) (by omega) ?_); intro v'' hv'' hbv'') | ((at_builtin; refine wpList_app8 rfl _ _ rfl st8 rfl (Own8.empty wr wr.heap.size _ (Nat.le_refl _)) rfl (Rd.src (Rd.below hv' ((Below.refl _ _).alloc (Nat.le_refl _) _)) Try.underlying23) (by simp; omega) (by simp) ?_); intro va wa hoa hga hba) | (go_at_call 18; refine (more_c _ _ _ _ hml hoa.rd).mono ?_; rintro e w' ⟨rfl, rfl⟩))
        have hbn := grown_fresh hga (.inl rfl)
        obtain ⟨pre', f1, f2⟩ := fin rest.length (by omega)
        refine ⟨⟨j + 1, pre', rest.drop rest.length, by omega, by go_num, f1, by first | rw [f2] | (rw [List.take_length] at f2; rw [f2]), hv''.below hbn, hXr.below hbn, hcr.below hbn, below_below hbr hbn⟩, by simp [intOf]; omega⟩
      · go_wp2_with (first | (with_reducible refine G_len ?_; refine L8_len Try.underlying23 (by with_unfolding_all (conv => lhs; whnf)) (by assumption) ?_) | (with_reducible refine G_len ?_; refine L_len Try.underlying29 (by with_unfolding_all (conv => lhs; whnf)) (by assumption) ?_) | ((with_reducible refine G_index ?_; refine L_index sti (i := j) (by with_unfolding_all (conv => lhs; whnf)) (by assumption) (by with_unfolding_all (conv => lhs; whnf)) (by omega) ?_); intro b o hbo hcell; replace hcell := (hcell 0 (by omega)).trans hg; rw [Nat.add_zero] at hcell) | ((with_reducible refine G_slice ?_; refine L8_slice_h st8 (hi := q) (by with_unfolding_all (conv => lhs; whnf)) (by assumption) (by with_unfolding_all (conv => lhs; whnf)) (by omega) ?_); intro v' hv' hbv') | ((with_reducible refine G_slice ?_; refine L8_slice_l st8 (lo := q) (by with_unfolding_all (conv => lhs; whnf)) (by assumption) (by with_unfolding_all (conv => lhs; whnf)) (by omega) ?_); intro v'' hv'' hbv'') | ((at_builtin; refine wpList_app8 rfl _ _ rfl st8 rfl (Own8.empty wr wr.heap.size _ (Nat.le_refl _)) rfl (Rd.src (Rd.below hv' ((Below.refl _ _).alloc (Nat.le_refl _) _)) Try.underlying23) (by simp; omega) (by simp) ?_); intro va wa hoa hga hba) | (go_at_call 18; refine (more_c _ _ _ _ hml hoa.rd).mono ?_; rintro e w' ⟨rfl, rfl⟩))
        have hbn := grown_fresh hga (.inl rfl)
        obtain ⟨pre', f1, f2⟩ := fin q (by omega)
        refine ⟨⟨j + 1, pre', rest.drop q, by omega, by go_num, f1, by first | rw [f2] | (rw [List.take_length] at f2; rw [f2]), hv''.below hbn, hXr.below hbn, hcr.below hbn, below_below hbr hbn⟩, by simp [intOf]; omega⟩
    · have hml := moreN_lt 0 pre
      have hm2 : (moreN 0 X : Nat) = moreN (moreN 0 pre) rest := by rw [← hpr, moreN_app]
      have HM := Go.Lib.hid hm2
      clear hm2
      have hci := hcr.1
      have hm3 := moreN_nil (moreN 0 pre) hml
      have hor : j < lc.length ∧ 50 ≤ j ∨ lc.length ≤ j := by omega
      clear hlt
      rcases hor with ⟨hlt1, hlt2⟩ | hlt1
      all_goals
        go_wp2_with (first | (with_reducible refine G_len ?_; refine L_len Try.underlying29 (by with_unfolding_all (conv => lhs; whnf)) (by assumption) ?_))
        refine (more_c _ _ _ _ hml hR).mono ?_
        rintro e w' ⟨rfl, rfl⟩
        go_wp2_with fail
        refine (sum_c _ _ _ hXr).mono ?_
        rintro e w' ⟨rfl, rfl⟩
        rw [HM.out]
        go_wp2_with fail
        refine (more_c _ _ [] _ hml (Rd.nil _)).mono ?_
        rintro e w' ⟨rfl, rfl⟩
        go_wp2_with fail
        refine (wakes9_c _).mono ?_
        rintro e w5 ⟨rfl, hb5⟩
        go_wp2
        go_ret
        exact ⟨rfl, below_below hbr hb5⟩
end Go.Proofs.Ytpjpmgpehpigaaa
