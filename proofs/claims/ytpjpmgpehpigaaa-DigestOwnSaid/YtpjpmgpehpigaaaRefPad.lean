/- The reference's padding. -/
import Derived.Test.YtpjpmgpehpigaaaSha
set_option linter.unusedVariables false
set_option linter.unusedSimpArgs false
namespace Go.Proofs.Ytpjpmgpehpigaaa
open Go.RowKit
def PZRel (w : World) (l : List UInt8) (v : Value) (wr : World) : Prop :=
  ∃ j : Nat, j ≤ zc l.length ∧ Own8 wr w.heap.size 5 v (l ++ [128] ++ List.replicate j 0) ∧ Below w.heap.size w wr
def PLRel (w : World) (l : List UInt8) (v s : Value) (wr : World) : Prop :=
  ∃ j : Nat, j ≤ 8 ∧ s = .int .i64 (7 - (j : Int)) ∧ Own8 wr w.heap.size 5 v (l ++ [128] ++ List.replicate (zc l.length) 0 ++ lenBs l.length j) ∧ Below w.heap.size w wr
set_option maxRecDepth 100000 in
set_option maxHeartbeats 1600000 in
theorem refpad_c (v : Value) (l : List UInt8) (w : World) (h : Rd w v l) (hl : l.length ≤ 1000000) :
    Calls Try.prog 43 #[v] w (Gives8 5 w (padI l)) := by
  have n0 : (0 : Int) ≤ l.length := by omega
  have n1 : (l.length : Int) ≤ 1000000 := by omega
  have hX : ((l.length : Int) * 8) % 18446744073709551616 = 8 * l.length := by omega
  have hba := (Below.refl w.heap.size w).alloc (Nat.le_refl _) (.cells #[] 5)
  have h1 := h.below hba
  have tok : True := trivial
  generalize hS : padI l = R
  go_enter Try.func43, Try.ntmps43
  go_wp2_with (first | (with_reducible refine G_len ?_; refine L8_len Try.underlying23 (by with_unfolding_all (conv => lhs; whnf)) (by assumption) ?_) | (have _t := tok; (at_builtin; refine wpList_app8 rfl _ _ rfl st8 rfl (Own8.empty w w.heap.size _ (Nat.le_refl _)) rfl (Rd.src h1 Try.underlying23) (by simp; omega) (by first | (simp; done) | omega | (simp; omega)) ?_); intro v1 w1 ho1 hg1 hb1; have hs1 : w.heap.size + 1 ≤ w1.heap.size := (by simpa using hg1.size); clear tok) | ((at_builtin; refine wpList_app8 rfl _ _ rfl st8 rfl (Own8.below ho1 ((Below.refl _ _).alloc (Nat.le_refl _) _)) rfl (Rd.src (Rd.lit _ _ _ [128] rfl rfl (by omega) (by decide)) Try.underlying23) (by simp; omega) (by first | (simp; done) | omega | (simp; omega)) ?_); intro v2 w2 ho2 hg2 hb2))
  have hw1 := app_step0 hba (Own8.empty w w.heap.size 5 (Nat.le_refl _)) (by omega) hg1
  have hw2 := app_step hw1.1 ho1 (by omega) hg2
  have hbw := hw2.1
  simp only [List.nil_append] at ho2
  have h0 := h
  clear h hw1 hw2 hg2 hb2 ho1 hg1 hb1 hba h1 hs1 _t
  go_loopw [3] (fun v wr => PZRel w l v wr) (fun v _ => l.length + 1 + zc l.length - slen v)
  case atStart => exact ⟨0, by omega, by simpa using ho2, hbw⟩
  case round =>
    clear ho2 hbw
    obtain ⟨j, hj, ho, hbr⟩ := hrel
    have hR := ho.rd
    have hln : (l ++ [128] ++ List.replicate j 0).length = l.length + 1 + j := by simp; omega
    have hzb : zc l.length < 64 := by unfold zc; omega
    have hbs := hbr.size
    by_cases hlt : j < zc l.length
    · have hne := zc_ne l.length j hlt
      have m1 : (((l.length + 1 + j : Nat) : Int) % 64 = 56) = False := by simp only [eq_iff_iff, iff_false]; omega
      go_wp2_with (first | ((with_reducible refine G_len ?_; refine L8_len Try.underlying23 (by with_unfolding_all (conv => lhs; whnf)) (by assumption) ?_); rw [hln]) | ((at_builtin; refine wpList_app8 rfl _ _ rfl st8 rfl (Own8.below ho ((Below.refl _ _).alloc (Nat.le_refl _) _)) rfl (Rd.src (Rd.lit _ _ _ [0] rfl rfl (by omega) (by decide)) Try.underlying23) (by simp; omega) (by first | (simp; done) | omega | (simp; omega)) ?_); intro v3 w3 ho3 hg3 hb3))
      have hw := app_step hbr ho (by omega) hg3
      have e : l ++ [128] ++ List.replicate j 0 ++ [0] = l ++ [128] ++ List.replicate (j + 1) 0 := by rw [List.replicate_succ' (n := j)]; simp
      rw [e] at ho3
      refine ⟨⟨j + 1, by omega, ho3, hw.1⟩, ?_⟩
      show l.length + 1 + zc l.length - slen v3 < l.length + 1 + zc l.length - slen _
      rw [hR.slen, ho3.rd.slen]; simp; omega
    · obtain rfl : j = zc l.length := by omega
      have heq := zc_eq l.length
      generalize hM : l.length + 1 + zc l.length = M at *
      have m1 : ((M : Int) % 64 = 56) = True := by simp only [eq_iff_iff, iff_true]; omega
      have m2 : ((M : Int) % 64 != 56) = false := by simp [m1]
      have hlR := Rd.below h0 hbr
      go_wp2_with (first | ((with_reducible refine G_len ?_; refine L8_len Try.underlying23 (by with_unfolding_all (conv => lhs; whnf)) (by assumption) ?_); rw [hln]) | (with_reducible refine G_len ?_; refine L8_len Try.underlying23 (by with_unfolding_all (conv => lhs; whnf)) (by assumption) ?_))
      go_loopw [3, 5] (fun v s wr => PLRel w l v s wr) (fun _ s _ => (intOf s + 1).toNat)
      case atStart => exact ⟨0, by omega, rfl, by simpa [lenBs] using ho, hbr⟩
      case round =>
        clear ho hbr hR hlR
        obtain ⟨i, hi, rfl, ho, hbr⟩ := hrel
        have hbs := hbr.size
        by_cases hlt : i < 8
        · have p0 : (0 : Int) ≤ 7 - (i : Int) := by omega
          have p1 : (0 : Int) ≤ 8 * (7 - (i : Int)) := by omega
          have p2 : 8 * (7 - (i : Int)) ≤ 56 := by omega
          have p3 : (8 * (7 - (i : Int))).toNat = 56 - 8 * i := by omega
          have hlb : (lenBs l.length i).length = i := by simp [lenBs]
          have hB := Go.Lib.hid (lenB_int l.length i hl)
          go_wp2_with (first | ((at_builtin; refine wpList_app8 rfl _ _ rfl st8 rfl (Own8.below ho ((Below.refl _ _).alloc (Nat.le_refl _) _)) rfl (Rd.src (Rd.lit _ _ _ [lenB l.length i] (by rw [hB.out]; rfl) rfl (by omega) (by decide)) Try.underlying23) (by simp; omega) (by first | (simp; done) | omega | (simp; omega)) ?_); intro v3 w3 ho3 hg3 hb3))
          have hw := app_step hbr ho (by omega) hg3
          rw [List.append_assoc, ← lenBs_succ] at ho3
          refine ⟨⟨i + 1, by omega, by go_num, ho3, hw.1⟩, ?_⟩
          show (intOf (.int .i64 _) + 1).toNat < (intOf (.int .i64 _) + 1).toNat
          simp only [intOf]; omega
        · obtain rfl : i = 8 := by omega
          have e : l ++ [128] ++ List.replicate (zc l.length) 0 ++ lenBs l.length 8 = padI l := rfl
          rw [e, hS] at ho
          have nz : ¬ (0 : Int) ≤ 7 - ((8 : Nat) : Int) := by decide
          clear m1 m2 heq
          go_wp2
          go_ret
          exact ⟨_, rfl, ho, hbr⟩
end Go.Proofs.Ytpjpmgpehpigaaa
