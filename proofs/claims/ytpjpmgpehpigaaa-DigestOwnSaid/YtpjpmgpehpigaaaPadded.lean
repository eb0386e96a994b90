/- digest.padded: the key in a block, each byte turned. -/
import Derived.Test.YtpjpmgpehpigaaaSha
import Derived.Test.YtpjpmgpehpigaaaDigXor
import Derived.Test.YtpjpmgpehpigaaaCopy
set_option linter.unusedVariables false
set_option linter.unusedSimpArgs false
namespace Go.Proofs.Ytpjpmgpehpigaaa
open Go.RowKit
def keyB (k : List UInt8) : List UInt8 := if 64 < k.length then shaI k else k
theorem keyB_len (k : List UInt8) : (keyB k).length ≤ 64 := by
  unfold keyB
  split
  · rw [shaI_len]; omega
  · omega
def padX (k : List UInt8) (x : UInt8) : List UInt8 := (over (List.replicate 64 0) (keyB k)).map (· ^^^ x)
theorem padX_len (k : List UInt8) (x : UInt8) : (padX k x).length = 64 := by simp [padX, over_len]
def padZ (l : List UInt8) (x : UInt8) (j : Nat) : List UInt8 := (l.take j).map (· ^^^ x) ++ l.drop j
theorem padZ_len (l : List UInt8) (x : UInt8) (j : Nat) : (padZ l x j).length = l.length := by simp [padZ]; omega
theorem padZ_get (l : List UInt8) (x : UInt8) (j : Nat) (h : j < l.length) : bt (padZ l x j) j = bt l j := by
  unfold bt padZ
  have h1 : ((l.take j).map (· ^^^ x)).length = j := by simp; omega
  rw [List.getD_eq_getElem?_getD, List.getElem?_append_right (by omega), h1]
  simp [List.getD_eq_getElem?_getD]
theorem padZ_set (l : List UInt8) (x : UInt8) (j : Nat) (h : j < l.length) : (padZ l x j).set j (l.getD j 0 ^^^ x) = padZ l x (j + 1) := by
  unfold padZ
  have h1 : ((l.take j).map (· ^^^ x)).length = j := by simp; omega
  have h2 : l.drop j = l[j] :: l.drop (j + 1) := List.drop_eq_getElem_cons h
  have h3 : (l.take (j + 1)).map (· ^^^ x) = (l.take j).map (· ^^^ x) ++ [l.getD j 0 ^^^ x] := by
    rw [List.take_add_one, List.map_append, List.getElem?_eq_getElem h]
    congr 1
    simp [List.getD_eq_getElem?_getD, h]
  rw [h3, h2, List.set_append_right _ _ (by omega), h1, Nat.sub_self, List.set_cons_zero, List.append_assoc]
  rfl
def PadK (w : World) (kb : List UInt8) (v : Value) (wx : World) : Prop := Rd wx v kb ∧ Below w.heap.size w wx
def PadRel (w : World) (u : Value) (l : List UInt8) (x : UInt8) (i : Value) (wr : World) : Prop :=
  ∃ j : Nat, j ≤ l.length ∧ i = .int .i64 j ∧ Own8 wr w.heap.size 5 u (padZ l x j) ∧ Below w.heap.size w wr
theorem Blk.rd {w : World} {g : Nat} {T : TypeId} {l : List UInt8} (h : Blk w g T (bvs l)) (hl : l.length ≤ 1000000) {n c : Nat} (hn : n = l.length) (hc : c = l.length) : Rd w (.slice (some ⟨g, 0, none⟩) n c) l := by
  subst hn hc
  refine Rd.mk rfl (Nat.le_refl _) (by unfold maxLen; omega) fun _ => ⟨g, 0, rfl, fun j hj => ?_⟩
  rw [Nat.zero_add, h.cell, bvs_get l j hj]
set_option maxRecDepth 100000 in
set_option maxHeartbeats 800000 in
theorem padded_c (v : Value) (k : List UInt8) (x : UInt8) (w : World) (h : Rd w v k) (hk : k.length ≤ 1000000) :
    Calls Try.prog 45 #[v, .int .u8 (x.toNat : Int)] w (Gives8 5 w (padX k x)) := by
  have H := fun w' hb => sha_c v k w' (h.below (w' := w') hb) hk
  unfold GivesB at H
  have nS : (bvs (shaI k)).length = 32 := by rw [bvs_length, shaI_len]
  have oS := bvs_one (shaI k)
  have hsl := shaI_len k
  have hb64 := keyB_len k
  generalize hP : padX k x = R
  unfold padX at hP
  go_enter Try.func45, Try.ntmps45
  go_upto_if 10 with (first | (with_reducible refine G_len ?_; refine L8_len Try.underlying23 (by with_unfolding_all (conv => lhs; whnf)) (by assumption) ?_))
  go_cut [0] (fun v wx => PadK w (keyB k) v wx)
  case first =>
    by_cases hlt : 64 < k.length
    · have hkb : keyB k = shaI k := by unfold keyB; rw [if_pos hlt]
      go_wp2_with (first | (with_reducible refine G_len ?_; refine L8_len Try.underlying23 (by with_unfolding_all (conv => lhs; whnf)) (by assumption) ?_) | (go_at_call 21; refine (H _ (Below.refl _ _)).mono ?_; rintro e wa ⟨rfl, hba⟩) | ((with_reducible refine G_alloc ?_; refine L_alloc z32 ?_); intro wb hkb2 hbb hsb) | ((with_reducible refine G_store ?_; refine L_store_agg ag32 (by with_unfolding_all (conv => lhs; whnf)) (by with_unfolding_all (conv => lhs; whnf)) hkb2 rfl (by simpa using nS) (fun u hu => oS u (by simpa using hu)) ?_); intro wc hkc hgc hsc))
      all_goals go_meet
      have hbb2 := below_below hba hbb
      exact ⟨by rw [hkb]; exact Blk.rd (by simpa using hkc) (by omega) hsl.symm hsl.symm, hbb2.grown hgc hbb2.size (by intro k hk; cases hk; exact hba.size)⟩
    · have hkb : keyB k = k := by unfold keyB; rw [if_neg hlt]
      go_wp2_with (first | (with_reducible refine G_len ?_; refine L8_len Try.underlying23 (by with_unfolding_all (conv => lhs; whnf)) (by assumption) ?_))
      all_goals go_meet
      exact ⟨by rw [hkb]; exact h, Below.refl _ _⟩
  case rest =>
  obtain ⟨hR, hb0⟩ := hcut
  clear H oS nS hsl h
  generalize keyB k = kb at *
  have z64 : (List.replicate 64 (0 : UInt8)).length = 64 := by simp
  generalize hz : List.replicate 64 (0 : UInt8) = Z at *
  go_wp2_with (first | ((with_reducible refine G_len ?_; refine L8_len Try.underlying23 (by with_unfolding_all (conv => lhs; whnf)) (by assumption) ?_); rw [over_len]) | ((with_reducible refine G_make ?_; refine L8_make st8 (n := 64) (base := w.heap.size) rfl rfl (by omega) hb0.size ?_); intro u w1 ho1 hv1 hg1; rw [hz] at ho1; have hb1 := (Below.refl _ _).grown hg1 (Nat.le_refl _) (by intro k hk; cases hk); have hR1 := hR.below hb1; have hb01 := below_below hb0 hb1; clear hg1 hb1 hR) | ((with_reducible refine G_copy ?_; refine wpList_copy8 rfl _ _ rfl st8 (by with_unfolding_all (conv => lhs; whnf)) ho1 (by with_unfolding_all (conv => lhs; whnf)) hR1 ?_); intro w2 ho2 hg2 hs2; have hR2 := ho2.rd))
  have hw2 := app_step0 hb01 ho1 (Nat.le_refl _) hg2
  have hb2 := hw2.1
  have hol := over_len Z kb
  have hbs := hb0.size
  generalize over Z kb = l at *
  rw [z64] at hol
  have hv2 := hv1
  generalize wc.heap.size = g at *
  clear hw2 ho1 hR1 hg2 hs2 hb01 hv1 hb0 hR2
  go_loopw [20] (fun i wr => PadRel w u l x i wr) (fun i _ => 64 - (intOf i).toNat)
  case atStart => exact ⟨0, by omega, rfl, by simpa [padZ] using ho2, hb2⟩
  case round =>
    clear ho2 hb2
    obtain ⟨j, hj, rfl, ho, hbr⟩ := hrel
    rw [hol] at hj
    have hln := padZ_len l x j
    by_cases hlt : j < 64
    · have hjl : j < (padZ l x j).length := by omega
      have hget := padZ_get l x j (by omega)
      have hset := Go.Lib.hid (padZ_set l x j (by omega))
      have hX := Go.Lib.hid (show bits .xor .u8 (bt l j) (x.toNat : Int) = ((l.getD j 0 ^^^ x).toNat : Int) by unfold bt; rw [xor8_u8])
      have q1 := bt_lo l j
      have q2 := bt_hi l j
      have q3 : (0 : Int) ≤ x.toNat := by omega
      have q4 : (x.toNat : Int) < 256 := by have := x.toNat_lt; omega
      go_wp2_with (first | ((with_reducible refine G_index ?_; refine L8_oindex st8 (i := j) (by with_unfolding_all (conv => lhs; whnf)) (by assumption) (by assumption) (by with_unfolding_all (conv => lhs; whnf)) (by omega) (by omega) ?_); intro hcl hfr; rw [hget] at hcl))
      refine ⟨⟨j + 1, by omega, by go_num, ?_, hbr.setCell (by show w.heap.size ≤ g; omega) _⟩, by simp [intOf]; omega⟩
      rw [hX.out, ← hset.out]
      exact ho.stored' hv2 j hjl _
    · obtain rfl : j = 64 := by omega
      have hpe : padZ l x 64 = R := by rw [← hP]; unfold padZ; rw [List.take_of_length_le (by omega), List.drop_of_length_le (by omega), List.append_nil]
      rw [hpe] at ho
      go_wp2
      go_ret
      exact ⟨_, rfl, ho, hbr⟩
end Go.Proofs.Ytpjpmgpehpigaaa
