/- digest.Equal, digest.Xor and the reference's: what they answer. -/
import Derived.Test.YtfnlcnjflloecaaDoorDig3
import Derived.Laws.BitsLemmas
set_option linter.unusedVariables false
set_option linter.unusedSimpArgs false
namespace Go.Proofs.YtfnlcnjflloecaaDoor
open Go.RowKit
theorem xor8_nat (a b : Nat) (ha : a < 256) (hb : b < 256) : bits .xor .u8 (a : Int) (b : Int) = ((a ^^^ b : Nat) : Int) := by
  have hx : a ^^^ b < 2 ^ 8 := Nat.xor_lt_two_pow (by omega) (by omega)
  have h1 : (BitVec.ofInt 8 (a : Int)).toNat = a := by
    rw [BitVec.ofInt_natCast, BitVec.toNat_ofNat]; exact Nat.mod_eq_of_lt (by omega)
  have h2 : (BitVec.ofInt 8 (b : Int)).toNat = b := by
    rw [BitVec.ofInt_natCast, BitVec.toNat_ofNat]; exact Nat.mod_eq_of_lt (by omega)
  show IntKind.u8.wrap ((BitVec.ofInt 8 (a : Int) ^^^ BitVec.ofInt 8 (b : Int)).toNat : Int) = _
  rw [BitVec.toNat_xor, h1, h2, IntKind.wrap_u8]
  omega
theorem or8_nat (a b : Nat) (ha : a < 256) (hb : b < 256) : bits .or .u8 (a : Int) (b : Int) = ((a ||| b : Nat) : Int) := (bits_nat .u8 8 (by decide) wraps_u8 a b (by omega) (by omega)).2
theorem xor8_u8 (a b : UInt8) : bits .xor .u8 (a.toNat : Int) (b.toNat : Int) = ((a ^^^ b).toNat : Int) := by
  rw [xor8_nat _ _ a.toNat_lt b.toNat_lt, UInt8.toNat_xor]
theorem or8_u8 (a b : UInt8) : bits .or .u8 (a.toNat : Int) (b.toNat : Int) = ((a ||| b).toNat : Int) := by
  rw [or8_nat _ _ a.toNat_lt b.toNat_lt, UInt8.toNat_or]
/-- All differences of two rows, one byte. -/
def diffB (a b : List UInt8) : Nat → UInt8
  | 0 => 0
  | i + 1 => diffB a b i ||| (a.getD i 0 ^^^ b.getD i 0)
theorem u8_or_zero (x y : UInt8) : x ||| y = 0 ↔ x = 0 ∧ y = 0 := by
  constructor
  · intro h
    have h2 : x.toNat ||| y.toNat = 0 := by rw [← UInt8.toNat_or, h]; rfl
    have hx := (Nat.or_eq_zero_iff.1 h2)
    exact ⟨UInt8.toNat_inj.1 hx.1, UInt8.toNat_inj.1 hx.2⟩
  · rintro ⟨rfl, rfl⟩; rfl
theorem u8_xor_zero (x y : UInt8) : x ^^^ y = 0 ↔ x = y := by
  constructor
  · intro h
    have h2 : x.toNat ^^^ y.toNat = 0 := by rw [← UInt8.toNat_xor, h]; rfl
    have h3 : x.toNat = (x.toNat ^^^ y.toNat) ^^^ y.toNat := by rw [Nat.xor_assoc, Nat.xor_self, Nat.xor_zero]
    rw [h2, Nat.zero_xor] at h3
    exact UInt8.toNat_inj.1 h3
  · rintro rfl; simp
theorem diffB_zero (a b : List UInt8) (n : Nat) : diffB a b n = 0 ↔ ∀ i, i < n → a.getD i 0 = b.getD i 0 := by
  induction n with
  | zero => simp [diffB]
  | succ n ih =>
    rw [diffB, u8_or_zero, u8_xor_zero, ih]
    constructor
    · rintro ⟨h1, h2⟩ i hi
      rcases Nat.lt_succ_iff_lt_or_eq.1 hi with h | rfl
      · exact h1 i h
      · exact h2
    · intro h; exact ⟨fun i hi => h i (by omega), h n (by omega)⟩
theorem diffB_eq (a b : List UInt8) (h : a.length = b.length) : diffB a b a.length = 0 ↔ a = b := by
  rw [diffB_zero]
  constructor
  · intro h2
    apply List.ext_getElem h
    intro i h3 h4
    have := h2 i h3
    simpa [List.getD_eq_getElem?_getD, h3, h4] using this
  · rintro rfl i _; rfl
def EqRel (w : World) (u v : Value) (a b : List UInt8) (x i : Value) (wr : World) : Prop :=
  ∃ j : Nat, j ≤ a.length ∧ i = .int .i64 j ∧ x = bv (diffB a b j) ∧ Rd wr u a ∧ Rd wr v b ∧ Below w.heap.size w wr
def xorI (a b : List UInt8) : List UInt8 := List.zipWith (· ^^^ ·) a b
def xorZ (a b : List UInt8) (i : Nat) : List UInt8 := (xorI a b).take i ++ a.drop i
theorem xorI_len (a b : List UInt8) (ha : a.length = 32) (hb : b.length = 32) : (xorI a b).length = 32 := by simp [xorI, ha, hb]
theorem xorZ_len (a b : List UInt8) (i : Nat) (ha : a.length = 32) (hb : b.length = 32) (hi : i ≤ 32) : (xorZ a b i).length = 32 := by simp [xorZ, xorI_len a b ha hb, ha]; omega
theorem xorZ_get (a b : List UInt8) (i : Nat) (ha : a.length = 32) (hb : b.length = 32) (hi : i < 32) : bt (xorZ a b i) i = bt a i := by
  unfold bt xorZ
  have h1 : ((xorI a b).take i).length = i := by simp [xorI_len a b ha hb]; omega
  rw [List.getD_eq_getElem?_getD, List.getElem?_append_right (by omega), h1]
  simp [List.getD_eq_getElem?_getD]
theorem xorZ_set (a b : List UInt8) (i : Nat) (ha : a.length = 32) (hb : b.length = 32) (hi : i < 32) : (xorZ a b i).set i (a.getD i 0 ^^^ b.getD i 0) = xorZ a b (i + 1) := by
  unfold xorZ
  have h1 : ((xorI a b).take i).length = i := by simp [xorI_len a b ha hb]; omega
  have h2 : a.drop i = a[i] :: a.drop (i + 1) := List.drop_eq_getElem_cons (by omega)
  have h3 : (xorI a b).take (i + 1) = (xorI a b).take i ++ [a.getD i 0 ^^^ b.getD i 0] := by
    rw [List.take_add_one]
    congr 1
    simp [xorI, List.getElem?_zipWith, List.getD_eq_getElem?_getD, ha, hb, hi]
  rw [h3, h2, List.set_append_right _ _ (by omega), h1, Nat.sub_self, List.set_cons_zero, List.append_assoc]
  rfl
def XRel (w : World) (a b : List UInt8) (i : Value) (wr : World) : Prop :=
  ∃ j : Nat, j ≤ 32 ∧ i = .int .i64 j ∧ Blk wr w.heap.size 40 (bvs (xorZ a b j)) ∧ Blk wr (w.heap.size + 1) 40 (bvs b) ∧ Blk wr (w.heap.size + 2) 40 (bvs (List.replicate 32 0)) ∧ Below w.heap.size w wr
set_option maxRecDepth 100000 in
set_option maxHeartbeats 800000 in
theorem xor_c (a b : List UInt8) (w : World) (ha : a.length = 32) (hb : b.length = 32) :
    Calls Tryd.prog 139 #[.agg (bvs a).toArray, .agg (bvs b).toArray] w (GivesB w (xorI a b)) := by
  have hZ0 : bvs a = bvs (xorZ a b 0) := rfl
  have nA : (bvs a).length = 32 := by rw [bvs_length, ha]
  have nB : (bvs b).length = 32 := by rw [bvs_length, hb]
  generalize hR : xorI a b = R
  go_enter Tryd.func139, Tryd.ntmps139
  generalize hAA : (bvs a).toArray = AA
  generalize hBB : (bvs b).toArray = BB
  have t1 : True := trivial
  go_wp2_with (first | (have _t := t1; (with_reducible refine G_box ?_; refine L_box (by with_unfolding_all (conv => lhs; whnf)) ?_); intro wa hka hba hsa; clear t1) | ((with_reducible refine G_box ?_; refine L_box (by with_unfolding_all (conv => lhs; whnf)) ?_); intro wb hkb hbb hsb) | ((with_reducible refine G_alloc ?_; refine L_alloc z32 ?_); intro wc hkc hbc hsc))
  rw [hsb, hsa] at hkc
  rw [hsa] at hkb
  rw [← hAA] at hka
  rw [← hBB] at hkb
  have k1 : Blk wc w.heap.size 40 (bvs (xorZ a b 0)) := (hka.below hbb).below hbc
  have k2 : Blk wc (w.heap.size + 1) 40 (bvs b) := hkb.below hbc
  have hbw := below_below (below_below hba hbb) hbc
  have e1 : wa.heap.size = w.heap.size + 1 := hsa
  have e2 : wb.heap.size = w.heap.size + 2 := by rw [hsb, hsa]
  clear hka hba hkb hbb hbc hsa hsb hsc _t
  go_loopw [6] (fun i wr => XRel w a b i wr) (fun i _ => 32 - (intOf i).toNat)
  case atStart => exact ⟨0, by omega, rfl, k1, k2, hkc, hbw⟩
  case round =>
    clear k1 k2 hkc hbw
    obtain ⟨j, hj, rfl, k1, k2, k4, hbr⟩ := hrel
    by_cases hlt : j < 32
    · have q1 := bt_lo a j
      have q2 := bt_hi a j
      have q3 := bt_lo b j
      have q4 := bt_hi b j
      have c1 : wr.cell? ⟨w.heap.size, j, none⟩ = some (.int .u8 (bt a j)) := by rw [k1.cell, bvs_get _ _ (by rw [xorZ_len a b j ha hb hj]; exact hlt), xorZ_get a b j ha hb hlt]
      have c2 : wr.cell? ⟨w.heap.size + 1, j, none⟩ = some (.int .u8 (bt b j)) := by rw [k2.cell, bvs_get _ _ (by omega)]
      have hfz := k1.frozen j
      have hX := Go.Lib.hid (show bits .xor .u8 (bt a j) (bt b j) = ((a.getD j 0 ^^^ b.getD j 0).toNat : Int) by unfold bt; rw [xor8_u8])
      have hset := Go.Lib.hid (xorZ_set a b j ha hb hlt)
      have i1 : (0 : Int) ≤ j := by omega
      have i2 : (j : Int) < 32 := by omega
      go_wp2
      (refine region_tail 8 (by kernel_rfl) (by kernel_rfl) ?_; simp only [List.take_succ_cons, List.take_zero, List.drop_succ_cons, List.drop_zero]; repeat (refine wpStill_step (fun K hK => ?_); go_simp; (try go_bits); refine hK _ ?_; clear hK K); try refine wpStill_nil ?_)
      go_wp2
      refine ⟨⟨j + 1, by omega, by go_num, ?_, k2.drew.other (by show w.heap.size + 1 ≠ w.heap.size; omega) _, k4.drew.other (by show w.heap.size + 2 ≠ w.heap.size; omega) _, hbr.drew.setCell (by show w.heap.size ≤ w.heap.size; omega) _⟩, by simp [intOf]; omega⟩
      have := k1.drew.stored j (bv (a.getD j 0 ^^^ b.getD j 0))
      rw [bvs_set, hset.out] at this
      rw [hX.out]; exact this
    · have hje := Go.Lib.hid (show j = 32 by omega)
      have hxe : xorZ a b 32 = R := by rw [← hR]; unfold xorZ; rw [List.take_of_length_le (by rw [xorI_len a b ha hb]; omega), List.drop_of_length_le (by omega)]; simp
      rw [hje.out, hxe] at k1
      have nO : (bvs R).length = 32 := by rw [bvs_length, ← hR, xorI_len a b ha hb]
      have oO := bvs_one R
      generalize hO : bvs R = O at *
      go_wp2_with (first | (with_reducible refine G_load ?_; refine L_load_agg ag32 (by with_unfolding_all (conv => lhs; whnf)) (by assumption) nO ?_) | ((with_reducible refine G_store ?_; refine L_store_agg ag32 (by with_unfolding_all (conv => lhs; whnf)) (by with_unfolding_all (conv => lhs; whnf)) k4 rfl (by simpa using nO) (fun u hu => oO u (by simpa using hu)) ?_); intro wz hkz hgz hsz))
      exact ret_agg (cs := O) rfl ag32 rfl rfl (by simpa using hkz) nO ⟨by rw [← hO], hbr.grown hgz hbr.size (by intro k hk; cases hk; omega)⟩
set_option maxRecDepth 100000 in
set_option maxHeartbeats 800000 in
theorem refxor_c (a b : List UInt8) (w : World) (ha : a.length = 32) (hb : b.length = 32) :
    Calls Tryd.prog 116 #[.agg (bvs a).toArray, .agg (bvs b).toArray] w (GivesB w (xorI a b)) := by
  have hZ0 : bvs a = bvs (xorZ a b 0) := rfl
  have nA : (bvs a).length = 32 := by rw [bvs_length, ha]
  have nB : (bvs b).length = 32 := by rw [bvs_length, hb]
  generalize hR : xorI a b = R
  go_enter Tryd.func116, Tryd.ntmps116
  generalize hAA : (bvs a).toArray = AA
  generalize hBB : (bvs b).toArray = BB
  have t1 : True := trivial
  go_wp2_with (first | (have _t := t1; (with_reducible refine G_box ?_; refine L_box (by with_unfolding_all (conv => lhs; whnf)) ?_); intro wa hka hba hsa; clear t1) | ((with_reducible refine G_box ?_; refine L_box (by with_unfolding_all (conv => lhs; whnf)) ?_); intro wb hkb hbb hsb) | ((with_reducible refine G_alloc ?_; refine L_alloc z32 ?_); intro wc hkc hbc hsc))
  rw [hsb, hsa] at hkc
  rw [hsa] at hkb
  rw [← hAA] at hka
  rw [← hBB] at hkb
  have k1 : Blk wc w.heap.size 40 (bvs (xorZ a b 0)) := (hka.below hbb).below hbc
  have k2 : Blk wc (w.heap.size + 1) 40 (bvs b) := hkb.below hbc
  have hbw := below_below (below_below hba hbb) hbc
  have e1 : wa.heap.size = w.heap.size + 1 := hsa
  have e2 : wb.heap.size = w.heap.size + 2 := by rw [hsb, hsa]
  clear hka hba hkb hbb hbc hsa hsb hsc _t
  go_loopw [5] (fun i wr => XRel w a b i wr) (fun i _ => 32 - (intOf i).toNat)
  case atStart => exact ⟨0, by omega, rfl, k1, k2, hkc, hbw⟩
  case round =>
    clear k1 k2 hkc hbw
    obtain ⟨j, hj, rfl, k1, k2, k4, hbr⟩ := hrel
    by_cases hlt : j < 32
    · have q1 := bt_lo a j
      have q2 := bt_hi a j
      have q3 := bt_lo b j
      have q4 := bt_hi b j
      have c1 : wr.cell? ⟨w.heap.size, j, none⟩ = some (.int .u8 (bt a j)) := by rw [k1.cell, bvs_get _ _ (by rw [xorZ_len a b j ha hb hj]; exact hlt), xorZ_get a b j ha hb hlt]
      have c2 : wr.cell? ⟨w.heap.size + 1, j, none⟩ = some (.int .u8 (bt b j)) := by rw [k2.cell, bvs_get _ _ (by omega)]
      have hfz := k1.frozen j
      have hX := Go.Lib.hid (show bits .xor .u8 (bt a j) (bt b j) = ((a.getD j 0 ^^^ b.getD j 0).toNat : Int) by unfold bt; rw [xor8_u8])
      have hset := Go.Lib.hid (xorZ_set a b j ha hb hlt)
      have i1 : (0 : Int) ≤ j := by omega
      have i2 : (j : Int) < 32 := by omega
      go_wp2
      (refine region_tail 9 (by kernel_rfl) (by kernel_rfl) ?_; simp only [List.take_succ_cons, List.take_zero, List.drop_succ_cons, List.drop_zero]; repeat (refine wpStill_step (fun K hK => ?_); go_simp; (try go_bits); refine hK _ ?_; clear hK K); try refine wpStill_nil ?_)
      go_wp2
      refine ⟨⟨j + 1, by omega, by go_num, ?_, k2.drew.other (by show w.heap.size + 1 ≠ w.heap.size; omega) _, k4.drew.other (by show w.heap.size + 2 ≠ w.heap.size; omega) _, hbr.drew.setCell (by show w.heap.size ≤ w.heap.size; omega) _⟩, by simp [intOf]; omega⟩
      have := k1.drew.stored j (bv (a.getD j 0 ^^^ b.getD j 0))
      rw [bvs_set, hset.out] at this
      rw [hX.out]; exact this
    · have hje := Go.Lib.hid (show j = 32 by omega)
      have hxe : xorZ a b 32 = R := by rw [← hR]; unfold xorZ; rw [List.take_of_length_le (by rw [xorI_len a b ha hb]; omega), List.drop_of_length_le (by omega)]; simp
      rw [hje.out, hxe] at k1
      have nO : (bvs R).length = 32 := by rw [bvs_length, ← hR, xorI_len a b ha hb]
      have oO := bvs_one R
      generalize hO : bvs R = O at *
      go_wp2_with (first | (with_reducible refine G_load ?_; refine L_load_agg ag32 (by with_unfolding_all (conv => lhs; whnf)) (by assumption) nO ?_) | ((with_reducible refine G_store ?_; refine L_store_agg ag32 (by with_unfolding_all (conv => lhs; whnf)) (by with_unfolding_all (conv => lhs; whnf)) k4 rfl (by simpa using nO) (fun u hu => oO u (by simpa using hu)) ?_); intro wz hkz hgz hsz))
      exact ret_agg (cs := O) rfl ag32 rfl rfl (by simpa using hkz) nO ⟨by rw [← hO], hbr.grown hgz hbr.size (by intro k hk; cases hk; omega)⟩
end Go.Proofs.YtfnlcnjflloecaaDoor
