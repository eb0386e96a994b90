/- The law of xor: its walk. -/
import Derived.Test.YtpjpmgpehpigaaaCrcLaws
import Derived.Deep.DeepCutAuto
set_option linter.unusedVariables false
namespace Go.Proofs.Ytpjpmgpehpigaaa
open Go.RowKit
def xor3 (x y z : List UInt8) : Nat → List UInt8
  | 0 => []
  | i + 1 => xor3 x y z i ++ [x.getD i 0 ^^^ y.getD i 0 ^^^ z.getD i 0]
theorem xor3_len (x y z : List UInt8) (i : Nat) : (xor3 x y z i).length = i := by
  induction i with
  | zero => rfl
  | succ i ih => simp [xor3, ih]
def XorPure : Prop := ∀ (x y z : List UInt8) (n : Nat), n ≤ x.length → n ≤ y.length → n ≤ z.length → moreN 0 (xor3 x y z n) = moreN 0 (x.take n) ^^^ moreN 0 (y.take n) ^^^ moreN 0 (z.take n)
theorem xor3_val (x y z : List UInt8) (i : Nat) : bits .xor .u8 (bits .xor .u8 (bt x i) (bt y i)) (bt z i) = ((x.getD i 0 ^^^ y.getD i 0 ^^^ z.getD i 0).toNat : Int) := by
  have h1 := (x.getD i 0).toNat_lt
  have h2 := (y.getD i 0).toNat_lt
  have h3 := (z.getD i 0).toNat_lt
  unfold bt
  rw [u8_xor_nat _ _ (by omega) (by omega), u8_xor_nat _ _ (Nat.xor_lt_two_pow (n := 8) (by omega) (by omega)) (by omega), UInt8.toNat_xor, UInt8.toNat_xor]
def CutN (R : Nat → Prop) (W : World) (v : Value) (wx : World) : Prop := ∃ m : Nat, R m ∧ v = .int .i64 m ∧ W = wx
/-- What is written so far, and zeros. -/
def XorRel (w : World) (x y z : List UInt8) (xv yv zv : Value) (n H : Nat) (v : Value) (i : Value) (wr : World) : Prop :=
  ∃ j : Nat, j ≤ n ∧ i = .int .i64 j ∧ Own8 wr H 5 v (xor3 x y z j ++ List.replicate (n - j) 0) ∧ Rd wr xv x ∧ Rd wr yv y ∧ Rd wr zv z ∧ Below w.heap.size w wr
theorem xor3_set (x y z : List UInt8) (n j : Nat) (h : j < n) : (xor3 x y z j ++ List.replicate (n - j) 0).set j (x.getD j 0 ^^^ y.getD j 0 ^^^ z.getD j 0) = xor3 x y z (j + 1) ++ List.replicate (n - (j + 1)) 0 := by
  have hl := xor3_len x y z j
  obtain ⟨m, hm⟩ : ∃ m, n - j = m + 1 := ⟨n - j - 1, by omega⟩
  rw [hm, show n - (j + 1) = m from by omega, List.replicate_succ, List.set_append_right _ _ (by omega), hl]
  simp [xor3]
set_option maxRecDepth 100000 in
set_option maxHeartbeats 1600000 in
theorem crcXor_c (HP : XorPure) (w : World) (va vb vc : Value) (la lb lc : List UInt8) (ha : Rd w va la) (hb : Rd w vb lb) (hc : Rd w vc lc) :
    Calls Try.prog 6 #[va, vb, vc] w (Ok w) := by
  go_enter Try.func6, Try.ntmps6
  go_wp2_with fail
  refine (few9_c _ la _ ha).mono ?_
  rintro e w1 ⟨v1, rfl, ho1, hb1⟩
  go_wp2_with fail
  refine (few9_c _ lb _ (hb.below hb1)).mono ?_
  rintro e w2 ⟨v2, rfl, ho2, hb2⟩
  have hb12 := below_below hb1 hb2
  go_wp2_with fail
  refine (few9_c _ lc _ (hc.below hb12)).mono ?_
  rintro e w3 ⟨v3, rfl, ho3, hb3⟩
  have hb13 := below_below hb12 hb3
  have hx := (ho1.rd.below hb2).below hb3
  have hy := ho2.rd.below hb3
  have hz := ho3.rd
  have hlx : (la.take 1000).length ≤ 1000 := by simp; omega
  have hly : (lb.take 1000).length ≤ 1000 := by simp; omega
  have hlz : (lc.take 1000).length ≤ 1000 := by simp; omega
  generalize la.take 1000 = x at hx hlx
  generalize lb.take 1000 = y at hy hly
  generalize lc.take 1000 = z at hz hlz
  clear ho1 ho2 ho3 hb1 hb2 hb3 hb12
  go_upto_if 24 with (first | (with_reducible refine G_len ?_; refine L8_len Try.underlying23 (by with_unfolding_all (conv => lhs; whnf)) (by assumption) ?_))
  go_cut [10] (fun v wx => CutN (fun m => m ≤ x.length ∧ m ≤ y.length) w3 v wx)
  case first =>
    go_wp2_with (first | (with_reducible refine G_len ?_; refine L8_len Try.underlying23 (by with_unfolding_all (conv => lhs; whnf)) (by assumption) ?_))
    all_goals go_meet
    · exact ⟨y.length, ⟨by omega, by omega⟩, rfl, rfl⟩
    · exact ⟨x.length, ⟨by omega, by omega⟩, rfl, rfl⟩
  case rest =>
  obtain ⟨m, ⟨hmx, hmy⟩, rfl, rfl⟩ := hcut
  go_upto_if 30 with (first | (with_reducible refine G_len ?_; refine L8_len Try.underlying23 (by with_unfolding_all (conv => lhs; whnf)) (by assumption) ?_))
  go_cut [10] (fun v wx => CutN (fun n => n ≤ x.length ∧ n ≤ y.length ∧ n ≤ z.length) w3 v wx)
  case first =>
    go_wp2_with (first | (with_reducible refine G_len ?_; refine L8_len Try.underlying23 (by with_unfolding_all (conv => lhs; whnf)) (by assumption) ?_))
    all_goals go_meet
    · exact ⟨z.length, ⟨by omega, by omega, by omega⟩, rfl, rfl⟩
    · exact ⟨m, ⟨by omega, by omega, by omega⟩, rfl, rfl⟩
  case rest =>
  obtain ⟨n, ⟨hnx, hny, hnz⟩, rfl, rfl⟩ := hcut
  go_wp2_with (first | (with_reducible refine G_len ?_; refine L8_len Try.underlying23 (by with_unfolding_all (conv => lhs; whnf)) (by assumption) ?_) | ((with_reducible refine G_make ?_; refine L8_make st8 (n := n) (base := w3.heap.size) (by with_unfolding_all (conv => lhs; whnf)) (by with_unfolding_all (conv => lhs; whnf)) (by omega) (Nat.le_refl _) ?_); intro v4 w4 hO4 hv4 hg4))
  have hb4 : Below w3.heap.size w3 w4 := ⟨hg4.os, hg4.tape, hg4.output, hg4.size, fun k hk => hg4.block k hk (by simp)⟩
  have hx4 := hx.below hb4
  have hy4 := hy.below hb4
  have hz4 := hz.below hb4
  have hb14 := below_below hb13 hb4
  have hH := hb13.size
  have hxl := hx.lt
  have hyl := hy.lt
  have hzl := hz.lt
  generalize w3.heap.size = H at hO4 hH hxl hyl hzl hv4
  clear hx hy hz hb4 hb13 hg4
  go_loopw [12] (fun i wr => XorRel w x y z v1 v2 v3 n H v4 i wr) (fun i _ => n - (intOf i).toNat)
  case atStart => exact ⟨0, by omega, rfl, by simpa [xor3] using hO4, hx4, hy4, hz4, hb14⟩
  case round =>
    obtain ⟨j, hj, rfl, hO, hxr, hyr, hzr, hbr⟩ := hrel
    by_cases hlt : j < n
    · have hll := xor3_len x y z j
      have hjl : j < (xor3 x y z j ++ List.replicate (n - j) 0).length := by simp; omega
      have hv := Go.Lib.hid (xor3_val x y z j)
      have hxj : Rd wr.drew v1 x := hxr
      have hyj : Rd wr.drew v2 y := hyr
      have hzj : Rd wr.drew v3 z := hzr
      have hOj : Own8 wr.drew H 5 v4 (xor3 x y z j ++ List.replicate (n - j) 0) := hO
      have q1 := bt_lo x j
      have q2 := bt_hi x j
      have q3 := bt_lo y j
      have q4 := bt_hi y j
      have q5 := bt_lo z j
      have q6 := bt_hi z j
      go_wp2
      (refine region_tail 17 (by kernel_rfl) (by kernel_rfl) ?_; simp only [List.take_succ_cons, List.take_zero, List.drop_succ_cons, List.drop_zero]; repeat (first | ((with_reducible refine GS_index ?_; refine S8_index st8 (i := j) (by with_unfolding_all (conv => lhs; whnf)) (by assumption) (by with_unfolding_all (conv => lhs; whnf)) (by omega) ?_); intro b o hbo hcl; replace hcl : wr.cell? _ = _ := hcl) | ((with_reducible refine GS_index ?_; refine S8_oindex st8 (i := j) (by with_unfolding_all (conv => lhs; whnf)) (by assumption) (by assumption) (by with_unfolding_all (conv => lhs; whnf)) (by omega) ?_); intro hcl hfr; replace hcl : wr.cell? _ = _ := hcl; replace hfr : wr.frozen? _ = _ := hfr) | (refine wpStill_step (fun K hK => ?_); go_simp; (try go_bits); refine hK _ ?_; clear hK K)); try refine wpStill_nil ?_)
      go_wp2
      refine ⟨⟨j + 1, by omega, by go_num, ?_, ?_, ?_, ?_, ?_⟩, by simp [intOf]; omega⟩
      · rw [hv.out, ← xor3_set x y z n j hlt]
        exact (hO.stored' hv4 j hjl _).drew
      · exact Rd.drew (hxr.grown (grown_setCell _ _ _) fun hn e => by have := hxl H e hn; omega)
      · exact Rd.drew (hyr.grown (grown_setCell _ _ _) fun hn e => by have := hyl H e hn; omega)
      · exact Rd.drew (hzr.grown (grown_setCell _ _ _) fun hn e => by have := hzl H e hn; omega)
      · exact (hbr.setCell (by show w.heap.size ≤ H; omega) _).drew
    · obtain rfl : j = n := by omega
      rw [Nat.sub_self, List.replicate_zero, List.append_nil] at hO
      have HPx := HP x y z j hnx hny hnz
      have hxj : Rd wr.drew v1 x := hxr
      have hyj : Rd wr.drew v2 y := hyr
      have hzj : Rd wr.drew v3 z := hzr
      have hOj : Rd wr.drew v4 (xor3 x y z j) := hO.rd
      have m1 := moreN_lt 0 (x.take j)
      have m2 := moreN_lt 0 (y.take j)
      have m3 := moreN_lt 0 (z.take j)
      have hE : bits .xor .u32 (bits .xor .u32 ((moreN 0 (x.take j) : Nat) : Int) ((moreN 0 (y.take j) : Nat) : Int)) ((moreN 0 (z.take j) : Nat) : Int) = ((moreN 0 (xor3 x y z j) : Nat) : Int) := by
        rw [u32_xor_nat _ _ m1 m2, u32_xor_nat _ _ (Nat.xor_lt_two_pow (n := 32) m1 m2) m3, HPx]
      clear HPx hxr hyr hzr hO m1 m2 m3
      go_wp2
      (refine region_tail 18 (by kernel_rfl) (by kernel_rfl) ?_; simp only [List.take_succ_cons, List.take_zero, List.drop_succ_cons, List.drop_zero]; repeat (first | ((with_reducible refine GS_slice ?_; refine S8_slice_h st8 (hi := j) (by with_unfolding_all (conv => lhs; whnf)) (by assumption) (by with_unfolding_all (conv => lhs; whnf)) (by omega) ?_); intro vs hvs hvb) | (refine wpStill_step (fun K hK => ?_); go_simp; refine ⟨_, (by go_at_call 15; exact (Calls.mono (sum_c _ _ _ (by assumption)) (fun e w' h => ⟨h.1, h.2.symm⟩))), hK _ ?_⟩; clear hK K) | (refine wpStill_step (fun K hK => ?_); go_simp; (try go_bits); refine hK _ ?_; clear hK K)); try refine wpStill_nil ?_)
      go_wp2_with fail
      refine (wakes9_c _).mono ?_
      rintro e w5 ⟨rfl, hb5⟩
      go_wp2
      go_ret
      exact ⟨rfl, below_below hbr.drew hb5⟩
end Go.Proofs.Ytpjpmgpehpigaaa
