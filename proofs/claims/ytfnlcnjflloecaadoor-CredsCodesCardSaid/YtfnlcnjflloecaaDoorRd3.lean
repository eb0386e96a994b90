/- The reference's Read of a record. -/
import Derived.Test.YtfnlcnjflloecaaDoorRd2
set_option linter.unusedVariables false
set_option linter.unusedSimpArgs false
set_option linter.unnecessarySimpa false
namespace Go.Proofs.YtfnlcnjflloecaaDoor
open Go.RowKit
def GivesRR (w : World) (r : RecI) (e : Ending) (w' : World) : Prop :=
  ∃ v, e = .returned (.tuple #[.agg (recC r.u v r.n r.a r.b).toArray, .bool (decide (r.e = 0))]) ∧ Own8 w' w.heap.size 5 v r.s ∧ v.oneCell' = true ∧ Below w.heap.size w w'
theorem rightB_nil (u : List UInt8) (n : Int) : rightB u [] n = false := by simp [rightB, saltB]
theorem badR_built : Tryd.prog.built 42 [] = some (recC [] (.slice none 0 0) 0 zB zB).toArray := by kernel_rfl
/-- The end where it is refused. -/
theorem rr_bad {w wi : World} {g0 : Nat} {I : RecI} (hI : I = badR 2) (h0 : w.heap.size ≤ g0) (hW : Below w.heap.size w wi) {a : Act} (hd : a.defers = []) (h2 : a.tmps.getD 2 undef = .pointer (some ⟨g0, 0, none⟩)) (h3 : a.tmps.getD 3 undef = .bool false)
    (hS : Blk wi g0 42 (recC [] (.slice none 0 0) 0 zB zB)) : bodyPost Tryd.prog Tryd.f28 (GivesRR w I) .ret a wi := by
  subst hI
  exact ret_agg2 rfl agR hd h2 hS rfl h3 ⟨.slice none 0 0, rfl, Own8.nil _ _ _, rfl, hW⟩
/-- The arrays as the loop fills them. -/
def mixI (A : List UInt8) (j : Nat) : List UInt8 := A.take j ++ zB.drop j
theorem mixI_len {A : List UInt8} (hA : A.length = 32) (j : Nat) : (mixI A j).length = 32 := by
  have : zB.length = 32 := rfl
  unfold mixI; simp [hA, this]; omega
theorem mixI_zero (A : List UInt8) : mixI A 0 = zB := by simp [mixI]
theorem mixI_all {A : List UInt8} (hA : A.length = 32) : mixI A 32 = A := by
  have : zB.length = 32 := rfl
  unfold mixI; rw [List.take_of_length_le (by omega), List.drop_of_length_le (by omega), List.append_nil]
theorem mixI_set {A : List UInt8} (hA : A.length = 32) {j : Nat} (hj : j < 32) : (mixI A j).set j (A.getD j 0) = mixI A (j + 1) := by
  have hz : zB.length = 32 := rfl
  unfold mixI
  have e : zB.drop j = (zB.drop j).headD 0 :: zB.drop (j + 1) := by
    rw [List.drop_eq_getElem_cons (by omega)]; rfl
  have e2 : A.take (j + 1) = A.take j ++ [A.getD j 0] := by
    rw [List.take_add_one, List.getElem?_eq_getElem (by omega)]; simp [List.getD_eq_getElem?_getD, List.getElem?_eq_getElem (show j < A.length by omega)]
  rw [List.set_append_right _ _ (by simp; omega), e, e2]
  simp [show min j A.length = j by omega]
theorem recC_setA (u : List UInt8) (v : Value) (n : Int) {A : List UInt8} (B : List UInt8) (hA : A.length = 32) {j : Nat} (hj : j < 32) : (recC u v n (mixI A j) B).set (3 + j) (bv (A.getD j 0)) = recC u v n (mixI A (j + 1)) B := by
  have h1 := mixI_len hA j
  rw [← mixI_set hA hj]
  unfold recC
  rw [show 3 + j = j + 1 + 1 + 1 by omega]
  simp only [List.set_cons_succ]
  rw [List.set_append_left _ _ (by rw [bvs_length]; omega)]
  simp [bvs, List.map_set]
theorem recC_setB (u : List UInt8) (v : Value) (n : Int) {A B : List UInt8} (hA : A.length = 32) (hB : B.length = 32) {j : Nat} (hj : j < 32) : (recC u v n A (mixI B j)).set (35 + j) (bv (B.getD j 0)) = recC u v n A (mixI B (j + 1)) := by
  have h1 := mixI_len hB j
  rw [← mixI_set hB hj]
  unfold recC
  rw [show 35 + j = (32 + j) + 1 + 1 + 1 by omega]
  simp only [List.set_cons_succ]
  rw [List.set_append_right _ _ (by rw [bvs_length]; omega), bvs_length, hA, show 32 + j - 32 = j by omega]
  simp [bvs, List.map_set]
def RrRel (w : World) (u : List UInt8) (v7 : Value) (m : Int) (sl RA RB : List UInt8) (v8 : Value) (r3 : List UInt8) (i : Value) (wr : World) : Prop :=
  ∃ j : Nat, j ≤ 32 ∧ i = .int .i64 (j : Int) ∧ Blk wr w.heap.size 42 (recC [] (.slice none 0 0) 0 zB zB) ∧ Blk wr (w.heap.size + 1) 42 (recC u v7 m (mixI RA j) (mixI RB j)) ∧ Own8 wr w.heap.size 5 v7 sl ∧ Rd wr v8 r3 ∧ Below w.heap.size w wr
set_option maxRecDepth 100000 in
set_option maxHeartbeats 12800000 in
theorem refread_c (v : Value) (l : List UInt8) (w : World) (h : Rd w v l) (hl : l.length ≤ 90000) (hT : Tabs w) : Calls Tryd.prog 28 #[v] w (GivesRR w (readI l)) := by
  have TX := fun w1 (hb : Below w.heap.size w w1) => reftext_c v l 64 w1 (h.below hb) (by omega) (by omega)
  have e64 : (64 : Int).toNat = 64 := rfl
  rw [e64] at TX
  have hI : readI l = (let t := textI l 64
    let n := uintI t.2.1
    let m := uintI (n.2.1.drop n.1)
    if t.2.2 ≠ 0 then badR 2 else if n.2.2 ≠ 0 ∨ 32 < n.1 ∨ n.2.1.length < n.1 then badR 2
    else if m.2.2 ≠ 0 ∨ 4096 < m.1 ∨ m.2.1.length ≠ 64 then badR 2
    else if rightB t.1 (n.2.1.take n.1) (m.1 : Int) = true then ⟨t.1, n.2.1.take n.1, (m.1 : Int), m.2.1.take 32, m.2.1.drop 32, 0⟩ else badR 2) := rfl
  have lt := textI_le l 64
  simp only at hI
  unfold GivesT at TX
  generalize readI l = I at *
  generalize textI l 64 = T at *
  obtain ⟨u, r1, e1⟩ := T
  simp only at hI lt TX
  have UX := fun v1 w1 h1 => refuint_c v1 r1 w1 h1 (by omega)
  have ln := uintI_le r1
  have ln2 := uintI_lt64 r1
  unfold GivesU at UX
  generalize uintI r1 = N at *
  obtain ⟨n, r2, e2⟩ := N
  simp only at hI ln ln2 UX
  have UY := fun v1 w1 h1 => refuint_c v1 (r2.drop n) w1 h1 (by simp; omega)
  have lm := uintI_le (r2.drop n)
  have lm2 := uintI_lt64 (r2.drop n)
  unfold GivesU at UY
  generalize uintI (r2.drop n) = M at *
  obtain ⟨m, r3, e3⟩ := M
  simp only [List.length_drop] at hI lm lm2 UY
  have zR' := zR
  have bR := badR_built
  have nR := rec_zero_len
  have oR := rec_zero_one
  have hps : w.heap.size ≤ w.heap.size := Nat.le_refl _
  have hpe : w.heap.size ≤ w.heap.size + 1 := by omega
  have n1 : w.heap.size ≠ w.heap.size + 1 := by omega
  have n2 : w.heap.size + 1 ≠ w.heap.size := by omega
  replace hI := Go.Lib.hid hI
  go_enter Tryd.func28, Tryd.ntmps28
  have ta0 : True := trivial
  go_upto_region 2 with (first
    | (have _t := ta0; (with_reducible refine G_alloc ?_; refine L_alloc zR' ?_); intro w1 hS hb1 hs1; clear ta0; have ta1 : True := trivial)
    | (have _t := ta1; (with_reducible refine G_alloc ?_; refine L_alloc zR' ?_); intro w2 hE hb2 hs2; clear ta1; have ta2 : True := trivial))
  rw [hs1] at hE ⊢
  replace hS := hS.below hb2
  have hW := below_below hb1 hb2
  clear hb1 hb2 hs1 hs2
  have tb0 : True := trivial
  go_upto_region 3 with (first
    | (have _t := tb0; go_at_call 72; refine (TX _ hW).mono ?_; rintro e w3 ⟨v3, rfl, ho3, hb3⟩; have z3 := hE.lt; replace hS := hS.below hb3; replace hE := hE.below hb3; replace hW := below_below hW hb3; clear tb0; have tb1 : True := trivial))
  have lo3 : ∀ g, v3.ownBlock = some g → w.heap.size + 1 < g := fun g hg => by have h1 := ho3.base_le g hg; omega
  clear hb3 TX
  by_cases k1 : e1 = 0
  rotate_left
  · have q1 : (e1 == 0) = false := by simpa using k1
    have q2 : (e1 != 0) = true := by simpa using k1
    clear UX UY
    have hI2 := hI.out.trans (if_pos k1)
    replace hI2 := Go.Lib.hid hI2
    have b00 : True := trivial
    go_wp2_with (first
      | (have _t := b00; (with_reducible refine G_build ?_; refine L_build (recC [] (.slice none 0 0) 0 zB zB).toArray (by kernel_rfl) ?_); clear b00; have b01 : True := trivial)
      | (have _t := b01; (with_reducible refine G_store ?_; refine L_store_agg agR (by with_unfolding_all (conv => lhs; whnf)) (by with_unfolding_all (conv => lhs; whnf)) hS nR (by simpa using nR) (fun u hu => oR u (by simpa using hu)) ?_); intro wz hkz hgz hsz; clear b01; have b02 : True := trivial))
    exact rr_bad hI2.out hps (hW.grown hgz hW.size (by intro k hk; cases hk; exact hps)) rfl rfl rfl (by simpa using hkz)
  subst k1
  replace hI := Go.Lib.hid (hI.out.trans (if_neg (by simp)))
  have tc0 : True := trivial
  go_upto_region 6 with (first
    | (have _t := tc0; go_at_call 73; refine (UX _ _ ho3.rd).mono ?_; rintro e w4 ⟨v4, rfl, ho4, hb4⟩; have z4 := hE.lt; replace hS := hS.below hb4; replace hE := hE.below hb4; replace hW := below_below hW hb4; clear tc0; have tc1 : True := trivial))
  have lo4 : ∀ g, v4.ownBlock = some g → w.heap.size + 1 < g := fun g hg => by have h1 := ho4.base_le g hg; omega
  clear hb4 UX ho3 lo3
  have hr4 := ho4.rd
  obtain ⟨A4, c4, rfl, _, _, _⟩ := hr4.open
  by_cases k2 : e2 = 0
  rotate_left
  · have q1 : (e2 == 0) = false := by simpa using k2
    have q2 : (e2 != 0) = true := by simpa using k2
    clear UY
    have hI2 := hI.out.trans (if_pos (.inl k2))
    replace hI2 := Go.Lib.hid hI2
    have b10 : True := trivial
    go_wp2_with (first
      | (have _t := b10; (with_reducible refine G_build ?_; refine L_build (recC [] (.slice none 0 0) 0 zB zB).toArray (by kernel_rfl) ?_); clear b10; have b11 : True := trivial)
      | (have _t := b11; (with_reducible refine G_store ?_; refine L_store_agg agR (by with_unfolding_all (conv => lhs; whnf)) (by with_unfolding_all (conv => lhs; whnf)) hS nR (by simpa using nR) (fun u hu => oR u (by simpa using hu)) ?_); intro wz hkz hgz hsz; clear b11; have b12 : True := trivial))
    exact rr_bad hI2.out hps (hW.grown hgz hW.size (by intro k hk; cases hk; exact hps)) rfl rfl rfl (by simpa using hkz)
  subst k2
  by_cases k0 : n = 0
  · have q1 : (n : Int) < 1 := by omega
    have q2 : decide ((n : Int) < 1) = true := decide_eq_true q1
    clear UY
    have hI2 := (by rw [hI.out, k0, List.take_zero, rightB_nil]; split; rfl; split; rfl; rfl : I = badR 2)
    replace hI2 := Go.Lib.hid hI2
    have b20 : True := trivial
    go_wp2_with (first
      | (have _t := b20; (with_reducible refine G_build ?_; refine L_build (recC [] (.slice none 0 0) 0 zB zB).toArray (by kernel_rfl) ?_); clear b20; have b21 : True := trivial)
      | (have _t := b21; (with_reducible refine G_store ?_; refine L_store_agg agR (by with_unfolding_all (conv => lhs; whnf)) (by with_unfolding_all (conv => lhs; whnf)) hS nR (by simpa using nR) (fun u hu => oR u (by simpa using hu)) ?_); intro wz hkz hgz hsz; clear b21; have b22 : True := trivial))
    exact rr_bad hI2.out hps (hW.grown hgz hW.size (by intro k hk; cases hk; exact hps)) rfl rfl rfl (by simpa using hkz)
  have q1 : ¬ (n : Int) < 1 := by omega
  have q2 : decide ((n : Int) < 1) = false := decide_eq_false q1
  have q3 : (r2.length : Int) ≤ 90000 := by omega
  by_cases k3 : 32 < n
  · have q4 : (32 : Int) < (n : Int) := by omega
    have q5 : decide ((32 : Int) < (n : Int)) = true := decide_eq_true q4
    clear UY
    have hI2 := hI.out.trans (if_pos (.inr (.inl k3)))
    replace hI2 := Go.Lib.hid hI2
    have b30 : True := trivial
    go_wp2_with (first
      | (have _t := b30; (with_reducible refine G_build ?_; refine L_build (recC [] (.slice none 0 0) 0 zB zB).toArray (by kernel_rfl) ?_); clear b30; have b31 : True := trivial)
      | (have _t := b31; (with_reducible refine G_store ?_; refine L_store_agg agR (by with_unfolding_all (conv => lhs; whnf)) (by with_unfolding_all (conv => lhs; whnf)) hS nR (by simpa using nR) (fun u hu => oR u (by simpa using hu)) ?_); intro wz hkz hgz hsz; clear b31; have b32 : True := trivial))
    exact rr_bad hI2.out hps (hW.grown hgz hW.size (by intro k hk; cases hk; exact hps)) rfl rfl rfl (by simpa using hkz)
  have q4 : ¬ (32 : Int) < (n : Int) := by omega
  have q5 : decide ((32 : Int) < (n : Int)) = false := decide_eq_false q4
  by_cases k4 : r2.length < n
  · have q6 : (r2.length : Int) < n := by omega
    have q7 : decide ((r2.length : Int) < n) = true := decide_eq_true q6
    clear UY
    have hI2 := hI.out.trans (if_pos (.inr (.inr k4)))
    replace hI2 := Go.Lib.hid hI2
    have b40 : True := trivial
    go_wp2_with (first
      | (have _t := b40; (with_reducible refine G_build ?_; refine L_build (recC [] (.slice none 0 0) 0 zB zB).toArray (by kernel_rfl) ?_); clear b40; have b41 : True := trivial)
      | (have _t := b41; (with_reducible refine G_store ?_; refine L_store_agg agR (by with_unfolding_all (conv => lhs; whnf)) (by with_unfolding_all (conv => lhs; whnf)) hS nR (by simpa using nR) (fun u hu => oR u (by simpa using hu)) ?_); intro wz hkz hgz hsz; clear b41; have b42 : True := trivial))
    exact rr_bad hI2.out hps (hW.grown hgz hW.size (by intro k hk; cases hk; exact hps)) rfl rfl rfl (by simpa using hkz)
  have q6 : ¬ (r2.length : Int) < n := by omega
  have q7 : decide ((r2.length : Int) < n) = false := decide_eq_false q6
  replace hI := Go.Lib.hid (hI.out.trans (if_neg (by rintro (h | h | h); exact absurd rfl h; exact k3 h; exact k4 h)))
  obtain ⟨v5, hr5, hd5, hw5⟩ := slice_run_hk hr4 .u64 n (by omega)
  obtain ⟨v6, hr6, hd6, hw6⟩ := slice_run_lk hr4 .u64 n (by omega)
  have lo6 : ∀ g, v6.ownBlock = some g → w.heap.size + 1 < g := fun g hg => lo4 g (by rw [← hw6]; exact hg)
  have lsl : (r2.take n).length ≤ 32 := by simp; omega
  clear hw5 hw6
  generalize hSL : r2.take n = sl at *
  replace hSL := Go.Lib.hid hSL
  have td0 : True := trivial
  go_upto_region 9 with (first
    | (have _t := td0; (at_builtin; refine wpList_cp8 rfl _ _ rfl st8 Tryd.underlying37 rfl rfl hd5 (by omega) ?_); intro v7 w5 ho7 hb7; have z5 := hE.lt; replace hS := hS.below hb7; replace hE := hE.below hb7; replace hW := below_below hW hb7; replace hd6 := hd6.below hb7; obtain ⟨A7, c7, rfl, _, _, _⟩ := ho7.rd.open; have s0 := hE.frozen 0; have c0 : _ = some _ := hE.cell 0; have s1 := hE.frozen 1; have c1 : _ = some _ := hE.cell 1; clear td0; have td1 : True := trivial))
  have lo7 : ∀ g, (Value.slice A7 sl.length c7).ownBlock = some g → w.heap.size + 1 < g := fun g hg => by have h1 := ho7.base_le g hg; omega
  replace ho7 : Own8 w5 w.heap.size 5 (.slice A7 sl.length c7) sl := ho7.rebase2 (fun g hg => by have := lo7 g hg; omega)
  have hE0 := hE.stored 0 (.string (strB u))
  rw [recC_set0] at hE0
  have hE1 := hE0.stored 1 (.slice A7 sl.length c7)
  rw [recC_set1] at hE1
  replace hS := (hS.other (a := ⟨w.heap.size + 1, 0, none⟩) n1 (.string (strB u))).other (a := ⟨w.heap.size + 1, 1, none⟩) n1 (.slice A7 sl.length c7)
  have hz0 := hW.size
  replace hW := below_setn (below_setn hW (w.heap.size + 1) 0 (.string (strB u)) hpe hW.size) (w.heap.size + 1) 1 (.slice A7 sl.length c7) hpe (by simpa using hz0)
  have hg0 := grown_setCell w5 ⟨w.heap.size + 1, 0, none⟩ (.string (strB u))
  have hg1 := grown_setCell (w5.setCell ⟨w.heap.size + 1, 0, none⟩ (.string (strB u))) ⟨w.heap.size + 1, 1, none⟩ (.slice A7 sl.length c7)
  replace ho7 := (ho7.grown hg0 (opt_apart (fun g hg e => by have h1 := lo7 _ e; simp at hg; omega))).grown hg1 (opt_apart (fun g hg e => by have h1 := lo7 _ e; simp at hg; omega))
  replace hd6 := (hd6.grown hg0 (fun _ e => by have h1 : w.heap.size + 1 < w.heap.size + 1 := lo6 _ e; omega)).grown hg1 (fun _ e => by have h1 : w.heap.size + 1 < w.heap.size + 1 := lo6 _ e; omega)
  replace hE := hE1
  clear s0 s1 c0 c1 hE0 hE1 hg0 hg1 hz0 hb7 z5 hd5 hr5 ho4 hr4 lo4 z3 z4 lo6
  generalize (w5.setCell ⟨w.heap.size + 1, 0, none⟩ (.string (strB u))).setCell ⟨w.heap.size + 1, 1, none⟩ (.slice A7 sl.length c7) = w6 at *
  have te0 : True := trivial
  go_upto_region 10 with (first
    | (have _t := te0; go_at_call 73; refine (UY _ _ hd6).mono ?_; rintro e w8 ⟨v8, rfl, ho8, hb8⟩; have z8 := hE.lt; replace hS := hS.below hb8; replace hE := hE.below hb8; replace hW := below_below hW hb8; replace ho7 := ho7.below hb8; clear te0; have te1 : True := trivial))
  have lo8 : ∀ g, v8.ownBlock = some g → w.heap.size + 1 < g := fun g hg => by have h1 := ho8.base_le g hg; omega
  have hr8 := ho8.rd
  clear hb8 UY hd6 hr6 ho8 z8
  obtain ⟨A8, c8, rfl, _, _, _⟩ := hr8.open
  by_cases k5 : e3 = 0
  rotate_left
  · have q8 : (e3 == 0) = false := by simpa using k5
    have q9 : (e3 != 0) = true := by simpa using k5

    have hI2 := hI.out.trans (if_pos (.inl k5))
    replace hI2 := Go.Lib.hid hI2
    have b50 : True := trivial
    go_wp2_with (first
      | (have _t := b50; (with_reducible refine G_build ?_; refine L_build (recC [] (.slice none 0 0) 0 zB zB).toArray (by kernel_rfl) ?_); clear b50; have b51 : True := trivial)
      | (have _t := b51; (with_reducible refine G_store ?_; refine L_store_agg agR (by with_unfolding_all (conv => lhs; whnf)) (by with_unfolding_all (conv => lhs; whnf)) hS nR (by simpa using nR) (fun u hu => oR u (by simpa using hu)) ?_); intro wz hkz hgz hsz; clear b51; have b52 : True := trivial))
    exact rr_bad hI2.out hps (hW.grown hgz hW.size (by intro k hk; cases hk; exact hps)) rfl rfl rfl (by simpa using hkz)
  subst k5
  by_cases k6 : 4096 < m
  · have q8 : (4096 : Int) < (m : Int) := by omega
    have q9 : decide ((4096 : Int) < (m : Int)) = true := decide_eq_true q8
    have hI2 := hI.out.trans (if_pos (.inr (.inl k6)))
    replace hI2 := Go.Lib.hid hI2
    have b60 : True := trivial
    go_wp2_with (first
      | (have _t := b60; (with_reducible refine G_build ?_; refine L_build (recC [] (.slice none 0 0) 0 zB zB).toArray (by kernel_rfl) ?_); clear b60; have b61 : True := trivial)
      | (have _t := b61; (with_reducible refine G_store ?_; refine L_store_agg agR (by with_unfolding_all (conv => lhs; whnf)) (by with_unfolding_all (conv => lhs; whnf)) hS nR (by simpa using nR) (fun u hu => oR u (by simpa using hu)) ?_); intro wz hkz hgz hsz; clear b61; have b62 : True := trivial))
    exact rr_bad hI2.out hps (hW.grown hgz hW.size (by intro k hk; cases hk; exact hps)) rfl rfl rfl (by simpa using hkz)
  have q8 : ¬ (4096 : Int) < (m : Int) := by omega
  have q9 : decide ((4096 : Int) < (m : Int)) = false := decide_eq_false q8
  by_cases k7 : r3.length ≠ 64
  · have q10 : ((r3.length : Int) == 64) = false := by rw [beq_eq_false_iff_ne]; omega
    have q11 : ((r3.length : Int) != 64) = true := by rw [bne_iff_ne]; omega
    have hI2 := hI.out.trans (if_pos (.inr (.inr k7)))
    replace hI2 := Go.Lib.hid hI2
    have b70 : True := trivial
    go_wp2_with (first
      | (have _t := b70; (with_reducible refine G_build ?_; refine L_build (recC [] (.slice none 0 0) 0 zB zB).toArray (by kernel_rfl) ?_); clear b70; have b71 : True := trivial)
      | (have _t := b71; (with_reducible refine G_store ?_; refine L_store_agg agR (by with_unfolding_all (conv => lhs; whnf)) (by with_unfolding_all (conv => lhs; whnf)) hS nR (by simpa using nR) (fun u hu => oR u (by simpa using hu)) ?_); intro wz hkz hgz hsz; clear b71; have b72 : True := trivial))
    exact rr_bad hI2.out hps (hW.grown hgz hW.size (by intro k hk; cases hk; exact hps)) rfl rfl rfl (by simpa using hkz)
  have k7' : r3.length = 64 := by omega
  have q10 : ((r3.length : Int) == 64) = true := by rw [beq_iff_eq]; omega
  have q11 : ((r3.length : Int) != 64) = false := by simp; omega
  replace hI := Go.Lib.hid (hI.out.trans (if_neg (by rintro (h | h | h); exact absurd rfl h; exact k6 h; exact k7 h)))
  clear k7
  have q12 : (0 : Int) ≤ (m : Int) := by omega
  have q13 : (m : Int) ≤ 4096 := by omega
  have s0 := hE.frozen 2
  have c0 : _ = some _ := hE.cell 2
  go_upto_region 13 with fail
  have hE2 := hE.stored 2 (.int .i64 (m : Int))
  rw [recC_set2] at hE2
  replace hS := hS.other (a := ⟨w.heap.size + 1, 2, none⟩) n1 (.int .i64 (m : Int))
  have hg2 := grown_setCell w8 ⟨w.heap.size + 1, 2, none⟩ (.int .i64 (m : Int))
  replace ho7 := ho7.grown hg2 (opt_apart (fun g hg e => by have h1 := lo7 _ e; simp at hg; omega))
  have hrx := hr8.grown hg2 (fun _ e => by have h1 : w.heap.size + 1 < w.heap.size + 1 := lo8 _ e; omega)
  replace hW := below_setn hW (w.heap.size + 1) 2 (.int .i64 (m : Int)) hpe hW.size
  obtain ⟨_, _, eq8, hc8, _, hx8⟩ := hrx.open
  cases eq8
  obtain ⟨b8, o8, rfl, _⟩ := hx8 (by omega)
  have lo8' : ∀ g, (Value.slice (some ⟨b8, o8, none⟩) r3.length c8).ownBlock = some g → w.heap.size + 1 < g := lo8
  have lb8 : w.heap.size + 1 < b8 := lo8 b8 rfl
  have hRA : (r3.take 32).length = 32 := by simp; omega
  have hRB : (r3.drop 32).length = 32 := by simp; omega
  clear s0 c0 hE hg2 hr8 hx8 lo8
  generalize w8.setCell ⟨w.heap.size + 1, 2, none⟩ (.int .i64 (m : Int)) = w9 at *
  have k64 := Go.Lib.hid k7'
  rw [k7'] at hrx lo8' ⊢
  generalize hVA : r3.take 32 = RA at *
  generalize hVB : r3.drop 32 = RB at *
  replace hVA := Go.Lib.hid hVA
  replace hVB := Go.Lib.hid hVB
  clear k7'
  replace hRA := Go.Lib.hid hRA
  replace hRB := Go.Lib.hid hRB
  replace hE2 : Blk w9 (w.heap.size + 1) 42 (recC u (.slice A7 sl.length c7) (m : Int) (mixI RA 0) (mixI RB 0)) := by rw [mixI_zero, mixI_zero]; exact hE2
  clear q10 q11
  go_wp2_with fail
  go_loopw [10] (fun i wr => RrRel w u (.slice A7 sl.length c7) (m : Int) sl RA RB (.slice (some ⟨b8, o8, none⟩) 64 c8) r3 i wr) (fun i _ => (32 - (intOf i).toNat))
  case atStart => exact ⟨0, by omega, rfl, hS, hE2, ho7, hrx, hW⟩
  case round =>
    clear hS hE2 ho7 hrx hW
    obtain ⟨j, hj, rfl, hS, hE, ho7, hrx, hW⟩ := hrel
    by_cases hj32 : j < 32
    · have q10 : (j : Int) < 32 := by omega
      have q11 : (0 : Int) ≤ (j : Int) := by omega
      go_upto_region 16 with fail
      have x1 : (j : Int) < 64 := by omega
      have x2 : (32 : Int) + (j : Int) < 64 := by omega
      have x3 : (0 : Int) ≤ (32 : Int) + (j : Int) := by omega
      have x4 : ((32 : Int) + (j : Int)).toNat = 32 + j := by omega
      have x5 : ¬ (32 : Int) + (j : Int) < 0 := by omega
      have gA : bt r3 j = ((RA.getD j 0).toNat : Int) := by
        rw [← hVA.out]; unfold bt; simp [List.getD_eq_getElem?_getD, List.getElem?_take, hj32]
      have gB : bt r3 (32 + j) = ((RB.getD j 0).toNat : Int) := by
        rw [← hVB.out]; unfold bt; simp [List.getD_eq_getElem?_getD, List.getElem?_drop]
      have y1 := bvs_get r3 j (by rw [k64.out]; omega)
      have y2 := bvs_get r3 (32 + j) (by rw [k64.out]; omega)
      rw [gA] at y1
      rw [gB] at y2
      generalize hRA2 : recC u (.slice A7 sl.length c7) (m : Int) (mixI RA j) (mixI RB j) = R0 at *
      obtain ⟨R1, hR1⟩ : ∃ R1, R1 = R0.set (3 + j) (bv (RA.getD j 0)) := ⟨_, rfl⟩
      obtain ⟨R2, hR2⟩ : ∃ R2, R2 = R1.set (35 + j) (bv (RB.getD j 0)) := ⟨_, rfl⟩
      have lR0 : R0.length = 67 := by rw [← hRA2]; exact recC_len (mixI_len hRA.out _) (mixI_len hRB.out _)
      have lR1 : R1.length = 67 := by rw [hR1, List.length_set, lR0]
      obtain ⟨x0, hx0⟩ : ∃ x, R0[3 + j]? = some x := ⟨_, List.getElem?_eq_getElem (by omega)⟩
      obtain ⟨y0, hx1⟩ : ∃ x, R1[35 + j]? = some x := ⟨_, List.getElem?_eq_getElem (by omega)⟩
      clear lR0 lR1
      replace hRA2 := Go.Lib.hid hRA2
      replace hR1 := Go.Lib.hid hR1
      replace hR2 := Go.Lib.hid hR2
      refine O.region_making 17 (fun | 13 => [100] | 16 => [13] | _ => []) (fun | 13 => some fun _ => oneB (w.heap.size + 1) 42 R1 | 16 => some fun _ => oneB (w.heap.size + 1) 42 R2 | _ => none) 13 100 (fun k => k = w.heap.size + 1) (oneB (w.heap.size + 1) 42 R0 undef) (by kernel_rfl) (by kernel_rfl) ?_ ?_ ?_ ?_ ?_
      · intro i' S' h' e v'
        match i', h' with
        | 13, h' => cases h'; exact oneB_loc _ _ _ _ _ _
        | 16, h' => cases h'; exact oneB_loc _ _ _ _ _ _
      · exact oneB_loc _ _ _ _ _ _
      · exact ⟨hE, rfl⟩
      · rintro k rfl
        exact hE.lt
      simp only [List.take_succ_cons, List.take_zero, List.drop_succ_cons, List.drop_zero]
      (apply O.wpG_pure; (focus rfl); (focus (intro wg Bg hbg hBg hFg; go_simp; (try go_bits); (first | done | exact ⟨rfl, Below.refl _ _⟩ | rfl))); simp only [Act.put, List.setIfInBounds_toArray, List.set_cons_succ, List.set_cons_zero])
      (apply O.wpG_pure; (focus rfl); (focus (intro wg Bg hbg hBg hFg; go_simp; (try go_bits); (first | done | exact ⟨rfl, Below.refl _ _⟩ | rfl))); simp only [Act.put, List.setIfInBounds_toArray, List.set_cons_succ, List.set_cons_zero])
      (apply O.wpG_pure; (focus rfl); (focus (intro wg Bg hbg hBg hFg; go_simp; (try go_bits); (first | done | exact ⟨rfl, Below.refl _ _⟩ | rfl))); simp only [Act.put, List.setIfInBounds_toArray, List.set_cons_succ, List.set_cons_zero])
      (apply O.wpG_pure; (focus rfl); (focus (intro wg Bg hbg hBg hFg; go_simp; (try go_bits); (first | done | exact ⟨rfl, Below.refl _ _⟩ | rfl))); simp only [Act.put, List.setIfInBounds_toArray, List.set_cons_succ, List.set_cons_zero])
      (apply O.wpG_pure; (focus rfl); (focus (intro wg Bg hbg hBg hFg; go_simp; (try go_bits); (first | done | exact ⟨rfl, Below.refl _ _⟩ | rfl))); simp only [Act.put, List.setIfInBounds_toArray, List.set_cons_succ, List.set_cons_zero])
      (apply O.wpG_pure; (focus rfl); (focus (intro wg Bg hbg hBg hFg; have hrg := range_rd (hrx.drew.chg hbg (fun g e hk => by have hh := lo8' g e; clear hFg; omega)); have hcl : _ = some _ := hrg _ _ y1; go_simp; (try go_bits); (first | done | exact ⟨rfl, Below.refl _ _⟩ | rfl))); simp only [Act.put, List.setIfInBounds_toArray, List.set_cons_succ, List.set_cons_zero])
      (apply O.wpG_pure; (focus rfl); (focus (intro wg Bg hbg hBg hFg; go_simp; (try go_bits); (first | done | exact ⟨rfl, Below.refl _ _⟩ | rfl))); simp only [Act.put, List.setIfInBounds_toArray, List.set_cons_succ, List.set_cons_zero])
      (apply O.wpG_pure; (focus rfl); (focus (intro wg Bg hbg hBg hFg; go_simp; (try go_bits); (first | done | exact ⟨rfl, Below.refl _ _⟩ | rfl))); simp only [Act.put, List.setIfInBounds_toArray, List.set_cons_succ, List.set_cons_zero])
      (apply O.wpG_pure; (focus rfl); (focus (intro wg Bg hbg hBg hFg; go_simp; (try go_bits); (first | done | exact ⟨rfl, Below.refl _ _⟩ | rfl))); simp only [Act.put, List.setIfInBounds_toArray, List.set_cons_succ, List.set_cons_zero])
      (apply O.wpG_pure; (focus rfl); (focus (intro wg Bg hbg hBg hFg; go_simp; (try go_bits); (first | done | exact ⟨rfl, Below.refl _ _⟩ | rfl))); simp only [Act.put, List.setIfInBounds_toArray, List.set_cons_succ, List.set_cons_zero])
      (apply O.wpG_pure; (focus rfl); (focus (intro wg Bg hbg hBg hFg; have hrg := range_rd (hrx.drew.chg hbg (fun g e hk => by have hh := lo8' g e; clear hFg; omega)); have hcl : _ = some _ := hrg _ _ y2; go_simp; (try go_bits); (first | done | exact ⟨rfl, Below.refl _ _⟩ | rfl))); simp only [Act.put, List.setIfInBounds_toArray, List.set_cons_succ, List.set_cons_zero])
      (apply O.wpG_pure; (focus rfl); (focus (intro wg Bg hbg hBg hFg; go_simp; (try go_bits); (first | done | exact ⟨rfl, Below.refl _ _⟩ | rfl))); simp only [Act.put, List.setIfInBounds_toArray, List.set_cons_succ, List.set_cons_zero])
      (apply O.wpG_pure; (focus rfl); (focus (intro wg Bg hbg hBg hFg; go_simp; (try go_bits); (first | done | exact ⟨rfl, Below.refl _ _⟩ | rfl))); simp only [Act.put, List.setIfInBounds_toArray, List.set_cons_succ, List.set_cons_zero])
      apply O.wpG_make; (focus rfl); (focus (intro wg Bg hbg hBg hFg; have hS1 : oneB (w.heap.size + 1) 42 R0 undef (Bg 100) wg := hFg 100 (by decide +kernel); have x1 := (hS1.1.cell (3 + j)).trans hx0; have x2 := hS1.1.frozen (3 + j); exact goesTo_oneB (j := 3 + j) (v := bv (RA.getD j 0)) hS1 (by go_simp) rfl (by with_unfolding_all (conv => lhs; whnf)) rfl (by simp [go_sem, x1, x2, bv]) hR1.out (fun k hk => ⟨100, by simp, hk⟩))); intro vs1; simp only [Act.put, List.setIfInBounds_toArray, List.set_cons_succ, List.set_cons_zero]
      (apply O.wpG_pure; (focus rfl); (focus (intro wg Bg hbg hBg hFg; go_simp; (try go_bits); (first | done | exact ⟨rfl, Below.refl _ _⟩ | rfl))); simp only [Act.put, List.setIfInBounds_toArray, List.set_cons_succ, List.set_cons_zero])
      (apply O.wpG_pure; (focus rfl); (focus (intro wg Bg hbg hBg hFg; go_simp; (try go_bits); (first | done | exact ⟨rfl, Below.refl _ _⟩ | rfl))); simp only [Act.put, List.setIfInBounds_toArray, List.set_cons_succ, List.set_cons_zero])
      apply O.wpG_make; (focus rfl); (focus (intro wg Bg hbg hBg hFg; have hS1 : oneB (w.heap.size + 1) 42 R1 vs1 (Bg 13) wg := hFg 13 (by decide +kernel); have x1 := (hS1.1.cell (35 + j)).trans hx1; have x2 := hS1.1.frozen (35 + j); exact goesTo_oneB (j := 35 + j) (v := bv (RB.getD j 0)) hS1 (by go_simp) rfl (by with_unfolding_all (conv => lhs; whnf)) rfl (by simp [go_sem, x1, x2, bv]) hR2.out (fun k hk => ⟨13, by simp, hk⟩))); intro vs2; simp only [Act.put, List.setIfInBounds_toArray, List.set_cons_succ, List.set_cons_zero]
      refine O.wpG_end (fun wg Bg hbg hBg hFg => ?_)
      have hR : oneB (w.heap.size + 1) 42 R2 vs2 (Bg 16) wg := hFg 16
      replace hE := hR.1
      replace hS := hS.drew.chg hbg n1
      replace hW := hW.drew.trans (hbg.below hW.size (fun k hk => by subst hk; exact hpe))
      replace ho7 := ho7.drew.chg hbg (fun g hg e => by have h1 := lo7 g hg; clear hFg; omega)
      replace hrx := hrx.drew.chg hbg (fun g hg e => by have h1 := lo8' g hg; clear hFg; omega)
      clear hFg hBg hR hbg y1 y2
      rw [hR2.out, hR1.out, ← hRA2.out, recC_setA _ _ _ _ hRA.out hj32, recC_setB _ _ _ (mixI_len hRA.out _) hRB.out hj32] at hE
      go_wp2_with fail
      exact ⟨⟨j + 1, by omega, by go_num, hS, hE, ho7, hrx, hW⟩, by simp [intOf]; omega⟩
    · have hj2 : j = 32 := by omega
      subst hj2
      clear hj32 hj
      rw [mixI_all hRA.out, mixI_all hRB.out] at hE
      have nS : (recC u (.slice A7 sl.length c7) (m : Int) RA RB).length = 67 := recC_len hRA.out hRB.out
      have oS := recC_one (u := u) (v := .slice A7 sl.length c7) (n := (m : Int)) (a := RA) (b := RB) (own_vcells ho7).2
      have RC2 := refcright_c u (.slice A7 sl.length c7) sl (m : Int) RA RB wr ho7.rd (by have := lt.1; omega) (hT.below hW)
      have q14 : ¬ ((32 : Nat) : Int) < 32 := by omega
      clear hrx
      cases hq : rightB u sl (m : Int)
      · rw [hq] at RC2
        have hI2 := hI.out.trans (if_neg (by rw [hq]; decide))
        replace hI2 := Go.Lib.hid hI2
        have tg0 : True := trivial
        go_wp2_with (first
          | (have _t := tg0; (with_reducible refine G_load ?_; refine L_load_agg agR (by with_unfolding_all (conv => lhs; whnf)) hE nS ?_); clear tg0; have tg1 : True := trivial)
          | (have _t := tg1; go_at_call 24; refine RC2.mono ?_; rintro e w10 ⟨rfl, hb10⟩; replace hS := hS.below hb10; replace hW := below_below hW hb10; clear tg1; have tg2 : True := trivial)
          | (have _t := tg2; (with_reducible refine G_build ?_; refine L_build (recC [] (.slice none 0 0) 0 zB zB).toArray (by kernel_rfl) ?_); clear tg2; have tg3 : True := trivial)
          | (have _t := tg3; (with_reducible refine G_store ?_; refine L_store_agg agR (by with_unfolding_all (conv => lhs; whnf)) (by with_unfolding_all (conv => lhs; whnf)) hS nR (by simpa using nR) (fun u hu => oR u (by simpa using hu)) ?_); intro wz hkz hgz hsz; clear tg3; have tg4 : True := trivial))
        exact rr_bad hI2.out hps (hW.grown hgz hW.size (by intro k hk; cases hk; exact hps)) rfl rfl rfl (by simpa using hkz)
      · rw [hq] at RC2
        have hI2 := hI.out.trans (if_pos hq)
        replace hI2 := Go.Lib.hid hI2
        have th0 : True := trivial
        go_wp2_with (first
          | (have _t := th0; (with_reducible refine G_load ?_; refine L_load_agg agR (by with_unfolding_all (conv => lhs; whnf)) hE nS ?_); clear th0; have th1 : True := trivial)
          | (have _t := th1; go_at_call 24; refine RC2.mono ?_; rintro e w10 ⟨rfl, hb10⟩; replace hS := hS.below hb10; replace hE := hE.below hb10; replace ho7 := ho7.below hb10; replace hW := below_below hW hb10; clear th1; have th2 : True := trivial)
          | (have _t := th2; (with_reducible refine G_load ?_; refine L_load_agg agR (by with_unfolding_all (conv => lhs; whnf)) hE nS ?_); clear th2; have th3 : True := trivial)
          | (have _t := th3; (with_reducible refine G_store ?_; refine L_store_agg agR (by with_unfolding_all (conv => lhs; whnf)) (by with_unfolding_all (conv => lhs; whnf)) hS nR (by simpa using nS) (fun u hu => oS u (by simpa using hu)) ?_); intro wz hkz hgz hsz; clear th3; have th4 : True := trivial))
        replace hkz : Blk wz w.heap.size 42 (recC u (.slice A7 sl.length c7) (m : Int) RA RB) := by simpa using hkz
        refine ret_agg2 rfl agR rfl rfl hkz nS rfl ?_
        rw [hI2.out]
        exact ⟨_, rfl, ho7.grown hgz (opt_apart (fun g hg e => by have h1 := lo7 _ e; simp at hg; omega)), rfl, hW.grown hgz hW.size (by intro k hk; cases hk; exact hps)⟩

end Go.Proofs.YtfnlcnjflloecaaDoor
