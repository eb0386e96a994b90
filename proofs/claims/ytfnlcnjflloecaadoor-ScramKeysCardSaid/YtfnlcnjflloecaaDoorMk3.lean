/- roostlaw08.Same; CredsMake. -/
import Derived.Test.YtfnlcnjflloecaaDoorScr3
import Derived.Test.YtfnlcnjflloecaaDoorNamW
import Derived.Test.YtfnlcnjflloecaaDoorDoorW
import Derived.Lib.LazyBuf
/-! ### Mk1 -/
set_option linter.unusedVariables false
set_option linter.unusedSimpArgs false
set_option linter.unnecessarySimpa false
namespace Go.Proofs.YtfnlcnjflloecaaDoor
open Go.RowKit
def saltB (l : List UInt8) : Bool := decide (1 ≤ l.length) && decide (l.length ≤ 32)
theorem salted_c (v : Value) (l : List UInt8) (w : World) (h : Rd w v l) : Calls Tryd.prog 56 #[v] w fun e w' => e = .returned (.bool (saltB l)) ∧ w = w' := by
  obtain ⟨A, c, rfl, hc, hm, _⟩ := h.open
  have hl : l.length ≤ 9223372036854775807 := by unfold maxLen at hm; omega
  clear hc hm h
  unfold saltB
  by_cases h1 : 1 ≤ l.length
  · have q1 : (1 : Int) ≤ l.length := by omega
    rw [decide_eq_true h1]
    by_cases h2 : l.length ≤ 32
    · have q2 : (l.length : Int) ≤ 32 := by omega
      rw [decide_eq_true h2]
      go_enter Tryd.func56, Tryd.ntmps56
      go_wp2_with fail
      go_ret
      exact ⟨rfl, rfl⟩
    · have q2 : ¬ (l.length : Int) ≤ 32 := by omega
      rw [decide_eq_false h2]
      go_enter Tryd.func56, Tryd.ntmps56
      go_wp2_with fail
      go_ret
      exact ⟨rfl, rfl⟩
  · have q1 : ¬ (1 : Int) ≤ l.length := by omega
    have q2 : decide ((1 : Int) ≤ l.length) = false := decide_eq_false q1
    rw [decide_eq_false h1]
    go_enter Tryd.func56, Tryd.ntmps56
    go_wp2_with fail
    go_ret
    exact ⟨rfl, rfl⟩
theorem clone_c (v : Value) (l : List UInt8) (w : World) (h : Rd w v l) (hl : l.length ≤ 10000000) : Calls Tryd.prog 57 #[v] w (Gives8 5 w l) := by
  have h0 := h
  obtain ⟨A, c, rfl, hc, hm, h3⟩ := h.open
  have he := fun (w : World) => run_eql_slice_nil (P := Tryd.prog) w 37 5 A l.length c Tryd.underlying37
  cases A with
  | none =>
    have hl0 : l = [] := by
      cases l with
      | nil => rfl
      | cons a b => obtain ⟨_, _, e, _⟩ := h3 (by simp); cases e
    subst hl0
    clear h h0 h3 hm hc hl
    simp only [List.length_nil, Option.isNone_none] at he ⊢
    go_enter Tryd.func57, Tryd.ntmps57
    go_wp2_with fail
    go_ret
    exact ⟨_, rfl, Own8.nil _ _ _, Below.refl _ _⟩
  | some a =>
    clear h3 h hm hc
    simp only [Option.isNone_some] at he
    go_enter Tryd.func57, Tryd.ntmps57
    have ta0 : True := trivial
    go_wp2_with (first
      | (have _t := ta0; (at_builtin; refine wpList_cp8 rfl _ _ rfl st8 Tryd.underlying37 rfl rfl h0 (by omega) ?_); intro v2 w2 ho2 hb2; clear ta0; have ta1 : True := trivial))
    go_ret
    exact ⟨_, rfl, ho2, hb2⟩
end Go.Proofs.YtfnlcnjflloecaaDoor
/-! ### Mk2 -/
set_option linter.unusedVariables false
set_option linter.unusedSimpArgs false
set_option linter.unnecessarySimpa false
namespace Go.Proofs.YtfnlcnjflloecaaDoor
open Go.RowKit
/-- A record and the error's number. -/
structure RecI where
  u : List UInt8
  s : List UInt8
  n : Int
  a : List UInt8
  b : List UInt8
  e : Int
def badR (e : Int) : RecI := ⟨[], [], 0, zB, zB, e⟩
def mkI (u p s : List UInt8) (n : Int) : RecI :=
  if (localI u).2 ≠ 0 then badR (localI u).2 else if 128 < p.length then badR 5 else if p = [] ∨ Lib.validD p = false then badR 4 else if saltB s = false then badR 1
  else if (hiR p s n).2 ≠ 0 then badR (hiR p s n).2 else ⟨(localI u).1, s, n, ksA p s n, ksB p s n, 0⟩
def GivesR (w : World) (r : RecI) (e : Ending) (w' : World) : Prop :=
  ∃ v, e = .returned (.tuple #[.agg (recC r.u v r.n r.a r.b).toArray, .int .i64 r.e]) ∧ Own8 w' w.heap.size 5 v r.s ∧ v.oneCell' = true ∧ Below w.heap.size w w'
theorem GivesR.bad {w w' : World} (x : Int) (hb : Below w.heap.size w w') : GivesR w (badR x) (.returned (.tuple #[.agg (recC [] (.slice none 0 0) 0 zB zB).toArray, .int .i64 x])) w' :=
  ⟨.slice none 0 0, rfl, Own8.nil _ _ _, rfl, hb⟩
theorem rec_zero_len : (recC [] (.slice none 0 0) 0 zB zB).length = 67 := rfl
theorem rec_zero_one : ∀ x ∈ recC [] (.slice none 0 0) 0 zB zB, x.oneCell' = true := recC_one rfl
theorem pureTo_build {P : Program} {w : World} {ops : Array Oper} {a : Act} {o : Oper} {T : TypeId} {parts : Array (Nat × Operand)} {cs : Array Value} (hw : Region.wanted o (yielded ops a.tmps) = true) (ho : o.op = .build T parts)
    (hf : P.built T (parts.map fun (i, x) => (i, a.eval x)).toList = some cs) : PureTo P ops o a w (.agg cs) := by
  have hr := run_build (P := P) w T (parts.map fun (i, x) => (i, a.eval x)) cs hf
  unfold PureTo
  rw [if_pos hw]
  simp only [execOp, ho]
  simp [hr, Below.refl]
theorem own_vcells {w : World} {B : Nat} {e : TypeId} {v : Value} {l : List UInt8} (h : Own8 w B e v l) : v.cells = #[v] ∧ v.oneCell' = true := by
  obtain ⟨A, c, rfl, _⟩ := h.rd.open
  exact ⟨rfl, rfl⟩
set_option maxRecDepth 100000 in
set_option maxHeartbeats 6400000 in
theorem make_c (vs : Value) (u p s : List UInt8) (n : Int) (w : World) (hs : Rd w vs s) (hu : u.length ≤ 100000) (hp : p.length ≤ 100000) (hsl : s.length ≤ 100000) (hT : Tabs w) :
    Calls Tryd.prog 17 #[.string (strB u), .string (strB p), vs, .int .i64 n] w (GivesR w (mkI u p s n)) := by
  have LC := fun w1 (hb : Below w.heap.size w w1) => local_c u w1 (by omega) (hT.below hb)
  have VC := fun w1 (hb : Below w.heap.size w w1) => nvalids_c p w1 (by omega) (hT.below hb)
  have KC := fun w1 (hb : Below w.heap.size w w1) => keys_c vs p s n w1 (hs.below hb) hp hsl
  have SC := fun w1 (hb : Below w.heap.size w w1) => salted_c vs s w1 (hs.below hb)
  have CC := fun w1 (hb : Below w.heap.size w w1) => clone_c vs s w1 (hs.below hb) (by omega)
  have hsz := strB_size p
  have hI : mkI u p s n = if (localI u).2 ≠ 0 then badR (localI u).2 else if 128 < p.length then badR 5 else if p = [] ∨ Lib.validD p = false then badR 4 else if saltB s = false then badR 1
    else if (hiR p s n).2 ≠ 0 then badR (hiR p s n).2 else ⟨(localI u).1, s, n, ksA p s n, ksB p s n, 0⟩ := rfl
  have hAl := ksA_len p s n
  have hBl := ksB_len p s n
  unfold GivesSE at LC
  generalize mkI u p s n = I at *
  generalize localI u = L at *
  generalize ksA p s n = KA at *
  generalize ksB p s n = KB at *
  generalize hiR p s n = R at *
  obtain ⟨l1, l2⟩ := L
  obtain ⟨r1, r2⟩ := R
  simp only at LC KC hI
  have nA := (bvs_length KA).trans hAl
  have oA := bvs_one KA
  have nB := (bvs_length KB).trans hBl
  have oB := bvs_one KB
  have nZ : (bvs zB).length = 32 := rfl
  have z32' : (Tryd.prog.info? 40).map (·.zero) = some (some (.agg (bvs zB).toArray)) := z32
  have nR := rec_zero_len
  have oR := rec_zero_one
  have hz : Tryd.prog.built 42 [] = some (recC [] (.slice none 0 0) 0 zB zB).toArray := bR0
  have zR' := zR
  have GB := fun x w1 (hb : Below w.heap.size w w1) => GivesR.bad (w := w) (w' := w1) x hb
  by_cases c1 : l2 = 0
  rotate_left
  · have hI2 := Go.Lib.hid (hI.trans (if_pos c1))
    have q1 : (l2 != 0) = true := bne_iff_ne.2 c1
    clear hI hsz VC KC SC CC
    generalize strB u = U at *
    generalize strB p = P at *
    go_enter Tryd.func17, Tryd.ntmps17
    have tm10 : True := trivial
    go_wp2_with (first
      | (have _t := tm10; (with_reducible refine G_alloc ?_; refine L_alloc zR' ?_); intro w1 hk1 hb1 hs1; clear tm10; have tm11 : True := trivial)
      | (have _t := tm11; go_at_call 15; refine (LC _ hb1).mono ?_; rintro e w2 ⟨rfl, hb2⟩; replace hk1 := hk1.below hb2; replace hb1 := below_below hb1 hb2; clear tm11; have tm12 : True := trivial)
      | (have _t := tm12; (with_reducible refine G_build ?_; refine L_build (recC [] (.slice none 0 0) 0 zB zB).toArray (by kernel_rfl) ?_); clear tm12; have tm13 : True := trivial)
      | (have _t := tm13; (with_reducible refine G_store ?_; refine L_store_agg agR (by with_unfolding_all (conv => lhs; whnf)) (by with_unfolding_all (conv => lhs; whnf)) hk1 nR (by simpa using nR) (fun u hu => oR u (by simpa using hu)) ?_); intro wz hkz hgz hsz; clear tm13; have tm14 : True := trivial))
    have hbz : Below w.heap.size w wz := hb1.grown hgz hb1.size (by intro k hk; cases hk; exact Nat.le_refl _)
    rw [hI2.out]
    exact ret_agg2 (cs := recC [] (.slice none 0 0) 0 zB zB) rfl agR rfl rfl (by simpa using hkz) rfl rfl (GB l2 wz hbz)
  subst c1
  replace hI := hI.trans (if_neg (by simp))
  by_cases c2 : 128 < p.length
  · have hI2 := Go.Lib.hid (hI.trans (if_pos c2))
    have q1 : (128 : Int) < ((strB p).size : Int) := by omega
    clear hI hsz VC KC SC CC
    generalize strB u = U at *
    generalize strB p = P at *
    go_enter Tryd.func17, Tryd.ntmps17
    have tm20 : True := trivial
    go_wp2_with (first
      | (have _t := tm20; (with_reducible refine G_alloc ?_; refine L_alloc zR' ?_); intro w1 hk1 hb1 hs1; clear tm20; have tm21 : True := trivial)
      | (have _t := tm21; go_at_call 15; refine (LC _ hb1).mono ?_; rintro e w2 ⟨rfl, hb2⟩; replace hk1 := hk1.below hb2; replace hb1 := below_below hb1 hb2; clear tm21; have tm22 : True := trivial)
      | (have _t := tm22; (with_reducible refine G_build ?_; refine L_build (recC [] (.slice none 0 0) 0 zB zB).toArray (by kernel_rfl) ?_); clear tm22; have tm23 : True := trivial)
      | (have _t := tm23; (with_reducible refine G_store ?_; refine L_store_agg agR (by with_unfolding_all (conv => lhs; whnf)) (by with_unfolding_all (conv => lhs; whnf)) hk1 nR (by simpa using nR) (fun u hu => oR u (by simpa using hu)) ?_); intro wz hkz hgz hsz; clear tm23; have tm24 : True := trivial))
    have hbz : Below w.heap.size w wz := hb1.grown hgz hb1.size (by intro k hk; cases hk; exact Nat.le_refl _)
    rw [hI2.out]
    exact ret_agg2 (cs := recC [] (.slice none 0 0) 0 zB zB) rfl agR rfl rfl (by simpa using hkz) rfl rfl (GB 5 wz hbz)
  replace hI := hI.trans (if_neg c2)
  have q1 : ¬ (128 : Int) < ((strB p).size : Int) := by omega
  clear hsz
  by_cases c3 : p = []
  · have hI2 := Go.Lib.hid (hI.trans (if_pos (.inl c3)))
    have hem : (strB p).toList.isEmpty = true := by rw [c3, strB_toList]; rfl
    clear hI VC KC c2 c3 SC CC
    generalize strB u = U at *
    generalize strB p = P at *
    go_enter Tryd.func17, Tryd.ntmps17
    have tm30 : True := trivial
    go_wp2_with (first
      | (have _t := tm30; (with_reducible refine G_alloc ?_; refine L_alloc zR' ?_); intro w1 hk1 hb1 hs1; clear tm30; have tm31 : True := trivial)
      | (have _t := tm31; go_at_call 15; refine (LC _ hb1).mono ?_; rintro e w2 ⟨rfl, hb2⟩; replace hk1 := hk1.below hb2; replace hb1 := below_below hb1 hb2; clear tm31; have tm32 : True := trivial)
      | (have _t := tm32; (with_reducible refine G_build ?_; refine L_build (recC [] (.slice none 0 0) 0 zB zB).toArray (by kernel_rfl) ?_); clear tm32; have tm33 : True := trivial)
      | (have _t := tm33; (with_reducible refine G_store ?_; refine L_store_agg agR (by with_unfolding_all (conv => lhs; whnf)) (by with_unfolding_all (conv => lhs; whnf)) hk1 nR (by simpa using nR) (fun u hu => oR u (by simpa using hu)) ?_); intro wz hkz hgz hsz; clear tm33; have tm34 : True := trivial))
    have hbz : Below w.heap.size w wz := hb1.grown hgz hb1.size (by intro k hk; cases hk; exact Nat.le_refl _)
    rw [hI2.out]
    exact ret_agg2 (cs := recC [] (.slice none 0 0) 0 zB zB) rfl agR rfl rfl (by simpa using hkz) rfl rfl (GB 4 wz hbz)
  have hem := s_empty p c3
  cases hv : Lib.validD p
  · have hI2 := Go.Lib.hid (hI.trans (if_pos (.inr hv)))
    rw [hv] at VC
    clear hI KC c2 c3 hv SC CC
    generalize strB u = U at *
    generalize strB p = P at *
    go_enter Tryd.func17, Tryd.ntmps17
    have tm40 : True := trivial
    go_wp2_with (first
      | (have _t := tm40; (with_reducible refine G_alloc ?_; refine L_alloc zR' ?_); intro w1 hk1 hb1 hs1; clear tm40; have tm41 : True := trivial)
      | (have _t := tm41; go_at_call 15; refine (LC _ hb1).mono ?_; rintro e w2 ⟨rfl, hb2⟩; replace hk1 := hk1.below hb2; replace hb1 := below_below hb1 hb2; clear tm41; have tm42 : True := trivial)
      | (have _t := tm42; go_at_call 55; refine (VC _ hb1).mono ?_; rintro e w3 ⟨rfl, hb3⟩; replace hk1 := hk1.below hb3; replace hb1 := below_below hb1 hb3; clear tm42; have tm43 : True := trivial)
      | (have _t := tm43; (with_reducible refine G_build ?_; refine L_build (recC [] (.slice none 0 0) 0 zB zB).toArray (by kernel_rfl) ?_); clear tm43; have tm44 : True := trivial)
      | (have _t := tm44; (with_reducible refine G_store ?_; refine L_store_agg agR (by with_unfolding_all (conv => lhs; whnf)) (by with_unfolding_all (conv => lhs; whnf)) hk1 nR (by simpa using nR) (fun u hu => oR u (by simpa using hu)) ?_); intro wz hkz hgz hsz; clear tm44; have tm45 : True := trivial))
    have hbz : Below w.heap.size w wz := hb1.grown hgz hb1.size (by intro k hk; cases hk; exact Nat.le_refl _)
    rw [hI2.out]
    exact ret_agg2 (cs := recC [] (.slice none 0 0) 0 zB zB) rfl agR rfl rfl (by simpa using hkz) rfl rfl (GB 4 wz hbz)
  rw [hv] at VC
  replace hI := hI.trans (if_neg (by rintro (h | h); exact c3 h; rw [hv] at h; cases h))
  clear hv c3 c2
  cases hb : saltB s
  · have hI2 := Go.Lib.hid (hI.trans (if_pos hb))
    rw [hb] at SC
    clear hI KC CC hb
    generalize strB u = U at *
    generalize strB p = P at *
    go_enter Tryd.func17, Tryd.ntmps17
    have tm50 : True := trivial
    go_wp2_with (first
      | (have _t := tm50; (with_reducible refine G_alloc ?_; refine L_alloc zR' ?_); intro w1 hk1 hb1 hs1; clear tm50; have tm51 : True := trivial)
      | (have _t := tm51; go_at_call 15; refine (LC _ hb1).mono ?_; rintro e w2 ⟨rfl, hb2⟩; replace hk1 := hk1.below hb2; replace hb1 := below_below hb1 hb2; clear tm51; have tm52 : True := trivial)
      | (have _t := tm52; go_at_call 55; refine (VC _ hb1).mono ?_; rintro e w3 ⟨rfl, hb3⟩; replace hk1 := hk1.below hb3; replace hb1 := below_below hb1 hb3; clear tm52; have tm53 : True := trivial)
      | (have _t := tm53; go_at_call 56; refine (SC _ hb1).mono ?_; rintro e w4 ⟨rfl, rfl⟩; clear tm53; have tm54 : True := trivial)
      | (have _t := tm54; (with_reducible refine G_build ?_; refine L_build (recC [] (.slice none 0 0) 0 zB zB).toArray (by kernel_rfl) ?_); clear tm54; have tm55 : True := trivial)
      | (have _t := tm55; (with_reducible refine G_store ?_; refine L_store_agg agR (by with_unfolding_all (conv => lhs; whnf)) (by with_unfolding_all (conv => lhs; whnf)) hk1 nR (by simpa using nR) (fun u hu => oR u (by simpa using hu)) ?_); intro wz hkz hgz hsz; clear tm55; have tm56 : True := trivial))
    have hbz : Below w.heap.size w wz := hb1.grown hgz hb1.size (by intro k hk; cases hk; exact Nat.le_refl _)
    rw [hI2.out]
    exact ret_agg2 (cs := recC [] (.slice none 0 0) 0 zB zB) rfl agR rfl rfl (by simpa using hkz) rfl rfl (GB 1 wz hbz)
  rw [hb] at SC
  replace hI := hI.trans (if_neg (by rw [hb]; simp))
  clear hb
  by_cases c5 : r2 = 0
  rotate_left
  · have hI2 := Go.Lib.hid (hI.trans (if_pos c5))
    have q5 : (r2 != 0) = true := bne_iff_ne.2 c5
    clear hI CC
    generalize strB u = U at *
    generalize strB p = P at *
    go_enter Tryd.func17, Tryd.ntmps17
    have tm60 : True := trivial
    go_wp2_with (first
      | (have _t := tm60; (with_reducible refine G_alloc ?_; refine L_alloc zR' ?_); intro w1 hk1 hb1 hs1; clear tm60; have tm61 : True := trivial)
      | (have _t := tm61; go_at_call 15; refine (LC _ hb1).mono ?_; rintro e w2 ⟨rfl, hb2⟩; replace hk1 := hk1.below hb2; replace hb1 := below_below hb1 hb2; clear tm61; have tm62 : True := trivial)
      | (have _t := tm62; go_at_call 55; refine (VC _ hb1).mono ?_; rintro e w3 ⟨rfl, hb3⟩; replace hk1 := hk1.below hb3; replace hb1 := below_below hb1 hb3; clear tm62; have tm63 : True := trivial)
      | (have _t := tm63; go_at_call 56; refine (SC _ hb1).mono ?_; rintro e w4 ⟨rfl, rfl⟩; clear tm63; have tm64 : True := trivial)
      | (have _t := tm64; go_at_call 30; refine (KC _ hb1).mono ?_; rintro e w5 ⟨rfl, hb5⟩; replace hk1 := hk1.below hb5; replace hb1 := below_below hb1 hb5; have zk := hk1.lt; clear tm64; have tm65 : True := trivial)
      | (have _t := tm65; (with_reducible refine G_alloc ?_; refine L_alloc z32' ?_); intro w6 hk6 hb6 hs6; replace hk1 := hk1.below hb6; replace hb1 := below_below hb1 hb6; clear tm65; have tm66 : True := trivial)
      | (have _t := tm66; (with_reducible refine G_alloc ?_; refine L_alloc z32' ?_); intro w7 hk7 hb7 hs7; replace hk1 := hk1.below hb7; replace hk6 := hk6.below hb7; replace hb1 := below_below hb1 hb7; clear tm66; have tm67 : True := trivial)
      | (have _t := tm67; (with_reducible refine G_store ?_; refine L_store_agg ag32 (by with_unfolding_all (conv => lhs; whnf)) (by with_unfolding_all (conv => lhs; whnf)) hk6 nZ (by simpa using nA) (fun u hu => oA u (by simpa using hu)) ?_); intro w8 hk8 hg8 hs8; replace hk7 := hk7.grown hg8 (by simp [hs6]); replace hk1 := hk1.grown hg8 (by simp; omega); replace hb1 := hb1.grown hg8 hb1.size (by intro k hk; cases hk; omega); clear tm67; have tm68 : True := trivial)
      | (have _t := tm68; (with_reducible refine G_store ?_; refine L_store_agg ag32 (by with_unfolding_all (conv => lhs; whnf)) (by with_unfolding_all (conv => lhs; whnf)) hk7 nZ (by simpa using nB) (fun u hu => oB u (by simpa using hu)) ?_); intro w9 hk9 hg9 hs9; replace hk8 := hk8.grown hg9 (by simp [hs6]); replace hk1 := hk1.grown hg9 (by simp [hs6]; omega); replace hb1 := hb1.grown hg9 hb1.size (by intro k hk; cases hk; omega); clear tm68; have tm69 : True := trivial)
      | (have _t := tm69; (with_reducible refine G_build ?_; refine L_build (recC [] (.slice none 0 0) 0 zB zB).toArray (by kernel_rfl) ?_); clear tm69; have tm610 : True := trivial)
      | (have _t := tm610; (with_reducible refine G_store ?_; refine L_store_agg agR (by with_unfolding_all (conv => lhs; whnf)) (by with_unfolding_all (conv => lhs; whnf)) hk1 nR (by simpa using nR) (fun u hu => oR u (by simpa using hu)) ?_); intro wz hkz hgz hsz; clear tm610; have tm611 : True := trivial))
    have hbz : Below w.heap.size w wz := hb1.grown hgz hb1.size (by intro k hk; cases hk; exact Nat.le_refl _)
    rw [hI2.out]
    exact ret_agg2 (cs := recC [] (.slice none 0 0) 0 zB zB) rfl agR rfl rfl (by simpa using hkz) rfl rfl (GB r2 wz hbz)
  subst c5
  have hI2 := Go.Lib.hid (hI.trans (if_neg (by simp)))
  clear hI GB
  generalize strB u = U at *
  generalize strB p = P at *
  go_enter Tryd.func17, Tryd.ntmps17
  have tm70 : True := trivial
  go_upto_region 13 with (first
    | (have _t := tm70; (with_reducible refine G_alloc ?_; refine L_alloc zR' ?_); intro w1 hk1 hb1 hs1; clear tm70; have tm71 : True := trivial)
    | (have _t := tm71; go_at_call 15; refine (LC _ hb1).mono ?_; rintro e w2 ⟨rfl, hb2⟩; replace hk1 := hk1.below hb2; replace hb1 := below_below hb1 hb2; clear tm71; have tm72 : True := trivial)
    | (have _t := tm72; go_at_call 55; refine (VC _ hb1).mono ?_; rintro e w3 ⟨rfl, hb3⟩; replace hk1 := hk1.below hb3; replace hb1 := below_below hb1 hb3; clear tm72; have tm73 : True := trivial)
    | (have _t := tm73; go_at_call 56; refine (SC _ hb1).mono ?_; rintro e w4 ⟨rfl, rfl⟩; clear tm73; have tm74 : True := trivial)
    | (have _t := tm74; go_at_call 30; refine (KC _ hb1).mono ?_; rintro e w5 ⟨rfl, hb5⟩; replace hk1 := hk1.below hb5; replace hb1 := below_below hb1 hb5; have zk := hk1.lt; clear tm74; have tm75 : True := trivial)
    | (have _t := tm75; (with_reducible refine G_alloc ?_; refine L_alloc z32' ?_); intro w6 hk6 hb6 hs6; replace hk1 := hk1.below hb6; replace hb1 := below_below hb1 hb6; clear tm75; have tm76 : True := trivial)
    | (have _t := tm76; (with_reducible refine G_alloc ?_; refine L_alloc z32' ?_); intro w7 hk7 hb7 hs7; replace hk1 := hk1.below hb7; replace hk6 := hk6.below hb7; replace hb1 := below_below hb1 hb7; clear tm76; have tm77 : True := trivial)
    | (have _t := tm77; (with_reducible refine G_store ?_; refine L_store_agg ag32 (by with_unfolding_all (conv => lhs; whnf)) (by with_unfolding_all (conv => lhs; whnf)) hk6 nZ (by simpa using nA) (fun u hu => oA u (by simpa using hu)) ?_); intro w8 hk8 hg8 hs8; replace hk7 := hk7.grown hg8 (by simp [hs6]); replace hk1 := hk1.grown hg8 (by simp; omega); replace hb1 := hb1.grown hg8 hb1.size (by intro k hk; cases hk; omega); clear tm77; have tm78 : True := trivial)
    | (have _t := tm78; (with_reducible refine G_store ?_; refine L_store_agg ag32 (by with_unfolding_all (conv => lhs; whnf)) (by with_unfolding_all (conv => lhs; whnf)) hk7 nZ (by simpa using nB) (fun u hu => oB u (by simpa using hu)) ?_); intro w9 hk9 hg9 hs9; replace hk8 := hk8.grown hg9 (by simp [hs6]); replace hk1 := hk1.grown hg9 (by simp [hs6]; omega); replace hb1 := hb1.grown hg9 hb1.size (by intro k hk; cases hk; omega); clear tm78; have tm79 : True := trivial))
  rw [hs6] at hk9
  replace hk8 : Blk w9 w5.heap.size 40 (bvs KA) := by simpa using hk8
  replace hk9 : Blk w9 (w5.heap.size + 1) 40 (bvs KB) := by simpa using hk9
  have zb : w.heap.size < w9.heap.size := hk1.lt
  refine region_making 7 (fun _ => []) (fun | 2 => some fun _ => new8 5 s | _ => none) (by kernel_rfl) (by kernel_rfl) ?_ ?_
  · intro i' S' h' e v'
    match i', h' with
    | 2, h' => cases h'; exact new8_loc _ _ _ _
  simp only [List.take_succ_cons, List.take_zero, List.drop_succ_cons, List.drop_zero]
  (apply wpG_pure; (focus rfl); (focus (intro wg Bg hbg hBg hFg; go_simp; (try go_bits); (first | done | exact ⟨rfl, Below.refl _ _⟩ | rfl))); simp only [Act.put, List.setIfInBounds_toArray, List.set_cons_succ, List.set_cons_zero])
  (apply wpG_pure; (focus rfl); (focus (intro wg Bg hbg hBg hFg; go_simp; (try go_bits); (first | done | exact ⟨rfl, Below.refl _ _⟩ | rfl))); simp only [Act.put, List.setIfInBounds_toArray, List.set_cons_succ, List.set_cons_zero])
  (apply wpG_make; (focus rfl); (focus (intro wg Bg hbg hBg hFg; go_simp; go_at_call 57; exact Calls.mono (CC wg (hb1.drew.trans (hbg.mono hb1.size))) (fun e w' h => (by obtain ⟨u, rfl, ho, hb⟩ := h; exact ⟨u, rfl, Chg.of_below hb, ⟨ho.mono (Nat.zero_le _), fun g hg => (by first | exact .inr ⟨ho.base_le g hg, ho.lt g hg⟩ | exact ⟨ho.base_le g hg, ho.lt g hg⟩)⟩⟩)))); intro va; simp only [Act.put, List.setIfInBounds_toArray, List.set_cons_succ, List.set_cons_zero])
  (apply wpG_pure; (focus rfl); (focus (intro wg Bg hbg hBg hFg; go_simp; (try go_bits); (first | done | exact ⟨rfl, Below.refl _ _⟩ | rfl))); simp only [Act.put, List.setIfInBounds_toArray, List.set_cons_succ, List.set_cons_zero])
  (apply wpG_pure; (focus rfl); (focus (intro wg Bg hbg hBg hFg; exact pureTo_load_agg ag32 (by with_unfolding_all (conv => lhs; whnf)) (hk8.drew.below hbg) nA)); simp only [Act.put, List.setIfInBounds_toArray, List.set_cons_succ, List.set_cons_zero])
  (apply wpG_pure; (focus rfl); (focus (intro wg Bg hbg hBg hFg; exact pureTo_load_agg ag32 (by with_unfolding_all (conv => lhs; whnf)) (hk9.drew.below hbg) nB)); simp only [Act.put, List.setIfInBounds_toArray, List.set_cons_succ, List.set_cons_zero])
  apply wpG_pure (v := .agg (recC l1 va n KA KB).toArray); (focus rfl); (focus (intro wg Bg hbg hBg hFg; have hN : new8 5 s va (Bg 2) wg := hFg 2 (by decide +kernel); exact pureTo_build (by go_simp) rfl (Eq.trans (congrArg (Program.built _ _) (by with_unfolding_all rfl)) (rec_built l1 va n KA KB (own_vcells hN.1).1 hAl hBl)))); simp only [Act.put, List.setIfInBounds_toArray, List.set_cons_succ, List.set_cons_zero]
  refine wpG_end (fun wg Bg hbg hBg hFg => ?_)
  have hN : new8 5 s va (Bg 2) wg := hFg 2
  have hlo : ∀ g, va.ownBlock = some g → w9.heap.size ≤ g := fun g hg => hBg.lo 2 g (hN.2 g hg)
  have hown : Own8 wg w.heap.size 5 va s := hN.1.rebase2 (fun g hg => by have := hlo g hg; omega)
  have hkg := hk1.drew.below hbg
  have hbG : Below w.heap.size w wg := hb1.drew.trans (hbg.mono hb1.size)
  have hL : (recC l1 va n KA KB).length = 67 := recC_len hAl hBl
  have hO := recC_one (u := l1) (n := n) (a := KA) (b := KB) (own_vcells hN.1).2
  clear hFg hBg LC VC KC SC CC
  have tm80 : True := trivial
  go_wp2_with (first
    | (have _t := tm80; (with_reducible refine G_store ?_; refine L_store_agg agR (by with_unfolding_all (conv => lhs; whnf)) (by with_unfolding_all (conv => lhs; whnf)) hkg nR (by simpa using hL) (fun u hu => hO u (by simpa using hu)) ?_); intro wz hkz hgz hsz; clear tm80; have tm81 : True := trivial))
  rw [hI2.out]
  exact ret_agg2 (cs := recC l1 va n KA KB) rfl agR rfl rfl (by simpa using hkz) hL rfl ⟨va, rfl, hown.grown hgz (opt_apart (fun g hg e => by cases hg; have := hlo _ e; omega)), (own_vcells hN.1).2, hbG.grown hgz hbG.size (by intro k hk; cases hk; exact Nat.le_refl _)⟩
set_option maxRecDepth 100000 in
set_option maxHeartbeats 6400000 in
theorem refmake_c (vs : Value) (u p s : List UInt8) (n : Int) (w : World) (hs : Rd w vs s) (hu : u.length ≤ 100000) (hp : p.length ≤ 100000) (hsl : s.length ≤ 100000) (hT : Tabs w) :
    Calls Tryd.prog 19 #[.string (strB u), .string (strB p), vs, .int .i64 n] w (GivesR w (mkI u p s n)) := by
  have LC := fun w1 (hb : Below w.heap.size w w1) => reflocal_c u w1 (by omega)
  have VC := fun w1 (hb : Below w.heap.size w w1) => refvalid_c p w1 (by omega)
  have KC := fun w1 (hb : Below w.heap.size w w1) => refkeys_c vs p s n w1 (hs.below hb) hp hsl
  have hsz := strB_size p
  have hI : mkI u p s n = if (localI u).2 ≠ 0 then badR (localI u).2 else if 128 < p.length then badR 5 else if p = [] ∨ Lib.validD p = false then badR 4 else if saltB s = false then badR 1
    else if (hiR p s n).2 ≠ 0 then badR (hiR p s n).2 else ⟨(localI u).1, s, n, ksA p s n, ksB p s n, 0⟩ := rfl
  have hAl := ksA_len p s n
  have hBl := ksB_len p s n
  have hCl := ckC_len p s n
  unfold GivesSE at LC
  generalize mkI u p s n = I at *
  generalize localI u = L at *
  generalize ksA p s n = KA at *
  generalize ksB p s n = KB at *
  generalize ckC p s n = KD at *
  generalize hiR p s n = R at *
  obtain ⟨l1, l2⟩ := L
  obtain ⟨r1, r2⟩ := R
  simp only at LC KC hI
  have nA := (bvs_length KA).trans hAl
  have oA := bvs_one KA
  have nB := (bvs_length KB).trans hBl
  have oB := bvs_one KB
  have nD := (bvs_length KD).trans hCl
  have oD := bvs_one KD
  have nZ : (bvs zB).length = 32 := rfl
  have z32' : (Tryd.prog.info? 40).map (·.zero) = some (some (.agg (bvs zB).toArray)) := z32
  have nR := rec_zero_len
  have oR := rec_zero_one
  have hz : Tryd.prog.built 42 [] = some (recC [] (.slice none 0 0) 0 zB zB).toArray := bR0
  have zR' := zR
  have GB := fun x w1 (hb : Below w.heap.size w w1) => GivesR.bad (w := w) (w' := w1) x hb
  have q8 := fun (h : saltB s = false) => h
  by_cases c1 : l2 = 0
  rotate_left
  · have hI2 := Go.Lib.hid (hI.trans (if_pos c1))
    have q1 : (l2 != 0) = true := bne_iff_ne.2 c1
    clear hI hsz VC KC 
    generalize strB u = U at *
    generalize strB p = P at *
    go_enter Tryd.func19, Tryd.ntmps19
    have tr10 : True := trivial
    go_wp2_with (first
      | (have _t := tr10; (with_reducible refine G_alloc ?_; refine L_alloc zR' ?_); intro w1 hk1 hb1 hs1; clear tr10; have tr11 : True := trivial)
      | (have _t := tr11; go_at_call 42; refine (LC _ hb1).mono ?_; rintro e w2 ⟨rfl, hb2⟩; replace hk1 := hk1.below hb2; replace hb1 := below_below hb1 hb2; clear tr11; have tr12 : True := trivial)
      | (have _t := tr12; (with_reducible refine G_build ?_; refine L_build (recC [] (.slice none 0 0) 0 zB zB).toArray (by kernel_rfl) ?_); clear tr12; have tr13 : True := trivial)
      | (have _t := tr13; (with_reducible refine G_store ?_; refine L_store_agg agR (by with_unfolding_all (conv => lhs; whnf)) (by with_unfolding_all (conv => lhs; whnf)) hk1 nR (by simpa using nR) (fun u hu => oR u (by simpa using hu)) ?_); intro wz hkz hgz hsz; clear tr13; have tr14 : True := trivial))
    have hbz : Below w.heap.size w wz := hb1.grown hgz hb1.size (by intro k hk; cases hk; exact Nat.le_refl _)
    rw [hI2.out]
    exact ret_agg2 (cs := recC [] (.slice none 0 0) 0 zB zB) rfl agR rfl rfl (by simpa using hkz) rfl rfl (GB l2 wz hbz)
  subst c1
  replace hI := hI.trans (if_neg (by simp))
  by_cases c2 : 128 < p.length
  · have hI2 := Go.Lib.hid (hI.trans (if_pos c2))
    have q1 : (128 : Int) < ((strB p).size : Int) := by omega
    clear hI hsz VC KC 
    generalize strB u = U at *
    generalize strB p = P at *
    go_enter Tryd.func19, Tryd.ntmps19
    have tr20 : True := trivial
    go_wp2_with (first
      | (have _t := tr20; (with_reducible refine G_alloc ?_; refine L_alloc zR' ?_); intro w1 hk1 hb1 hs1; clear tr20; have tr21 : True := trivial)
      | (have _t := tr21; go_at_call 42; refine (LC _ hb1).mono ?_; rintro e w2 ⟨rfl, hb2⟩; replace hk1 := hk1.below hb2; replace hb1 := below_below hb1 hb2; clear tr21; have tr22 : True := trivial)
      | (have _t := tr22; (with_reducible refine G_build ?_; refine L_build (recC [] (.slice none 0 0) 0 zB zB).toArray (by kernel_rfl) ?_); clear tr22; have tr23 : True := trivial)
      | (have _t := tr23; (with_reducible refine G_store ?_; refine L_store_agg agR (by with_unfolding_all (conv => lhs; whnf)) (by with_unfolding_all (conv => lhs; whnf)) hk1 nR (by simpa using nR) (fun u hu => oR u (by simpa using hu)) ?_); intro wz hkz hgz hsz; clear tr23; have tr24 : True := trivial))
    have hbz : Below w.heap.size w wz := hb1.grown hgz hb1.size (by intro k hk; cases hk; exact Nat.le_refl _)
    rw [hI2.out]
    exact ret_agg2 (cs := recC [] (.slice none 0 0) 0 zB zB) rfl agR rfl rfl (by simpa using hkz) rfl rfl (GB 5 wz hbz)
  replace hI := hI.trans (if_neg c2)
  have q1 : ¬ (128 : Int) < ((strB p).size : Int) := by omega
  clear hsz
  by_cases c3 : p = []
  · have hI2 := Go.Lib.hid (hI.trans (if_pos (.inl c3)))
    have hem : (strB p).toList.isEmpty = true := by rw [c3, strB_toList]; rfl
    clear hI VC KC c2 c3 
    generalize strB u = U at *
    generalize strB p = P at *
    go_enter Tryd.func19, Tryd.ntmps19
    have tr30 : True := trivial
    go_wp2_with (first
      | (have _t := tr30; (with_reducible refine G_alloc ?_; refine L_alloc zR' ?_); intro w1 hk1 hb1 hs1; clear tr30; have tr31 : True := trivial)
      | (have _t := tr31; go_at_call 42; refine (LC _ hb1).mono ?_; rintro e w2 ⟨rfl, hb2⟩; replace hk1 := hk1.below hb2; replace hb1 := below_below hb1 hb2; clear tr31; have tr32 : True := trivial)
      | (have _t := tr32; (with_reducible refine G_build ?_; refine L_build (recC [] (.slice none 0 0) 0 zB zB).toArray (by kernel_rfl) ?_); clear tr32; have tr33 : True := trivial)
      | (have _t := tr33; (with_reducible refine G_store ?_; refine L_store_agg agR (by with_unfolding_all (conv => lhs; whnf)) (by with_unfolding_all (conv => lhs; whnf)) hk1 nR (by simpa using nR) (fun u hu => oR u (by simpa using hu)) ?_); intro wz hkz hgz hsz; clear tr33; have tr34 : True := trivial))
    have hbz : Below w.heap.size w wz := hb1.grown hgz hb1.size (by intro k hk; cases hk; exact Nat.le_refl _)
    rw [hI2.out]
    exact ret_agg2 (cs := recC [] (.slice none 0 0) 0 zB zB) rfl agR rfl rfl (by simpa using hkz) rfl rfl (GB 4 wz hbz)
  have hem := s_empty p c3
  cases hv : Lib.validD p
  · have hI2 := Go.Lib.hid (hI.trans (if_pos (.inr hv)))
    rw [hv] at VC
    clear hI KC c2 c3 hv 
    generalize strB u = U at *
    generalize strB p = P at *
    go_enter Tryd.func19, Tryd.ntmps19
    have tr40 : True := trivial
    go_wp2_with (first
      | (have _t := tr40; (with_reducible refine G_alloc ?_; refine L_alloc zR' ?_); intro w1 hk1 hb1 hs1; clear tr40; have tr41 : True := trivial)
      | (have _t := tr41; go_at_call 42; refine (LC _ hb1).mono ?_; rintro e w2 ⟨rfl, hb2⟩; replace hk1 := hk1.below hb2; replace hb1 := below_below hb1 hb2; clear tr41; have tr42 : True := trivial)
      | (have _t := tr42; go_at_call 58; refine (VC _ hb1).mono ?_; rintro e w3 ⟨rfl, rfl⟩; clear tr42; have tr43 : True := trivial)
      | (have _t := tr43; (with_reducible refine G_build ?_; refine L_build (recC [] (.slice none 0 0) 0 zB zB).toArray (by kernel_rfl) ?_); clear tr43; have tr44 : True := trivial)
      | (have _t := tr44; (with_reducible refine G_store ?_; refine L_store_agg agR (by with_unfolding_all (conv => lhs; whnf)) (by with_unfolding_all (conv => lhs; whnf)) hk1 nR (by simpa using nR) (fun u hu => oR u (by simpa using hu)) ?_); intro wz hkz hgz hsz; clear tr44; have tr45 : True := trivial))
    have hbz : Below w.heap.size w wz := hb1.grown hgz hb1.size (by intro k hk; cases hk; exact Nat.le_refl _)
    rw [hI2.out]
    exact ret_agg2 (cs := recC [] (.slice none 0 0) 0 zB zB) rfl agR rfl rfl (by simpa using hkz) rfl rfl (GB 4 wz hbz)
  rw [hv] at VC
  replace hI := hI.trans (if_neg (by rintro (h | h); exact c3 h; rw [hv] at h; cases h))
  clear hv c3 c2
  cases hb : saltB s
  · have hI2 := Go.Lib.hid (hI.trans (if_pos hb))
    have hq : s.length < 1 ∨ 32 < s.length := by unfold saltB at hb; simp at hb; omega
    have hs0 := hs
    obtain ⟨AA, cc, rfl, _, _, _⟩ := hs.open
    clear hI KC hb hs
    generalize strB u = U at *
    generalize strB p = P at *
    by_cases h1 : s.length < 1
    · have q3 : (s.length : Int) < 1 := by omega
      clear hq
      go_enter Tryd.func19, Tryd.ntmps19
      have tr50 : True := trivial
      go_wp2_with (first
        | (have _t := tr50; (with_reducible refine G_alloc ?_; refine L_alloc zR' ?_); intro w1 hk1 hb1 hs1; clear tr50; have tr51 : True := trivial)
        | (have _t := tr51; go_at_call 42; refine (LC _ hb1).mono ?_; rintro e w2 ⟨rfl, hb2⟩; replace hk1 := hk1.below hb2; replace hb1 := below_below hb1 hb2; clear tr51; have tr52 : True := trivial)
        | (have _t := tr52; go_at_call 58; refine (VC _ hb1).mono ?_; rintro e w3 ⟨rfl, rfl⟩; clear tr52; have tr53 : True := trivial)
        | (have _t := tr53; (with_reducible refine G_build ?_; refine L_build (recC [] (.slice none 0 0) 0 zB zB).toArray (by kernel_rfl) ?_); clear tr53; have tr54 : True := trivial)
        | (have _t := tr54; (with_reducible refine G_store ?_; refine L_store_agg agR (by with_unfolding_all (conv => lhs; whnf)) (by with_unfolding_all (conv => lhs; whnf)) hk1 nR (by simpa using nR) (fun u hu => oR u (by simpa using hu)) ?_); intro wz hkz hgz hsz; clear tr54; have tr55 : True := trivial))
      have hbz : Below w.heap.size w wz := hb1.grown hgz hb1.size (by intro k hk; cases hk; exact Nat.le_refl _)
      rw [hI2.out]
      exact ret_agg2 (cs := recC [] (.slice none 0 0) 0 zB zB) rfl agR rfl rfl (by simpa using hkz) rfl rfl (GB 1 wz hbz)
    · have q3 : ¬ (s.length : Int) < 1 := by omega
      have q3' : decide ((s.length : Int) < 1) = false := decide_eq_false q3
      have q4 : (32 : Int) < s.length := by omega
      clear hq h1
      go_enter Tryd.func19, Tryd.ntmps19
      have tr60 : True := trivial
      go_wp2_with (first
        | (have _t := tr60; (with_reducible refine G_alloc ?_; refine L_alloc zR' ?_); intro w1 hk1 hb1 hs1; clear tr60; have tr61 : True := trivial)
        | (have _t := tr61; go_at_call 42; refine (LC _ hb1).mono ?_; rintro e w2 ⟨rfl, hb2⟩; replace hk1 := hk1.below hb2; replace hb1 := below_below hb1 hb2; clear tr61; have tr62 : True := trivial)
        | (have _t := tr62; go_at_call 58; refine (VC _ hb1).mono ?_; rintro e w3 ⟨rfl, rfl⟩; clear tr62; have tr63 : True := trivial)
        | (have _t := tr63; (with_reducible refine G_build ?_; refine L_build (recC [] (.slice none 0 0) 0 zB zB).toArray (by kernel_rfl) ?_); clear tr63; have tr64 : True := trivial)
        | (have _t := tr64; (with_reducible refine G_store ?_; refine L_store_agg agR (by with_unfolding_all (conv => lhs; whnf)) (by with_unfolding_all (conv => lhs; whnf)) hk1 nR (by simpa using nR) (fun u hu => oR u (by simpa using hu)) ?_); intro wz hkz hgz hsz; clear tr64; have tr65 : True := trivial))
      have hbz : Below w.heap.size w wz := hb1.grown hgz hb1.size (by intro k hk; cases hk; exact Nat.le_refl _)
      rw [hI2.out]
      exact ret_agg2 (cs := recC [] (.slice none 0 0) 0 zB zB) rfl agR rfl rfl (by simpa using hkz) rfl rfl (GB 1 wz hbz)
  have hq : ¬ s.length < 1 ∧ ¬ 32 < s.length := by unfold saltB at hb; simp at hb; omega
  have q3 : ¬ (s.length : Int) < 1 := by omega
  have q3' : decide ((s.length : Int) < 1) = false := decide_eq_false q3
  have q4 : ¬ (32 : Int) < s.length := by omega
  have hs0 := hs
  obtain ⟨AA, cc, rfl, _, _, _⟩ := hs.open
  clear hs hq
  replace hI := hI.trans (if_neg (by rw [hb]; simp))
  clear hb
  by_cases c5 : r2 = 0
  rotate_left
  · have hI2 := Go.Lib.hid (hI.trans (if_pos c5))
    have q5 : (r2 != 0) = true := bne_iff_ne.2 c5
    clear hI 
    generalize strB u = U at *
    generalize strB p = P at *
    go_enter Tryd.func19, Tryd.ntmps19
    have tr70 : True := trivial
    go_wp2_with (first
      | (have _t := tr70; (with_reducible refine G_alloc ?_; refine L_alloc zR' ?_); intro w1 hk1 hb1 hs1; clear tr70; have tr71 : True := trivial)
      | (have _t := tr71; go_at_call 42; refine (LC _ hb1).mono ?_; rintro e w2 ⟨rfl, hb2⟩; replace hk1 := hk1.below hb2; replace hb1 := below_below hb1 hb2; clear tr71; have tr72 : True := trivial)
      | (have _t := tr72; go_at_call 58; refine (VC _ hb1).mono ?_; rintro e w3 ⟨rfl, rfl⟩; clear tr72; have tr73 : True := trivial)
      | (have _t := tr73; go_at_call 32; refine (KC _ hb1).mono ?_; rintro e w5 ⟨rfl, hb5⟩; replace hk1 := hk1.below hb5; replace hb1 := below_below hb1 hb5; have zk := hk1.lt; clear tr73; have tr74 : True := trivial)
      | (have _t := tr74; (with_reducible refine G_alloc ?_; refine L_alloc z32' ?_); intro w6 hk6 hb6 hs6; replace hk1 := hk1.below hb6; replace hb1 := below_below hb1 hb6; clear tr74; have tr75 : True := trivial)
      | (have _t := tr75; (with_reducible refine G_alloc ?_; refine L_alloc z32' ?_); intro w7 hk7 hb7 hs7; replace hk1 := hk1.below hb7; replace hk6 := hk6.below hb7; replace hb1 := below_below hb1 hb7; clear tr75; have tr76 : True := trivial)
      | (have _t := tr76; (with_reducible refine G_alloc ?_; refine L_alloc z32' ?_); intro w7' hk7' hb7' hs7'; replace hk1 := hk1.below hb7'; replace hk6 := hk6.below hb7'; replace hk7 := hk7.below hb7'; replace hb1 := below_below hb1 hb7'; clear tr76; have tr77 : True := trivial)
      | (have _t := tr77; (with_reducible refine G_store ?_; refine L_store_agg ag32 (by with_unfolding_all (conv => lhs; whnf)) (by with_unfolding_all (conv => lhs; whnf)) hk6 nZ (by simpa using nA) (fun u hu => oA u (by simpa using hu)) ?_); intro w8 hk8 hg8 hs8; replace hk7 := hk7.grown hg8 (by simp [hs6]); replace hk7' := hk7'.grown hg8 (by simp [hs6, hs7]; omega); replace hk1 := hk1.grown hg8 (by simp; omega); replace hb1 := hb1.grown hg8 hb1.size (by intro k hk; cases hk; omega); clear tr77; have tr78 : True := trivial)
      | (have _t := tr78; (with_reducible refine G_store ?_; refine L_store_agg ag32 (by with_unfolding_all (conv => lhs; whnf)) (by with_unfolding_all (conv => lhs; whnf)) hk7 nZ (by simpa using nB) (fun u hu => oB u (by simpa using hu)) ?_); intro w9 hk9 hg9 hs9; replace hk8 := hk8.grown hg9 (by simp [hs6]); replace hk7' := hk7'.grown hg9 (by simp [hs6, hs7]); replace hk1 := hk1.grown hg9 (by simp [hs6]; omega); replace hb1 := hb1.grown hg9 hb1.size (by intro k hk; cases hk; omega); clear tr78; have tr79 : True := trivial)
      | (have _t := tr79; (with_reducible refine G_store ?_; refine L_store_agg ag32 (by with_unfolding_all (conv => lhs; whnf)) (by with_unfolding_all (conv => lhs; whnf)) hk7' nZ (by simpa using nD) (fun u hu => oD u (by simpa using hu)) ?_); intro wa hka hga hsa; replace hk8 := hk8.grown hga (by simp [hs6, hs7]; omega); replace hk9 := hk9.grown hga (by simp [hs6, hs7]); replace hk1 := hk1.grown hga (by simp [hs6, hs7]; omega); replace hb1 := hb1.grown hga hb1.size (by intro k hk; cases hk; omega); clear tr79; have tr710 : True := trivial)
      | (have _t := tr710; (with_reducible refine G_build ?_; refine L_build (recC [] (.slice none 0 0) 0 zB zB).toArray (by kernel_rfl) ?_); clear tr710; have tr711 : True := trivial)
      | (have _t := tr711; (with_reducible refine G_store ?_; refine L_store_agg agR (by with_unfolding_all (conv => lhs; whnf)) (by with_unfolding_all (conv => lhs; whnf)) hk1 nR (by simpa using nR) (fun u hu => oR u (by simpa using hu)) ?_); intro wz hkz hgz hsz; clear tr711; have tr712 : True := trivial))
    have hbz : Below w.heap.size w wz := hb1.grown hgz hb1.size (by intro k hk; cases hk; exact Nat.le_refl _)
    rw [hI2.out]
    exact ret_agg2 (cs := recC [] (.slice none 0 0) 0 zB zB) rfl agR rfl rfl (by simpa using hkz) rfl rfl (GB r2 wz hbz)
  subst c5
  have hI2 := Go.Lib.hid (hI.trans (if_neg (by simp)))
  clear hI GB
  generalize strB u = U at *
  generalize strB p = P at *
  go_enter Tryd.func19, Tryd.ntmps19
  have tr80 : True := trivial
  go_upto_region 13 with (first
    | (have _t := tr80; (with_reducible refine G_alloc ?_; refine L_alloc zR' ?_); intro w1 hk1 hb1 hs1; clear tr80; have tr81 : True := trivial)
    | (have _t := tr81; go_at_call 42; refine (LC _ hb1).mono ?_; rintro e w2 ⟨rfl, hb2⟩; replace hk1 := hk1.below hb2; replace hb1 := below_below hb1 hb2; clear tr81; have tr82 : True := trivial)
    | (have _t := tr82; go_at_call 58; refine (VC _ hb1).mono ?_; rintro e w3 ⟨rfl, rfl⟩; clear tr82; have tr83 : True := trivial)
    | (have _t := tr83; go_at_call 32; refine (KC _ hb1).mono ?_; rintro e w5 ⟨rfl, hb5⟩; replace hk1 := hk1.below hb5; replace hb1 := below_below hb1 hb5; have zk := hk1.lt; clear tr83; have tr84 : True := trivial)
    | (have _t := tr84; (with_reducible refine G_alloc ?_; refine L_alloc z32' ?_); intro w6 hk6 hb6 hs6; replace hk1 := hk1.below hb6; replace hb1 := below_below hb1 hb6; clear tr84; have tr85 : True := trivial)
    | (have _t := tr85; (with_reducible refine G_alloc ?_; refine L_alloc z32' ?_); intro w7 hk7 hb7 hs7; replace hk1 := hk1.below hb7; replace hk6 := hk6.below hb7; replace hb1 := below_below hb1 hb7; clear tr85; have tr86 : True := trivial)
    | (have _t := tr86; (with_reducible refine G_alloc ?_; refine L_alloc z32' ?_); intro w7' hk7' hb7' hs7'; replace hk1 := hk1.below hb7'; replace hk6 := hk6.below hb7'; replace hk7 := hk7.below hb7'; replace hb1 := below_below hb1 hb7'; clear tr86; have tr87 : True := trivial)
    | (have _t := tr87; (with_reducible refine G_store ?_; refine L_store_agg ag32 (by with_unfolding_all (conv => lhs; whnf)) (by with_unfolding_all (conv => lhs; whnf)) hk6 nZ (by simpa using nA) (fun u hu => oA u (by simpa using hu)) ?_); intro w8 hk8 hg8 hs8; replace hk7 := hk7.grown hg8 (by simp [hs6]); replace hk7' := hk7'.grown hg8 (by simp [hs6, hs7]; omega); replace hk1 := hk1.grown hg8 (by simp; omega); replace hb1 := hb1.grown hg8 hb1.size (by intro k hk; cases hk; omega); clear tr87; have tr88 : True := trivial)
    | (have _t := tr88; (with_reducible refine G_store ?_; refine L_store_agg ag32 (by with_unfolding_all (conv => lhs; whnf)) (by with_unfolding_all (conv => lhs; whnf)) hk7 nZ (by simpa using nB) (fun u hu => oB u (by simpa using hu)) ?_); intro w9 hk9 hg9 hs9; replace hk8 := hk8.grown hg9 (by simp [hs6]); replace hk7' := hk7'.grown hg9 (by simp [hs6, hs7]); replace hk1 := hk1.grown hg9 (by simp [hs6]; omega); replace hb1 := hb1.grown hg9 hb1.size (by intro k hk; cases hk; omega); clear tr88; have tr89 : True := trivial)
    | (have _t := tr89; (with_reducible refine G_store ?_; refine L_store_agg ag32 (by with_unfolding_all (conv => lhs; whnf)) (by with_unfolding_all (conv => lhs; whnf)) hk7' nZ (by simpa using nD) (fun u hu => oD u (by simpa using hu)) ?_); intro wa hka hga hsa; replace hk8 := hk8.grown hga (by simp [hs6, hs7]; omega); replace hk9 := hk9.grown hga (by simp [hs6, hs7]); replace hk1 := hk1.grown hga (by simp [hs6, hs7]; omega); replace hb1 := hb1.grown hga hb1.size (by intro k hk; cases hk; omega); clear tr89; have tr810 : True := trivial))
  have e6 : w6.heap.size = w5.heap.size + 1 := hs6
  rw [e6] at hk9
  replace hk8 : Blk wa w5.heap.size 40 (bvs KA) := by simpa using hk8
  replace hk9 : Blk wa (w5.heap.size + 1) 40 (bvs KB) := by simpa using hk9
  have zb : w.heap.size < wa.heap.size := hk1.lt
  refine region_making 8 (fun | 3 => [1] | _ => []) (fun | 1 => some fun _ => new8 5 [] | 3 => some fun _ => new8 5 ([] ++ s) | _ => none) (by kernel_rfl) (by kernel_rfl) ?_ ?_
  · intro i' S' h' e v'
    match i', h' with
    | 1, h' => cases h'; exact new8_loc _ _ _ _
    | 3, h' => cases h'; exact new8_loc _ _ _ _
  simp only [List.take_succ_cons, List.take_zero, List.drop_succ_cons, List.drop_zero]
  (apply wpG_pure; (focus rfl); (focus (intro wg Bg hbg hBg hFg; go_simp; (try go_bits); (first | done | exact ⟨rfl, Below.refl _ _⟩ | rfl))); simp only [Act.put, List.setIfInBounds_toArray, List.set_cons_succ, List.set_cons_zero])
  (apply wpG_make; (focus rfl); (focus (intro wg Bg hbg hBg hFg; refine goesTo_lit (n := 0) (by go_simp) [] rfl (by decide) (by go_simp; first | done | rfl | exact ⟨rfl, rfl⟩))); intro vx; simp only [Act.put, List.setIfInBounds_toArray, List.set_cons_succ, List.set_cons_zero])
  (apply wpG_pure; (focus rfl); (focus (intro wg Bg hbg hBg hFg; go_simp; (try go_bits); (first | done | exact ⟨rfl, Below.refl _ _⟩ | rfl))); simp only [Act.put, List.setIfInBounds_toArray, List.set_cons_succ, List.set_cons_zero])
  (apply wpG_make; (focus rfl); (focus (intro wg Bg hbg hBg hFg; have hN := hFg 1 (by decide +kernel); exact goesTo_app8 rfl _ _ rfl st8 (by with_unfolding_all (conv => lhs; whnf)) (id hN).1 (by with_unfolding_all (conv => lhs; whnf)) (Rd.src ((hs0.below (hb1.drew.trans (hbg.mono hb1.size)))) Tryd.underlying37) (by first | omega | (simp; omega)) (Nat.zero_le _) (fun g hg => ⟨1, by simp, (id hN).2 g hg⟩))); intro va; simp only [Act.put, List.setIfInBounds_toArray, List.set_cons_succ, List.set_cons_zero])
  (apply wpG_pure; (focus rfl); (focus (intro wg Bg hbg hBg hFg; go_simp; (try go_bits); (first | done | exact ⟨rfl, Below.refl _ _⟩ | rfl))); simp only [Act.put, List.setIfInBounds_toArray, List.set_cons_succ, List.set_cons_zero])
  (apply wpG_pure; (focus rfl); (focus (intro wg Bg hbg hBg hFg; exact pureTo_load_agg ag32 (by with_unfolding_all (conv => lhs; whnf)) (hk8.drew.below hbg) nA)); simp only [Act.put, List.setIfInBounds_toArray, List.set_cons_succ, List.set_cons_zero])
  (apply wpG_pure; (focus rfl); (focus (intro wg Bg hbg hBg hFg; exact pureTo_load_agg ag32 (by with_unfolding_all (conv => lhs; whnf)) (hk9.drew.below hbg) nB)); simp only [Act.put, List.setIfInBounds_toArray, List.set_cons_succ, List.set_cons_zero])
  apply wpG_pure (v := .agg (recC l1 va n KA KB).toArray); (focus rfl); (focus (intro wg Bg hbg hBg hFg; have hN : new8 5 s va (Bg 3) wg := hFg 3 (by decide +kernel); exact pureTo_build (by go_simp) rfl (Eq.trans (congrArg (Program.built _ _) (by with_unfolding_all rfl)) (rec_built l1 va n KA KB (own_vcells hN.1).1 hAl hBl)))); simp only [Act.put, List.setIfInBounds_toArray, List.set_cons_succ, List.set_cons_zero]
  refine wpG_end (fun wg Bg hbg hBg hFg => ?_)
  have hN : new8 5 s va (Bg 3) wg := hFg 3
  have hlo : ∀ g, va.ownBlock = some g → wa.heap.size ≤ g := fun g hg => hBg.lo 3 g (hN.2 g hg)
  have hown : Own8 wg w.heap.size 5 va s := hN.1.rebase2 (fun g hg => by have := hlo g hg; omega)
  have hkg := hk1.drew.below hbg
  have hbG : Below w.heap.size w wg := hb1.drew.trans (hbg.mono hb1.size)
  have hL : (recC l1 va n KA KB).length = 67 := recC_len hAl hBl
  have hO := recC_one (u := l1) (n := n) (a := KA) (b := KB) (own_vcells hN.1).2
  clear hFg hBg LC VC KC 
  have tr90 : True := trivial
  go_wp2_with (first
    | (have _t := tr90; (with_reducible refine G_store ?_; refine L_store_agg agR (by with_unfolding_all (conv => lhs; whnf)) (by with_unfolding_all (conv => lhs; whnf)) hkg nR (by simpa using hL) (fun u hu => hO u (by simpa using hu)) ?_); intro wz hkz hgz hsz; clear tr90; have tr91 : True := trivial))
  rw [hI2.out]
  exact ret_agg2 (cs := recC l1 va n KA KB) rfl agR rfl rfl (by simpa using hkz) hL rfl ⟨va, rfl, hown.grown hgz (opt_apart (fun g hg e => by cases hg; have := hlo _ e; omega)), (own_vcells hN.1).2, hbG.grown hgz hbG.size (by intro k hk; cases hk; exact Nat.le_refl _)⟩
end Go.Proofs.YtfnlcnjflloecaaDoor
/-! ### Mk3 -/
set_option linter.unusedVariables false
set_option linter.unusedSimpArgs false
set_option linter.unnecessarySimpa false
namespace Go.Proofs.YtfnlcnjflloecaaDoor
open Go.RowKit
theorem str_self (l : List UInt8) : ((strB l).toList == (strB l).toList) = true := by simp
set_option maxRecDepth 100000 in
set_option maxHeartbeats 1600000 in
theorem csame_c (v1 v2 : Value) (u s : List UInt8) (n : Int) (A B : List UInt8) (w : World) (h1 : Rd w v1 s) (h2 : Rd w v2 s) (hA : A.length = 32) (hB : B.length = 32) :
    Calls Tryd.prog 20 #[.agg (recC u v1 n A B).toArray, .agg (recC u v2 n A B).toArray] w (Ok w) := by
  have nA := (bvs_length A).trans hA
  have nB := (bvs_length B).trans hB
  have q1 := str_self u
  have q2 := str_self s
  have q3 : (n == n) = true := by simp
  have c1a : (recC u v1 n A B)[0]? = some (.string (strB u)) := rfl
  have c1b : (recC u v1 n A B)[1]? = some v1 := rfl
  have c1c : (recC u v1 n A B)[2]? = some (.int .i64 n) := rfl
  have c2a : (recC u v2 n A B)[0]? = some (.string (strB u)) := rfl
  have c2b : (recC u v2 n A B)[1]? = some v2 := rfl
  have c2c : (recC u v2 n A B)[2]? = some (.int .i64 n) := rfl
  have r1 : ∀ (W : World) g, Blk W g 42 (recC u v1 n A B) → W.rangeAt g 3 (bvs A) ∧ W.rangeAt g 35 (bvs B) := fun W g h => ⟨rec_st h hA, rec_sv h hA⟩
  have r2 : ∀ (W : World) g, Blk W g 42 (recC u v2 n A B) → W.rangeAt g 3 (bvs A) ∧ W.rangeAt g 35 (bvs B) := fun W g h => ⟨rec_st h hA, rec_sv h hA⟩
  generalize recC u v1 n A B = R1 at *
  generalize recC u v2 n A B = R2 at *
  generalize strB u = U at *
  go_enter Tryd.func20, Tryd.ntmps20
  have ta0 : True := trivial
  go_upto_region 1 with (first
    | (have _t := ta0; (with_reducible refine G_box ?_; refine L_box (by with_unfolding_all (conv => lhs; whnf)) ?_); intro w1 hk1 hb1 hs1; clear ta0; have ta1 : True := trivial)
    | (have _t := ta1; (with_reducible refine G_box ?_; refine L_box (by with_unfolding_all (conv => lhs; whnf)) ?_); intro w2 hk2 hb2 hs2; clear ta1; have ta2 : True := trivial))
  replace hk1 : Blk w1 w.heap.size 42 R1 := hk1
  replace hk2 : Blk w2 w1.heap.size 42 R2 := hk2
  rw [hs1] at hk2
  replace hk1 := hk1.below hb2
  have hbb := below_below hb1 hb2
  have cv1 := convert_str (h1.below hbb)
  have cv2 := convert_str (h2.below hbb)
  generalize strB s = S at *
  have e0 := (hk1.cell 0).trans c1a
  have e1 := (hk1.cell 1).trans c1b
  have e2 := (hk1.cell 2).trans c1c
  have f0 := (hk2.cell 0).trans c2a
  have f1 := (hk2.cell 1).trans c2b
  have f2 := (hk2.cell 2).trans c2c
  obtain ⟨m1, m2⟩ := r1 _ _ hk1
  obtain ⟨m3, m4⟩ := r2 _ _ hk2
  clear c1a c1b c1c c2a c2b c2c r1 r2 hs1 hs2 hb1 hb2 h1 h2
  have tb0 : True := trivial
  go_wp2_with (first
    | (have _t := tb0; refine L_load_mid32 (by go_simp) rfl ag32 (by with_unfolding_all (conv => lhs; whnf)) m1 nA ?_; clear tb0; have tb1 : True := trivial)
    | (have _t := tb1; refine L_load_mid32 (by go_simp) rfl ag32 (by with_unfolding_all (conv => lhs; whnf)) m3 nA ?_; clear tb1; have tb2 : True := trivial)
    | (have _t := tb2; refine L_load_mid32 (by go_simp) rfl ag32 (by with_unfolding_all (conv => lhs; whnf)) m2 nB ?_; clear tb2; have tb3 : True := trivial)
    | (have _t := tb3; refine L_load_mid32 (by go_simp) rfl ag32 (by with_unfolding_all (conv => lhs; whnf)) m4 nB ?_; clear tb3; have tb4 : True := trivial))
  go_ret
  exact ⟨rfl, hbb⟩
theorem mkI_len (u p s : List UInt8) (n : Int) : (mkI u p s n).a.length = 32 ∧ (mkI u p s n).b.length = 32 := by
  have hA := ksA_len p s n
  have hB := ksB_len p s n
  unfold mkI
  split
  · exact ⟨rfl, rfl⟩
  · split
    · exact ⟨rfl, rfl⟩
    · split
      · exact ⟨rfl, rfl⟩
      · split
        · exact ⟨rfl, rfl⟩
        · split
          · exact ⟨rfl, rfl⟩
          · exact ⟨hA, hB⟩
set_option maxRecDepth 100000 in
set_option maxHeartbeats 3200000 in
theorem credsMake_w (w : World) (hT : Tabs w) (u0 : ByteArray) (y0 : u0.size ≤ maxLen) (p0 : ByteArray) (y1 : p0.size ≤ maxLen) (vs : Value) (s0 : List UInt8) (hs : Rd w vs s0) (n : Int) (hn : -9223372036854775808 ≤ n ∧ n ≤ 9223372036854775807) :
    Calls Tryd.prog 5 #[.agg #[.string u0, .string p0, vs, .int .i64 n]] w (Ok w) := by
  have TU := fun w1 => text_c u0.data.toList 100 w1 (by unfold maxLen at y0; exact y0) (by omega)
  have TP := fun w1 => text_c p0.data.toList 200 w1 (by unfold maxLen at y1; exact y1) (by omega)
  have e0 : strB u0.data.toList = u0 := rfl
  have e1 : strB p0.data.toList = p0 := rfl
  rw [e0] at TU
  rw [e1] at TP
  have lu : (u0.data.toList.take 100).length ≤ 100 := by simp; omega
  have lp : (p0.data.toList.take 200).length ≤ 200 := by simp; omega
  have ls : (s0.take (40 : Int).toNat).length ≤ 40 := by simp; omega
  have TW := fun w1 (hb : Below w.heap.size w w1) => twin_c vs s0 40 w1 (hs.below hb) (by omega) (by omega)
  generalize s0.take (40 : Int).toNat = s at *
  generalize u0.data.toList.take 100 = u at *
  generalize p0.data.toList.take 200 = p at *
  have MC := fun v1 m w1 h1 (hb : Below w.heap.size w w1) => make_c v1 u p s m w1 h1 (by omega) (by omega) (by omega) (hT.below hb)
  have RC := fun v1 m w1 h1 (hb : Below w.heap.size w w1) => refmake_c v1 u p s m w1 h1 (by omega) (by omega) (by omega) (hT.below hb)
  have ML := fun m => mkI_len u p s m
  have WK := fun w1 => wakes8_c w1
  have hn1 := hn.1
  have hn2 := hn.2
  have nR := rec_zero_len
  have zR' := zR
  generalize strB u = U at *
  generalize strB p = P at *
  clear e0 e1 y0 y1 lu lp ls hT hn
  rcases (by omega : ¬ 15 < n ∨ (15 < n ∧ n ≤ 4096) ∨ (15 < n ∧ ¬ n ≤ 4096)) with c1 | ⟨c1, c2⟩ | ⟨c1, c2⟩
  first
    | have c1' : decide (15 < n) = false := decide_eq_false c1
    | skip
  all_goals
    go_enter Tryd.func5, Tryd.ntmps5
    have ta0 : True := trivial
    go_upto_region 1 with (first
      | (have _t := ta0; (with_reducible refine G_box ?_; refine L_box (by with_unfolding_all (conv => lhs; whnf)) ?_); intro w1 hk1 hb1 hs1; clear ta0; have ta1 : True := trivial))
    (refine region_making 12 (fun _ => []) (fun _ => none) (by kernel_rfl) (by kernel_rfl) ?_ ?_; (focus (intro i' S' h' e v'; cases h')); simp only [List.take_succ_cons, List.take_zero, List.drop_succ_cons, List.drop_zero])
    (apply wpG_pure; (focus rfl); (focus (intro wg Bg hbg hBg hFg; go_simp; (try go_bits); (first | done | exact ⟨rfl, Below.refl _ _⟩ | rfl))); simp only [Act.put, List.setIfInBounds_toArray, List.set_cons_succ, List.set_cons_zero])
    (apply wpG_pure; (focus rfl); (focus (intro wg Bg hbg hBg hFg; have c0 : _ = some _ := (hk1.drew.below hbg).cell 0; go_simp; (try go_bits); (first | done | exact ⟨rfl, Below.refl _ _⟩ | rfl))); simp only [Act.put, List.setIfInBounds_toArray, List.set_cons_succ, List.set_cons_zero])
    (apply wpG_pure; (focus rfl); (focus (intro wg Bg hbg hBg hFg; go_simp; (try go_bits); (first | done | exact ⟨rfl, Below.refl _ _⟩ | rfl))); simp only [Act.put, List.setIfInBounds_toArray, List.set_cons_succ, List.set_cons_zero])
    (apply wpG_pure; (focus rfl); (focus (intro wg Bg hbg hBg hFg; have c0 : _ = some _ := (hk1.drew.below hbg).cell 1; go_simp; (try go_bits); (first | done | exact ⟨rfl, Below.refl _ _⟩ | rfl))); simp only [Act.put, List.setIfInBounds_toArray, List.set_cons_succ, List.set_cons_zero])
    (apply wpG_pure; (focus rfl); (focus (intro wg Bg hbg hBg hFg; go_simp; (try go_bits); (first | done | exact ⟨rfl, Below.refl _ _⟩ | rfl))); simp only [Act.put, List.setIfInBounds_toArray, List.set_cons_succ, List.set_cons_zero])
    (apply wpG_pure; (focus rfl); (focus (intro wg Bg hbg hBg hFg; have c0 : _ = some _ := (hk1.drew.below hbg).cell 2; go_simp; (try go_bits); (first | done | exact ⟨rfl, Below.refl _ _⟩ | rfl))); simp only [Act.put, List.setIfInBounds_toArray, List.set_cons_succ, List.set_cons_zero])
    (apply wpG_pure; (focus rfl); (focus (intro wg Bg hbg hBg hFg; go_simp; (try go_bits); (first | done | exact ⟨rfl, Below.refl _ _⟩ | rfl))); simp only [Act.put, List.setIfInBounds_toArray, List.set_cons_succ, List.set_cons_zero])
    (apply wpG_pure; (focus rfl); (focus (intro wg Bg hbg hBg hFg; have c0 : _ = some _ := (hk1.drew.below hbg).cell 3; go_simp; (try go_bits); (first | done | exact ⟨rfl, Below.refl _ _⟩ | rfl))); simp only [Act.put, List.setIfInBounds_toArray, List.set_cons_succ, List.set_cons_zero])
    (apply wpG_pure; (focus rfl); (focus (intro wg Bg hbg hBg hFg; go_simp; (try go_bits); (first | done | exact ⟨rfl, Below.refl _ _⟩ | rfl))); simp only [Act.put, List.setIfInBounds_toArray, List.set_cons_succ, List.set_cons_zero])
    (apply wpG_pure; (focus rfl); (focus (intro wg Bg hbg hBg hFg; go_simp; (try go_bits); (first | done | exact ⟨rfl, Below.refl _ _⟩ | rfl))); simp only [Act.put, List.setIfInBounds_toArray, List.set_cons_succ, List.set_cons_zero])
    (apply wpG_pure; (focus rfl); (focus (intro wg Bg hbg hBg hFg; go_simp; (try go_bits); (first | done | exact ⟨rfl, Below.refl _ _⟩ | rfl))); simp only [Act.put, List.setIfInBounds_toArray, List.set_cons_succ, List.set_cons_zero])
    (apply wpG_pure; (focus rfl); (focus (intro wg Bg hbg hBg hFg; go_simp; (try go_bits); (first | done | exact ⟨rfl, Below.refl _ _⟩ | rfl))); simp only [Act.put, List.setIfInBounds_toArray, List.set_cons_succ, List.set_cons_zero])
    refine wpG_end (fun wg Bg hbg hBg hFg => ?_)
    have hb2 : Below w.heap.size w wg := hb1.drew.trans (hbg.mono hb1.size)
    clear hFg hBg hbg hk1 hb1 hs1
    have tb0 : True := trivial
    go_upto_region 7 with (first
      | (have _t := tb0; go_at_call 9; refine (TU _).mono ?_; rintro e w3 ⟨rfl, rfl⟩; clear tb0; have tb1 : True := trivial)
      | (have _t := tb1; go_at_call 9; refine (TP _).mono ?_; rintro e w3 ⟨rfl, rfl⟩; clear tb1; have tb2 : True := trivial)
      | (have _t := tb2; go_at_call 18; refine (TW _ hb2).mono ?_; rintro e w4 ⟨v4, rfl, ho4, hb4⟩; replace hb2 := below_below hb2 hb4; clear tb2; have tb3 : True := trivial)
      | (have _t := tb3; go_at_call 17; refine (MC _ _ _ ho4.rd hb2).mono ?_; rintro e w5 ⟨v5, rfl, ho5, hv5, hb5⟩; replace hb2 := below_below hb2 hb5; have z5 := hb2.size; clear tb3; have tb4 : True := trivial)
      | (have _t := tb4; (with_reducible refine G_alloc ?_; refine L_alloc zR' ?_); intro w6 hk6 hb6 hs6; have hr6 := ho5.rd.below hb6; replace hb2 := below_below hb2 hb6; clear tb4; have tb5 : True := trivial)
      | (have _t := tb5; (with_reducible refine G_store ?_; refine L_store_agg agR (by with_unfolding_all (conv => lhs; whnf)) (by with_unfolding_all (conv => lhs; whnf)) hk6 nR (by simpa using recC_len (ML _).1 (ML _).2) (fun x hx => recC_one hv5 x (by simpa using hx)) ?_); intro w7 hk7 hg7 hs7; clear tb5; have tb6 : True := trivial))
    replace hb2 : Below w.heap.size w w7 := hb2.grown hg7 hb2.size (by intro k hk; cases hk; exact z5)
    have hr7 := hr6.grown hg7 (fun _ e => by have := ho5.lt _ e; omega)
    have l5 : ∀ g, v5.ownBlock = some g → g < w5.heap.size := fun g e => ho5.lt g e
    clear hr6 hg7 hs7 hs6 hk6 hb6 hb5 hb4 ho4 ho5
    have tc0 : True := trivial
    go_upto_region 8 with (first
      | (have _t := tc0; go_at_call 18; refine (TW _ hb2).mono ?_; rintro e w4 ⟨v6, rfl, ho6, hb4⟩; replace hb2 := below_below hb2 hb4; replace hk7 := hk7.below hb4; replace hr7 := hr7.below hb4; clear tc0; have tc1 : True := trivial)
      | (have _t := tc1; go_at_call 19; refine (RC _ _ _ ho6.rd hb2).mono ?_; rintro e w8 ⟨v8, rfl, ho8, hv8, hb8⟩; replace hb2 := below_below hb2 hb8; have z8 := hb2.size; replace hk7 := hk7.below hb8; replace hr7 := hr7.below hb8; have l7 := hk7.lt; clear tc1; have tc2 : True := trivial)
      | (have _t := tc2; (with_reducible refine G_alloc ?_; refine L_alloc zR' ?_); intro w9 hk9 hb9 hs9; have hr9 := ho8.rd.below hb9; replace hb2 := below_below hb2 hb9; replace hk7 := hk7.below hb9; replace hr7 := hr7.below hb9; clear tc2; have tc3 : True := trivial)
      | (have _t := tc3; (with_reducible refine G_store ?_; refine L_store_agg agR (by with_unfolding_all (conv => lhs; whnf)) (by with_unfolding_all (conv => lhs; whnf)) hk9 nR (by simpa using recC_len (ML _).1 (ML _).2) (fun x hx => recC_one hv8 x (by simpa using hx)) ?_); intro wa hka hga hsa; clear tc3; have tc4 : True := trivial))
    replace hb2 : Below w.heap.size w wa := hb2.grown hga hb2.size (by intro k hk; cases hk; exact z8)
    have hra := hr9.grown hga (fun _ e => by have := ho8.lt _ e; omega)
    replace hk7 := hk7.grown hga (by simp; omega)
    replace hr7 := hr7.grown hga (fun _ e => by have := l5 _ e; omega)
    replace hk7 : Blk wa w5.heap.size 42 (recC _ v5 _ _ _) := hk7
    replace hka : Blk wa w8.heap.size 42 (recC _ v8 _ _ _) := hka
    clear hr9 hga hsa hs9 hk9 hb9 hb8 hb4 ho6 ho8 MC RC TW TU TP
    have td0 : True := trivial
    go_wp2_with (first
      | (have _t := td0; (with_reducible refine G_load ?_; refine L_load_agg agR (by with_unfolding_all (conv => lhs; whnf)) hk7 (recC_len (ML _).1 (ML _).2) ?_); clear td0; have td1 : True := trivial)
      | (have _t := td1; (with_reducible refine G_load ?_; refine L_load_agg agR (by with_unfolding_all (conv => lhs; whnf)) hka (recC_len (ML _).1 (ML _).2) ?_); clear td1; have td2 : True := trivial)
      | (have _t := td2; go_at_call 20; refine (csame_c _ _ _ _ _ _ _ _ hr7 hra (ML _).1 (ML _).2).mono ?_; rintro e wb ⟨rfl, hbb⟩; replace hb2 := below_below hb2 hbb; clear td2; have td3 : True := trivial)
      | (have _t := td3; go_at_call 21; refine (WK _).mono ?_; rintro e wc ⟨rfl, hbc⟩; clear td3; have td4 : True := trivial))
    go_ret
    exact ⟨rfl, below_below hb2 hbc⟩
end Go.Proofs.YtfnlcnjflloecaaDoor
