/- roostlaw08.Twin, few; creds.right and the reference's Right. -/
import Derived.Test.YtfnlcnjflloecaaDoorMk3
set_option linter.unusedVariables false
set_option linter.unusedSimpArgs false
set_option linter.unnecessarySimpa false
namespace Go.Proofs.YtfnlcnjflloecaaDoor
open Go.RowKit
theorem few8_c (v : Value) (l : List UInt8) (w : World) (h : Rd w v l) : Calls Tryd.prog 27 #[v] w (Gives8 5 w (l.take 200)) := by
  have P := fun w1 (hb : Below w.heap.size w w1) => twin_c v l 200 w1 (h.below hb) (by omega) (by omega)
  have e : (200 : Int).toNat = 200 := rfl
  rw [e] at P
  go_enter Tryd.func27, Tryd.ntmps27
  go_wp2_with (go_at_call 18; refine (P _ (Below.refl _ _)).mono ?_; rintro e w1 ⟨v1, rfl, ho1, hb1⟩)
  go_ret
  exact ⟨_, rfl, ho1, hb1⟩
/-- The cells of a record of which one has been set. -/
theorem recC_set0 (u : List UInt8) (v : Value) (n : Int) (a b : List UInt8) (x : List UInt8) : (recC u v n a b).set 0 (.string (strB x)) = recC x v n a b := rfl
theorem recC_set1 (u : List UInt8) (v : Value) (n : Int) (a b : List UInt8) (x : Value) : (recC u v n a b).set 1 x = recC u x n a b := rfl
theorem recC_set2 (u : List UInt8) (v : Value) (n : Int) (a b : List UInt8) (x : Int) : (recC u v n a b).set 2 (.int .i64 x) = recC u v x a b := rfl
set_option maxRecDepth 100000 in
set_option maxHeartbeats 1600000 in
theorem ctwin_c (u : List UInt8) (vs : Value) (s : List UInt8) (n : Int) (A B : List UInt8) (w : World) (hs : Rd w vs s) (hv : vs.oneCell' = true) (hu : u.length ≤ 9223372036854775807) (hA : A.length = 32) (hB : B.length = 32) :
    Calls Tryd.prog 22 #[.agg (recC u vs n A B).toArray] w fun e w' => ∃ v, e = .returned (.agg (recC (u.take 100) v n A B).toArray) ∧ Own8 w' w.heap.size 5 v (s.take 40) ∧ v.oneCell' = true ∧ Below w.heap.size w w' := by
  have TU := fun w1 => text_c u 100 w1 hu (by omega)
  have TW := fun w1 (hb : Below w.heap.size w w1) => twin_c vs s 40 w1 (hs.below hb) (by omega) (by omega)
  have e40 : (40 : Int).toNat = 40 := rfl
  rw [e40] at TW
  have nR := rec_zero_len
  have zR' := zR
  have L1 : ∀ x v, (recC x v n A B).length = 67 := fun x v => recC_len hA hB
  have O1 : ∀ x v, v.oneCell' = true → ∀ y ∈ recC x v n A B, y.oneCell' = true := fun x v h => recC_one h
  have S0 := recC_set0 u vs n A B
  have S1 := recC_set1 (u.take 100) vs n A B
  have c0 : (recC u vs n A B)[0]? = some (.string (strB u)) := rfl
  have c1 : (recC (u.take 100) vs n A B)[1]? = some vs := rfl
  generalize u.take 100 = x at *
  generalize s.take 40 = t at *
  generalize hR : recC u vs n A B = R at *
  generalize hRx : recC x vs n A B = Rx at *
  replace hR := Go.Lib.hid hR
  replace hRx := Go.Lib.hid hRx
  generalize strB u = U at *
  go_enter Tryd.func22, Tryd.ntmps22
  have ta0 : True := trivial
  go_upto_region 1 with (first
    | (have _t := ta0; (with_reducible refine G_box ?_; refine L_box (by with_unfolding_all (conv => lhs; whnf)) ?_); intro w1 hk1 hb1 hs1; clear ta0; have ta1 : True := trivial)
    | (have _t := ta1; (with_reducible refine G_alloc ?_; refine L_alloc zR' ?_); intro w2 hk2 hb2 hs2; clear ta1; have ta2 : True := trivial))
  replace hk1 : Blk w1 w.heap.size 42 R := hk1
  rw [hs1] at hk2 ⊢
  replace hk1 := hk1.below hb2
  have hb := below_below hb1 hb2
  have d0 := (hk1.cell 0).trans c0
  have f0 := hk1.frozen 0
  clear hb1 hb2 hs1 hs2
  have tb0 : True := trivial
  go_upto_region 2 with (first
    | (have _t := tb0; go_at_call 9; refine (TU _).mono ?_; rintro e w3 ⟨rfl, rfl⟩; clear tb0; have tb1 : True := trivial))
  have hb3 := below_setn hb w.heap.size 0 (.string (strB x)) (Nat.le_refl _) hb.size
  have hk2' := hk2.other (a := ⟨w.heap.size, 0, none⟩) (by simp) (.string (strB x))
  have hk1' := hk1.stored 0 (.string (strB x))
  rw [S0] at hk1'
  generalize w2.setCell ⟨w.heap.size, 0, none⟩ (.string (strB x)) = w3 at *
  rw [hRx.out] at hk1'
  have d1 := (hk1'.cell 1).trans c1
  have f1 := hk1'.frozen 1
  clear d0 f0 hk1 hk2 hb S0
  have tc0 : True := trivial
  go_upto_region 3 with (first
    | (have _t := tc0; go_at_call 18; refine (TW _ hb3).mono ?_; rintro e w4 ⟨v4, rfl, ho4, hb4⟩; have hz3 := hb3.size; have hz2 := hk2'.lt; obtain ⟨A4, k4, rfl, _, _, _⟩ := ho4.rd.open; replace hk1' := hk1'.below hb4; replace hk2' := hk2'.below hb4; replace hb3 := below_below hb3 hb4; have d1 := (hk1'.cell 1).trans c1; have f1 := hk1'.frozen 1; clear tc0; have tc1 : True := trivial))
  have hb5 := below_setn hb3 w.heap.size 1 (.slice A4 t.length k4) (Nat.le_refl _) hb3.size
  have hk25 := hk2'.other (a := ⟨w.heap.size, 1, none⟩) (by simp) (.slice A4 t.length k4)
  have hk15 := hk1'.stored 1 (.slice A4 t.length k4)
  have ho5 : Own8 (w4.setCell ⟨w.heap.size, 1, none⟩ (.slice A4 t.length k4)) w.heap.size 5 (.slice A4 t.length k4) t := (ho4.grown (grown_setCell w4 ⟨w.heap.size, 1, none⟩ _) (opt_apart (fun g hg e => by have h1 := ho4.base_le _ e; simp at hg; omega))).mono hz3
  have hlo : ∀ g, (Value.slice A4 t.length k4).ownBlock = some g → w.heap.size + 1 < g := fun g e => by have := ho4.base_le g e; omega
  rw [S1] at hk15
  generalize w4.setCell ⟨w.heap.size, 1, none⟩ (.slice A4 t.length k4) = w5 at *
  have l1 := L1 x (.slice A4 t.length k4)
  have o1 := O1 x (.slice A4 t.length k4) rfl
  generalize hRY : recC x (.slice A4 t.length k4) n A B = RY at *
  replace hRY := Go.Lib.hid hRY
  clear d1 f1 hk1' hk2' hb3 ho4 hb4 S1
  have td0 : True := trivial
  go_wp2_with (first
    | (have _t := td0; (with_reducible refine G_load ?_; refine L_load_agg agR (by with_unfolding_all (conv => lhs; whnf)) hk15 l1 ?_); clear td0; have td1 : True := trivial)
    | (have _t := td1; (with_reducible refine G_store ?_; refine L_store_agg agR (by with_unfolding_all (conv => lhs; whnf)) (by with_unfolding_all (conv => lhs; whnf)) hk25 nR (by simpa using l1) (fun u hu => o1 u (by simpa using hu)) ?_); intro w6 hk6 hg6 hs6; clear td1; have td2 : True := trivial))
  have z5 : w.heap.size + 1 < w5.heap.size := hk25.lt
  exact ret_agg (cs := RY) rfl agR rfl rfl (by simpa using hk6) l1 ⟨.slice A4 t.length k4, by rw [hRY.out], ho5.grown hg6 (opt_apart (fun g hg e => by have h1 := hlo _ e; simp at hg; omega)), rfl, hb5.grown hg6 hb5.size (by intro k hk; cases hk; omega)⟩
/-- Can it be written? -/
def rightB (u s : List UInt8) (n : Int) : Bool := decide (localI u = (u, 0)) && saltB s && decide (1 ≤ n) && decide (n ≤ 4096)
end Go.Proofs.YtfnlcnjflloecaaDoor
