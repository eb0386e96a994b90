/- roostlaw07.wakes. -/
import Derived.Test.YtfnlcnjflloecaaDoorSf3
set_option linter.unusedVariables false
set_option linter.unusedSimpArgs false
set_option linter.unnecessarySimpa false
namespace Go.Proofs.YtfnlcnjflloecaaDoor
open Go.RowKit
theorem wk7_1 : firstI [110, 44, 44, 110, 61, 97, 61, 50, 67, 98, 61, 51, 68, 44, 114, 61, 98] = (([110, 44, 44], [97, 44, 98, 61], [98], [110, 61, 97, 61, 50, 67, 98, 61, 51, 68, 44, 114, 61, 98]), 0) := by decide +kernel
theorem wk7_2 : firstI [110, 44, 44, 110, 61, 97] = badFi 2 := by decide +kernel
set_option maxRecDepth 100000 in
set_option maxHeartbeats 3200000 in
theorem wakes7_c (w : World) (hT : Tabs w) (hM : MaxL w) : Calls Tryd.prog 36 #[] w (Ok w) := by
  have F1 : Calls Tryd.prog 86 #[.string (strB [110, 44, 44, 110, 61, 97, 61, 50, 67, 98, 61, 51, 68, 44, 114, 61, 98])] w fun e w' => e = .returned (.tuple #[.agg #[.string (strB [110, 44, 44]), .string (strB [97, 44, 98, 61]), .string (strB [98]), .string (strB [110, 61, 97, 61, 50, 67, 98, 61, 51, 68, 44, 114, 61, 98])], .int .i64 0]) ∧ Below w.heap.size w w' := by
    have h := first_c [110, 44, 44, 110, 61, 97, 61, 50, 67, 98, 61, 51, 68, 44, 114, 61, 98] w (by simp) hT hM
    rw [wk7_1] at h
    exact h
  have F2 : ∀ w1, Below w.heap.size w w1 → Calls Tryd.prog 86 #[.string (strB [110, 44, 44, 110, 61, 97])] w1 fun e w' => e = .returned (.tuple #[.agg #[.string (strB []), .string (strB []), .string (strB []), .string (strB [])], .int .i64 2]) ∧ Below w1.heap.size w1 w' := fun w1 hb => by
    have h := first_c [110, 44, 44, 110, 61, 97] w1 (by simp) (hT.below hb) (hM.below hb)
    rw [wk7_2] at h
    exact h
  have e1 : ((strB [97, 44, 98, 61]).toList == [97, 44, 98, 61]) = true := by rw [strB_toList]; rfl
  have e2 : ((strB [98]).toList == [98]) = true := by rw [strB_toList]; rfl
  have e3 : ((strB [110, 61, 97, 61, 50, 67, 98, 61, 51, 68, 44, 114, 61, 98]).toList == [110, 61, 97, 61, 50, 67, 98, 61, 51, 68, 44, 114, 61, 98]) = true := by rw [strB_toList]; rfl
  have one : ∀ a b c d : ByteArray, ∀ u ∈ [Value.string a, Value.string b, Value.string c, Value.string d], u.oneCell' = true := by intro a b c d v hv; simp at hv; rcases hv with rfl | rfl | rfl | rfl <;> rfl
  have zFi' := zFi
  obtain ⟨A1, hA1⟩ : ∃ A1, A1 = strB [110, 44, 44, 110, 61, 97, 61, 50, 67, 98, 61, 51, 68, 44, 114, 61, 98] := ⟨_, rfl⟩
  generalize strB [97, 44, 98, 61] = T1 at *
  generalize strB [98] = T2 at *
  generalize strB [110, 61, 97, 61, 50, 67, 98, 61, 51, 68, 44, 114, 61, 98] = T3 at *
  generalize strB [110, 44, 44] = T0 at *
  generalize strB [] = T4 at *
  clear hA1
  go_enter Tryd.func36, Tryd.ntmps36
  go_wp2_with fail
  refine F1.mono ?_; rintro e w1 ⟨rfl, hb1⟩
  have ta0 : True := trivial
  go_upto_region 2 with (first
    | (have _t := ta0; (with_reducible refine G_alloc ?_; refine L_alloc zFi' ?_); intro w2 hk2 hb2 hs2; clear hs2; have hb12 := below_below hb1 hb2; clear ta0; have ta1 : True := trivial)
    | (have _t := ta1; (with_reducible refine G_store ?_; refine L_store_agg agFi (by with_unfolding_all (conv => lhs; whnf)) (by with_unfolding_all (conv => lhs; whnf)) hk2 rfl rfl (one T0 T1 T2 T3) ?_); intro w3 hk3 hg3 hs3; replace hk3 : Blk w3 w1.heap.size 68 [.string T0, .string T1, .string T2, .string T3] := hk3; have hb13 := hb12.grown hg3 hb12.size (by intro k hk; cases hk; exact hb1.size); clear ta1; have ta2 : True := trivial))
  generalize hg1 : w1.heap.size = g1 at *
  clear hk2 hg3 hs3 hb12 hb2 hb1 F1
  go_wp2_with fail
  refine (F2 _ hb13).mono ?_; rintro e w4 ⟨rfl, hb4⟩
  replace hk3 := hk3.below hb4
  replace hb13 := below_below hb13 hb4
  have tb0 : True := trivial
  go_upto_region 3 with (first
    | (have _t := tb0; (with_reducible refine G_alloc ?_; refine L_alloc zFi' ?_); intro w5 hk5 hb5 hs5; clear hs5; clear tb0; have tb1 : True := trivial)
    | (have _t := tb1; (with_reducible refine G_store ?_; refine L_store_agg agFi (by with_unfolding_all (conv => lhs; whnf)) (by with_unfolding_all (conv => lhs; whnf)) hk5 rfl rfl (one T4 T4 T4 T4) ?_); intro w6 hk6 hg6 hs6; clear tb1; have tb2 : True := trivial))
  replace hk3 := (hk3.below hb5).grown hg6 (by have := hk3.lt; simp; omega)
  replace hb13 := (below_below hb13 hb5).grown hg6 (below_below hb13 hb5).size (by intro k hk; cases hk; exact hb13.size)
  have c1 : _ = some _ := hk3.cell 1
  have c2 : _ = some _ := hk3.cell 2
  have c3 : _ = some _ := hk3.cell 3
  go_wp2_with fail
  go_ret
  exact ⟨by simp, hb13⟩
end Go.Proofs.YtfnlcnjflloecaaDoor
