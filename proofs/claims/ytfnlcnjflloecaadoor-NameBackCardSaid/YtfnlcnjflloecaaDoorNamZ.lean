/- NameParse. -/
import Derived.Test.YtfnlcnjflloecaaDoorNamR
import Derived.Test.YtfnlcnjflloecaaDoorNamU
set_option linter.unusedVariables false
set_option linter.unusedSimpArgs false
set_option linter.unnecessarySimpa false
namespace Go.Proofs.YtfnlcnjflloecaaDoor
open Go.RowKit
theorem beq_self_str (l : List UInt8) : ((strB l).toList == (strB l).toList) = true := by simp
set_option maxRecDepth 100000 in
set_option maxHeartbeats 3200000 in
theorem nameParse_w (w : World) (hT : Tabs w) (hM : MaxL w) (s0 : ByteArray) (h0 : s0.size ≤ maxLen) (j0 : ByteArray) (y0 : j0.size ≤ maxLen) (j1 : ByteArray) (y1 : j1.size ≤ maxLen) (j2 : ByteArray) (y2 : j2.size ≤ maxLen) :
    Calls Tryd.prog 3 #[.string s0, .agg #[.string j0, .string j1, .string j2]] w (Ok w) := by
  have TX := fun w1 => text_c s0.data.toList 300 w1 (by unfold maxLen at h0; exact h0) (by omega)
  have e0 : strB s0.data.toList = s0 := rfl
  rw [e0] at TX
  have hl : (s0.data.toList.take 300).length ≤ 300 := by simp; omega
  generalize s0.data.toList.take 300 = s at *
  have ea : (Value.agg #[.string j0, .string j1, .string j2]) = .agg (jCells j0.data.toList j1.data.toList j2.data.toList).toArray := rfl
  rw [ea]
  have z0 : j0.data.toList.length ≤ 9223372036854775807 := by unfold maxLen at y0; exact y0
  have z1 : j1.data.toList.length ≤ 9223372036854775807 := by unfold maxLen at y1; exact y1
  have z2 : j2.data.toList.length ≤ 9223372036854775807 := by unfold maxLen at y2; exact y2
  clear ea e0 y0 y1 y2 h0
  generalize j0.data.toList = l at *
  generalize j1.data.toList = h at *
  generalize j2.data.toList = r at *
  have PP := fun w1 (hb : Below w.heap.size w w1) => nparse_c s w1 (by omega) (hT.below hb) (hM.below hb)
  have RP := fun w1 => refparse_c s w1 (by omega)
  have PT := fun w1 (hb : Below w.heap.size w w1) => ntext_c l h r w1 z0 z1 z2 (hT.below hb) (hM.below hb)
  have RT := fun w1 => refntext_c l h r w1 z0 z1 z2
  have WK := fun w1 (hb : Below w.heap.size w w1) => wakes2_c w1 (hT.below hb) (hM.below hb)
  unfold GivesJ at PP RP
  unfold GivesSE at PT RT
  generalize parseI s = I at *
  obtain ⟨⟨a1, a2, a3⟩, e⟩ := I
  generalize textJ (l, h, r) = J at *
  obtain ⟨t, f⟩ := J
  simp only at PP RP PT RT
  have q1 := beq_self_str a1
  have q2 := beq_self_str a2
  have q3 := beq_self_str a3
  have q4 := beq_self_str t
  have q5 : (e == e) = true := by simp
  have q6 : (f == f) = true := by simp
  have eA : ∀ a b c, (jCells a b c).toArray = #[.string (strB a), .string (strB b), .string (strB c)] := fun _ _ _ => rfl
  rw [eA] at PP RP
  generalize strB a1 = S1 at *
  generalize strB a2 = S2 at *
  generalize strB a3 = S3 at *
  generalize strB t = T at *
  generalize strB s = S at *
  clear eA hl z0 z1 z2 hT hM
  go_enter Tryd.func3, Tryd.ntmps3
  have ta0 : True := trivial
  go_upto_region 3 with (first
    | (have _t := ta0; (with_reducible refine G_box ?_; refine L_box (by with_unfolding_all (conv => lhs; whnf)) ?_); intro w1 hk1 hb1 hs1; clear hs1; clear ta0; have ta1 : True := trivial)
    | (have _t := ta1; go_at_call 9; refine (TX _).mono ?_; rintro e' w2 ⟨rfl, rfl⟩; clear ta1; have ta2 : True := trivial)
    | (have _t := ta2; go_at_call 10; refine (PP _ hb1).mono ?_; rintro e' w3 ⟨rfl, hb3⟩; replace hk1 := hk1.below hb3; replace hb1 := below_below hb1 hb3; clear ta2; have ta3 : True := trivial))
  replace hk1 : Blk w3 w.heap.size 23 (jCells l h r) := hk1
  have hA := Blk.new w3 23 [.string S1, .string S2, .string S3]
  have bA := (Below.refl w3.heap.size w3).alloc (Nat.le_refl _) (.cells #[.string S1, .string S2, .string S3] 23)
  generalize w3.alloc (.cells #[.string S1, .string S2, .string S3] 23) = wA at *
  replace hk1 := hk1.below bA
  replace hb1 := below_below hb1 bA
  generalize w3.heap.size = gA at *
  clear hb3 bA TX PP
  have tb0 : True := trivial
  go_upto_region 4 with (first
    | (have _t := tb0; go_at_call 11; refine (RP _).mono ?_; rintro e' w4 ⟨rfl, hb4⟩; replace hk1 := hk1.below hb4; replace hb1 := below_below hb1 hb4; replace hA := hA.below hb4; clear tb0; have tb1 : True := trivial))
  have hB := Blk.new w4 23 [.string S1, .string S2, .string S3]
  have bB := (Below.refl w4.heap.size w4).alloc (Nat.le_refl _) (.cells #[.string S1, .string S2, .string S3] 23)
  generalize w4.alloc (.cells #[.string S1, .string S2, .string S3] 23) = wB at *
  replace hk1 := hk1.below bB
  replace hb1 := below_below hb1 bB
  replace hA := hA.below bB
  generalize w4.heap.size = gB at *
  clear hb4 bB RP
  have tc0 : True := trivial
  go_upto_region 6 with (first
    | (have _t := tc0; (with_reducible refine G_load ?_; refine L_load_agg agJ (by with_unfolding_all (conv => lhs; whnf)) hk1 rfl ?_); clear tc0; have tc1 : True := trivial)
    | (have _t := tc1; go_at_call 12; refine (PT _ hb1).mono ?_; rintro e' w5 ⟨rfl, hb5⟩; replace hk1 := hk1.below hb5; replace hb1 := below_below hb1 hb5; replace hA := hA.below hb5; replace hB := hB.below hb5; clear tc1; have tc2 : True := trivial)
    | (have _t := tc2; (with_reducible refine G_load ?_; refine L_load_agg agJ (by with_unfolding_all (conv => lhs; whnf)) hk1 rfl ?_); clear tc2; have tc3 : True := trivial)
    | (have _t := tc3; go_at_call 13; refine (RT _).mono ?_; rintro e' w6 ⟨rfl, hb6⟩; replace hk1 := hk1.below hb6; replace hb1 := below_below hb1 hb6; replace hA := hA.below hb6; replace hB := hB.below hb6; clear tc3; have tc4 : True := trivial))
  have c0 : _ = some _ := hA.cell 0
  have c1 : _ = some _ := hA.cell 1
  have c2 : _ = some _ := hA.cell 2
  have d0 : _ = some _ := hB.cell 0
  have d1 : _ = some _ := hB.cell 1
  have d2 : _ = some _ := hB.cell 2
  have td0 : True := trivial
  go_wp2_with (first
    | (have _t := td0; go_at_call 14; refine (WK _ hb1).mono ?_; rintro e' w7 ⟨rfl, hb7⟩; clear td0; have td1 : True := trivial))
  go_ret
  exact ⟨rfl, below_below hb1 hb7⟩
end Go.Proofs.YtfnlcnjflloecaaDoor
