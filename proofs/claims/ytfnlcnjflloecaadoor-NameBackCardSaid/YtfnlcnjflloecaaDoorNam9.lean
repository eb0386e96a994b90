/- roostlaw02.wakes; NameParts. -/
import Derived.Test.YtfnlcnjflloecaaDoorNam8
set_option linter.unusedVariables false
set_option linter.unusedSimpArgs false
namespace Go.Proofs.YtfnlcnjflloecaaDoor
open Go.RowKit
theorem parse_ex : parseI [65, 110, 110, 64, 88, 46, 111, 114, 103, 47, 68, 101, 115, 107, 47, 50] = (([97, 110, 110], [120, 46, 111, 114, 103], [68, 101, 115, 107, 47, 50]), 0) := by decide +kernel
theorem local_ex : localI [97, 32, 98] = ([], 4) := by decide +kernel
set_option maxHeartbeats 1600000 in
theorem wakes2_c (w : World) (hT : Tabs w) (hM : MaxL w) : Calls Tryd.prog 14 #[] w (Ok w) := by
  have P : Calls Tryd.prog 10 #[.string ⟨#[65, 110, 110, 64, 88, 46, 111, 114, 103, 47, 68, 101, 115, 107, 47, 50]⟩] w (GivesJ w (parseI [65, 110, 110, 64, 88, 46, 111, 114, 103, 47, 68, 101, 115, 107, 47, 50])) := nparse_c [65, 110, 110, 64, 88, 46, 111, 114, 103, 47, 68, 101, 115, 107, 47, 50] w (by simp) hT hM
  have L : ∀ w1, Below w.heap.size w w1 → Calls Tryd.prog 15 #[.string ⟨#[97, 32, 98]⟩] w1 (GivesSE w1 (localI [97, 32, 98])) := fun w1 hb => local_c [97, 32, 98] w1 (by simp) (hT.below hb)
  rw [parse_ex] at P
  rw [local_ex] at L
  unfold GivesJ jCells at P
  unfold GivesSE at L
  simp only at P L
  have s1 : (strB [97, 110, 110]).toList = [97, 110, 110] := strB_toList _
  have s2 : (strB [120, 46, 111, 114, 103]).toList = [120, 46, 111, 114, 103] := strB_toList _
  have s3 : (strB [68, 101, 115, 107, 47, 50]).toList = [68, 101, 115, 107, 47, 50] := strB_toList _
  generalize strB [97, 110, 110] = S1 at *
  generalize strB [120, 46, 111, 114, 103] = S2 at *
  generalize strB [68, 101, 115, 107, 47, 50] = S3 at *
  go_enter Tryd.func14, Tryd.ntmps14
  have ta0 : True := trivial
  go_upto_region 2 with (first
    | (have _t := ta0; go_at_call 10; refine P.mono ?_; rintro e w1 ⟨rfl, hb1⟩; clear ta0; have ta1 : True := trivial))
  have hk := Blk.new w1 23 [.string S1, .string S2, .string S3]
  have hbA := below_below hb1 ((Below.refl w1.heap.size w1).alloc (Nat.le_refl _) (.cells #[.string S1, .string S2, .string S3] 23))
  generalize w1.alloc (.cells #[.string S1, .string S2, .string S3] 23) = W at *
  generalize w1.heap.size = G at *
  have tb0 : True := trivial
  go_upto_region 3 with (first
    | (have _t := tb0; go_at_call 15; refine (L _ hbA).mono ?_; rintro e w2 ⟨rfl, hb2⟩; clear tb0; have tb1 : True := trivial))
  have c0 : _ = some _ := (hk.below hb2).cell 0
  have c1 : _ = some _ := (hk.below hb2).cell 1
  have c2 : _ = some _ := (hk.below hb2).cell 2
  go_wp2_with fail
  go_ret
  exact ⟨rfl, below_below hbA hb2⟩
/-- Both answers are one: the tests are told. -/
theorem str_ne (l : List UInt8) : ((strB l).toList != (strB l).toList) = false := by simp
end Go.Proofs.YtfnlcnjflloecaaDoor
