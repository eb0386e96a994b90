/- roostlaw02.wakes; NameParts. -/
import Derived.Test.YtocfcgjjepegmaaDoorNam8
set_option linter.unusedVariables false
set_option linter.unusedSimpArgs false
namespace Go.Proofs.YtocfcgjjepegmaaDoor
open Go.RowKit
theorem parse_ex : parseI [65, 110, 110, 64, 88, 46, 111, 114, 103, 47, 68, 101, 115, 107, 47, 50] = (([97, 110, 110], [120, 46, 111, 114, 103], [68, 101, 115, 107, 47, 50]), 0) := by decide +kernel
theorem local_ex : localI [97, 32, 98] = ([], 4) := by decide +kernel
set_option maxHeartbeats 1600000 in
theorem wakes2_c (w : World) (hT : Tabs w) (hM : MaxL w) : Calls Tryd.prog 37 #[] w (Ok w) := by
  have P : Calls Tryd.prog 38 #[.string ⟨#[65, 110, 110, 64, 88, 46, 111, 114, 103, 47, 68, 101, 115, 107, 47, 50]⟩] w (GivesJ w (parseI [65, 110, 110, 64, 88, 46, 111, 114, 103, 47, 68, 101, 115, 107, 47, 50])) := nparse_c [65, 110, 110, 64, 88, 46, 111, 114, 103, 47, 68, 101, 115, 107, 47, 50] w (by simp) hT hM
  have L : ∀ w1, Below w.heap.size w w1 → Calls Tryd.prog 31 #[.string ⟨#[97, 32, 98]⟩] w1 (GivesSE w1 (localI [97, 32, 98])) := fun w1 hb => local_c [97, 32, 98] w1 (by simp) (hT.below hb)
  rw [parse_ex] at P
  rw [local_ex] at L
  unfold GivesJ jCells at P
  unfold GivesSE at L
  simp only at P L
  have s1 : (strB [97, 110, 110]).toList = [97, 110, 110] := strB_toList _
  have s2 : (strB [120, 46, 111, 114, 103]).toList = [120, 46, 111, 114, 103] := strB_toList _
  have s3 : (strB [68, 101, 115, 107, 47, 50]).toList = [68, 101, 115, 107, 47, 50] := strB_toList _
  generalize strB [97, 110, 110] = S1 at *
  generalize strB [120, 46, 111, 114, 103] = S2 at *
  generalize strB [68, 101, 115, 107, 47, 50] = S3 at *
  go_enter Tryd.func37, Tryd.ntmps37
  have ta0 : True := trivial
  go_upto_region 2 with (first
    | (have _t := ta0; go_at_call 38; refine P.mono ?_; rintro e w1 ⟨rfl, hb1⟩; clear ta0; have ta1 : True := trivial))
  have hk := Blk.new w1 66 [.string S1, .string S2, .string S3]
  have hbA := below_below hb1 ((Below.refl w1.heap.size w1).alloc (Nat.le_refl _) (.cells #[.string S1, .string S2, .string S3] 66))
  generalize w1.alloc (.cells #[.string S1, .string S2, .string S3] 66) = W at *
  generalize w1.heap.size = G at *
  have tb0 : True := trivial
  go_upto_region 3 with (first
    | (have _t := tb0; go_at_call 31; refine (L _ hbA).mono ?_; rintro e w2 ⟨rfl, hb2⟩; clear tb0; have tb1 : True := trivial))
  have c0 : _ = some _ := (hk.below hb2).cell 0
  have c1 : _ = some _ := (hk.below hb2).cell 1
  have c2 : _ = some _ := (hk.below hb2).cell 2
  go_wp2_with fail
  go_ret
  exact ⟨rfl, below_below hbA hb2⟩
/-- Both answers are one: the tests are told. -/
theorem str_ne (l : List UInt8) : ((strB l).toList != (strB l).toList) = false := by simp
set_option maxHeartbeats 3200000 in
theorem nameParts_w (w : World) (hT : Tabs w) (hM : MaxL w) (s0 : ByteArray) (h0 : s0.size ≤ maxLen) :
    Calls Tryd.prog 8 #[.string s0] w (Ok w) := by
  have TX := fun w1 => text_c s0.data.toList 300 w1 (by unfold maxLen at h0; exact h0) (by omega)
  have e0 : strB s0.data.toList = s0 := rfl
  rw [e0] at TX
  have hl : (s0.data.toList.take 300).length ≤ 300 := by simp; omega
  generalize s0.data.toList.take 300 = s at *
  have PL := fun w1 (hb : Below w.heap.size w w1) => local_c s w1 (by omega) (hT.below hb)
  have RL := fun w1 => reflocal_c s w1 (by omega)
  have PH := fun w1 (hb : Below w.heap.size w w1) => host_c s w1 (by omega) (hT.below hb) (hM.below hb)
  have RH := fun w1 => refhost_c s w1 (by omega)
  have PR := fun w1 (hb : Below w.heap.size w w1) => resource_c s w1 (by omega) (hT.below hb)
  have RR := fun w1 => refres_c s w1 (by omega)
  have WK := fun w1 (hb : Below w.heap.size w w1) => wakes2_c w1 (hT.below hb) (hM.below hb)
  clear e0 h0 hl
  unfold GivesSE at PL RL PH RH PR RR
  generalize localI s = L at *
  generalize hostI s = H at *
  generalize resI s = R at *
  obtain ⟨l1, l2⟩ := L
  obtain ⟨k1, k2⟩ := H
  obtain ⟨r1, r2⟩ := R
  simp only at PL RL PH RH PR RR
  have q1 := str_ne l1
  have q2 := str_ne k1
  have q4 : ((strB r1).toList == (strB r1).toList) = true := by simp
  have q5 : (l2 != l2) = false := by simp
  have q6 : (k2 != k2) = false := by simp
  have q7 : (r2 == r2) = true := by simp
  have q1' : ((strB l1).toList == (strB l1).toList) = true := by simp
  have q2' : ((strB k1).toList == (strB k1).toList) = true := by simp
  generalize strB l1 = S1 at *
  generalize strB k1 = S2 at *
  generalize strB r1 = S3 at *
  generalize strB s = S at *
  go_enter Tryd.func8, Tryd.ntmps8
  have ta0 : True := trivial
  go_wp2_with (first
    | (have _t := ta0; go_at_call 30; refine (TX _).mono ?_; rintro e w1 ⟨rfl, rfl⟩; have hb0 := Below.refl w.heap.size w; clear ta0; have ta1 : True := trivial)
    | (have _t := ta1; go_at_call 31; refine (PL _ hb0).mono ?_; rintro e w1 ⟨rfl, hb1⟩; clear ta1; have ta2 : True := trivial)
    | (have _t := ta2; go_at_call 32; refine (RL _).mono ?_; rintro e w2 ⟨rfl, hb2⟩; replace hb1 := below_below hb1 hb2; clear ta2; have ta3 : True := trivial)
    | (have _t := ta3; go_at_call 33; refine (PH _ hb1).mono ?_; rintro e w3 ⟨rfl, hb3⟩; replace hb1 := below_below hb1 hb3; clear ta3; have ta4 : True := trivial)
    | (have _t := ta4; go_at_call 34; refine (RH _).mono ?_; rintro e w4 ⟨rfl, hb4⟩; replace hb1 := below_below hb1 hb4; clear ta4; have ta5 : True := trivial)
    | (have _t := ta5; go_at_call 35; refine (PR _ hb1).mono ?_; rintro e w5 ⟨rfl, hb5⟩; replace hb1 := below_below hb1 hb5; clear ta5; have ta6 : True := trivial)
    | (have _t := ta6; go_at_call 36; refine (RR _).mono ?_; rintro e w6 ⟨rfl, hb6⟩; replace hb1 := below_below hb1 hb6; clear ta6; have ta7 : True := trivial)
    | (have _t := ta7; go_at_call 37; refine (WK _ hb1).mono ?_; rintro e w7 ⟨rfl, hb7⟩; clear ta7; have ta8 : True := trivial))
  go_ret
  exact ⟨rfl, below_below hb1 hb7⟩
end Go.Proofs.YtocfcgjjepegmaaDoor
