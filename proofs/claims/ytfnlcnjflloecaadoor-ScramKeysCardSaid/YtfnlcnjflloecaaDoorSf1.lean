/- scram.must, scram.behind. -/
import Derived.Test.YtfnlcnjflloecaaDoorSk1
import Derived.Test.YtfnlcnjflloecaaDoorShelf
set_option linter.unusedVariables false
set_option linter.unusedSimpArgs false
set_option linter.unnecessarySimpa false
namespace Go.Proofs.YtfnlcnjflloecaaDoor
open Go.RowKit
def gaveSc : Value := .iface 166 (.agg #[.int .i64 2])
def chainSc : List PanicEntry := [{ v := gaveSc, recovered := false }]
theorem scmust_ok (w : World) : Calls Tryd.prog 126 #[.bool true] w fun e w' => e = .returned (.tuple #[]) ∧ w = w' := by
  go_enter Tryd.func126, Tryd.ntmps126
  go_wp2_with fail
  exact bodyPost_end (results_none rfl _ _ _) rfl ⟨rfl, rfl⟩
theorem scmust_bad (w : World) : Calls Tryd.prog 126 #[.bool false] w fun e w' => e = .panicked chainSc ∧ w = w' := by
  have hz : Tryd.prog.built 166 [(0, .int .i64 2)] = some #[.int .i64 2] := by kernel_rfl
  go_enter Tryd.func126, Tryd.ntmps126
  go_wp2_with fail
  exact ⟨rfl, rfl, rfl⟩
theorem behind_ok (s p : List UInt8) (w : World) (h : Lib.hasPrefix s p = true) : Calls Tryd.prog 125 #[.string (strB s), .string (strB p)] w fun e w' => e = .returned (.string (strB (Lib.trimPrefix s p))) ∧ w = w' := by
  have CP := Tryd.strings_CutPrefix (strB s) (strB p) w
  have e1 : (strB s).data.toList = s := rfl
  have e2 : (strB p).data.toList = p := rfl
  rw [e1, e2, h] at CP
  have e3 : (⟨(Lib.trimPrefix s p).toArray⟩ : ByteArray) = strB (Lib.trimPrefix s p) := rfl
  rw [e3] at CP
  clear e1 e2 e3 h
  generalize strB (Lib.trimPrefix s p) = R at *
  generalize strB s = S at *
  generalize strB p = Q at *
  go_enter Tryd.func125, Tryd.ntmps125
  have ta0 : True := trivial
  go_wp2_with (first
    | (have _t := ta0; go_at_call 145; refine CP.mono ?_; rintro e w1 ⟨rfl, rfl⟩; clear ta0; have ta1 : True := trivial)
    | (have _t := ta1; go_at_call 126; refine (scmust_ok _).mono ?_; rintro e w1 ⟨rfl, rfl⟩; clear ta1; have ta2 : True := trivial))
  go_ret
  exact ⟨rfl, rfl⟩
theorem behind_bad (s p : List UInt8) (w : World) (h : Lib.hasPrefix s p = false) : Calls Tryd.prog 125 #[.string (strB s), .string (strB p)] w fun e w' => e = .panicked chainSc ∧ w = w' := by
  have CP := Tryd.strings_CutPrefix (strB s) (strB p) w
  have e1 : (strB s).data.toList = s := rfl
  have e2 : (strB p).data.toList = p := rfl
  rw [e1, e2, h] at CP
  clear e1 e2 h
  generalize strB s = S at *
  generalize strB p = Q at *
  go_enter Tryd.func125, Tryd.ntmps125
  have tb0 : True := trivial
  go_wp2_with (first
    | (have _t := tb0; go_at_call 145; refine CP.mono ?_; rintro e w1 ⟨rfl, rfl⟩; clear tb0; have tb1 : True := trivial)
    | (have _t := tb1; go_at_call 126; refine (scmust_bad _).mono ?_; rintro e w1 ⟨rfl, rfl⟩; clear tb1; have tb2 : True := trivial))
  exact ⟨rfl, rfl, rfl⟩
end Go.Proofs.YtfnlcnjflloecaaDoor
