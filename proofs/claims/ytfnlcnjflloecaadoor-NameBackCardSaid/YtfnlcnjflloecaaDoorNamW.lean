/- name: the preparers at texts of any length. -/
import Derived.Test.YtfnlcnjflloecaaDoorNam9
set_option linter.unusedVariables false
set_option linter.unusedSimpArgs false
namespace Go.Proofs.YtfnlcnjflloecaaDoor
open Go.RowKit
theorem sized_big (s : List UInt8) (w : World) (h : 64 < s.length) : Calls Tryd.prog 46 #[.string (strB s)] w fun e w' => e = .returned (.int .i64 5) ∧ w = w' := by
  have hsz := strB_size s
  have q1 : (64 : Int) < ((strB s).size : Int) := by omega
  clear hsz
  generalize strB s = S at *
  go_enter Tryd.func46, Tryd.ntmps46
  go_wp2_with fail
  go_ret
  exact ⟨rfl, rfl⟩
theorem localI_big (s : List UInt8) (h : 64 < s.length) : localI s = ([], 5) := by unfold localI sizedI; simp [h]
theorem resI_big (s : List UInt8) (h : 64 < s.length) : resI s = ([], 5) := by unfold resI sizedI; simp [h]
theorem hostI_big (s : List UInt8) (h : 64 < s.length) : hostI s = ([], 5) := by unfold hostI; simp [h]
theorem local_any (s : List UInt8) (w : World) (hl : s.length ≤ 9223372036854775807) (hT : Tabs w) : Calls Tryd.prog 15 #[.string (strB s)] w (GivesSE w (localI s)) := by
  by_cases h : s.length ≤ 1000000000
  · exact local_c s w h hT
  · rw [localI_big s (by omega)]
    have SZ := sized_big s w (by omega)
    generalize strB s = S at *
    clear h hl
    go_enter Tryd.func15, Tryd.ntmps15
    go_wp2_with (go_at_call 46; refine SZ.mono ?_; rintro e w1 ⟨rfl, rfl⟩)
    go_ret2
    exact ⟨rfl, Below.refl _ _⟩
theorem resource_any (s : List UInt8) (w : World) (hl : s.length ≤ 9223372036854775807) (hT : Tabs w) : Calls Tryd.prog 40 #[.string (strB s)] w (GivesSE w (resI s)) := by
  by_cases h : s.length ≤ 1000000000
  · exact resource_c s w h hT
  · rw [resI_big s (by omega)]
    have SZ := sized_big s w (by omega)
    generalize strB s = S at *
    clear h hl
    go_enter Tryd.func40, Tryd.ntmps40
    go_wp2_with (go_at_call 46; refine SZ.mono ?_; rintro e w1 ⟨rfl, rfl⟩)
    go_ret2
    exact ⟨rfl, Below.refl _ _⟩
theorem host_any (s : List UInt8) (w : World) (hl : s.length ≤ 9223372036854775807) (hT : Tabs w) (hM : MaxL w) : Calls Tryd.prog 16 #[.string (strB s)] w (GivesSE w (hostI s)) := by
  by_cases h : s.length ≤ 1000000000
  · exact host_c s w h hT hM
  · rw [hostI_big s (by omega)]
    have SZ := sized_big s w (by omega)
    generalize strB s = S at *
    clear h hl
    go_enter Tryd.func16, Tryd.ntmps16
    go_wp2_with (go_at_call 46; refine SZ.mono ?_; rintro e w1 ⟨rfl, rfl⟩)
    go_ret2
    exact ⟨rfl, Below.refl _ _⟩
theorem reflocal_any (s : List UInt8) (w : World) (hl : s.length ≤ 9223372036854775807) : Calls Tryd.prog 42 #[.string (strB s)] w (GivesSE w (localI s)) := by
  by_cases h : s.length ≤ 1000000000
  · exact reflocal_c s w h
  · rw [localI_big s (by omega)]
    have hsz := strB_size s
    have q1 : (64 : Int) < ((strB s).size : Int) := by omega
    generalize strB s = S at *
    clear h hl hsz
    go_enter Tryd.func42, Tryd.ntmps42
    go_wp2_with fail
    go_ret2
    exact ⟨rfl, Below.refl _ _⟩
theorem refhost_any (s : List UInt8) (w : World) (hl : s.length ≤ 9223372036854775807) : Calls Tryd.prog 43 #[.string (strB s)] w (GivesSE w (hostI s)) := by
  by_cases h : s.length ≤ 1000000000
  · exact refhost_c s w h
  · rw [hostI_big s (by omega)]
    have hsz := strB_size s
    have q1 : (64 : Int) < ((strB s).size : Int) := by omega
    generalize strB s = S at *
    clear h hl hsz
    go_enter Tryd.func43, Tryd.ntmps43
    go_wp2_with fail
    go_ret2
    exact ⟨rfl, Below.refl _ _⟩
theorem refres_any (s : List UInt8) (w : World) (hl : s.length ≤ 9223372036854775807) : Calls Tryd.prog 44 #[.string (strB s)] w (GivesSE w (resI s)) := by
  by_cases h : s.length ≤ 1000000000
  · exact refres_c s w h
  · rw [resI_big s (by omega)]
    have hsz := strB_size s
    have q1 : (64 : Int) < ((strB s).size : Int) := by omega
    generalize strB s = S at *
    clear h hl hsz
    go_enter Tryd.func44, Tryd.ntmps44
    go_wp2_with fail
    go_ret2
    exact ⟨rfl, Below.refl _ _⟩
end Go.Proofs.YtfnlcnjflloecaaDoor
