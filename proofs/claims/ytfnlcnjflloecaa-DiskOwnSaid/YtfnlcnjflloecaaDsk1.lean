/- disk: must, right, named, power, at, step. -/
import Derived.Test.YtfnlcnjflloecaaMapK
import Derived.Test.YtfnlcnjflloecaaGrowP
import Derived.Test.YtfnlcnjflloecaaDskP
set_option linter.unusedVariables false
set_option linter.unusedSimpArgs false
set_option linter.unnecessarySimpa false
namespace Go.Proofs.Ytfnlcnjflloecaa
open Go.RowKit
def gaveDk (x : Int) : Value := .iface 88 (.agg #[.int .i64 x])
def chainDk (x : Int) : List PanicEntry := [{ v := gaveDk x, recovered := false }]
theorem dkmust_ok (x : Int) (w : World) : Calls Try.prog 29 #[.bool true, .int .i64 x] w fun e w' => e = .returned (.tuple #[]) ∧ w = w' := by
  go_enter Try.func29, Try.ntmps29
  go_wp2_with fail
  exact bodyPost_end (results_none rfl _ _ _) rfl ⟨rfl, rfl⟩
theorem dkmust_bad (x : Int) (w : World) : Calls Try.prog 29 #[.bool false, .int .i64 x] w fun e w' => e = .panicked (chainDk x) ∧ w = w' := by
  have hz : Try.prog.built 88 [(0, .int .i64 x)] = some #[.int .i64 x] := by kernel_rfl
  go_enter Try.func29, Try.ntmps29
  go_wp2_with fail
  exact ⟨rfl, rfl, rfl⟩
/-- What stands in the disk's own block. -/
def dskC (r : Nat) (D : Dsk) : List Value := [.map (some r), .int .i64 D.room, .int .i64 (usedF D.fs : Int), .int .i64 D.done, .bool D.off, .int .i64 D.left]
theorem grown_two {w w1 w2 : World} {r : Option Nat} (h1 : w.grownBy w1 r) (h2 : w1.grownBy w2 r) : w.grownBy w2 r :=
  ⟨h2.os.trans h1.os, h2.tape.trans h1.tape, h2.output.trans h1.output, Nat.le_trans h1.size h2.size, fun k hk hne => (h2.block k (Nat.lt_of_lt_of_le hk h1.size) hne).trans (h1.block k hk hne)⟩
theorem power_bad (p : Nat) (v0 v1 v2 v3 : Value) (w : World) (h : Blk w p 68 [v0, v1, v2, v3, .bool false, .int .i64 0]) :
    Calls Try.prog 30 #[.pointer (some ⟨p, 0, none⟩)] w fun e w' => e = .panicked (chainDk 13) ∧ Blk w' p 68 [v0, v1, v2, v3, .bool true, .int .i64 0] ∧ w.grownBy w' (some p) := by
  have c5 : _ = some _ := h.cell 5
  have c4 : _ = some _ := h.cell 4
  have f4 := h.frozen 4
  have h1 := h.stored 4 (.bool true)
  have g1 := grown_setCell w ⟨p, 4, none⟩ (.bool true)
  have c41 : _ = some _ := h1.cell 4
  go_enter Try.func30, Try.ntmps30
  go_wp2_with fail
  refine (dkmust_bad 13 _).mono ?_; rintro e w1 ⟨rfl, rfl⟩
  go_wp2_with fail
  exact ⟨rfl, rfl, h1, g1⟩
theorem power_one (p : Nat) (v0 v1 v2 : Value) (d n : Int) (w : World) (h : Blk w p 68 [v0, v1, v2, .int .i64 d, .bool false, .int .i64 n]) (hn : 0 < n) (hd : 0 ≤ d ∧ d ≤ 4611686018427387904) (hn2 : n ≤ 9223372036854775807) :
    Calls Try.prog 30 #[.pointer (some ⟨p, 0, none⟩)] w fun e w' => e = .returned (.tuple #[]) ∧ Blk w' p 68 [v0, v1, v2, .int .i64 (d + 1), .bool false, .int .i64 (n - 1)] ∧ w.grownBy w' (some p) := by
  have c5 : _ = some _ := h.cell 5
  have c4 : _ = some _ := h.cell 4
  have f5 := h.frozen 5
  have h1 := h.stored 5 (.int .i64 (n - 1))
  have g1 := grown_setCell w ⟨p, 5, none⟩ (.int .i64 (n - 1))
  have c31 : _ = some _ := h1.cell 3
  have f31 := h1.frozen 3
  have h2 := h1.stored 3 (.int .i64 (d + 1))
  have g2 := grown_setCell (w.setCell ⟨p, 5, none⟩ (.int .i64 (n - 1))) ⟨p, 3, none⟩ (.int .i64 (d + 1))
  have q0 : ¬ n = 0 := by omega
  go_enter Try.func30, Try.ntmps30
  go_wp2_with fail
  refine (dkmust_ok 13 _).mono ?_; rintro e w1 ⟨rfl, rfl⟩
  go_wp2_with fail
  exact bodyPost_end (results_none rfl _ _ _) rfl ⟨rfl, h2, grown_two g1 g2⟩
theorem power_none (p : Nat) (v0 v1 v2 : Value) (d n : Int) (w : World) (h : Blk w p 68 [v0, v1, v2, .int .i64 d, .bool false, .int .i64 n]) (hn : n < 0) (hd : 0 ≤ d ∧ d ≤ 4611686018427387904) :
    Calls Try.prog 30 #[.pointer (some ⟨p, 0, none⟩)] w fun e w' => e = .returned (.tuple #[]) ∧ Blk w' p 68 [v0, v1, v2, .int .i64 (d + 1), .bool false, .int .i64 n] ∧ w.grownBy w' (some p) := by
  have c5 : _ = some _ := h.cell 5
  have c4 : _ = some _ := h.cell 4
  have c3 : _ = some _ := h.cell 3
  have f3 := h.frozen 3
  have h2 := h.stored 3 (.int .i64 (d + 1))
  have g2 := grown_setCell w ⟨p, 3, none⟩ (.int .i64 (d + 1))
  have q0 : ¬ n = 0 := by omega
  have q1 : ¬ 0 < n := by omega
  have q2 : decide (0 < n) = false := decide_eq_false q1
  go_enter Try.func30, Try.ntmps30
  go_wp2_with fail
  refine (dkmust_ok 13 _).mono ?_; rintro e w1 ⟨rfl, rfl⟩
  go_wp2_with fail
  exact bodyPost_end (results_none rfl _ _ _) rfl ⟨rfl, h2, g2⟩
theorem power_c (p r : Nat) (D : Dsk) (w : World) (h : Blk w p 68 (dskC r D)) (ho : D.off = false) (hd : 0 ≤ D.done ∧ D.done ≤ 4611686018427387904) (hl : D.left ≤ 9223372036854775807) :
    Calls Try.prog 30 #[.pointer (some ⟨p, 0, none⟩)] w fun e w' => (((powerD D).1 = 0 ∧ e = .returned (.tuple #[])) ∨ ((powerD D).1 ≠ 0 ∧ e = .panicked (chainDk (powerD D).1))) ∧ Blk w' p 68 (dskC r (powerD D).2) ∧ w.grownBy w' (some p) := by
  obtain ⟨fs, room, done, off, left⟩ := D
  simp only at ho hd hl
  subst ho
  by_cases h0 : left = 0
  · subst h0
    have e : powerD ⟨fs, room, done, false, 0⟩ = (13, ⟨fs, room, done, true, 0⟩) := by simp [powerD]
    rw [e]
    refine (power_bad p _ _ _ _ w h).mono ?_
    rintro e w1 ⟨rfl, h1, h2⟩
    exact ⟨.inr ⟨by simp, rfl⟩, h1, h2⟩
  · by_cases h1 : 0 < left
    · have e : powerD ⟨fs, room, done, false, left⟩ = (0, ⟨fs, room, done + 1, false, left - 1⟩) := by simp [powerD, h0, h1]
      rw [e]
      refine (power_one p _ _ _ done left w h h1 hd hl).mono ?_
      rintro e w1 ⟨rfl, h1, h2⟩
      exact ⟨.inl ⟨rfl, rfl⟩, h1, h2⟩
    · have e : powerD ⟨fs, room, done, false, left⟩ = (0, ⟨fs, room, done + 1, false, left⟩) := by simp [powerD, h0, h1]
      rw [e]
      refine (power_none p _ _ _ done left w h (by omega) hd).mono ?_
      rintro e w1 ⟨rfl, h1, h2⟩
      exact ⟨.inl ⟨rfl, rfl⟩, h1, h2⟩
end Go.Proofs.Ytfnlcnjflloecaa
