/- roostref10: Used, power, first, New. -/
import Derived.Test.YtfnlcnjflloecaaRdk2
set_option linter.unusedVariables false
set_option linter.unusedSimpArgs false
set_option linter.unnecessarySimpa false
namespace Go.Proofs.Ytfnlcnjflloecaa
open Go.RowKit
theorem usedF_take (fs : List FileE) (j : Nat) (h : j < fs.length) : usedF (fs.take (j + 1)) = usedF (fs.take j) + fs[j].b.length := by
  rw [List.take_succ_eq_append_getElem h, usedF_append]; simp [usedF]
theorem usedF_take_le (fs : List FileE) (j : Nat) : usedF (fs.take j) ≤ usedF fs := by
  have := usedF_append (fs.take j) (fs.drop j)
  rw [List.take_append_drop] at this
  omega
def UsRel (w : World) (fs : List FileE) (n i : Value) (wr : World) : Prop := ∃ j : Nat, j ≤ fs.length ∧ i = .int .i64 (j : Int) ∧ n = .int .i64 (usedF (fs.take j) : Int) ∧ wr = w
set_option maxRecDepth 100000 in
set_option maxHeartbeats 3200000 in
theorem refused_c (p : Nat) (M : Nat → Prop) (D : Dsk) (w : World) (h : RAt w M p D) (hl : D.fs.length ≤ 1099511627776) (hu : usedF D.fs ≤ 16777216) :
    Calls Try.prog 33 #[.pointer (some ⟨p, 0, none⟩)] w fun e w' => e = .returned (.int .i64 (usedF D.fs : Int)) ∧ w = w' := by
  obtain ⟨vl, ps, h⟩ := h
  have hpl : ps.length = D.fs.length := by rw [← h.fs]; simp
  obtain ⟨A, c, rfl, hA⟩ := h.open
  have c0 : _ = some _ := h.blk.cell 0
  have hfs := h.fs
  have hrd := fun j (hj : j < ps.length) => (h.rd ps[j] (List.getElem_mem hj)).1
  clear h
  obtain ⟨fs, room, done, off, left⟩ := D
  simp only at hl hu hpl hfs c0 hA ⊢
  have hge : ∀ j (hj : j < ps.length), ps[j].1 = fs[j]'(by omega) := fun j hj => by subst hfs; simp
  go_enter Try.func33, Try.ntmps33
  go_wp2_with fail
  go_loopw [3, 4] (UsRel w fs) (fun _ i _ => fs.length - (intOf i).toNat)
  case atStart => exact ⟨0, by omega, rfl, rfl, rfl⟩
  case round =>
    obtain ⟨j, hj, rfl, rfl, rfl⟩ := hrel
    by_cases hlt : j < fs.length
    · have q1 : (j : Int) < (fs.length : Int) := by omega
      obtain ⟨b, rfl, hb1, hb2, hcs⟩ := hA (by omega)
      have hn0 := (hcs j (by omega)).2.1
      have hr := hrd j (by omega)
      rw [hge j (by omega)] at hr
      generalize ps[j].2 = v at *
      obtain ⟨A', c', rfl, -, -, -⟩ := hr.open
      have hs := Go.Lib.hid (usedF_take fs j hlt)
      have hs2 := usedF_take_le fs (j + 1)
      rw [hs.out] at hs2
      generalize hU : usedF (fs.take j) = U at *
      generalize fs[j].b.length = B at *
      clear hcs hA hr hrd hU
      go_wp2_with fail
      exact ⟨⟨j + 1, by omega, by go_num, by rw [hs.out]; go_num, rfl⟩, by simp [intOf]; omega⟩
    · have q1 : ¬ (j : Int) < (fs.length : Int) := by omega
      have he : usedF (fs.take j) = usedF fs := by rw [List.take_of_length_le (by omega)]
      rw [he]
      clear he hA hrd
      go_wp2_with fail
      go_ret
      exact ⟨rfl, rfl⟩
set_option maxRecDepth 100000 in
set_option maxHeartbeats 1600000 in
theorem refpower_b (p : Nat) (vl : Value) (D : Dsk) (w : World) (h : Blk w p 71 (rdC vl D)) (hd : 0 ≤ D.done ∧ D.done ≤ 4611686018427387904) (hl : D.left ≤ 9223372036854775807) :
    Calls Try.prog 34 #[.pointer (some ⟨p, 0, none⟩)] w fun e w' => e = .returned (.int .i64 (powerD D).1) ∧ Blk w' p 71 (rdC vl (powerD D).2) ∧ Chg (fun k => k = p) w w' := by
  obtain ⟨fs, room, done, off, left⟩ := D
  simp only at hd hl
  have c4 : _ = some _ := h.cell 4
  have c3 : _ = some _ := h.cell 3
  have f3 := h.frozen 3
  by_cases h0 : left = 0
  · subst h0
    have e : powerD ⟨fs, room, done, off, 0⟩ = (13, ⟨fs, room, done, true, 0⟩) := by simp [powerD]
    rw [e]
    have k1 := h.stored 3 (.bool true)
    have g1 := Chg.setCell w ⟨p, 3, none⟩ (.bool true)
    go_enter Try.func34, Try.ntmps34
    go_wp2_with fail
    go_ret
    exact ⟨rfl, k1, g1⟩
  · by_cases h1 : 0 < left
    · have e : powerD ⟨fs, room, done, off, left⟩ = (0, ⟨fs, room, done + 1, off, left - 1⟩) := by simp [powerD, h0, h1]
      rw [e]
      have f4 := h.frozen 4
      have k1 := h.stored 4 (.int .i64 (left - 1))
      have g1 := Chg.setCell w ⟨p, 4, none⟩ (.int .i64 (left - 1))
      have c2 : _ = some _ := k1.cell 2
      have f2 := k1.frozen 2
      have k2 := k1.stored 2 (.int .i64 (done + 1))
      have g2 := Chg.setCell (w.setCell ⟨p, 4, none⟩ (.int .i64 (left - 1))) ⟨p, 2, none⟩ (.int .i64 (done + 1))
      have gg := g1.tr g2
      have q0 : (left == 0) = false := beq_eq_false_iff_ne.2 h0
      go_enter Try.func34, Try.ntmps34
      go_wp2_with fail
      go_ret
      exact ⟨rfl, k2, gg⟩
    · have e : powerD ⟨fs, room, done, off, left⟩ = (0, ⟨fs, room, done + 1, off, left⟩) := by simp [powerD, h0, h1]
      rw [e]
      have c2 : _ = some _ := h.cell 2
      have f2 := h.frozen 2
      have k2 := h.stored 2 (.int .i64 (done + 1))
      have g2 := Chg.setCell w ⟨p, 2, none⟩ (.int .i64 (done + 1))
      have q0 : (left == 0) = false := beq_eq_false_iff_ne.2 h0
      go_enter Try.func34, Try.ntmps34
      go_wp2_with fail
      go_ret
      exact ⟨rfl, k2, g2⟩
theorem refpower_c (p : Nat) (M : Nat → Prop) (D : Dsk) (w : World) (h : RAt w M p D) (ok : DskOk D) (hd : D.done ≤ 4611686018427387904) :
    Calls Try.prog 34 #[.pointer (some ⟨p, 0, none⟩)] w fun e w' => e = .returned (.int .i64 (powerD D).1) ∧ RAt w' M p (powerD D).2 ∧ Chg M w w' := by
  obtain ⟨vl, ps, h⟩ := h
  refine (refpower_b p vl D w h.blk ⟨ok.done, hd⟩ ok.left.2).mono ?_
  rintro e w' ⟨rfl, h1, h2⟩
  exact ⟨rfl, ⟨vl, ps, h.ctl (power_fs D).1 h2 h1⟩, h2.mono (fun k hk => by rw [hk]; exact h.mp)⟩
set_option maxRecDepth 100000 in
set_option maxHeartbeats 1600000 in
theorem reffirst_c (p : Nat) (M : Nat → Prop) (D : Dsk) (s : List UInt8) (must : Bool) (w : World) (h : RAt w M p D) (hl : D.fs.length ≤ 1099511627776) (hs : s.length ≤ 9223372036854775807) :
    Calls Try.prog 32 #[.pointer (some ⟨p, 0, none⟩), .string (strB s), .bool must] w fun e w' => e = .returned (.int .i64 (firstD D s must)) ∧ w = w' := by
  have hat := refat_c p M D s w h hl hs
  have hr := refright_c s w hs
  obtain ⟨vl, ps, h⟩ := h
  have c3 : _ = some _ := h.blk.cell 3
  clear h
  obtain ⟨fs, room, done, off, left⟩ := D
  simp only at hat c3 hl
  cases off
  · cases hR : rightD s
    · rw [hR] at hr
      have e : firstD ⟨fs, room, done, false, left⟩ s must = 4 := by simp [firstD, hR]
      rw [e]
      clear e hR
      go_enter Try.func32, Try.ntmps32
      go_wp2_with fail
      refine hr.mono ?_; rintro e w1 ⟨rfl, rfl⟩
      go_wp2_with fail
      go_ret
      exact ⟨rfl, rfl⟩
    · rw [hR] at hr
      cases must
      · have e : firstD ⟨fs, room, done, false, left⟩ s false = 0 := by simp [firstD, hR]
        rw [e]
        clear e hR
        go_enter Try.func32, Try.ntmps32
        go_wp2_with fail
        refine hr.mono ?_; rintro e w1 ⟨rfl, rfl⟩
        go_wp2_with fail
        go_ret
        exact ⟨rfl, rfl⟩
      · have e : firstD ⟨fs, room, done, false, left⟩ s true = if lookF fs s = none then 7 else 0 := by simp [firstD, hR]
        rw [e]
        clear e hR
        obtain ⟨X, hX⟩ : ∃ X : Int, (if lookF fs s = none then (7 : Int) else 0) = X := ⟨_, rfl⟩
        rw [hX]
        replace hX := Go.Lib.hid hX
        go_enter Try.func32, Try.ntmps32
        go_wp2_with fail
        refine hr.mono ?_; rintro e w1 ⟨rfl, rfl⟩
        go_wp2_with fail
        refine hat.mono ?_; rintro e w1 ⟨⟨r, rfl, hP⟩, rfl⟩
        rcases hP with ⟨hn, rfl⟩ | ⟨j, hj, rfl, -, hn⟩
        · replace hX := hX.out
          rw [if_pos hn] at hX
          subst hX
          clear hn
          go_wp2_with fail
          go_ret
          exact ⟨rfl, rfl⟩
        · replace hX := hX.out
          rw [if_neg (by rw [hn]; simp)] at hX
          subst hX
          clear hn
          have q1 : ¬ (j : Int) < 0 := by omega
          have q2 : decide ((j : Int) < 0) = false := decide_eq_false q1
          go_wp2_with fail
          go_ret
          exact ⟨rfl, rfl⟩
  · have e : firstD ⟨fs, room, done, true, left⟩ s must = 13 := by simp [firstD]
    rw [e]
    clear e
    go_enter Try.func32, Try.ntmps32
    go_wp2_with fail
    go_ret
    exact ⟨rfl, rfl⟩
set_option maxRecDepth 100000 in
set_option maxHeartbeats 1600000 in
theorem refnewd_c (room : Int) (w : World) (h0 : 0 ≤ room) (h1 : room ≤ 16777216) :
    Calls Try.prog 7 #[.int .i64 room] w fun e w' => e = .returned (.tuple #[.pointer (some ⟨w.heap.size, 0, none⟩), .bool true]) ∧ RAt w' (fun k => k = w.heap.size) w.heap.size (newD room) ∧ Below w.heap.size w w' ∧ w'.heap.size = w.heap.size + 1 := by
  have q1 : ¬ room < 0 := by omega
  have q2 : ¬ 16777216 < room := by omega
  have d1 : decide (room < 0) = false := decide_eq_false q1
  have d2 : decide (16777216 < room) = false := decide_eq_false q2
  have k := Blk.new w 71 (rdC (.slice none 0 0) (newD room))
  have b := (Below.refl w.heap.size w).alloc (Nat.le_refl _) (.cells (rdC (.slice none 0 0) (newD room)).toArray 71)
  have hm : RMem _ (fun k => k = w.heap.size) w.heap.size (.slice none 0 0) [] (newD room) := ⟨rfl, k, World.ownsRow_nil _ 0 _ 3, fun k hk => (by cases hk), rfl, fun q hq => (by cases hq), fun k hk => (by rw [hk]; simp)⟩
  go_enter Try.func7, Try.ntmps7
  go_wp2_with fail
  refine bodyPost_ret (results_tmp2 rfl _ _ _) rfl ?_
  exact ⟨rfl, ⟨_, _, hm⟩, b, by simp⟩
end Go.Proofs.Ytfnlcnjflloecaa
