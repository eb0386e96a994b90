/- disk.Fuse, Steps, New, Read, List. -/
import Derived.Test.YtfnlcnjflloecaaDsk8
import Derived.Lib.LazyBuf
set_option linter.unusedVariables false
set_option linter.unusedSimpArgs false
set_option linter.unnecessarySimpa false
namespace Go.Proofs.Ytfnlcnjflloecaa
open Go.RowKit
set_option maxRecDepth 100000 in
set_option maxHeartbeats 1600000 in
theorem fuse1_c (p : Nat) (M : Nat → Prop) (D : Dsk) (n : Int) (bn bd : Nat) (w : World) (h : DiskAt w M p D) (hoff : D.off = false) (hn : 0 ≤ n)
    (kn : Blk w bn 3 [.int .i64 n]) (kd : Blk w bd 23 [.pointer (some ⟨p, 0, none⟩)]) :
    Calls Try.prog 46 #[.pointer (some ⟨bn, 0, none⟩), .pointer (some ⟨bd, 0, none⟩)] w (DkPost w M p (fuseD D n)) := by
  obtain ⟨fs, room, done, off, left⟩ := D
  simp only at hoff
  subst hoff
  have hR : fuseD ⟨fs, room, done, false, left⟩ n = (0, ⟨fs, room, done, false, n⟩) := by unfold fuseD; rw [if_neg (by omega), if_neg (by simp)]
  rw [hR]
  have hlt := h.lt
  obtain ⟨r, G, V, Lb, h⟩ := h
  have cn : _ = some _ := kn.cell 0
  have cd : _ = some _ := kd.cell 0
  have c5 : _ = some _ := h.blk.cell 5
  have f5 := h.blk.frozen 5
  have k5 := h.blk.stored 5 (.int .i64 n)
  have g5 := grown_setCell w ⟨p, 5, none⟩ (.int .i64 n)
  have hc := Chg.grown g5 (M := fun k => k = p) (fun k hk => by cases hk; rfl)
  have hm := h.ctl (D' := ⟨fs, room, done, false, n⟩) rfl hc k5
  go_enter Try.func46, Try.ntmps46
  go_wp2_with fail
  refine bodyPost_end (results_none rfl _ _ _) rfl ⟨Chg.grown g5 (fun k hk => by cases hk; exact h.mp), hm.growd (fun k hk => .inl hk) hlt g5.size, .inl ⟨rfl, rfl⟩⟩
set_option maxRecDepth 100000 in
set_option maxHeartbeats 1600000 in
theorem fuse_c (p : Nat) (M : Nat → Prop) (D : Dsk) (n : Int) (w : World) (h : DiskAt w M p D) :
    Calls Try.prog 22 #[.pointer (some ⟨p, 0, none⟩), .int .i64 n] w (DkGives w M p (fuseD D n)) := by
  have hmf : ∀ (fn : Fn) (first cap : Array Value) (w : World), (Instr.makeFunc fn first cap).run Try.prog w = .ok (.func fn first cap) w := fun _ _ _ _ => rfl
  have ek : ∀ args w, (callFunc 46 args).run Try.prog w = .ok (.enter 46 args) w := enters_of Try.func46 (by kernel_rfl) rfl
  have kd := Blk.new w 23 [.pointer (some ⟨p, 0, none⟩)]
  have b1 := (Below.refl w.heap.size w).alloc (Nat.le_refl _) (.cells #[.pointer (some ⟨p, 0, none⟩)] 23)
  have z1 : (w.alloc (.cells #[.pointer (some ⟨p, 0, none⟩)] 23)).heap.size = w.heap.size + 1 := by simp
  generalize hw1 : w.alloc (.cells #[.pointer (some ⟨p, 0, none⟩)] 23) = w1 at *
  have kn := Blk.new w1 3 [.int .i64 n]
  have b2 := (Below.refl w1.heap.size w1).alloc (Nat.le_refl _) (.cells #[.int .i64 n] 3)
  generalize hw2 : w1.alloc (.cells #[.int .i64 n] 3) = w2 at *
  have hlt := h.lt
  have hb := below_below b1 b2
  have kd3 := kd.below b2
  have hno : ∀ k, w.heap.size ≤ k → ¬ M k := fun k hk hm => by have := hlt k hm; omega
  have c3 : _ = some _ := kd3.cell 0
  have cn : _ = some _ := kn.cell 0
  by_cases hn : n < 0
  · have hR : fuseD D n = (1, D) := by unfold fuseD; rw [if_pos hn]
    rw [hR]
    have hg := h.grow hb
    have hdn : decide (n < 0) = true := decide_eq_true hn
    subst hw2 hw1
    clear hno
    simp only [z1] at cn
    go_enter Try.func22, Try.ntmps22
    go_wp2_with fail
    go_ret
    exact ⟨rfl, hg, Chg.of_below hb⟩
  · have ST := step_disk p M D (fuseD D n) 46 #[.pointer (some ⟨w1.heap.size, 0, none⟩), .pointer (some ⟨w.heap.size, 0, none⟩)] w2 (h.below hb)
      (fun ho => by unfold fuseD; rw [if_neg hn, if_pos ho]) ek (fun ho wx hx =>
        fuse1_c p M D n _ _ wx ((h.below hb).below hx) ho (by omega) (kn.below hx) (kd3.below hx))
    generalize fuseD D n = R at *
    have hdn : decide (n < 0) = false := decide_eq_false hn
    rw [z1] at ST
    subst hw2 hw1
    simp only [z1] at cn
    go_enter Try.func22, Try.ntmps22
    go_wp2_with fail
    refine ST.mono ?_
    rintro e w4 h4
    obtain ⟨rfl, h5⟩ := h4.pre hb hlt
    go_wp2_with fail
    go_ret
    exact ⟨rfl, h5⟩
theorem steps_c (p : Nat) (M : Nat → Prop) (D : Dsk) (w : World) (h : DiskAt w M p D) :
    Calls Try.prog 25 #[.pointer (some ⟨p, 0, none⟩)] w fun e w' => e = .returned (.int .i64 D.done) ∧ w = w' := by
  obtain ⟨r, G, V, Lb, h⟩ := h
  have c3 : _ = some _ := h.blk.cell 3
  go_enter Try.func25, Try.ntmps25
  go_wp2_with fail
  go_ret
  exact ⟨rfl, rfl⟩
/-- What New gives. -/
theorem new_good (room : Int) (w : World) (h0 : 0 ≤ room) (h1 : room ≤ 16777216) :
    Calls Try.prog 6 #[.int .i64 room] w fun e w' => ∃ p, e = .returned (.tuple #[.pointer (some ⟨p, 0, none⟩), .int .i64 0]) ∧ DiskAt w' (fun k => w.heap.size ≤ k ∧ k < w'.heap.size) p (newD room) ∧ Below w.heap.size w w' := by
  have d1 : decide (room < 0) = false := decide_eq_false (by omega)
  have d2 : decide (16777216 < room) = false := decide_eq_false (by omega)
  have p1 : ¬ room < 0 := by omega
  have p2 : ¬ 16777216 < room := by omega
  have hmk : ∀ w1, (Instr.makeMap 66 none).run Try.prog w1 = .ok (.map (some w1.heap.size)) (w1.alloc (.map #[] 0)) := fun w1 => by simp [Instr.makeMap, Result.andThen]
  have hBd : ∀ r : Nat, Try.prog.built 68 [(0, .map (some r)), (1, .int .i64 room), (5, .int .i64 (-1))] = some #[.map (some r), .int .i64 room, .int .i64 0, .int .i64 0, .bool false, .int .i64 (-1)] := fun r => by kernel_rfl
  have hb1 := (Below.refl w.heap.size w).alloc (Nat.le_refl _) (.map #[] 0)
  have hM := MapK.new w 0
  have fin : ∀ w2, Blk w2 (w.heap.size + 1) 68 (dskC w.heap.size (newD room)) → Below (w.alloc (.map #[] 0)).heap.size (w.alloc (.map #[] 0)) w2 → DiskAt w2 (fun k => w.heap.size ≤ k ∧ k < w2.heap.size) (w.heap.size + 1) (newD room) ∧ Below w.heap.size w w2 := fun w2 hk hb => by
    have hl := hk.lt
    refine ⟨⟨w.heap.size, fun _ => 0, fun _ => .slice none 0 0, fun k => if k = w.heap.size then (1, []) else (0, []), ⟨⟨by omega, hl⟩, ⟨Nat.le_refl _, by omega⟩, if_neg (by omega), if_pos rfl, hk, ?_, fun k hk => hk.2, fun s f hf => by cases hf⟩⟩, below_below hb1 hb⟩
    have e : ptrK (fun _ => 0) (newD room).fs = fun _ => none := by funext t; rfl
    rw [e]
    exact hM.below hb
  go_enter Try.func6, Try.ntmps6
  have tok0 : True := trivial
  go_wp2_with (first
    | (have _t := tok0; (with_reducible refine G_build ?_; refine L_build #[.map (some w.heap.size), .int .i64 room, .int .i64 0, .int .i64 0, .bool false, .int .i64 (-1)] (by kernel_rfl) ?_); clear tok0; have tok1 : True := trivial)
    | (have _t := tok1; (with_reducible refine G_box ?_; refine L_box (by with_unfolding_all (conv => lhs; whnf)) ?_); intro w2 hk2 hb2 hs2; clear tok1; have tok2 : True := trivial))
  go_ret2
  exact ⟨_, rfl, fin _ (by simpa [dskC, newD, usedF] using hk2) hb2⟩
theorem dclone_c (v : Value) (l : List UInt8) (w : World) (h : Rd w v l) (hl : l.length ≤ 100000000) : Calls Try.prog 38 #[v] w (Gives8 5 w l) := by
  have h0 := h
  obtain ⟨A, c, rfl, hc, hm, h3⟩ := h.open
  have he := fun (w : World) => run_eql_slice_nil (P := Try.prog) w 38 5 A l.length c Try.underlying38
  cases A with
  | none =>
    have hl0 : l = [] := by
      cases l with
      | nil => rfl
      | cons a b => obtain ⟨_, _, e, _⟩ := h3 (by simp); cases e
    subst hl0
    clear h h0 h3 hm hc hl
    simp only [List.length_nil, Option.isNone_none] at he ⊢
    go_enter Try.func38, Try.ntmps38
    go_wp2_with fail
    go_ret
    exact ⟨_, rfl, Own8.nil _ _ _, Below.refl _ _⟩
  | some a =>
    clear h3 h hm hc
    simp only [Option.isNone_some] at he
    go_enter Try.func38, Try.ntmps38
    have ta0 : True := trivial
    go_wp2_with (first
      | (have _t := ta0; (at_builtin; refine wpList_cp8 rfl _ _ rfl st8 Try.underlying38 rfl rfl h0 (by omega) ?_); intro v2 w2 ho2 hb2; clear ta0; have ta1 : True := trivial))
    go_ret
    exact ⟨_, rfl, ho2, hb2⟩
/-- A step's end, told without the disk. -/
def EndsDk (x : Int) (e : Ending) : Prop := (x = 0 ∧ e = .returned (.tuple #[])) ∨ (x ≠ 0 ∧ e = .panicked (chainDk x))
set_option maxRecDepth 100000 in
set_option maxHeartbeats 3200000 in
theorem read1_c (p : Nat) (M : Nat → Prop) (D : Dsk) (s : List UInt8) (bn bd br : Nat) (w : World) (h : DiskAt w M p D) (ok : DskOk D) (hoff : D.off = false) (hs : s.length ≤ 9223372036854775807)
    (kn : Blk w bn 9 [.string (strB s)]) (kd : Blk w bd 23 [.pointer (some ⟨p, 0, none⟩)]) (kr : Blk w br 38 [.slice none 0 0]) :
    Calls Try.prog 37 #[.pointer (some ⟨bn, 0, none⟩), .pointer (some ⟨bd, 0, none⟩), .pointer (some ⟨br, 0, none⟩)] w fun e w2 =>
      Chg (fun k => k = br) w w2 ∧ (∃ u, Blk w2 br 38 [u] ∧ Own8 w2 w.heap.size 5 u (readD D s).2) ∧ EndsDk (readD D s).1 e := by
  have cn : _ = some _ := kn.cell 0
  obtain ⟨R, hR⟩ : ∃ R, readD D s = R := ⟨_, rfl⟩
  rw [hR]
  have hR2 := hR
  unfold readD at hR2
  replace hR := Go.Lib.hid hR
  have bA := (Below.refl w.heap.size w).alloc (Nat.le_refl _) (.cells #[.string (strB s)] 9)
  have NM := named_c _ [s] _ (rdT_one w (0, 0) s) (by simpa using hs)
  have hf1 : firstD D s true = if rightD s = false then 4 else if lookF D.fs s = none then 7 else 0 := by unfold firstD; rw [if_neg (by rw [hoff]; decide)]; simp
  generalize hS : strB s = S at *
  go_enter Try.func37, Try.ntmps37
  go_wp2_with fail
  refine NM.mono ?_; rintro e w1 ⟨hr, hb1⟩
  have hb := below_below bA hb1
  simp only [List.all_cons, List.all_nil, Bool.and_true] at hr
  rcases hr with ⟨hr, rfl⟩ | ⟨hr, rfl⟩
  rotate_left
  · rw [if_pos hr] at hf1
    rw [if_pos (by rw [hf1]; decide), hf1] at hR2
    subst hR2
    clear hR NM bA
    go_wp2_with fail
    exact ⟨rfl, Chg.of_below hb, ⟨_, kr.below hb, Own8.nil _ _ _⟩, .inr ⟨by simp, rfl⟩⟩
  rw [if_neg (by rw [hr]; decide)] at hf1
  clear NM cn bA hb1 hr
  obtain ⟨r, G, V, Lb, h⟩ := h
  have h1 := h.below hb
  have cn : _ = some _ := (kn.below hb).cell 0
  have cd : _ = some _ := (kd.below hb).cell 0
  cases hlk : lookF D.fs s with
  | none =>
    rw [if_pos hlk] at hf1
    rw [if_pos (by rw [hf1]; decide), hf1] at hR2
    subst hR2
    have AT := at_none p r _ _ S w1 h1.blk h1.map (by rw [← hS]; exact ptrK_none hlk)
    clear hR
    go_wp2_with fail
    refine AT.mono ?_; rintro e w2 ⟨rfl, rfl⟩
    go_wp2_with fail
    exact ⟨rfl, Chg.of_below hb, ⟨_, kr.below hb, Own8.nil _ _ _⟩, .inr ⟨by simp, rfl⟩⟩
  | some f =>
    rw [if_neg (by rw [hlk]; simp)] at hf1
    rw [if_neg (by rw [hf1]; simp), hlk] at hR2
    have AT := at_some p r _ _ _ S w1 h1.blk h1.map (by rw [← hS]; exact ptrK_some hlk)
    have F := h1.file s f hlk
    have cF : _ = some _ := F.blk.cell 0
    have u1 := used_look hlk
    have u2 := ok.used
    have u3 := ok.room
    have CL := dclone_c (V s) f.b w1 F.row.rd (by omega)
    simp only [Option.map_some, Option.getD_some] at hR2
    subst hR2
    clear hR
    go_wp2_with fail
    refine AT.mono ?_; rintro e w2 ⟨rfl, rfl⟩
    go_wp2_with fail
    refine CL.mono ?_; rintro e w3 ⟨u, rfl, ho3, hb3⟩
    have hb13 := below_below hb hb3
    have kr3 := kr.below hb13
    obtain ⟨Aa, ca, ea, -, -, -⟩ := ho3.rd.open
    have hug := fun k hk => ho3.base_le k hk
    have hrl := kr.lt
    have c0 : _ = some _ := kr3.cell 0
    have f0 := kr3.frozen 0
    subst ea
    have kr4 := kr3.stored 0 (.slice Aa f.b.length ca)
    have g4 := grown_setCell w3 ⟨br, 0, none⟩ (.slice Aa f.b.length ca)
    have ho4 := ho3.grown g4 (.inr (fun e => by have := hug br e; have := hb.size; omega))
    go_wp2_with fail
    refine bodyPost_end (results_none rfl _ _ _) rfl ⟨?_, ⟨_, kr4, ho4.mono hb.size⟩, .inl ⟨rfl, rfl⟩⟩
    exact (Chg.of_below hb13).tr (Chg.grown g4 (fun k hk => by cases hk; rfl))
end Go.Proofs.Ytfnlcnjflloecaa
