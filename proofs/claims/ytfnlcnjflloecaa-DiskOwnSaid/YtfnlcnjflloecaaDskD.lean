/- roostlaw10: few, wakes; a law's own disk. -/
import Derived.Test.YtfnlcnjflloecaaDskC
set_option linter.unusedVariables false
set_option linter.unusedSimpArgs false
set_option linter.unnecessarySimpa false
namespace Go.Proofs.Ytfnlcnjflloecaa
open Go.RowKit
/-- A disk that was made behind w, in wr. -/
def DS (w : World) (p : Nat) (D : Dsk) (wr : World) : Prop := ∃ M, DiskAt wr M p D ∧ (∀ k, M k → w.heap.size ≤ k) ∧ Below w.heap.size w wr
theorem DS.below {w wr w' : World} {p : Nat} {D : Dsk} (h : DS w p D wr) (hb : Below wr.heap.size wr w') : DS w p D w' := by
  obtain ⟨M, h1, h2, h3⟩ := h
  exact ⟨M, h1.below hb, h2, below_below h3 hb⟩
theorem DS.bel {w wr : World} {p : Nat} {D : Dsk} (h : DS w p D wr) : Below w.heap.size w wr := by obtain ⟨M, h1, h2, h3⟩ := h; exact h3
theorem DS.gives {w wr w' : World} {p : Nat} {M : Nat → Prop} {R : Int × Dsk} {e : Ending} (h2 : ∀ k, M k → w.heap.size ≤ k) (h3 : Below w.heap.size w wr) (h : DkGives wr M p R e w') : e = .returned (.int .i64 R.1) ∧ DS w p R.2 w' := by
  obtain ⟨h4, h5, h6⟩ := h
  refine ⟨h4, _, h5, fun k hk => ?_, h3.trans (h6.below h3.size h2)⟩
  rcases hk with hk | hk
  · exact h2 k hk
  · have := h3.size; omega
theorem append_ds {w wr : World} {p : Nat} {D : Dsk} (h : DS w p D wr) (ok : DskOk D) (hd : D.done ≤ 4611686018427387904) (s b : List UInt8) (hs : s.length ≤ 9223372036854775807) {wx : World} (hb : Below wr.heap.size wr wx) {v : Value} (hv : Rd wx v b) (hvl : ∀ g, v.ownBlock = some g → wr.heap.size ≤ g ∧ g < wx.heap.size) :
    Calls Try.prog 9 #[.pointer (some ⟨p, 0, none⟩), .string (strB s), v] wx fun e w' => e = .returned (.int .i64 (appendD D s b).1) ∧ DS w p (appendD D s b).2 w' := by
  obtain ⟨M, h1, h2, h3⟩ := h
  have hl := h1.lt
  exact (append_c p M D s b v wx (h1.below hb) ok hd hs hv (fun g hg hm => by have := hvl g hg; have := hl g hm; omega) (fun g hg => (hvl g hg).2)).mono fun e w' hh => DS.gives h2 (below_below h3 hb) hh
theorem sync_ds {w wr : World} {p : Nat} {D : Dsk} (h : DS w p D wr) (ok : DskOk D) (hd : D.done ≤ 4611686018427387904) (s : List UInt8) (hs : s.length ≤ 9223372036854775807) :
    Calls Try.prog 21 #[.pointer (some ⟨p, 0, none⟩), .string (strB s)] wr fun e w' => e = .returned (.int .i64 (syncD D s).1) ∧ DS w p (syncD D s).2 w' := by
  obtain ⟨M, h1, h2, h3⟩ := h
  exact (sync_c p M D s wr h1 ok hd hs).mono fun e w' hh => DS.gives h2 h3 hh
theorem fuse_ds {w wr : World} {p : Nat} {D : Dsk} (h : DS w p D wr) (n : Int) :
    Calls Try.prog 22 #[.pointer (some ⟨p, 0, none⟩), .int .i64 n] wr fun e w' => e = .returned (.int .i64 (fuseD D n).1) ∧ DS w p (fuseD D n).2 w' := by
  obtain ⟨M, h1, h2, h3⟩ := h
  exact (fuse_c p M D n wr h1).mono fun e w' hh => DS.gives h2 h3 hh
theorem steps_ds {w wr : World} {p : Nat} {D : Dsk} (h : DS w p D wr) :
    Calls Try.prog 25 #[.pointer (some ⟨p, 0, none⟩)] wr fun e w' => e = .returned (.int .i64 D.done) ∧ wr = w' := by
  obtain ⟨M, h1, h2, h3⟩ := h
  exact steps_c p M D wr h1
theorem read_ds {w wr : World} {p : Nat} {D : Dsk} (h : DS w p D wr) (ok : DskOk D) (s : List UInt8) (hs : s.length ≤ 9223372036854775807) :
    Calls Try.prog 13 #[.pointer (some ⟨p, 0, none⟩), .string (strB s)] wr fun e w' => ∃ u, e = .returned (.tuple #[u, .int .i64 (readD D s).1]) ∧ Own8 w' wr.heap.size 5 u (readD D s).2 ∧ Below wr.heap.size wr w' := by
  obtain ⟨M, h1, h2, h3⟩ := h
  exact read_c p M D s wr h1 ok hs
theorem restart_ds {w wr : World} {p : Nat} {D : Dsk} (h : DS w p D wr) (ok : DskOk D) (hn : ∀ f ∈ D.fs, f.name.length ≤ 64) (hl : D.fs.length ≤ 1099511627776) (keep : List Int) {wx : World} (hb : Below wr.heap.size wr wx) {v : Value} (hv : RdI wx v keep) (hvl : ∀ g, v.ownBlock = some g → wr.heap.size ≤ g) :
    Calls Try.prog 23 #[.pointer (some ⟨p, 0, none⟩), v] wx fun e w' => e = .returned (.tuple #[]) ∧ DS w p (restartD D keep) w' := by
  obtain ⟨M, h1, h2, h3⟩ := h
  have hll := h1.lt
  refine (restart_c p M D keep v wx (h1.below hb) ok hn hl hv (fun g hg hm => by have := hvl g hg; have := hll g hm; omega)).mono ?_
  rintro e w' ⟨rfl, h5, h6⟩
  have h4 := below_below h3 hb
  refine ⟨rfl, _, h5, fun k hk => ?_, h4.trans (h6.below h4.size h2)⟩
  rcases hk with hk | hk
  · exact h2 k hk
  · have := h4.size; omega
theorem few10_c (v : Value) (l : List UInt8) (w : World) (h : Rd w v l) : Calls Try.prog 11 #[v] w (Gives8 5 w (l.take 100)) := by
  have P := fun w1 (hb : Below w.heap.size w w1) => twin_c v l 100 w1 (h.below hb) (by omega) (by omega)
  have e : (100 : Int).toNat = 100 := rfl
  rw [e] at P
  go_enter Try.func11, Try.ntmps11
  go_wp2_with (go_at_call 31; refine (P _ (Below.refl _ _)).mono ?_; rintro e w1 ⟨v1, rfl, ho1, hb1⟩)
  go_ret
  exact ⟨_, rfl, ho1, hb1⟩
theorem rdI_one (w : World) (x : Int) (hx : -9223372036854775808 ≤ x ∧ x ≤ 9223372036854775807) : RdI (w.alloc (.cells #[.int .i64 x] 3)) (.slice (some ⟨w.heap.size, 0, none⟩) 1 1) [x] := by
  refine ⟨⟨rfl, some ⟨w.heap.size, 0, none⟩, 1, rfl, by simp, by unfold maxLen; omega, fun _ => ⟨w.heap.size, 0, rfl, fun j u hu => ?_⟩⟩, fun z hz => by simp at hz; omega⟩
  have hb : (w.alloc (.cells #[.int .i64 x] 3)).heap[w.heap.size]? = some (.cells #[.int .i64 x] 3 (0, 0)) := by
    show (w.heap.push _)[w.heap.size]? = _
    simp
  rw [cell_of_row _ w.heap.size (0 + j) _ _ (0, 0) hb]
  simpa [ivs] using hu
/-- The disk of the document's runs. -/
def wkD1 : Dsk := (appendD (newD 100) [97] [1, 2, 3]).2
def wkD2 : Dsk := (syncD wkD1 [97]).2
def wkD3 : Dsk := (appendD wkD2 [97] [4, 5]).2
def wkD4 : Dsk := restartD wkD3 [1]
theorem wk_files : wkD3.fs = [⟨[97], [1, 2, 3, 4, 5], 3⟩] := by rfl
set_option maxRecDepth 100000 in
set_option maxHeartbeats 3200000 in
theorem wakes10_c (w : World) : Calls Try.prog 8 #[] w (Ok w) := by
  have ok0 : DskOk (newD 100) := DskOk.new (by omega) (by omega)
  have ok1 : DskOk wkD1 := ok0.append _ _
  have ok2 : DskOk wkD2 := ok1.sync _
  have ok3 : DskOk wkD3 := ok2.append _ _
  have ok4 : DskOk wkD4 := ok3.restart _
  have NW := new_good 100 w (by omega) (by omega)
  have A1 := fun p wr (h : DS w p (newD 100) wr) => append_ds h ok0 (by decide) [97] [1, 2, 3] (by decide) ((Below.refl wr.heap.size wr).alloc (Nat.le_refl _) (.cells #[.int .u8 1, .int .u8 2, .int .u8 3] 5)) (Rd.lit wr 5 (0, 0) [1, 2, 3] (n := 3) (c := 3) rfl rfl (by omega) (by unfold maxLen; omega)) (fun g hg => by cases hg; simp)
  have S1 := fun p wr (h : DS w p wkD1 wr) => sync_ds h ok1 (by decide) [97] (by decide)
  have A2 := fun p wr (h : DS w p wkD2 wr) => append_ds h ok2 (by decide) [97] [4, 5] (by decide) ((Below.refl wr.heap.size wr).alloc (Nat.le_refl _) (.cells #[.int .u8 4, .int .u8 5] 5)) (Rd.lit wr 5 (0, 0) [4, 5] (n := 2) (c := 2) rfl rfl (by omega) (by unfold maxLen; omega)) (fun g hg => by cases hg; simp)
  have RS := fun p wr (h : DS w p wkD3 wr) => restart_ds h ok3 (by rw [wk_files]; simp) (by rw [wk_files]; simp) [1] ((Below.refl wr.heap.size wr).alloc (Nat.le_refl _) (.cells #[.int .i64 1] 3)) (v := .slice (some ⟨wr.heap.size, 0, none⟩) 1 1) (rdI_one wr 1 (by omega)) (fun g hg => by cases hg; simp)
  have RD := fun p wr (h : DS w p wkD4 wr) => read_ds h ok4 [97] (by decide)
  have e1 : (readD wkD4 [97]) = (0, [1, 2, 3, 4]) := by decide +kernel
  have e2 : wkD4.done = 3 := by decide +kernel
  rw [e1] at RD
  clear ok0 ok1 ok2 ok3 ok4 e1
  generalize hD1 : wkD1 = D1 at *
  generalize hD2 : wkD2 = D2 at *
  generalize hD3 : wkD3 = D3 at *
  generalize hD4 : wkD4 = D4 at *
  go_enter Try.func8, Try.ntmps8
  go_wp2_with fail
  refine NW.mono ?_; rintro e w1 ⟨p, rfl, hd, hb1⟩
  have h1 : DS w p (newD 100) w1 := ⟨_, hd, fun k hk => hk.1, hb1⟩
  go_wp2_with fail
  refine (A1 p _ h1).mono ?_; rintro e w2 ⟨rfl, h2⟩
  rw [← wkD1, hD1] at h2
  go_wp2_with fail
  refine (S1 p _ h2).mono ?_; rintro e w3 ⟨rfl, h3⟩
  rw [← hD1, ← wkD2, hD2] at h3
  go_wp2_with fail
  refine (A2 p _ h3).mono ?_; rintro e w4 ⟨rfl, h4⟩
  rw [← hD2, ← wkD3, hD3] at h4
  go_wp2_with fail
  refine (RS p _ h4).mono ?_; rintro e w5 ⟨rfl, h5⟩
  rw [← hD3, ← wkD4, hD4] at h5
  go_wp2_with fail
  refine (RD p _ h5).mono ?_; rintro e w6 ⟨u, rfl, ho6, hb6⟩
  have h6 := h5.below hb6
  have hcv := convert_str ho6.rd
  have hq : (strB [1, 2, 3, 4]).toList = [1, 2, 3, 4] := strB_toList _
  generalize strB [1, 2, 3, 4] = T at *
  clear A1 S1 A2 RS RD NW hD1 hD2 hD3 hD4
  go_wp2_with fail
  refine (steps_ds h6).mono ?_; rintro e w7 ⟨rfl, rfl⟩
  rw [e2]
  go_wp2_with fail
  go_ret
  exact ⟨by simp, h6.bel⟩
end Go.Proofs.Ytfnlcnjflloecaa
