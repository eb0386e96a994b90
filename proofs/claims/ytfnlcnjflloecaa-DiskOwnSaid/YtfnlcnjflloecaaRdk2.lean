/- The reference's disk in memory; at. -/
import Derived.Test.YtfnlcnjflloecaaRdk1
import Derived.Deep.MidRow
set_option linter.unusedVariables false
set_option linter.unusedSimpArgs false
set_option linter.unnecessarySimpa false
namespace Go.Proofs.Ytfnlcnjflloecaa
open Go.RowKit
def fcel (q : FileE × Value) : List Value := [sv q.1.name, q.2, .int .i64 (q.1.safe : Int)]
def fcs (ps : List (FileE × Value)) : List Value := ps.flatMap fcel
theorem fcs_cons (q : FileE × Value) (ps : List (FileE × Value)) : fcs (q :: ps) = fcel q ++ fcs ps := by simp [fcs]
theorem fcs_append (a b : List (FileE × Value)) : fcs (a ++ b) = fcs a ++ fcs b := by simp [fcs]
theorem fcs_len (ps : List (FileE × Value)) : (fcs ps).length = ps.length * 3 := by
  induction ps with
  | nil => rfl
  | cons q r ih => rw [fcs_cons, List.length_append, ih, List.length_cons, Nat.add_mul]; simp [fcel]; omega
theorem fcs_get (ps : List (FileE × Value)) (j : Nat) (h : j < ps.length) (k : Nat) (hk : k < 3) : (fcs ps)[j * 3 + k]? = (fcel ps[j])[k]? := by
  induction ps generalizing j with
  | nil => cases h
  | cons q r ih =>
    rw [fcs_cons]
    cases j with
    | zero =>
      rw [List.getElem?_append_left (by simp [fcel]; omega)]
      simp
    | succ j =>
      rw [List.getElem?_append_right (by simp [fcel]; omega)]
      have e : (j + 1) * 3 + k - (fcel q).length = j * 3 + k := by simp [fcel]; omega
      rw [e, ih j (by simpa using h)]
      simp
theorem fcs_one (ps : List (FileE × Value)) (h : ∀ q ∈ ps, q.2.oneCell' = true) : ∀ u ∈ fcs ps, u.oneCell' = true := by
  intro u hu
  unfold fcs at hu
  obtain ⟨q, hq, h2⟩ := List.mem_flatMap.1 hu
  simp only [fcel, List.mem_cons, List.not_mem_nil, or_false] at h2
  rcases h2 with rfl | rfl | rfl
  · rfl
  · exact h q hq
  · rfl
theorem fcs_set (ps : List (FileE × Value)) (j : Nat) (h : j < ps.length) (b : List UInt8) (v : Value) : fcs (ps.set j (⟨ps[j].1.name, b, ps[j].1.safe⟩, v)) = (fcs ps).set (j * 3 + 1) v := by
  induction ps generalizing j with
  | nil => cases h
  | cons q r ih =>
    cases j with
    | zero => simp [fcs_cons, fcel]
    | succ j =>
      rw [List.set_cons_succ, fcs_cons, fcs_cons]
      have := ih j (by simpa using h)
      simp only [List.getElem_cons_succ]
      rw [this, List.set_append_right _ _ (by simp [fcel]; omega)]
      have e : (j + 1) * 3 + 1 - (fcel q).length = j * 3 + 1 := by simp [fcel]; omega
      rw [e]
/-- The disk's own block. -/
def rdC (vl : Value) (D : Dsk) : List Value := [vl, .int .i64 D.room, .int .i64 D.done, .bool D.off, .int .i64 D.left]
structure RMem (w : World) (M : Nat → Prop) (p : Nat) (vl : Value) (ps : List (FileE × Value)) (D : Dsk) : Prop where
  mp : M p
  blk : Blk w p 71 (rdC vl D)
  row : w.ownsRow 0 83 3 vl ps.length (fcs ps)
  rown : ∀ k, vl.ownBlock = some k → M k ∧ k ≠ p
  fs : ps.map (·.1) = D.fs
  rd : ∀ q ∈ ps, Rd w q.2 q.1.b ∧ ∀ k, q.2.ownBlock = some k → M k ∧ k ≠ p ∧ vl.ownBlock ≠ some k
  lt : ∀ k, M k → k < w.heap.size
def RAt (w : World) (M : Nat → Prop) (p : Nat) (D : Dsk) : Prop := ∃ vl ps, RMem w M p vl ps D
section
variable {w w' : World} {M N : Nat → Prop} {p : Nat} {vl : Value} {ps : List (FileE × Value)} {D D' : Dsk}
theorem ownsRow_chg {base e size n : Nat} {v : Value} {xs : List Value} (h : w.ownsRow base e size v n xs) (hc : Chg N w w') (hm : ∀ g, v.ownBlock = some g → ¬ N g) : w'.ownsRow base e size v n xs := owns_chg h hc hm
theorem RMem.chg (h : RMem w M p vl ps D) (hc : Chg N w w') (hN : ∀ k, M k → ¬ N k) : RMem w' M p vl ps D :=
  ⟨h.mp, h.blk.chg hc (hN _ h.mp), ownsRow_chg h.row hc (fun g hg => hN _ (h.rown g hg).1), h.rown, h.fs, fun q hq => ⟨(h.rd q hq).1.chg hc (fun g hg => hN _ ((h.rd q hq).2 g hg).1), (h.rd q hq).2⟩, fun k hk => Nat.lt_of_lt_of_le (h.lt k hk) hc.size⟩
theorem RMem.mono (h : RMem w M p vl ps D) {M' : Nat → Prop} (hM : ∀ k, M k → M' k) (hlt : ∀ k, M' k → k < w.heap.size) : RMem w M' p vl ps D :=
  ⟨hM _ h.mp, h.blk, h.row, fun k hk => ⟨hM _ (h.rown k hk).1, (h.rown k hk).2⟩, h.fs, fun q hq => ⟨(h.rd q hq).1, fun k hk => ⟨hM _ ((h.rd q hq).2 k hk).1, ((h.rd q hq).2 k hk).2⟩⟩, hlt⟩
theorem RMem.below (h : RMem w M p vl ps D) (hb : Below w.heap.size w w') : RMem w' M p vl ps D := h.chg (N := fun _ => False) (Chg.of_below hb) (fun _ _ h => h)
theorem RMem.drew (h : RMem w M p vl ps D) : RMem w.drew M p vl ps D := ⟨h.mp, h.blk, h.row, h.rown, h.fs, h.rd, h.lt⟩
theorem RAt.lt (h : RAt w M p D) : ∀ k, M k → k < w.heap.size := by obtain ⟨vl, ps, h⟩ := h; exact h.lt
theorem RAt.chg (h : RAt w M p D) (hc : Chg N w w') (hN : ∀ k, M k → ¬ N k) : RAt w' M p D := by obtain ⟨vl, ps, h⟩ := h; exact ⟨vl, ps, h.chg hc hN⟩
theorem RAt.mono (h : RAt w M p D) {M' : Nat → Prop} (hM : ∀ k, M k → M' k) (hlt : ∀ k, M' k → k < w.heap.size) : RAt w M' p D := by obtain ⟨vl, ps, h⟩ := h; exact ⟨vl, ps, h.mono hM hlt⟩
theorem RAt.below (h : RAt w M p D) (hb : Below w.heap.size w w') : RAt w' M p D := by obtain ⟨vl, ps, h⟩ := h; exact ⟨vl, ps, h.below hb⟩
theorem RAt.drew (h : RAt w M p D) : RAt w.drew M p D := by obtain ⟨vl, ps, h⟩ := h; exact ⟨vl, ps, h.drew⟩
/-- Only what stands in the disk's own block turns. -/
theorem RMem.ctl (h : RMem w M p vl ps D) (hfs : D'.fs = D.fs) (hc : Chg (fun k => k = p) w w') (hb : Blk w' p 71 (rdC vl D')) : RMem w' M p vl ps D' :=
  ⟨h.mp, hb, ownsRow_chg h.row hc (fun g hg => (h.rown g hg).2), h.rown, by rw [h.fs, hfs], fun q hq => ⟨(h.rd q hq).1.chg hc (fun g hg => ((h.rd q hq).2 g hg).2.1), (h.rd q hq).2⟩, fun k hk => Nat.lt_of_lt_of_le (h.lt k hk) hc.size⟩
/-- The row, opened. -/
theorem RMem.open (h : RMem w M p vl ps D) : ∃ A c, vl = .slice A D.fs.length c ∧ (0 < ps.length → ∃ b, A = some ⟨b, 0, none⟩ ∧ M b ∧ b ≠ p ∧
    ∀ j (hj : j < ps.length), w.cell? ⟨b, j * 3, none⟩ = some (.string (strB ps[j].1.name)) ∧ w.cell? ⟨b, j * 3 + 1, none⟩ = some ps[j].2 ∧ w.cell? ⟨b, j * 3 + 2, none⟩ = some (.int .i64 (ps[j].1.safe : Int))) := by
  have hr := h.row
  have hl : ps.length = D.fs.length := by rw [← h.fs]; simp
  rcases hr.2 with ⟨e, h0⟩ | ⟨g, cap, cur, e, hb, hg, hn, hm, hs, ht⟩
  · exact ⟨none, 0, by rw [e, ← hl, h0], fun hp => by omega⟩
  · refine ⟨some ⟨g, 0, none⟩, cap, by rw [e, hl], fun hp => ⟨g, rfl, ?_, ?_, fun j hj => ?_⟩⟩
    · exact (h.rown g (by rw [e]; rfl)).1
    · exact (h.rown g (by rw [e]; rfl)).2
    · have hc : ∀ k (hk : k < 3) u (hu : (fcel ps[j])[k]? = some u), w.cell? ⟨g, j * 3 + k, none⟩ = some u := fun k hk u hu => by
        have := hr.cells (g := g) (by rw [e]; rfl) (j * 3 + k) u (by rw [fcs_get ps j hj k hk]; exact hu)
        simpa [add_lit] using this
      exact ⟨hc 0 (by omega) _ rfl, hc 1 (by omega) _ rfl, hc 2 (by omega) _ rfl⟩
end
/-- Where a file stands. -/
def PosF (fs : List FileE) (s : List UInt8) (r : Int) : Prop := (lookF fs s = none ∧ r = -1) ∨ ∃ (j : Nat) (h : j < fs.length), r = (j : Int) ∧ fs[j].name = s ∧ lookF fs s = some fs[j]
theorem lookF_at {fs : List FileE} {s : List UInt8} (j : Nat) (h : j < fs.length) (hn : ∀ f ∈ fs.take j, f.name ≠ s) (he : fs[j].name = s) : lookF fs s = some fs[j] := by
  induction fs generalizing j with
  | nil => cases h
  | cons f r ih =>
    unfold lookF
    cases j with
    | zero => rw [if_pos (by simpa using he)]; rfl
    | succ j =>
      rw [if_neg (hn f (by simp))]
      exact ih j (by simpa using h) (fun g hg => hn g (by simp [hg])) (by simpa using he)
def AtRel (w : World) (fs : List FileE) (s : List UInt8) (i : Value) (wr : World) : Prop := ∃ j : Nat, j ≤ fs.length ∧ i = .int .i64 (j : Int) ∧ (∀ f ∈ fs.take j, f.name ≠ s) ∧ wr = w
set_option maxRecDepth 100000 in
set_option maxHeartbeats 3200000 in
theorem refat_c (p : Nat) (M : Nat → Prop) (D : Dsk) (s : List UInt8) (w : World) (h : RAt w M p D) (hl : D.fs.length ≤ 1099511627776) (hs : s.length ≤ 9223372036854775807) :
    Calls Try.prog 35 #[.pointer (some ⟨p, 0, none⟩), .string (strB s)] w fun e w' => (∃ r : Int, e = .returned (.int .i64 r) ∧ PosF D.fs s r) ∧ w = w' := by
  obtain ⟨vl, ps, h⟩ := h
  have hpl : ps.length = D.fs.length := by rw [← h.fs]; simp
  obtain ⟨A, c, rfl, hA⟩ := h.open
  have c0 : _ = some _ := h.blk.cell 0
  have hfs := h.fs
  clear h
  obtain ⟨fs, room, done, off, left⟩ := D
  simp only at hl hpl hfs c0 hA ⊢
  have hge : ∀ j (hj : j < ps.length), ps[j].1 = fs[j]'(by omega) := fun j hj => by subst hfs; simp
  go_enter Try.func35, Try.ntmps35
  go_wp2_with fail
  go_loopw [5] (AtRel w fs s) (fun i _ => fs.length - (intOf i).toNat)
  case atStart => exact ⟨0, by omega, rfl, by simp, rfl⟩
  case round =>
    obtain ⟨j, hj, rfl, hE, rfl⟩ := hrel
    by_cases hlt : j < fs.length
    · have q1 : (j : Int) < (fs.length : Int) := by omega
      obtain ⟨b, rfl, hb1, hb2, hcs⟩ := hA (by omega)
      have hn0 := (hcs j (by omega)).1
      rw [hge j (by omega)] at hn0
      clear hcs hA
      by_cases hsn : fs[j].name = s
      · have hb : ((strB fs[j].name).toList == (strB s).toList) = true := by rw [strB_beq]; exact decide_eq_true hsn
        have hlk := lookF_at j hlt hE hsn
        replace hlk := Go.Lib.hid hlk
        go_wp2_with fail
        go_ret
        exact ⟨⟨_, rfl, .inr ⟨j, hlt, rfl, hsn, hlk.out⟩⟩, rfl⟩
      · have hb : ((strB fs[j].name).toList == (strB s).toList) = false := by rw [strB_beq]; exact decide_eq_false hsn
        replace hE := Go.Lib.hid hE
        go_wp2_with fail
        refine ⟨⟨j + 1, by omega, by go_num, fun f hf => ?_, rfl⟩, by simp [intOf]; omega⟩
        rw [List.take_succ_eq_append_getElem hlt] at hf
        rcases List.mem_append.1 hf with h1 | h1
        · exact hE.out f h1
        · rw [List.mem_singleton.1 h1]; exact hsn
    · have q1 : ¬ (j : Int) < (fs.length : Int) := by omega
      have hno : lookF fs s = none := lookF_none.2 (fun f hf => hE f (by rw [List.take_of_length_le (by omega)]; exact hf))
      replace hno := Go.Lib.hid hno
      clear hA
      go_wp2_with fail
      go_ret
      exact ⟨⟨_, rfl, .inl ⟨hno.out, rfl⟩⟩, rfl⟩
end Go.Proofs.Ytfnlcnjflloecaa
