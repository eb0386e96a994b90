/- A law's own disk beside other blocks of the law's own. -/
import Derived.Test.YtfnlcnjflloecaaDskD
set_option linter.unusedVariables false
set_option linter.unusedSimpArgs false
set_option linter.unnecessarySimpa false
namespace Go.Proofs.Ytfnlcnjflloecaa
open Go.RowKit
/-- A disk that was made behind w, in wr; the blocks X are none of its. -/
def DX (w : World) (p : Nat) (D : Dsk) (X : Nat → Prop) (wr : World) : Prop := ∃ M, DiskAt wr M p D ∧ (∀ k, M k → w.heap.size ≤ k ∧ ¬ X k) ∧ (∀ k, X k → k < wr.heap.size) ∧ Below w.heap.size w wr
section
variable {w wr wx w' : World} {p : Nat} {D : Dsk} {X : Nat → Prop}
theorem DX.of (h : DS w p D wr) : DX w p D (fun _ => False) wr := by
  obtain ⟨M, h1, h2, h3⟩ := h
  exact ⟨M, h1, fun k hk => ⟨h2 k hk, fun h => h⟩, fun k hk => hk.elim, h3⟩
theorem DX.bel (h : DX w p D X wr) : Below w.heap.size w wr := by obtain ⟨M, h1, h2, h3, h4⟩ := h; exact h4
theorem DX.ds (h : DX w p D X wr) : DS w p D wr := by
  obtain ⟨M, h1, h2, h3, h4⟩ := h
  exact ⟨M, h1, fun k hk => (h2 k hk).1, h4⟩
theorem DX.add (h : DX w p D X wr) (hb : Below wr.heap.size wr w') {X' : Nat → Prop} (hX : ∀ k, X' k → X k ∨ (wr.heap.size ≤ k ∧ k < w'.heap.size)) : DX w p D X' w' := by
  obtain ⟨M, h1, h2, h3, h4⟩ := h
  refine ⟨M, h1.below hb, fun k hk => ⟨(h2 k hk).1, fun hx => ?_⟩, fun k hk => ?_, below_below h4 hb⟩
  · have := h1.lt k hk
    rcases hX k hx with h | h
    · exact (h2 k hk).2 h
    · omega
  · rcases hX k hk with h | h
    · have := h3 k h; have := hb.size; omega
    · exact h.2
theorem DX.below (h : DX w p D X wr) (hb : Below wr.heap.size wr w') : DX w p D X w' := h.add hb (fun k hk => .inl hk)
/-- Other blocks that the law itself turns. -/
theorem DX.turn (h : DX w p D X wr) {N : Nat → Prop} (hc : Chg N wr w') (hN : ∀ k, N k → X k) (hlow : ∀ k, N k → w.heap.size ≤ k) {X' : Nat → Prop} (hX : ∀ k, X' k → X k ∨ (wr.heap.size ≤ k ∧ k < w'.heap.size)) : DX w p D X' w' := by
  obtain ⟨M, h1, h2, h3, h4⟩ := h
  refine ⟨M, h1.chg hc (fun k hk hn => (h2 k hk).2 (hN k hn)), fun k hk => ⟨(h2 k hk).1, fun hx => ?_⟩, fun k hk => ?_, h4.trans (hc.below h4.size hlow)⟩
  · have := h1.lt k hk
    rcases hX k hx with h | h
    · exact (h2 k hk).2 h
    · omega
  · rcases hX k hk with h | h
    · have := h3 k h; have := hc.size; omega
    · exact h.2
theorem DX.gives {M : Nat → Prop} {R : Int × Dsk} {e : Ending} (h2 : ∀ k, M k → w.heap.size ≤ k ∧ ¬ X k) (h3 : ∀ k, X k → k < wr.heap.size) (h4 : Below w.heap.size w wr) (h : DkGives wr M p R e w') : e = .returned (.int .i64 R.1) ∧ DX w p R.2 X w' ∧ Chg (fun k => ¬ X k) wr w' := by
  obtain ⟨h5, h6, h7⟩ := h
  refine ⟨h5, ⟨_, h6, fun k hk => ?_, fun k hk => by have := h3 k hk; have := h7.size; omega, h4.trans (h7.below h4.size (fun k hk => (h2 k hk).1))⟩, h7.mono (fun k hk => (h2 k hk).2)⟩
  rcases hk with hk | hk
  · exact h2 k hk
  · exact ⟨by have := h4.size; omega, fun hx => by have := h3 k hx; omega⟩
theorem append_dx (h : DX w p D X wr) (ok : DskOk D) (hd : D.done ≤ 4611686018427387904) (s b : List UInt8) (hs : s.length ≤ 9223372036854775807) (hb : Below wr.heap.size wr wx) {v : Value} (hv : Rd wx v b) (hvl : ∀ g, v.ownBlock = some g → wr.heap.size ≤ g ∧ g < wx.heap.size) :
    Calls Try.prog 9 #[.pointer (some ⟨p, 0, none⟩), .string (strB s), v] wx fun e w' => e = .returned (.int .i64 (appendD D s b).1) ∧ DX w p (appendD D s b).2 X w' ∧ Chg (fun k => ¬ X k) wx w' := by
  obtain ⟨M, h1, h2, h3, h4⟩ := h
  have hl := h1.lt
  exact (append_c p M D s b v wx (h1.below hb) ok hd hs hv (fun g hg hm => by have := hvl g hg; have := hl g hm; omega) (fun g hg => (hvl g hg).2)).mono fun e w' hh => DX.gives h2 (fun k hk => by have := h3 k hk; have := hb.size; omega) (below_below h4 hb) hh
theorem sync_dx (h : DX w p D X wr) (ok : DskOk D) (hd : D.done ≤ 4611686018427387904) (s : List UInt8) (hs : s.length ≤ 9223372036854775807) :
    Calls Try.prog 21 #[.pointer (some ⟨p, 0, none⟩), .string (strB s)] wr fun e w' => e = .returned (.int .i64 (syncD D s).1) ∧ DX w p (syncD D s).2 X w' ∧ Chg (fun k => ¬ X k) wr w' := by
  obtain ⟨M, h1, h2, h3, h4⟩ := h
  exact (sync_c p M D s wr h1 ok hd hs).mono fun e w' hh => DX.gives h2 h3 h4 hh
theorem fuse_dx (h : DX w p D X wr) (n : Int) :
    Calls Try.prog 22 #[.pointer (some ⟨p, 0, none⟩), .int .i64 n] wr fun e w' => e = .returned (.int .i64 (fuseD D n).1) ∧ DX w p (fuseD D n).2 X w' ∧ Chg (fun k => ¬ X k) wr w' := by
  obtain ⟨M, h1, h2, h3, h4⟩ := h
  exact (fuse_c p M D n wr h1).mono fun e w' hh => DX.gives h2 h3 h4 hh
theorem restart_dx (h : DX w p D X wr) (ok : DskOk D) (hn : ∀ f ∈ D.fs, f.name.length ≤ 64) (hl : D.fs.length ≤ 1099511627776) (keep : List Int) (hb : Below wr.heap.size wr wx) {v : Value} (hv : RdI wx v keep) (hvl : ∀ g, v.ownBlock = some g → wr.heap.size ≤ g) :
    Calls Try.prog 23 #[.pointer (some ⟨p, 0, none⟩), v] wx fun e w' => e = .returned (.tuple #[]) ∧ DX w p (restartD D keep) X w' ∧ Chg (fun k => ¬ X k) wx w' := by
  obtain ⟨M, h1, h2, h3, h4⟩ := h
  have hll := h1.lt
  refine (restart_c p M D keep v wx (h1.below hb) ok hn hl hv (fun g hg hm => by have := hvl g hg; have := hll g hm; omega)).mono ?_
  rintro e w' ⟨rfl, h5, h6⟩
  have h7 := DX.gives (R := (0, restartD D keep)) (e := .returned (.int .i64 0)) h2 (fun k hk => by have := h3 k hk; have := hb.size; omega) (below_below h4 hb) ⟨rfl, h5, h6⟩
  exact ⟨rfl, h7.2⟩
end
theorem chgX_rd {w w' : World} {X : Nat → Prop} {v : Value} {l : List UInt8} (h : Rd w v l) (hc : Chg (fun k => ¬ X k) w w') (hX : ∀ g, v.ownBlock = some g → X g) : Rd w' v l := h.chg hc (fun g hg hn => hn (hX g hg))
theorem chgX_own {w w' : World} {X : Nat → Prop} {base : Nat} {v : Value} {l : List UInt8} (h : Own8 w base 5 v l) (hc : Chg (fun k => ¬ X k) w w') (hX : ∀ g, v.ownBlock = some g → X g) : Own8 w' base 5 v l := h.chg hc (fun g hg hn => hn (hX g hg))
end Go.Proofs.Ytfnlcnjflloecaa
