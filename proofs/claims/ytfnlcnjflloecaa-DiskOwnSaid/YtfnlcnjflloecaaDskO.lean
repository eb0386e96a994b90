/- DiskOwn: a disk, the reference's one, a Loan and a Book in memory. -/
import Derived.Test.YtfnlcnjflloecaaBookX
import Derived.Test.YtfnlcnjflloecaaRdk7
set_option linter.unusedVariables false
set_option linter.unusedSimpArgs false
set_option linter.unnecessarySimpa false
namespace Go.Proofs.Ytfnlcnjflloecaa
open Go.RowKit
theorem LoanAt.loc {w w' : World} {B p : Nat} {S : Nat → Prop} {es : List Lent} (h : LoanAt w B p S es) (hs : w.heap.size ≤ w'.heap.size) (hk : ∀ k, S k → w'.heap[k]? = w.heap[k]?) : LoanAt w' B p S es := by
  have h2 : LoanAt { w with heap := w'.heap } B p S es := h.chg (M := fun k => ¬ S k) ⟨rfl, rfl, rfl, hs, fun k _ hm => hk k (Classical.not_not.1 hm)⟩ (fun k hk hn => hn hk)
  exact h2
theorem Rd.loc {w w' : World} {v : Value} {l : List UInt8} {S : Nat → Prop} (h : Rd w v l) (hs : w.heap.size ≤ w'.heap.size) (hS : ∀ g, v.ownBlock = some g → S g) (hk : ∀ k, S k → w'.heap[k]? = w.heap[k]?) : Rd w' v l := by
  have h2 : Rd { w with heap := w'.heap } v l := h.chg (M := fun k => ¬ S k) ⟨rfl, rfl, rfl, hs, fun k _ hm => hk k (Classical.not_not.1 hm)⟩ (fun g hg hn => hn (hS g hg))
  exact h2
def loanS (B p : Nat) (es : List Lent) : (Nat → Prop) → World → Prop := fun B' w => ∃ S, LoanAt w B p S es ∧ ∀ k, S k → B' k
def lentS (B p n : Nat) (l : List UInt8) : GSpec := fun u B' w => ∃ (S : Nat → Prop) (es' : List Lent), es'.length = n ∧ LoanAt w B p S es' ∧ (∀ k, S k → B' k) ∧ Rd w u l ∧ ∀ g, u.ownBlock = some g → S g
theorem loanS_loc (M0 : Nat → Prop) (w0 : World) (B p : Nat) (es : List Lent) : O.Loc M0 w0 (loanS B p es) := by
  intro B' w w' ⟨S, h1, h2⟩ hs hk
  exact ⟨S, h1.loc hs (fun k hS => hk k (h1.lt k hS) (.inr (h2 k hS))), h2⟩
theorem lentS_loc (M0 : Nat → Prop) (w0 : World) (B p n : Nat) (l : List UInt8) (u : Value) : O.Loc M0 w0 (lentS B p n l u) := by
  intro B' w w' ⟨S, es', h0, h1, h2, h3, h4⟩ hs hk
  have hkS : ∀ k, S k → w'.heap[k]? = w.heap[k]? := fun k hS => hk k (h1.lt k hS) (.inr (h2 k hS))
  exact ⟨S, es', h0, h1.loc hs hkS, h2, h3.loc hs h4 hkS, h4⟩
theorem lend_c (w : World) (B p : Nat) (es : List Lent) (v : Value) (l : List UInt8) (B' : Nat → Prop) (h : loanS B p es B' w) (hv : Rd w v l) (hl : l.length ≤ 1000000) (hn : es.length ≤ 999) :
    Calls Try.prog 10 #[.pointer (some ⟨p, 0, none⟩), v] w fun e w' => ∃ u, e = .returned u ∧ Chg B' w w' ∧ lentS B p (es.length + 1) l u (fun k => B' k ∨ (w.heap.size ≤ k ∧ k < w'.heap.size)) w' := by
  obtain ⟨S, h1, h2⟩ := h
  refine (bytes_c w B p S es v l h1 hv hl hn).mono ?_
  rintro e w' ⟨x, S', rfl, hx, hL, hS, hc, hb⟩
  have hL' := hL
  obtain ⟨_, _, _, _, _, _, _, h9, _, _, _, _, _, h10, _⟩ := hL
  have hr := (h9 x (by simp)).1
  refine ⟨_, rfl, hc.mono h2, S', es ++ [x], by simp, hL', fun k hk => ?_, by rw [← hx]; exact hr.2.2.1, fun g hg => ?_⟩
  · rcases hS k hk with h | h
    · exact .inl (h2 k h)
    · exact .inr ⟨h, hL'.lt k hk⟩
  · exact (h10 x (by simp)).1 g (by rw [← hr.2.2.2.1]; exact hg)
theorem KeepX.new {w : World} {B pL pB : Nat} {X : Nat → Prop} (hL : Blk w pL 34 [.slice none 0 0, .slice none 0 0]) (hB : Blk w pB 37 [.slice none 0 0, .slice none 0 0, .slice none 0 0, .slice none 0 0, .int .i64 0])
    (h1 : B ≤ pL) (h2 : B ≤ pB) (hne : pL ≠ pB) (hX : ∀ k, X k → k < w.heap.size ∧ k ≠ pL ∧ k ≠ pB) : KeepX w B pL pB X [] [] := by
  have l1 := hL.lt
  have l2 := hB.lt
  refine ⟨fun k => k = pL, fun k => k = pB, ⟨_, _, h1, hL, World.ownsRow_nil _ _ _ _, World.ownsRow_nil _ _ _ _, fun g hg => (by cases hg), fun e he => (by simp at he), List.Pairwise.nil, fun a ha => (by simp at ha), rfl, fun g hg => (by cases hg), fun g hg => (by cases hg), fun e he => (by simp at he), fun k hk => by subst hk; exact l1⟩,
    ⟨_, _, 0, fun _ => 0, h2, by omega, hB, World.ownsRow_nil _ _ _ _, World.ownsRow_nil _ _ _ _, fun g hg => (by cases hg), fun g hg => (by cases hg), fun i e he => (by simp at he), rfl, fun g hg => (by cases hg), fun g hg => (by cases hg), fun e he => (by simp at he), fun k hk => by subst hk; exact l2⟩,
    fun k h h' => hne (h.symm.trans h'), fun k hk hx => (hX k hx).2.1 hk, fun k hk hx => (hX k hx).2.2 hk, fun k hk => (hX k hk).1⟩
/-- Both disks, the Loan and the Book; w is where the law began. -/
structure OwnM (w wr : World) (p q pL pB : Nat) (M R : Nat → Prop) (D : Dsk) (es : List Lent) (bs : List Kept) : Prop where
  dsk : DiskAt wr M p D
  ref : RAt wr R q D
  apart : ∀ k, M k → ¬ R k
  lowM : ∀ k, M k → w.heap.size ≤ k
  lowR : ∀ k, R k → w.heap.size ≤ k
  keep : KeepX wr w.heap.size pL pB (fun k => k < w.heap.size ∨ M k ∨ R k) es bs
  bel : Below w.heap.size w wr
section
variable {w wr w' : World} {p q pL pB : Nat} {M R : Nat → Prop} {D D' : Dsk} {es : List Lent} {bs : List Kept}
theorem OwnM.below (h : OwnM w wr p q pL pB M R D es bs) (hb : Below wr.heap.size wr w') : OwnM w w' p q pL pB M R D es bs :=
  ⟨h.dsk.below hb, h.ref.below hb, h.apart, h.lowM, h.lowR, h.keep.below hb, below_below h.bel hb⟩
/-- The program's disk has taken a step; the reference's one lags behind. -/
structure OwnH (w wr : World) (p q pL pB : Nat) (M R : Nat → Prop) (D D' : Dsk) (es : List Lent) (bs : List Kept) : Prop where
  dsk : DiskAt wr M p D'
  ref : RAt wr R q D
  apart : ∀ k, M k → ¬ R k
  lowM : ∀ k, M k → w.heap.size ≤ k
  lowR : ∀ k, R k → w.heap.size ≤ k
  keep : KeepX wr w.heap.size pL pB (fun k => k < w.heap.size ∨ M k ∨ R k) es bs
  bel : Below w.heap.size w wr
theorem OwnH.below (h : OwnH w wr p q pL pB M R D D' es bs) (hb : Below wr.heap.size wr w') : OwnH w w' p q pL pB M R D D' es bs :=
  ⟨h.dsk.below hb, h.ref.below hb, h.apart, h.lowM, h.lowR, h.keep.below hb, below_below h.bel hb⟩
theorem keep_grow {X M : Nat → Prop} {B : Nat} (h : KeepX wr B pL pB X es bs) (hc : Chg M wr w') (hm : ∀ k, M k → X k) : KeepX w' B pL pB (fun k => X k ∨ (wr.heap.size ≤ k ∧ k < w'.heap.size)) es bs := by
  have h' := h
  obtain ⟨SL, SB, h1, h2, h3, h4, h5, h6⟩ := h
  refine ⟨SL, SB, h1.chg hc (fun k hk hk' => h4 k hk (hm k hk')), h2.chg hc (fun k hk hk' => h5 k hk (hm k hk')), h3, fun k hk hx => ?_, fun k hk hx => ?_, fun k hk => ?_⟩
  · rcases hx with hx | hx
    · exact h4 k hk hx
    · have := h1.lt k hk; omega
  · rcases hx with hx | hx
    · exact h5 k hk hx
    · have := h2.lt k hk; omega
  · rcases hk with hk | hk
    · exact Nat.lt_of_lt_of_le (h6 k hk) hc.size
    · exact hk.2
theorem OwnM.stepD (h : OwnM w wr p q pL pB M R D es bs) (hd : DiskAt w' (growM M wr w') p D') (hc : Chg M wr w') : OwnH w w' p q pL pB (growM M wr w') R D D' es bs := by
  have hl := h.bel.size
  refine ⟨hd, h.ref.chg hc (fun k hr hm => h.apart k hm hr), fun k hk hr => ?_, fun k hk => ?_, h.lowR, (keep_grow h.keep hc (fun k hk => .inr (.inl hk))).mono (fun k hk => ?_), h.bel.trans (hc.below h.bel.size h.lowM)⟩
  · rcases hk with hk | hk
    · exact h.apart k hk hr
    · have := h.ref.lt k hr; omega
  · rcases hk with hk | hk
    · exact h.lowM k hk
    · omega
  · rcases hk with hk | (hk | hk) | hk
    · exact .inl (.inl hk)
    · exact .inl (.inr (.inl hk))
    · exact .inr hk
    · exact .inl (.inr (.inr hk))
theorem OwnH.stepR (h : OwnH w wr p q pL pB M R D D' es bs) (hd : RAt w' (growM R wr w') q D') (hc : Chg R wr w') : OwnM w w' p q pL pB M (growM R wr w') D' es bs := by
  have hl := h.bel.size
  refine ⟨h.dsk.chg hc (fun k hm hr => h.apart k hm hr), hd, fun k hk hr => ?_, h.lowM, fun k hk => ?_, (keep_grow h.keep hc (fun k hk => .inr (.inr hk))).mono (fun k hk => ?_), h.bel.trans (hc.below h.bel.size h.lowR)⟩
  · rcases hr with hr | hr
    · exact h.apart k hk hr
    · have := h.dsk.lt k hk; omega
  · rcases hk with hk | hk
    · exact h.lowR k hk
    · omega
  · rcases hk with hk | hk | (hk | hk)
    · exact .inl (.inl hk)
    · exact .inl (.inr (.inl hk))
    · exact .inl (.inr (.inr hk))
    · exact .inr hk
/-- The Loan's part, as a region takes it. -/
theorem OwnM.loan (h : OwnM w wr p q pL pB M R D es bs) : ∃ S : Nat → Prop, loanS w.heap.size pL es S wr ∧ (∀ k, S k → k < wr.heap.size) ∧ (∀ k, S k → w.heap.size ≤ k ∧ ¬ M k ∧ ¬ R k) := by
  obtain ⟨SL, SB, h1, h2, h3, h4, h5, h6⟩ := h.keep
  exact ⟨SL, ⟨SL, h1, fun _ h => h⟩, h1.lt, fun k hk => ⟨Nat.le_of_not_lt (fun hlt => h4 k hk (.inl hlt)), fun hm => h4 k hk (.inr (.inl hm)), fun hr => h4 k hk (.inr (.inr hr))⟩⟩
/-- .. with the very S of the pair. -/
theorem OwnM.lend (h : OwnM w wr p q pL pB M R D es bs) : ∃ S : Nat → Prop, loanS w.heap.size pL es S wr ∧ (∀ k, S k → k < wr.heap.size) ∧ (∀ k, S k → w.heap.size ≤ k ∧ ¬ M k ∧ ¬ R k) ∧
    ∀ (w' : World) (l : List UInt8) (u : Value) (B' : Nat → Prop), Chg S wr w' → (∀ k, B' k → S k ∨ (wr.heap.size ≤ k ∧ k < w'.heap.size)) → lentS w.heap.size pL (es.length + 1) l u B' w' →
      ∃ es', es'.length = es.length + 1 ∧ OwnM w w' p q pL pB M R D es' bs ∧ Rd w' u l ∧ (∀ g, u.ownBlock = some g → ¬ M g ∧ ¬ R g ∧ g < w'.heap.size) := by
  have hM := h.dsk.lt
  have hR := h.ref.lt
  have hl := h.bel.size
  have hk := h.keep
  obtain ⟨SL, SB, h1, h2, h3, h4, h5, h6⟩ := hk
  have hS : ∀ k, SL k → w.heap.size ≤ k ∧ ¬ M k ∧ ¬ R k := fun k hk => ⟨Nat.le_of_not_lt (fun hlt => h4 k hk (.inl hlt)), fun hm => h4 k hk (.inr (.inl hm)), fun hr => h4 k hk (.inr (.inr hr))⟩
  refine ⟨SL, ⟨SL, h1, fun _ h => h⟩, h1.lt, hS, fun w' l u B' hc hB' hlt => ?_⟩
  obtain ⟨S', es', e1, e2, e3, e4, e5⟩ := hlt
  have hS' : ∀ k, S' k → w.heap.size ≤ k ∧ ¬ M k ∧ ¬ R k := fun k hk => by
    rcases hB' k (e3 k hk) with h | h
    · exact hS k h
    · exact ⟨by omega, fun hm => by have := hM k hm; omega, fun hr => by have := hR k hr; omega⟩
  refine ⟨es', e1, ⟨h.dsk.chg hc (fun k hm hs => (hS k hs).2.1 hm), h.ref.chg hc (fun k hr hs => (hS k hs).2.2 hr), h.apart, h.lowM, h.lowR, ⟨S', SB, e2, h2.chg hc (fun k hk hk' => h3 k hk' hk), fun k hk hk' => ?_, fun k hk hx => ?_, h5, fun k hk => ?_⟩, h.bel.trans (hc.below h.bel.size (fun k hk => (hS k hk).1))⟩, e4, fun g hg => ⟨(hS' g (e5 g hg)).2.1, (hS' g (e5 g hg)).2.2, e2.lt g (e5 g hg)⟩⟩
  · rcases hB' k (e3 k hk) with h | h
    · exact h3 k h hk'
    · have := h2.lt k hk'; omega
  · have := hS' k hk
    rcases hx with hx | hx | hx
    · omega
    · exact this.2.1 hx
    · exact this.2.2 hx
  · exact Nat.lt_of_lt_of_le (h6 k hk) hc.size
/-- A list that was just told is taken into the Book. -/
theorem OwnM.book (h : OwnM w wr p q pL pB M R D es bs) {wx : World} (hb : Below wr.heap.size wr wx) {v : Value} {l : List UInt8} (hv : Own8 wx wr.heap.size 5 v l) (hl : l.length ≤ 10000000) (hn : bs.length ≤ 999) :
    Calls Try.prog 14 #[.pointer (some ⟨pB, 0, none⟩), v] wx fun e w' => ∃ bs' : List Kept, e = .returned (.tuple #[]) ∧ bs'.length ≤ bs.length + 1 ∧ OwnM w w' p q pL pB M R D es bs' := by
  have hK := h.keep.fresh hb
  have hp := h.keep.pB_lt
  refine (keepX_book wx _ _ _ _ es bs v l hK (hv.mono (by omega)) (fun g hg => .inr ⟨hv.base_le g hg, hv.lt g hg⟩) hl hn).mono ?_
  rintro e w' ⟨bs', rfl, hlen, hk, hc, hbb⟩
  have h2 := h.below hb
  have hM := h.dsk.lt
  have hR := h.ref.lt
  refine ⟨bs', rfl, hlen, h2.dsk.chg hc (fun k hk hn => hn (.inl (.inr (.inl hk)))), h2.ref.chg hc (fun k hk hn => hn (.inl (.inr (.inr hk)))), h.apart, h.lowM, h.lowR, hk.mono (fun k hx => ⟨.inl hx, fun e => ?_⟩), h2.bel.trans hbb⟩
  have h9 := hv.base_le k e
  have hz := h.bel.size
  rcases hx with hx | hx | hx
  · omega
  · have := hM k hx; omega
  · have := hR k hx; omega
/-- Both are closed. -/
theorem OwnM.back (h : OwnM w wr p q pL pB M R D es bs) (hn : es.length ≤ 1000) :
    Calls Try.prog 15 #[.pointer (some ⟨pL, 0, none⟩)] wr fun e w' => e = .returned (.bool true) ∧ DiskAt w' M p D ∧ RAt w' R q D ∧ Below w.heap.size w w' ∧ ∃ SB, BookAt w' w.heap.size pB SB bs ∧ ∀ k, SB k → w.heap.size ≤ k ∧ ¬ M k ∧ ¬ R k := by
  obtain ⟨SL, SB, h1, h2, h3, h4, h5, h6⟩ := h.keep
  refine (back_c wr _ pL SL es h1 hn).mono ?_
  rintro e w' ⟨rfl, hc, hb⟩
  exact ⟨rfl, h.dsk.chg hc (fun k hk hs => h4 k hs (.inr (.inl hk))), h.ref.chg hc (fun k hk hs => h4 k hs (.inr (.inr hk))), h.bel.trans hb, SB, h2.chg hc (fun k hk hk' => h3 k hk' hk), fun k hk => ⟨Nat.le_of_not_lt (fun hlt => h5 k hk (.inl hlt)), fun hm => h5 k hk (.inr (.inl hm)), fun hr => h5 k hk (.inr (.inr hr))⟩⟩
end
end Go.Proofs.Ytfnlcnjflloecaa
