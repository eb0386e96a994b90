/- A Loan and a Book beside each other. -/
import Derived.Test.YtfnlcnjflloecaaBook5
set_option linter.unusedVariables false
set_option linter.unusedSimpArgs false
namespace Go.Proofs.Ytfnlcnjflloecaa
open Go.RowKit
set_option maxRecDepth 100000 in
set_option maxHeartbeats 800000 in
theorem bkclose_c (w : World) (B p : Nat) (S : Nat → Prop) (bs : List Kept) (h : BookAt w B p S bs) (hn : bs.length ≤ 1000) :
    Calls Try.prog 16 #[.pointer (some ⟨p, 0, none⟩)] w fun e w' => e = .returned (.bool true) ∧ Below B w w' := by
  have hB : B ≤ w.heap.size := by
    obtain ⟨vB, vW, N, tg, h0, h1, h2, _⟩ := h
    have := h2.lt; omega
  have ST := stands_c w B p S bs h hn
  have CL := fun w1 (hb : Below w.heap.size w w1) => close_c w1 B p S bs (h.below hb) hn
  go_enter Try.func16, Try.ntmps16
  have tok0 : True := trivial
  go_wp2_with (first
    | (have _t := tok0; go_at_call 41; refine ST.mono ?_; rintro e w1 ⟨rfl, hb1⟩; clear tok0; have tok1 : True := trivial)
    | (have _t := tok1; go_at_call 42; refine (CL _ hb1).mono ?_; rintro e w2 ⟨rfl, hb2⟩; clear tok1; have tok2 : True := trivial))
  go_ret
  exact ⟨rfl, (hb1.mono hB).trans hb2⟩
/-- Both, none of whose blocks reach N. -/
def KeepAt (w : World) (B pL pB N : Nat) (es : List Lent) (bs : List Kept) : Prop :=
  ∃ SL SB : Nat → Prop, LoanAt w B pL SL es ∧ BookAt w B pB SB bs ∧ (∀ k, SL k → ¬ SB k) ∧ (∀ k, SL k → k < N) ∧ (∀ k, SB k → k < N)
theorem KeepAt.below {w w' : World} {B pL pB N : Nat} {es : List Lent} {bs : List Kept} (h : KeepAt w B pL pB N es bs) (hb : Below w.heap.size w w') : KeepAt w' B pL pB N es bs := by
  obtain ⟨SL, SB, h1, h2, h3⟩ := h
  exact ⟨SL, SB, h1.below hb, h2.below hb, h3⟩
theorem KeepAt.pB_lt {w : World} {B pL pB N : Nat} {es : List Lent} {bs : List Kept} (h : KeepAt w B pL pB N es bs) : pB < N := by
  obtain ⟨SL, SB, h1, ⟨_, _, _, _, _, _, _, _, _, _, _, _, hS, _⟩, _, _, h5⟩ := h
  exact h5 pB hS
theorem KeepAt.rd {w : World} {B pL pB N : Nat} {es : List Lent} {bs : List Kept} (h : KeepAt w B pL pB N es bs) (e : Lent) (he : e ∈ es) : Rd w e.given e.l := by
  obtain ⟨SL, SB, ⟨vF, vW, _, _, _, _, _, h5, _⟩, _⟩ := h
  exact (h5 e he).1.2.2.1
theorem KeepAt.new {w : World} {B pL pB : Nat} (hL : Blk w pL 34 [.slice none 0 0, .slice none 0 0]) (hB : Blk w pB 37 [.slice none 0 0, .slice none 0 0, .slice none 0 0, .slice none 0 0, .int .i64 0])
    (h1 : B ≤ pL) (h2 : B ≤ pB) (hne : pL ≠ pB) : KeepAt w B pL pB w.heap.size [] [] := by
  have l1 := hL.lt
  have l2 := hB.lt
  refine ⟨fun k => k = pL, fun k => k = pB, ⟨_, _, h1, hL, World.ownsRow_nil _ _ _ _, World.ownsRow_nil _ _ _ _, fun g hg => (by cases hg), fun e he => (by simp at he), List.Pairwise.nil, fun a ha => (by simp at ha), rfl, fun g hg => (by cases hg), fun g hg => (by cases hg), fun e he => (by simp at he), fun k hk => by subst hk; exact l1⟩,
    ⟨_, _, 0, fun _ => 0, h2, by omega, hB, World.ownsRow_nil _ _ _ _, World.ownsRow_nil _ _ _ _, fun g hg => (by cases hg), fun g hg => (by cases hg), fun i e he => (by simp at he), rfl, fun g hg => (by cases hg), fun g hg => (by cases hg), fun e he => (by simp at he), fun k hk => by subst hk; exact l2⟩,
    fun k h h' => hne (h.symm.trans h'), fun k hk => by subst hk; exact l1, fun k hk => by subst hk; exact l2⟩
theorem keep_loan (w : World) (B pL pB N : Nat) (es : List Lent) (bs : List Kept) (v : Value) (l : List UInt8) (h : KeepAt w B pL pB N es bs) (hv : Rd w v l) (hl : l.length ≤ 1000000) (hn : es.length ≤ 999) :
    Calls Try.prog 10 #[.pointer (some ⟨pL, 0, none⟩), v] w fun e w' => ∃ x : Lent, e = .returned x.given ∧ x.l = l ∧ Rd w' x.given l ∧ KeepAt w' B pL pB w'.heap.size (es ++ [x]) bs ∧ Below B w w' := by
  obtain ⟨SL, SB, h1, h2, h3, h4, h5⟩ := h
  refine (bytes_c w B pL SL es v l h1 hv hl hn).mono ?_
  rintro e w' ⟨x, S', rfl, hx, hL, hS, hc, hb⟩
  have hB' := h2.chg hc (fun k hk hk' => h3 k hk' hk)
  have hlt : ∀ k, SB k → k < w.heap.size := by
    obtain ⟨_, _, _, _, _, _, _, _, _, _, _, _, _, _, _, _, h9⟩ := h2
    exact h9
  have hlt' : ∀ k, S' k → k < w'.heap.size := by
    obtain ⟨_, _, _, _, _, _, _, _, _, _, _, _, _, _, h9⟩ := hL
    exact h9
  have hr : Rd w' x.given l := by
    obtain ⟨_, _, _, _, _, _, _, h9, _⟩ := hL
    have := (h9 x (by simp)).1.2.2.1
    rwa [hx] at this
  refine ⟨x, rfl, hx, hr, ⟨S', SB, hL, hB', fun k hk hk' => ?_, hlt', fun k hk => Nat.lt_of_lt_of_le (hlt k hk) hc.size⟩, hb⟩
  rcases hS k hk with h | h
  · exact h3 k h hk'
  · have := hlt k hk'; omega
theorem keep_book (w : World) (B pL pB N : Nat) (es : List Lent) (bs : List Kept) (v : Value) (l : List UInt8) (h : KeepAt w B pL pB N es bs) (hv : Own8 w N 5 v l) (hl : l.length ≤ 10000000) (hn : bs.length ≤ 999) :
    Calls Try.prog 14 #[.pointer (some ⟨pB, 0, none⟩), v] w fun e w' => ∃ bs' : List Kept, e = .returned (.tuple #[]) ∧ bs'.length ≤ bs.length + 1 ∧ KeepAt w' B pL pB w'.heap.size es bs' ∧ Below B w w' := by
  have hN := h.pB_lt
  obtain ⟨SL, SB, h1, h2, h3, h4, h5⟩ := h
  refine (bkbytes_c w B pB SB bs v l h2 (hv.mono hN) (fun g hg hs => by have := hv.base_le g hg; have := h5 g hs; omega) hl hn).mono ?_
  rintro e w' ⟨S', bs', rfl, hB, hlen, hS, hc, hb⟩
  have hL' := h1.chg hc h3
  have hlt : ∀ k, SL k → k < w.heap.size := by
    obtain ⟨_, _, _, _, _, _, _, _, _, _, _, _, _, _, h9⟩ := h1
    exact h9
  have hlt' : ∀ k, S' k → k < w'.heap.size := by
    obtain ⟨_, _, _, _, _, _, _, _, _, _, _, _, _, _, _, _, h9⟩ := hB
    exact h9
  refine ⟨bs', rfl, hlen, ⟨SL, S', hL', hB, fun k hk hk' => ?_, fun k hk => Nat.lt_of_lt_of_le (hlt k hk) hc.size, hlt'⟩, hb⟩
  rcases hS k hk' with h | h | h
  · exact h3 k hk h
  · have := hv.base_le k h; have := h4 k hk; omega
  · have := hlt k hk; omega
theorem keep_back (w : World) (B pL pB N : Nat) (es : List Lent) (bs : List Kept) (h : KeepAt w B pL pB N es bs) (hn : es.length ≤ 1000) :
    Calls Try.prog 15 #[.pointer (some ⟨pL, 0, none⟩)] w fun e w' => e = .returned (.bool true) ∧ (∃ SB, BookAt w' B pB SB bs) ∧ Below B w w' := by
  obtain ⟨SL, SB, h1, h2, h3, h4, h5⟩ := h
  refine (back_c w B pL SL es h1 hn).mono ?_
  rintro e w' ⟨rfl, hc, hb⟩
  exact ⟨rfl, ⟨SB, h2.chg hc (fun k hk hk' => h3 k hk' hk)⟩, hb⟩
end Go.Proofs.Ytfnlcnjflloecaa
