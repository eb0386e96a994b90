/- A Loan and a Book, beside blocks that they leave alone. -/
import Derived.Test.YtfnlcnjflloecaaBookK
set_option linter.unusedVariables false
set_option linter.unusedSimpArgs false
namespace Go.Proofs.Ytfnlcnjflloecaa
open Go.RowKit
/-- A Loan and a Book, none of whose blocks is one of X. -/
def KeepX (w : World) (B pL pB : Nat) (X : Nat → Prop) (es : List Lent) (bs : List Kept) : Prop :=
  ∃ SL SB : Nat → Prop, LoanAt w B pL SL es ∧ BookAt w B pB SB bs ∧ (∀ k, SL k → ¬ SB k) ∧ (∀ k, SL k → ¬ X k) ∧ (∀ k, SB k → ¬ X k) ∧ (∀ k, X k → k < w.heap.size)
theorem LoanAt.lt {w : World} {B p : Nat} {S : Nat → Prop} {es : List Lent} (h : LoanAt w B p S es) : ∀ k, S k → k < w.heap.size := by
  obtain ⟨_, _, _, _, _, _, _, _, _, _, _, _, _, _, h9⟩ := h
  exact h9
theorem BookAt.lt {w : World} {B p : Nat} {S : Nat → Prop} {bs : List Kept} (h : BookAt w B p S bs) : ∀ k, S k → k < w.heap.size := by
  obtain ⟨_, _, _, _, _, _, _, _, _, _, _, _, _, _, _, _, h9⟩ := h
  exact h9
theorem KeepX.of {w : World} {B pL pB N : Nat} {X : Nat → Prop} {es : List Lent} {bs : List Kept} (h : KeepAt w B pL pB N es bs) (hX : ∀ k, X k → N ≤ k ∧ k < w.heap.size) : KeepX w B pL pB X es bs := by
  obtain ⟨SL, SB, h1, h2, h3, h4, h5⟩ := h
  exact ⟨SL, SB, h1, h2, h3, fun k hk hx => by have := h4 k hk; have := (hX k hx).1; omega, fun k hk hx => by have := h5 k hk; have := (hX k hx).1; omega, fun k hk => (hX k hk).2⟩
theorem KeepX.to {w : World} {B pL pB : Nat} {X : Nat → Prop} {es : List Lent} {bs : List Kept} (h : KeepX w B pL pB X es bs) : KeepAt w B pL pB w.heap.size es bs := by
  obtain ⟨SL, SB, h1, h2, h3, h4, h5, h6⟩ := h
  exact ⟨SL, SB, h1, h2, h3, h1.lt, h2.lt⟩
theorem KeepX.mono {w : World} {B pL pB : Nat} {X Y : Nat → Prop} {es : List Lent} {bs : List Kept} (h : KeepX w B pL pB X es bs) (hY : ∀ k, Y k → X k) : KeepX w B pL pB Y es bs := by
  obtain ⟨SL, SB, h1, h2, h3, h4, h5, h6⟩ := h
  exact ⟨SL, SB, h1, h2, h3, fun k hk hy => h4 k hk (hY k hy), fun k hk hy => h5 k hk (hY k hy), fun k hk => h6 k (hY k hk)⟩
theorem KeepX.chg {w w' : World} {B pL pB : Nat} {X M : Nat → Prop} {es : List Lent} {bs : List Kept} (h : KeepX w B pL pB X es bs) (hc : Chg M w w') (hm : ∀ k, M k → X k) : KeepX w' B pL pB X es bs := by
  obtain ⟨SL, SB, h1, h2, h3, h4, h5, h6⟩ := h
  exact ⟨SL, SB, h1.chg hc (fun k hk hk' => h4 k hk (hm k hk')), h2.chg hc (fun k hk hk' => h5 k hk (hm k hk')), h3, h4, h5, fun k hk => Nat.lt_of_lt_of_le (h6 k hk) hc.size⟩
theorem KeepX.below {w w' : World} {B pL pB : Nat} {X : Nat → Prop} {es : List Lent} {bs : List Kept} (h : KeepX w B pL pB X es bs) (hb : Below w.heap.size w w') : KeepX w' B pL pB X es bs :=
  h.chg (M := fun _ => False) (Chg.of_below hb) (fun k hk => hk.elim)
/-- What was made since is left alone too. -/
theorem KeepX.fresh {w w' : World} {B pL pB : Nat} {X : Nat → Prop} {es : List Lent} {bs : List Kept} (h : KeepX w B pL pB X es bs) (hb : Below w.heap.size w w') : KeepX w' B pL pB (fun k => X k ∨ (w.heap.size ≤ k ∧ k < w'.heap.size)) es bs := by
  obtain ⟨SL, SB, h1, h2, h3, h4, h5, h6⟩ := h
  refine ⟨SL, SB, h1.below hb, h2.below hb, h3, fun k hk hx => ?_, fun k hk hx => ?_, fun k hk => ?_⟩
  · rcases hx with hx | hx
    · exact h4 k hk hx
    · have := h1.lt k hk; omega
  · rcases hx with hx | hx
    · exact h5 k hk hx
    · have := h2.lt k hk; omega
  · rcases hk with hk | hk
    · exact Nat.lt_of_lt_of_le (h6 k hk) hb.size
    · exact hk.2
theorem KeepX.pB_lt {w : World} {B pL pB : Nat} {X : Nat → Prop} {es : List Lent} {bs : List Kept} (h : KeepX w B pL pB X es bs) : pB < w.heap.size := h.to.pB_lt
theorem keepX_loan (w : World) (B pL pB : Nat) (X : Nat → Prop) (es : List Lent) (bs : List Kept) (v : Value) (l : List UInt8) (h : KeepX w B pL pB X es bs) (hv : Rd w v l) (hl : l.length ≤ 1000000) (hn : es.length ≤ 999) :
    Calls Try.prog 10 #[.pointer (some ⟨pL, 0, none⟩), v] w fun e w' => ∃ (u : Value) (es' : List Lent), e = .returned u ∧ es'.length = es.length + 1 ∧ Rd w' u l ∧ KeepX w' B pL pB X es' bs ∧ Chg (fun k => ¬ X k) w w' ∧ Below B w w' := by
  obtain ⟨SL, SB, h1, h2, h3, h4, h5, h6⟩ := h
  refine (bytes_c w B pL SL es v l h1 hv hl hn).mono ?_
  rintro e w' ⟨x, S', rfl, hx, hL, hS, hc, hb⟩
  have hr : Rd w' x.given l := by
    obtain ⟨_, _, _, _, _, _, _, h9, _⟩ := hL
    have := (h9 x (by simp)).1.2.2.1
    rwa [hx] at this
  refine ⟨_, _, rfl, by simp, hr, ⟨S', SB, hL, h2.chg hc (fun k hk hk' => h3 k hk' hk), fun k hk hk' => ?_, fun k hk hx => ?_, h5, fun k hk => Nat.lt_of_lt_of_le (h6 k hk) hc.size⟩, hc.mono h4, hb⟩
  · rcases hS k hk with h | h
    · exact h3 k h hk'
    · have := h2.lt k hk'; omega
  · rcases hS k hk with h | h
    · exact h4 k h hx
    · have := h6 k hx; omega
theorem keepX_book (w : World) (B pL pB : Nat) (X : Nat → Prop) (es : List Lent) (bs : List Kept) (v : Value) (l : List UInt8) (h : KeepX w B pL pB X es bs) (hv : Own8 w (pB + 1) 5 v l) (hvX : ∀ g, v.ownBlock = some g → X g) (hl : l.length ≤ 10000000) (hn : bs.length ≤ 999) :
    Calls Try.prog 14 #[.pointer (some ⟨pB, 0, none⟩), v] w fun e w' => ∃ bs' : List Kept, e = .returned (.tuple #[]) ∧ bs'.length ≤ bs.length + 1 ∧ KeepX w' B pL pB (fun k => X k ∧ v.ownBlock ≠ some k) es bs' ∧ Chg (fun k => ¬ X k) w w' ∧ Below B w w' := by
  obtain ⟨SL, SB, h1, h2, h3, h4, h5, h6⟩ := h
  refine (bkbytes_c w B pB SB bs v l h2 hv (fun g hg hs => h5 g hs (hvX g hg)) hl hn).mono ?_
  rintro e w' ⟨S', bs', rfl, hB, hlen, hS, hc, hb⟩
  refine ⟨bs', rfl, hlen, ⟨SL, S', h1.chg hc h3, hB, fun k hk hk' => ?_, fun k hk hx => h4 k hk hx.1, fun k hk hx => ?_, fun k hk => Nat.lt_of_lt_of_le (h6 k hk.1) hc.size⟩, hc.mono h5, hb⟩
  · rcases hS k hk' with h | h | h
    · exact h3 k hk h
    · exact h4 k hk (hvX k h)
    · have := h1.lt k hk; omega
  · rcases hS k hk with h | h | h
    · exact h5 k h hx.1
    · exact hx.2 h
    · have := h6 k hx.1; omega
end Go.Proofs.Ytfnlcnjflloecaa
