/- A Loan and a Book in a region that draws its order. -/
import Derived.Test.YtpjpmgpehpigaabDoorBookK
set_option linter.unusedVariables false
set_option linter.unusedSimpArgs false
namespace Go.Proofs.YtpjpmgpehpigaabDoor
open Go.RowKit
theorem Rd.loc {w w' : World} {v : Value} {l : List UInt8} (h : Rd w v l) (hk : ∀ k, v.ownBlock = some k → k < w.heap.size → w'.heap[k]? = w.heap[k]?) : Rd w' v l := by
  obtain ⟨A, c, rfl, h1, h2, h3⟩ := h.open
  refine Rd.mk rfl h1 h2 fun hn => ?_
  obtain ⟨b, off, rfl, hcell⟩ := h3 hn
  refine ⟨b, off, rfl, fun j hj => ?_⟩
  have h4 := hcell j hj
  have hlt := World.block_lt_of_cell? w _ h4
  have hb := hk b rfl hlt
  rw [← h4]
  unfold World.cell?
  simp only [hb]
theorem Blk.loc {w w' : World} {p : Nat} {T : TypeId} {cs : List Value} (h : Blk w p T cs) (hk : w'.heap[p]? = w.heap[p]?) : Blk w' p T cs := by
  unfold Blk at h ⊢; rw [hk]; exact h
theorem LoanAt.loc {w w' : World} {B p : Nat} {S : Nat → Prop} {es : List Lent} (h : LoanAt w B p S es) (hs : w.heap.size ≤ w'.heap.size) (hk : ∀ k, S k → k < w.heap.size → w'.heap[k]? = w.heap[k]?) : LoanAt w' B p S es := by
  obtain ⟨vF, vW, h0, h1, h2, h3, h4, h5, h6, h7, h8⟩ := h
  refine ⟨vF, vW, h0, h1.loc (hk p h8.1 h1.lt), ownV_loc h2 (fun k hv => hk k (h8.2.1 k hv) (h2.lt k hv)), ownV_loc h3 (fun k hv => hk k (h8.2.2.1 k hv) (h3.lt k hv)), h4, fun e he => ⟨?_, (h5 e he).2⟩, h6, h7, h8.1, h8.2.1, h8.2.2.1, h8.2.2.2.1, fun k hk => Nat.lt_of_lt_of_le (h8.2.2.2.2 k hk) hs⟩
  obtain ⟨k1, k2, k3, k4⟩ := (h5 e he).1
  have hS := h8.2.2.2.1 e he
  exact ⟨own8_loc k1 (fun k hv => hk k (hS.1 k hv) (k1.lt k hv)), own8_loc k2 (fun k hv => hk k (hS.2 k hv) (k2.lt k hv)), k3.loc (fun k hv hl => hk k (hS.1 k (by rw [← k4.1]; exact hv)) hl), k4⟩
theorem BookAt.loc {w w' : World} {B p : Nat} {S : Nat → Prop} {bs : List Kept} (h : BookAt w B p S bs) (hs : w.heap.size ≤ w'.heap.size) (hk : ∀ k, S k → k < w.heap.size → w'.heap[k]? = w.heap[k]?) : BookAt w' B p S bs := by
  obtain ⟨vB, vW, N, tg, h0, h1, h2, h3, h4, h5, h6, h7, h8⟩ := h
  refine ⟨vB, vW, N, tg, h0, h1, h2.loc (hk p h8.1 h2.lt), ownV_loc h3 (fun k hv => hk k (h8.2.1 k hv) (h3.lt k hv)), ownV_loc h4 (fun k hv => hk k (h8.2.2.1 k hv) (h4.lt k hv)), h5, h6, fun i e he => ?_, h8.1, h8.2.1, h8.2.2.1, h8.2.2.2.1, fun k hk => Nat.lt_of_lt_of_le (h8.2.2.2.2 k hk) hs⟩
  obtain ⟨k1, k2, k3⟩ := h7 i e he
  have hS := h8.2.2.2.1 e (List.mem_of_getElem? he)
  exact ⟨own8_loc k1 (fun k hv => hk k (hS.1 k hv) (k1.lt k hv)), own8_loc k2 (fun k hv => hk k (hS.2 k hv) (k2.lt k hv)), k3⟩
/-- Both, all of whose blocks are S's. -/
def KeepB (B pL pB : Nat) (es : List Lent) (bs : List Kept) : (Nat → Prop) → World → Prop := fun S w =>
  ∃ SL SB : Nat → Prop, LoanAt w B pL SL es ∧ BookAt w B pB SB bs ∧ (∀ k, SL k → ¬ SB k) ∧ (∀ k, SL k → S k) ∧ (∀ k, SB k → S k)
theorem KeepB.loc (M0 : Nat → Prop) (w0 : World) (B pL pB : Nat) (es : List Lent) (bs : List Kept) : O.Loc M0 w0 (KeepB B pL pB es bs) := by
  rintro S w w' ⟨SL, SB, h1, h2, h3, h4, h5⟩ hs hk
  exact ⟨SL, SB, h1.loc hs (fun k h hl => hk k hl (.inr (h4 k h))), h2.loc hs (fun k h hl => hk k hl (.inr (h5 k h))), h3, h4, h5⟩
theorem KeepB.mono {B pL pB : Nat} {es : List Lent} {bs : List Kept} {S S' : Nat → Prop} {w : World} (h : KeepB B pL pB es bs S w) (hm : ∀ k, S k → S' k) : KeepB B pL pB es bs S' w := by
  obtain ⟨SL, SB, h1, h2, h3, h4, h5⟩ := h
  exact ⟨SL, SB, h1, h2, h3, fun k hk => hm k (h4 k hk), fun k hk => hm k (h5 k hk)⟩
theorem LoanAt.shrink {w : World} {B p : Nat} {S : Nat → Prop} {es : List Lent} (h : LoanAt w B p S es) : LoanAt w B p (fun k => S k ∧ B ≤ k) es := by
  obtain ⟨vF, vW, h0, h1, h2, h3, h4, h5, h6, h7, h8⟩ := h
  exact ⟨vF, vW, h0, h1, h2, h3, h4, h5, h6, h7, ⟨h8.1, h0⟩, fun g hg => ⟨h8.2.1 g hg, by have := h2.base_le g hg; omega⟩, fun g hg => ⟨h8.2.2.1 g hg, by have := h3.base_le g hg; omega⟩,
    fun e he => ⟨fun g hg => ⟨(h8.2.2.2.1 e he).1 g hg, by have := (h5 e he).1.1.base_le g hg; omega⟩, fun g hg => ⟨(h8.2.2.2.1 e he).2 g hg, by have := (h5 e he).1.2.1.base_le g hg; omega⟩⟩, fun k hk => h8.2.2.2.2 k hk.1⟩
theorem BookAt.shrink {w : World} {B p : Nat} {S : Nat → Prop} {bs : List Kept} (h : BookAt w B p S bs) : BookAt w B p (fun k => S k ∧ B ≤ k) bs := by
  obtain ⟨vB, vW, N, tg, h0, h1, h2, h3, h4, h5, h6, h7, h8⟩ := h
  refine ⟨vB, vW, N, tg, h0, h1, h2, h3, h4, h5, h6, h7, ⟨h8.1, h0⟩, fun g hg => ⟨h8.2.1 g hg, by have := h3.base_le g hg; omega⟩, fun g hg => ⟨h8.2.2.1 g hg, by have := h4.base_le g hg; omega⟩, fun e he => ?_, fun k hk => h8.2.2.2.2 k hk.1⟩
  obtain ⟨i, hi, rfl⟩ := List.mem_iff_getElem.1 he
  have k := h7 i bs[i] (List.getElem?_eq_getElem hi)
  exact ⟨fun g hg => ⟨(h8.2.2.2.1 _ he).1 g hg, by have := k.1.base_le g hg; omega⟩, fun g hg => ⟨(h8.2.2.2.1 _ he).2 g hg, by have := k.2.1.base_le g hg; omega⟩⟩
theorem KeepAt.toB {w : World} {B pL pB N : Nat} {es : List Lent} {bs : List Kept} (h : KeepAt w B pL pB N es bs) : ∃ S : Nat → Prop, KeepB B pL pB es bs S w ∧ (∀ k, S k → B ≤ k ∧ k < w.heap.size) := by
  obtain ⟨SL, SB, h1, h2, h3, h4, h5⟩ := h
  refine ⟨fun k => (SL k ∨ SB k) ∧ B ≤ k, ⟨_, _, h1.shrink, h2.shrink, fun k hk hk' => h3 k hk.1 hk'.1, fun k hk => ⟨.inl hk.1, hk.2⟩, fun k hk => ⟨.inr hk.1, hk.2⟩⟩, fun k hk => ⟨hk.2, ?_⟩⟩
  rcases hk.1 with h | h
  · obtain ⟨_, _, _, _, _, _, _, _, _, _, _, _, _, _, h9⟩ := h1
    exact h9 k h
  · obtain ⟨_, _, _, _, _, _, _, _, _, _, _, _, _, _, _, _, h9⟩ := h2
    exact h9 k h
theorem KeepB.toAt {w : World} {B pL pB N : Nat} {es : List Lent} {bs : List Kept} {S : Nat → Prop} (h : KeepB B pL pB es bs S w) (hN : ∀ k, S k → k < N) : KeepAt w B pL pB N es bs := by
  obtain ⟨SL, SB, h1, h2, h3, h4, h5⟩ := h
  exact ⟨SL, SB, h1, h2, h3, fun k hk => hN k (h4 k hk), fun k hk => hN k (h5 k hk)⟩
def lentS (B pL pB : Nat) (es : List Lent) (bs : List Kept) (l : List UInt8) : GSpec := fun u S w => ∃ x : Lent, u = x.given ∧ x.l = l ∧ Rd w u l ∧ KeepB B pL pB (es ++ [x]) bs S w
def keptS (B pL pB : Nat) (es : List Lent) (bs : List Kept) : GSpec := fun _ S w => ∃ (x : Lent) (bs' : List Kept), bs'.length ≤ bs.length + 1 ∧ KeepB B pL pB (es ++ [x]) bs' S w
def newN (n0 : Nat) (l : List UInt8) : GSpec := fun u S w => Own8 w n0 5 u l ∧ In S u
theorem newN_loc (M0 : Nat → Prop) (w0 : World) (n0 : Nat) (l : List UInt8) (u : Value) : O.Loc M0 w0 (newN n0 l u) := by
  rintro S w w' ⟨h1, h2⟩ hs hk
  exact ⟨own8_loc h1 (fun k hv => hk k (h1.lt k hv) (.inr (h2 k hv))), h2⟩
theorem KeepB.rd {w : World} {B pL pB : Nat} {es : List Lent} {bs : List Kept} {S : Nat → Prop} (h : KeepB B pL pB es bs S w) (e : Lent) (he : e ∈ es) : Rd w e.given e.l := by
  obtain ⟨SL, SB, ⟨vF, vW, _, _, _, _, _, h5, _⟩, _⟩ := h
  exact (h5 e he).1.2.2.1
theorem lentS_loc (M0 : Nat → Prop) (w0 : World) (B pL pB : Nat) (es : List Lent) (bs : List Kept) (l : List UInt8) (u : Value) : O.Loc M0 w0 (lentS B pL pB es bs l u) := by
  rintro S w w' ⟨x, h1, h2, h3, h4⟩ hs hk
  have h5 := KeepB.loc M0 w0 B pL pB (es ++ [x]) bs S w w' h4 hs hk
  have h6 := h5.rd x (by simp)
  exact ⟨x, h1, h2, by rw [h1, ← h2]; exact h6, h5⟩
theorem keptS_loc (M0 : Nat → Prop) (w0 : World) (B pL pB : Nat) (es : List Lent) (bs : List Kept) (u : Value) : O.Loc M0 w0 (keptS B pL pB es bs u) := by
  rintro S w w' ⟨x, bs', h1, h2⟩ hs hk
  exact ⟨x, bs', h1, KeepB.loc M0 w0 B pL pB (es ++ [x]) bs' S w w' h2 hs hk⟩
theorem keepB_loan (w : World) (B pL pB : Nat) (es : List Lent) (bs : List Kept) (S : Nat → Prop) (v : Value) (l : List UInt8) (h : KeepB B pL pB es bs S w) (hv : Rd w v l) (hl : l.length ≤ 1000000) (hn : es.length ≤ 999) :
    Calls Tryd.prog 28 #[.pointer (some ⟨pL, 0, none⟩), v] w fun e w' => ∃ u, e = .returned u ∧ Chg S w w' ∧ lentS B pL pB es bs l u (fun k => S k ∨ (w.heap.size ≤ k ∧ k < w'.heap.size)) w' := by
  obtain ⟨SL, SB, h1, h2, h3, h4, h5⟩ := h
  refine (bytes_c w B pL SL es v l h1 hv hl hn).mono ?_
  rintro e w' ⟨x, S', rfl, hx, hL, hS, hc, hb⟩
  have hB' := h2.chg hc (fun k hk hk' => h3 k hk' hk)
  have hlt : ∀ k, SB k → k < w.heap.size := by
    obtain ⟨_, _, _, _, _, _, _, _, _, _, _, _, _, _, _, _, h9⟩ := h2
    exact h9
  have hlt' : ∀ k, S' k → k < w'.heap.size := by
    obtain ⟨_, _, _, _, _, _, _, _, _, _, _, _, _, _, h9⟩ := hL
    exact h9
  have hr : Rd w' x.given l := by
    obtain ⟨_, _, _, _, _, _, _, h9, _⟩ := hL
    have := (h9 x (by simp)).1.2.2.1
    rwa [hx] at this
  refine ⟨x.given, rfl, hc.mono h4, x, rfl, hx, hr, S', SB, hL, hB', fun k hk hk' => ?_, fun k hk => ?_, fun k hk => .inl (h5 k hk)⟩
  · rcases hS k hk with h | h
    · exact h3 k h hk'
    · have := hlt k hk'; omega
  · rcases hS k hk with h | h
    · exact .inl (h4 k h)
    · exact .inr ⟨h, hlt' k hk⟩
theorem keepB_book (w : World) (B pL pB : Nat) (es : List Lent) (bs : List Kept) (S : Nat → Prop) (l0 : List UInt8) (u0 v : Value) (l : List UInt8) (h : lentS B pL pB es bs l0 u0 S w) (hv : Own8 w (pB + 1) 5 v l) (hvS : ∀ g, v.ownBlock = some g → ¬ S g) (hl : l.length ≤ 10000000) (hn : bs.length ≤ 999) :
    Calls Tryd.prog 27 #[.pointer (some ⟨pB, 0, none⟩), v] w fun e w' => ∃ u, e = .returned u ∧ Chg S w w' ∧ keptS B pL pB es bs u (fun k => (S k ∨ v.ownBlock = some k) ∨ (w.heap.size ≤ k ∧ k < w'.heap.size)) w' := by
  obtain ⟨x, rfl, hx, hr, SL, SB, h1, h2, h3, h4, h5⟩ := h
  refine (bkbytes_c w B pB SB bs v l h2 hv (fun g hg hs => hvS g hg (h5 g hs)) hl hn).mono ?_
  rintro e w' ⟨S', bs', rfl, hB, hlen, hS, hc, hb⟩
  have hL' := h1.chg hc h3
  have hlt : ∀ k, SL k → k < w.heap.size := by
    obtain ⟨_, _, _, _, _, _, _, _, _, _, _, _, _, _, h9⟩ := h1
    exact h9
  have hlt' : ∀ k, S' k → k < w'.heap.size := by
    obtain ⟨_, _, _, _, _, _, _, _, _, _, _, _, _, _, _, _, h9⟩ := hB
    exact h9
  refine ⟨_, rfl, hc.mono h5, x, bs', hlen, SL, S', hL', hB, fun k hk hk' => ?_, fun k hk => .inl (.inl (h4 k hk)), fun k hk => ?_⟩
  · rcases hS k hk' with h | h | h
    · exact h3 k hk h
    · exact hvS k h (h4 k hk)
    · have := hlt k hk; omega
  · rcases hS k hk with h | h | h
    · exact .inl (.inl (h5 k h))
    · exact .inl (.inr h)
    · exact .inr ⟨h, hlt' k hk⟩
end Go.Proofs.YtpjpmgpehpigaabDoor
