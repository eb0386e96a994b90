/- How a slice of slices of bytes, handed to a law, is read. -/
import Derived.Test.YtfnlcnjflloecaaRow
import Derived.Test.YtfnlcnjflloecaaDskF
import Derived.Deep.Slices
set_option linter.unusedVariables false
set_option linter.unusedSimpArgs false
namespace Go.Proofs.Ytfnlcnjflloecaa
open Go.ChangeShapes Go.WideShapes Go.ChangeAt Go.RowKit Go.Deep
section
variable {H : Type} {enc : TypeId × Value → H} {P : Program} {w : World} {base : Nat} {held : Bool}
theorem rd8_of {t e : TypeId} {fuel : Nat} {v : Value} {x : DataW H × List MemPlace} (ht : P.underlying t = some (.slice e)) (he : P.underlying e = some (.int .u8)) (hc : P.cellsOf e = 1)
    (h : DataW.trod enc P w base (fun _ => true) held fuel t [v] = some x) : ∃ l, Rd w v l := by
  obtain ⟨A, n, c, zs, rfl, hw⟩ : ∃ A n c zs, v = Value.slice A n c ∧ IsRow .u8 w A n c zs := by
    rcases open_ints ht he hc h with ⟨hcs, _⟩ | ⟨x, l, c, zs, hcs, _, hl, hm, hz, _, hcell, hwz⟩
    · simp at hcs
      exact ⟨none, 0, 0, [], hcs, .inl ⟨rfl, rfl, rfl, rfl⟩⟩
    · simp at hcs
      exact ⟨some x, l, c, zs, hcs, .inr ⟨_, rfl, hl, hm, by simpa using hz, hcell, hwz⟩⟩
  obtain ⟨l, h1, _⟩ := rd_of_row hw
  exact ⟨l, h1⟩
theorem choose_lt' {α : Type} {p : Nat → α → Prop} {n : Nat} (z : α) (h : ∀ i, i < n → ∃ x, p i x) : ∃ f : Nat → α, ∀ i, i < n → p i (f i) := by
  have : ∀ i, ∃ x, i < n → p i x := fun i => by
    by_cases hi : i < n
    · obtain ⟨x, hx⟩ := h i hi; exact ⟨x, fun _ => hx⟩
    · exact ⟨z, fun h => absurd h hi⟩
  exact ⟨fun i => (this i).choose, fun i hi => (this i).choose_spec hi⟩
theorem rdl_of {t e b : TypeId} {fuel : Nat} {v : Value} {x : DataW H × List MemPlace} (ht : P.underlying t = some (.slice e)) (he : P.underlying e = some (.slice b)) (hb : P.underlying b = some (.int .u8)) (hc : P.cellsOf e = 1) (hcb : P.cellsOf b = 1)
    (h : DataW.trod enc P w base (fun _ => true) held fuel t [v] = some x) : ∃ ls, RdL w v ls := by
  rcases open_slice1 ht hc h with ⟨hcs, _⟩ | ⟨a, len, cap, m, n, V, D, Pl, hcs, _, hl, hm, hmm, _, hx⟩
  · simp at hcs
    subst hcs
    exact ⟨[], [], rfl, RdW.nil w 1, fun i x l hx => by cases hx⟩
  · simp at hcs
    subst hcs
    have hlm : len ≤ m := by rw [hmm]; split <;> omega
    obtain ⟨L, hL⟩ := choose_lt' (n := len) (p := fun i l => Rd w (V i) l) [] (fun i hi => rd8_of he hb hcb (hx i (by omega)).2)
    refine ⟨(List.range len).map L, (List.range len).map V, by simp, ⟨by simp, some a, cap, by simp, by simpa using hl, hm, fun hp => ?_⟩, fun i x l hx1 hl1 => ?_⟩
    · have hp : 0 < len := by simpa using hp
      have hc0 := (hx 0 (by omega)).1
      obtain ⟨b, off, spot⟩ := a
      have hspot : spot = none := by simpa [Addr.add] using World.cell?_spot hc0
      subst hspot
      refine ⟨b, off, rfl, fun j y hy => ?_⟩
      have hj : j < len := by have := (List.getElem?_eq_some_iff.1 hy).1; simpa using this
      have hyv : y = V j := by simp [hj] at hy; exact hy.symm
      subst hyv
      have := (hx j (by omega)).1
      unfold Addr.add at this
      split at this
      · rename_i h; subst h; simpa using this
      · simpa using this
    · have hi : i < len := by have := (List.getElem?_eq_some_iff.1 hx1).1; simpa using this
      simp [hi] at hx1 hl1
      subst hx1 hl1
      exact hL i hi
end
end Go.Proofs.Ytfnlcnjflloecaa
