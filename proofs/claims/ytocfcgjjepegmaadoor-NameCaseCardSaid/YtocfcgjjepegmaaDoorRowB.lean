/- How a list of bools, handed to a law, is read. -/
import Derived.Test.YtocfcgjjepegmaaDoorRow
import Derived.Test.YtocfcgjjepegmaaDoorBase
import Derived.Deep.Slices
set_option linter.unusedVariables false
set_option linter.unusedSimpArgs false
namespace Go.Proofs.YtocfcgjjepegmaaDoor
open Go.ChangeShapes Go.WideShapes Go.ChangeAt Go.RowKit Go.Deep
/-- In w the slice v reads as the bools l. -/
def RdB (w : World) (v : Value) (l : List Bool) : Prop := RdW w 1 v l.length (l.map Value.bool)
theorem RdB.below {w w' : World} {v : Value} {l : List Bool} (h : RdB w v l) (hb : Below w.heap.size w w') : RdB w' v l := RdW.below h hb
theorem RdB.open {w : World} {v : Value} {l : List Bool} (h : RdB w v l) : ∃ A c, v = .slice A l.length c ∧ l.length ≤ c ∧ c ≤ maxLen ∧
    (0 < l.length → ∃ b off, A = some ⟨b, off, none⟩ ∧ b < w.heap.size ∧ ∀ j (hj : j < l.length), w.cell? ⟨b, off + j, none⟩ = some (.bool l[j])) := by
  obtain ⟨hx, A, c, rfl, h1, h2, h3⟩ := h
  refine ⟨A, c, rfl, h1, h2, fun hn => ?_⟩
  obtain ⟨b, off, rfl, hc⟩ := h3 hn
  have hg : ∀ j (hj : j < l.length), w.cell? ⟨b, off + j, none⟩ = some (.bool l[j]) := fun j hj => hc j _ (by simp [List.getElem?_eq_getElem hj])
  exact ⟨b, off, rfl, World.block_lt_of_cell? w _ (hg 0 hn), hg⟩
section
variable {H : Type} {enc : TypeId × Value → H} {P : Program} {w : World} {base : Nat} {spare : Nat → Bool} {held : Bool}
theorem trod_bool1 {t : TypeId} {fuel : Nat} {cs : List Value} {x : DataW H × List MemPlace} (ht : P.underlying t = some .bool) (h : DataW.trod enc P w base spare held fuel t cs = some x) :
    ∃ b, cs = [.bool b] := by
  cases fuel with
  | zero => simp [DataW.trod] at h
  | succ n =>
    unfold DataW.trod at h
    rw [ht] at h
    split at h <;> simp_all
theorem rdb_of {t e : TypeId} {fuel : Nat} {v : Value} {x : DataW H × List MemPlace} (ht : P.underlying t = some (.slice e)) (he : P.underlying e = some .bool) (hc : P.cellsOf e = 1)
    (h : DataW.trod enc P w base spare held fuel t [v] = some x) : ∃ l, RdB w v l := by
  rcases open_slice1 ht hc h with ⟨hcs, _⟩ | ⟨a, len, cap, m, n, V, D, Pl, hcs, _, hl, hm, hmm, _, hx⟩
  · simp at hcs
    subst hcs
    exact ⟨[], RdW.nil w 1⟩
  · simp at hcs
    subst hcs
    have hlm : len ≤ m := by rw [hmm]; split <;> omega
    have hV : ∀ i, i < m → ∃ b, V i = .bool b := fun i hi => by
      obtain ⟨b, hb⟩ := trod_bool1 he (hx i hi).2
      exact ⟨b, by simpa using hb⟩
    obtain ⟨F, hF⟩ := choose_lt (α := Bool) (p := fun i b => V i = .bool b) hV
    refine ⟨(List.range len).map F, by simp, some a, cap, by simp, by simpa using hl, hm, fun hp => ?_⟩
    have hp : 0 < len := by simpa using hp
    have hc0 := (hx 0 (by omega)).1
    obtain ⟨b, off, spot⟩ := a
    have hspot : spot = none := by simpa [Addr.add] using World.cell?_spot hc0
    subst hspot
    refine ⟨b, off, rfl, fun j y hy => ?_⟩
    have hj : j < len := by have := (List.getElem?_eq_some_iff.1 hy).1; simpa using this
    have hyv : y = .bool (F j) := by simp [hj] at hy; exact hy.symm
    subst hyv
    have := (hx j (by omega)).1
    rw [add_lit] at this
    rw [this, hF j (by omega)]
end
end Go.Proofs.YtocfcgjjepegmaaDoor
