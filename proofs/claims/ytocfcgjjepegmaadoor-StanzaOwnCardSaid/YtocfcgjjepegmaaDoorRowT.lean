/- How a struct with texts and a float, handed to a law, is read. -/
import Derived.Test.YtocfcgjjepegmaaDoorRow
import Derived.Test.YtocfcgjjepegmaaDoorStrs
import Derived.Deep.Strs
import Derived.Lib.SmallJoins
set_option linter.unusedVariables false
set_option linter.unusedSimpArgs false
namespace Go.Proofs.YtocfcgjjepegmaaDoor
open Go.ChangeShapes Go.WideShapes Go.ChangeAt Go.RowKit Go.Deep
section
variable {H : Type} {enc : TypeId × Value → H} {P : Program} {w : World} {base : Nat} {spare : Nat → Bool} {held : Bool}
theorem trod_float {t : TypeId} {k : FloatKind} {fuel : Nat} {cs : List Value} {x : DataW H × List MemPlace} (ht : P.underlying t = some (.float k)) (h : DataW.trod enc P w base spare held fuel t cs = some x) :
    ∃ n, cs = [.float k n] ∧ x = (.lit (.float k n), []) ∧ (Lit.float k n).wf = true := by
  cases fuel with
  | zero => simp [DataW.trod] at h
  | succ n =>
    unfold DataW.trod at h
    rw [ht] at h
    split at h <;> simp_all
theorem wf_f64 {n : Nat} (h : (Lit.float .f64 n).wf = true) : n < 18446744073709551616 := by
  simpa [Lit.wf] using h
theorem rdt_of {t e : TypeId} {fuel : Nat} {v : Value} {x : DataW H × List MemPlace} (ht : P.underlying t = some (.slice e)) (he : P.underlying e = some .string) (hc : P.cellsOf e = 1)
    (h : DataW.trod enc P w base spare held fuel t [v] = some x) : ∃ l, RdT w v l ∧ ∀ y ∈ l, y.length ≤ 9223372036854775807 := by
  rcases open_strs ht he hc h with ⟨hcs, _⟩ | ⟨a, len, cap, m, Sx, hcs, _, hl, hm, hmm, _, hx⟩
  · simp at hcs
    subst hcs
    exact ⟨[], RdT.nil w, by simp⟩
  · simp at hcs
    subst hcs
    have hlm : len ≤ m := by rw [hmm]; split <;> omega
    refine ⟨(List.range len).map fun i => (Sx i).data.toList, ⟨by simp [svs], some a, cap, by simp, by simpa using hl, hm, fun hp => ?_⟩, fun y hy => ?_⟩
    · have hp : 0 < len := by simpa using hp
      have hc0 := (hx 0 (by omega)).1
      obtain ⟨b, off, spot⟩ := a
      have hspot : spot = none := by simpa [Addr.add] using World.cell?_spot hc0
      subst hspot
      refine ⟨b, off, rfl, fun j y hy => ?_⟩
      have hj : j < len := by have := (List.getElem?_eq_some_iff.1 hy).1; simpa [svs] using this
      have hyv : y = .string (Sx j) := by simp [svs, sv, strB, hj] at hy; exact hy.symm
      subst hyv
      have := (hx j (by omega)).1
      unfold Addr.add at this
      split at this
      · rename_i h; subst h; simpa using this
      · simpa using this
    · obtain ⟨i, hi, rfl⟩ := List.mem_map.1 hy
      have := (hx i (by have := List.mem_range.1 hi; omega)).2
      unfold maxLen at this
      have e : (Sx i).data.toList.length = (Sx i).size := rfl
      omega
end
end Go.Proofs.YtocfcgjjepegmaaDoor
