/- How DiskOwn's calls, handed to it as a slice of structs, are read. -/
import Derived.Test.YtfnlcnjflloecaaRowL
import Derived.Test.YtfnlcnjflloecaaDskW
import Derived.Lib.SmallJoins
set_option linter.unusedVariables false
set_option linter.unusedSimpArgs false
namespace Go.Proofs.Ytfnlcnjflloecaa
open Go.ChangeShapes Go.WideShapes Go.ChangeAt Go.RowKit Go.Deep Go.Joins
section
variable {H : Type} {enc : TypeId × Value → H} {P : Program} {w : World} {base : Nat} {held : Bool}
theorem rdO_of {t e b : TypeId} {f0 f1 f2 f3 f4 f5 f6 : Field} {fuel : Nat} {v : Value} {x : DataW H × List MemPlace} (ht : P.underlying t = some (.slice e)) (hs : P.underlying e = some (.struct #[f0, f1, f2, f3, f4, f5, f6])) (hone : oneCellFields P #[f0, f1, f2, f3, f4, f5, f6] = true) (hC : P.cellsOf e = 7)
    (h1 : P.underlying f1.type = some (.int .i64)) (h2 : P.underlying f2.type = some .string) (h4 : P.underlying f4.type = some (.slice b)) (hb : P.underlying b = some (.int .u8)) (hcb : P.cellsOf b = 1)
    (h : DataW.trod enc P w base (fun _ => true) held fuel t [v] = some x) : ∃ os, RdO w v os := by
  rcases open_slice ht h with ⟨hcs, _⟩ | ⟨a, len, cap, m, n, D, Pl, hcs, _, hl, hm, hmm, _, hx⟩
  · simp at hcs
    subst hcs
    exact ⟨[], none, 0, rfl, by simp, fun o ho => (by cases ho), fun h => absurd h (by simp)⟩
  · simp at hcs
    subst hcs
    have hlm : len ≤ m := by rw [hmm]; split <;> omega
    obtain ⟨bb, off, spot⟩ := a
    have hspot : 0 < len → spot = none := fun hp => by
      obtain ⟨cs', hc, _⟩ := hx 0 (by omega)
      rw [hC] at hc
      obtain ⟨_, hlen, hcell⟩ := World.cells?_some hc
      have q0 := hcell 0 (by omega)
      match cs', hlen with
      | c0 :: r, _ =>
        have := World.cell?_spot q0
        simpa [Addr.add] using this
    have one : ∀ i, i < len → ∃ o : OpE, o.a.length ≤ 9223372036854775807 ∧ spot = none ∧ w.cell? ⟨bb, off + i * 7 + 1, none⟩ = some (.int .i64 o.act) ∧ w.cell? ⟨bb, off + i * 7 + 2, none⟩ = some (.string (strB o.a)) ∧ ∃ x, w.cell? ⟨bb, off + i * 7 + 4, none⟩ = some x ∧ Rd w x o.raw := by
      intro i hi
      obtain ⟨cs', hc, htr⟩ := hx i (by omega)
      rw [hC] at hc
      obtain ⟨_, hlen, hcell⟩ := World.cells?_some hc
      obtain ⟨xs, n', _, _, hl', hxl, hfx⟩ := DataW.trod_struct hs htr
      obtain ⟨o1, k1⟩ := hone_of hone 1 f1 rfl
      obtain ⟨o2, k2⟩ := hone_of hone 2 f2 rfl
      obtain ⟨o4, k4⟩ := hone_of hone 4 f4 rfl
      match cs', hlen, xs, hxl with
      | [c0, c1, c2, c3, c4, c5, c6], _, [y0, y1, y2, y3, y4, y5, y6], _ =>
        have t1 : DataW.trod enc P w base (fun _ => true) held n' f1.type [c1] = some y1 := by simpa [o1, k1] using hfx 1 f1 rfl
        have t2 : DataW.trod enc P w base (fun _ => true) held n' f2.type [c2] = some y2 := by simpa [o2, k2] using hfx 2 f2 rfl
        have t4 : DataW.trod enc P w base (fun _ => true) held n' f4.type [c4] = some y4 := by simpa [o4, k4] using hfx 4 f4 rfl
        obtain ⟨m1, e1, _, _⟩ := DataW.trod_int h1 t1
        obtain rfl : c1 = Value.int .i64 m1 := by simpa using e1
        obtain ⟨s2, e2, _, b2⟩ := DataW.trod_string h2 t2
        obtain rfl : c2 = Value.string s2 := by simpa using e2
        obtain ⟨l4, r4⟩ := rd8_of h4 hb hcb t4
        obtain rfl := hspot (by omega)
        have q1 := hcell 1 (by omega)
        have q2 := hcell 2 (by omega)
        have q4 := hcell 4 (by omega)
        rw [Go.Deep.add_add, add_lit] at q1 q2 q4
        refine ⟨⟨m1, s2.data.toList, l4⟩, ?_, rfl, ?_, ?_, c4, ?_, r4⟩
        · unfold maxLen at b2
          have : s2.data.toList.length = s2.size := rfl
          simp only; omega
        · simpa [Nat.add_assoc] using q1
        · rw [strB_of]; simpa [Nat.add_assoc] using q2
        · simpa [Nat.add_assoc] using q4
    obtain ⟨O, hO⟩ := choose_lt' (n := len) (p := fun i (o : OpE) => o.a.length ≤ 9223372036854775807 ∧ spot = none ∧ w.cell? ⟨bb, off + i * 7 + 1, none⟩ = some (.int .i64 o.act) ∧ w.cell? ⟨bb, off + i * 7 + 2, none⟩ = some (.string (strB o.a)) ∧ ∃ x, w.cell? ⟨bb, off + i * 7 + 4, none⟩ = some x ∧ Rd w x o.raw) ⟨0, [], []⟩ one
    refine ⟨(List.range len).map O, some ⟨bb, off, spot⟩, cap, by simp, by simp; unfold maxLen at hm; omega, fun o ho => ?_, fun hp => ?_⟩
    · obtain ⟨i, hi, rfl⟩ := List.mem_map.1 ho
      exact (hO i (List.mem_range.1 hi)).1
    · have hp : 0 < len := by simpa using hp
      have h0 := hO 0 hp
      obtain rfl := h0.2.1
      refine ⟨bb, off, rfl, World.block_lt_of_cell? w _ h0.2.2.1, fun j o hj => ?_⟩
      have hjl : j < len := by have := (List.getElem?_eq_some_iff.1 hj).1; simpa using this
      simp [hjl] at hj
      subst hj
      exact (hO j hjl).2.2
end
end Go.Proofs.Ytfnlcnjflloecaa
