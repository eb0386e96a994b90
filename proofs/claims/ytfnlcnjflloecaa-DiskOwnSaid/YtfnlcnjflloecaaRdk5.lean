/- roostref10: put and at, told of the disk; Append, Read. -/
import Derived.Test.YtfnlcnjflloecaaRdk4
set_option linter.unusedVariables false
set_option linter.unusedSimpArgs false
set_option linter.unnecessarySimpa false
namespace Go.Proofs.Ytfnlcnjflloecaa
open Go.RowKit
theorem up_get_inj {fs : List FileE} (hu : upF fs) (i j : Nat) (hi : i < fs.length) (hj : j < fs.length) (h : fs[i].name = fs[j].name) : i = j := by
  rcases Nat.lt_trichotomy i j with hl | hl | hl
  · have := List.pairwise_iff_getElem.1 hu i j hi hj hl
    rw [h] at this
    exact absurd this (List.lt_irrefl _)
  · exact hl
  · have := List.pairwise_iff_getElem.1 hu j i hj hi hl
    rw [h] at this
    exact absurd this (List.lt_irrefl _)
theorem PosF.uniq {fs : List FileE} (hu : upF fs) {s : List UInt8} {r r' : Int} (h : PosF fs s r) (h' : PosF fs s r') : r = r' := by
  rcases h with ⟨h1, rfl⟩ | ⟨j, hj, rfl, h1, h2⟩
  · rcases h' with ⟨h3, rfl⟩ | ⟨j', hj', rfl, h3, h4⟩
    · rfl
    · rw [h1] at h4; cases h4
  · rcases h' with ⟨h3, rfl⟩ | ⟨j', hj', rfl, h3, h4⟩
    · rw [h2] at h3; cases h3
    · rw [up_get_inj hu j j' hj hj' (h1.trans h3.symm)]
theorem PosF.none {fs : List FileE} {s : List UInt8} (h : lookF fs s = none) : PosF fs s (-1) := .inl ⟨h, rfl⟩
theorem PosF.some {fs : List FileE} (hu : upF fs) {s : List UInt8} {f : FileE} (h : lookF fs s = some f) : ∃ (j : Nat) (hj : j < fs.length), fs[j] = f ∧ PosF fs s (j : Int) := by
  obtain ⟨h1, h2⟩ := lookF_some h
  obtain ⟨j, hj, e⟩ := List.getElem_of_mem h1
  exact ⟨j, hj, e, .inr ⟨j, hj, rfl, by rw [e]; exact h2, by rw [e]; exact h⟩⟩
theorem refat_r (p : Nat) (M : Nat → Prop) (D : Dsk) (s : List UInt8) (r : Int) (w : World) (h : RAt w M p D) (hu : upF D.fs) (hl : D.fs.length ≤ 1099511627776) (hs : s.length ≤ 9223372036854775807) (hP : PosF D.fs s r) :
    Calls Try.prog 35 #[.pointer (some ⟨p, 0, none⟩), .string (strB s)] w fun e w' => e = .returned (.int .i64 r) ∧ Below w.heap.size w w' := by
  refine (refat_c p M D s w h hl hs).mono ?_
  rintro e w' ⟨⟨r', rfl, hP'⟩, rfl⟩
  rw [PosF.uniq hu hP hP']
  exact ⟨rfl, Below.refl _ _⟩
set_option maxRecDepth 100000 in
theorem refput_c (p : Nat) (M : Nat → Prop) (D : Dsk) (s : List UInt8) (w : World) (h : RAt w M p D) (hl : D.fs.length ≤ 1048576) (hnew : lookF D.fs s = none) :
    Calls Try.prog 36 #[.pointer (some ⟨p, 0, none⟩), .agg #[.string (strB s), .slice none 0 0, .int .i64 0]] w fun e w' => e = .returned (.tuple #[]) ∧ Chg M w w' ∧ RAt w' (growM M w w') p { D with fs := putF D.fs ⟨s, [], 0⟩ } := by
  obtain ⟨vl, ps, h⟩ := h
  have hpl : ps.length = D.fs.length := by rw [← h.fs]; simp
  obtain ⟨A, c, e, hA⟩ := h.open
  subst e
  have hblk := h.blk
  rw [← hpl] at hblk
  have hno : ∀ g ∈ ps, g.1.name ≠ s := fun g hg => by
    have := lookF_none.1 hnew g.1 (by rw [← h.fs]; exact List.mem_map_of_mem hg)
    exact this
  have hone : ∀ g ∈ ps, ∃ A' n' c', g.2 = .slice A' n' c' := fun g hg => by
    obtain ⟨A', c', e, -⟩ := (h.rd g hg).1.open
    exact ⟨A', _, c', e⟩
  refine (refput_b p A c ps D s w hblk (by omega) hno hone (fun h0 => by
    obtain ⟨b, e, hb, -, hc⟩ := hA h0
    exact ⟨b, e, h.lt b hb, hc⟩)).mono ?_
  rintro e w' ⟨rfl, hC, l, hrow, hb⟩
  have hsz := hC.size
  refine ⟨rfl, hC.mono (fun k hk => by rw [hk]; exact h.mp), l, putP ps (newF s), .inl h.mp, hb, ownsRow_low hrow (Nat.zero_le _), fun k hk => ?_, ?_, fun q hq => ?_, fun k hk => ?_⟩
  · have := World.ownsRow.lt hrow k hk
    exact ⟨.inr this, fun e => by have := h.lt p h.mp; omega⟩
  · rw [putP_fst, h.fs]; rfl
  · rcases mem_putP hq with rfl | hq
    · exact ⟨Rd.nil w', fun k hk => (by cases hk)⟩
    · refine ⟨(h.rd q hq).1.chg hC (fun g hg => ((h.rd q hq).2 g hg).2.1), fun k hk => ⟨.inl ((h.rd q hq).2 k hk).1, ((h.rd q hq).2 k hk).2.1, fun e => ?_⟩⟩
      have h1 := (World.ownsRow.lt hrow k e).1
      have h2 := h.lt k ((h.rd q hq).2 k hk).1
      omega
  · rcases hk with hk | hk
    · exact Nat.lt_of_lt_of_le (h.lt k hk) hsz
    · exact hk.2
/-- A file's bytes turn: a cell of the row. -/
theorem RMem.setB {w w' : World} {M : Nat → Prop} {p : Nat} {vl : Value} {ps : List (FileE × Value)} {D : Dsk} (h : RMem w M p vl ps D) (hu : upF D.fs) (j : Nat) (hj : j < ps.length) {s : List UInt8} (hs : ps[j].1.name = s) {b : List UInt8} {v : Value} {g : Nat} (hg : vl.ownBlock = some g)
    (hb : Below w.heap.size w w') (hv : Rd w' v b) (hvo : ∀ k, v.ownBlock = some k → w.heap.size ≤ k ∧ k < w'.heap.size) (h1 : v.oneCell' = true) :
    RAt (w'.setCell ⟨g, j * 3 + 1, none⟩ v) (growM M w (w'.setCell ⟨g, j * 3 + 1, none⟩ v)) p { D with fs := modF D.fs s fun f => ⟨f.name, b, f.safe⟩ } := by
  have hz := hb.size
  have hgl := h.lt g (h.rown g hg).1
  have hset : (w'.setCell ⟨g, j * 3 + 1, none⟩ v).heap.size = w'.heap.size := by simp [World.setCell]
  have hC := Chg.setCell w' ⟨g, j * 3 + 1, none⟩ v
  refine ⟨vl, ps.set j (⟨ps[j].1.name, b, ps[j].1.safe⟩, v), .inl h.mp, ?_, ?_, fun k hk => ⟨.inl (h.rown k hk).1, (h.rown k hk).2⟩, ?_, fun q hq => ?_, fun k hk => ?_⟩
  · exact (h.blk.below hb).chg hC (fun e => (h.rown g hg).2 e.symm)
  · rw [fcs_set ps j hj, List.length_set]
    have hrow : w'.ownsRow 0 _ 3 vl ps.length (fcs ps) := ownsRow_chg (N := fun _ => False) h.row (Chg.of_below hb) (fun _ _ h => h)
    rcases hrow.2 with ⟨e, -⟩ | ⟨g2, cap, cur, e, -⟩
    · rw [e] at hg; cases hg
    · rw [e] at hg hrow ⊢
      cases hg
      exact (hrow.stored (j * 3 + 1) v).1
  · show (ps.set j _).map (·.1) = modF D.fs s _
    rw [List.map_set, h.fs]
    have hgj : ps[j].1 = D.fs[j]'(by rw [← h.fs]; simpa using hj) := by simp [← h.fs]
    have hj' : j < D.fs.length := by rw [← h.fs]; simpa using hj
    rw [hgj] at hs
    simp only [hgj]
    unfold modF
    apply List.ext_getElem (by simp)
    intro i h1 h2
    rw [List.getElem_set, List.getElem_map]
    by_cases hij : j = i
    · subst hij
      rw [if_pos rfl, if_pos hs]
    · rw [if_neg hij, if_neg]
      intro e
      exact hij (up_get_inj hu j i hj' (by simpa using h1) (hs.trans e.symm))
  · rcases List.mem_or_eq_of_mem_set hq with hq | rfl
    · refine ⟨((h.rd q hq).1.below hb).chg hC (fun k hk e => ((h.rd q hq).2 k hk).2.2 (by rw [hg]; exact congrArg some e.symm)), fun k hk => ⟨.inl ((h.rd q hq).2 k hk).1, ((h.rd q hq).2 k hk).2⟩⟩
    · refine ⟨hv.chg hC (fun k hk e => by have := (hvo k hk).1; have e2 : k = g := e; omega), fun k hk => ⟨.inr ⟨(hvo k hk).1, by rw [hset]; exact (hvo k hk).2⟩, fun e => ?_, fun e => ?_⟩⟩
      · have := (hvo k hk).1; have := h.lt p h.mp; omega
      · have := (hvo k hk).1; have := h.lt k (h.rown k e).1; omega
  · rcases hk with hk | hk
    · rw [hset]; exact Nat.lt_of_lt_of_le (h.lt k hk) hz
    · exact hk.2
end Go.Proofs.Ytfnlcnjflloecaa
