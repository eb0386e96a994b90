/- A row of bytes of the call's own, that may bear a mark behind its end (what a conversion of a text yields), and what an append makes of it. -/
import Derived.Test.YtocfcgjjepegmaaDoorMore2
import Derived.Laws.IdiomCopy
import Derived.Deep.Upon
import Derived.Deep.MidRow
set_option linter.unusedVariables false
set_option linter.unusedSimpArgs false
namespace Go.Proofs.YtocfcgjjepegmaaDoor
open Go.RowKit
theorem grown_setCells (g : Nat) : ∀ (vs : List Value) (o : Nat) (w : World), w.grownBy (w.setCells g o vs) (some g)
  | [], _, _ => ⟨rfl, rfl, rfl, Nat.le_refl _, fun _ _ _ => rfl⟩
  | v :: r, o, w => by
    have h1 := grown_setCell w ⟨g, o, none⟩ v
    have h2 := grown_setCells g r (o + 1) (w.setCell ⟨g, o, none⟩ v)
    rw [World.setCells]
    exact ⟨h2.os.trans h1.os, h2.tape.trans h1.tape, h2.output.trans h1.output, Nat.le_trans h1.size h2.size, fun k hk hne => (h2.block k (Nat.lt_of_lt_of_le hk h1.size) hne).trans (h1.block k hk hne)⟩
def CRow (w : World) (base : Nat) (v : Value) (l : List UInt8) : Prop :=
  ∃ g c, v = .slice (some ⟨g, 0, none⟩) l.length c ∧ base ≤ g ∧ g < w.heap.size ∧ l.length ≤ c ∧ c ≤ maxLen ∧ (∀ j, j < l.length → w.cell? ⟨g, j, none⟩ = some (.int .u8 (bt l j))) ∧
    (∀ j, j < c → (w.cell? ⟨g, j, none⟩).isSome = true ∧ w.frozen? ⟨g, j, none⟩ = false)
theorem CRow.rd {w : World} {base : Nat} {v : Value} {l : List UInt8} (h : CRow w base v l) : Rd w v l := by
  obtain ⟨g, c, rfl, h1, h2, h3, h4, h5, h6⟩ := h
  exact Rd.mk rfl h3 h4 fun hn => ⟨g, 0, rfl, fun j hj => by rw [Nat.zero_add]; exact h5 j hj⟩
theorem CRow.below {w w' : World} {base : Nat} {v : Value} {l : List UInt8} (h : CRow w base v l) (hb : Below w.heap.size w w') : CRow w' base v l := by
  obtain ⟨g, c, rfl, h1, h2, h3, h4, h5, h6⟩ := h
  exact ⟨g, c, rfl, h1, Nat.lt_of_lt_of_le h2 hb.size, h3, h4, fun j hj => (hb.cell (p := ⟨g, j, none⟩) h2).trans (h5 j hj), fun j hj => by
    rw [hb.cell (p := ⟨g, j, none⟩) h2, hb.frozen (p := ⟨g, j, none⟩) h2]; exact h6 j hj⟩
theorem conv_crow (w : World) (s : ByteArray) (hs : s.size ≤ 100000000000) : ∃ v w', (convert 9 28 (.string s)).run Tryd.prog w = .ok v w' ∧ CRow w' w.heap.size v s.data.toList ∧ v.ownBlock = some w.heap.size ∧ Below w.heap.size w w' := by
  have hz : s.size = s.data.toList.length := by rw [Array.length_toList]; rfl
  refine ⟨_, _, Lib.run_convert_string_bytes w _ _ _ s Tryd.underlying9 Tryd.underlying28 Tryd.underlying5, ⟨w.heap.size, grownCap w s.size 0 5, by rw [hz], Nat.le_refl _, by rw [Lib.bytesWorld_size]; omega, by rw [← hz]; exact grownCap_ge _ _ _ _, grownCap_le_maxLen _ _ _ _ (by unfold maxLen; omega), fun j hj => ?_, fun j hj => ?_⟩, rfl, ?_⟩
  · rw [Lib.bytesWorld_cell w _ s j (by omega)]; rfl
  · have hsz : (Lib.bytesCells w 5 s).size = grownCap w s.size 0 5 := by
      have := grownCap_ge w s.size 0 5
      have e : (Lib.bytesCells w 5 s).size = s.size + (grownCap w s.size 0 5 - s.size) := by unfold Lib.bytesCells; simp
      omega
    have hh := Lib.bytesWorld_at_new w 5 s
    constructor
    · rw [cell_of_row _ w.heap.size j _ _ _ hh, Array.getElem?_eq_getElem (by omega)]; rfl
    · unfold World.frozen?
      simp only [hh]
      have : ¬ (Lib.bytesCells w 5 s).size ≤ j := by omega
      simp [this]
  · obtain ⟨v, w', e, _, _, hb⟩ := conv_bytes w s hs
    have e2 := Lib.run_convert_string_bytes w _ _ _ s Tryd.underlying9 Tryd.underlying28 Tryd.underlying5
    rw [e2] at e
    cases e
    exact hb
theorem CRow.of_own {w : World} {base : Nat} {g c : Nat} {n : Nat} {l : List UInt8} (h : w.ownsRow base 5 1 (.slice (some ⟨g, 0, none⟩) n c) n (bvs l)) (hn : n = l.length) : CRow w base (.slice (some ⟨g, 0, none⟩) n c) l := by
  subst hn
  have hO : Own8 w base 5 (.slice (some ⟨g, 0, none⟩) l.length c) l := h
  rcases h.2 with ⟨e, _⟩ | ⟨g', cap, cur, e, hb, hg, hnc, hcm, hcs, htk⟩
  · cases e
  · cases e
    have hlt : g < w.heap.size := (Array.getElem?_eq_some_iff.1 hg).1
    refine ⟨g, c, rfl, hb, hlt, hnc, hcm, fun j hj => hO.cell j hj, fun j hj => ⟨?_, ?_⟩⟩
    · rw [cell_of_row _ g j _ _ _ hg, Array.getElem?_eq_getElem (by omega)]; rfl
    · unfold World.frozen?
      simp [hg]
theorem run_append_crow {w : World} {base : Nat} {v : Value} {l : List UInt8} (h : CRow w base v l) (tx ty : TypeId) (x : Value) (m : Nat) (k : List UInt8) (hx : Src Tryd.prog 1 tx x m (bvs k) w) (hlen : l.length + k.length ≤ 1000000000) (hbase : base ≤ w.heap.size) :
    ∃ v' w', (Builtin.append_ #[28, tx] ty #[v, x]).run Tryd.prog w = .ok v' w' ∧ CRow w' base v' (l ++ k) ∧ w.grownBy w' v.ownBlock := by
  obtain ⟨i, hi, hz, hs1, hb1⟩ := st8.info
  have hm : m = k.length := by have := hx.newsLen; simp [bvs_length] at this; omega
  subst hm
  obtain ⟨g, c, rfl, h1, h2, h3, h4, h5, h6⟩ := h
  by_cases hroom : l.length + k.length ≤ c
  · have hst := run_append_room_src (P := Tryd.prog) w 28 tx ty 5 i st8.under hi g 0 l.length c x k.length (bvs k) (by rw [hs1]; exact hx) hroom (fun j hj => by rw [bvs_length] at hj; rw [hs1]; have := (h6 (0 + l.length * 1 + j) (by omega)).1; exact this) (fun j hj => by rw [bvs_length] at hj; rw [hs1]; exact (h6 (0 + l.length * 1 + j) (by omega)).2)
    rw [hs1] at hst
    have e0 : 0 + l.length * 1 = l.length := by omega
    rw [e0] at hst
    refine ⟨_, _, hst, ⟨g, c, by rw [List.length_append], h1, Nat.lt_of_lt_of_le h2 (grown_setCells g _ _ w).size, by rw [List.length_append]; exact hroom, h4, fun j hj => ?_, fun j hj => ⟨?_, ?_⟩⟩, grown_setCells g _ _ w⟩
    · by_cases hjl : j < l.length
      · rw [World.cell?_setCells_out g _ _ _ _ (fun _ _ => Or.inl hjl), h5 j hjl]
        unfold bt
        rw [List.getD_eq_getElem?_getD, List.getD_eq_getElem?_getD, List.getElem?_append_left hjl]
      · rw [List.length_append] at hj
        have hin := World.cell?_setCells_in g (bvs k) l.length w (fun q hq => by rw [bvs_length] at hq; exact (h6 (l.length + q) (by omega)).1) (j - l.length) (by rw [bvs_length]; omega)
        rw [show l.length + (j - l.length) = j by omega] at hin
        rw [hin]
        have hb := bvs_get k (j - l.length) (by omega)
        rw [List.getElem?_eq_getElem (by rw [bvs_length]; omega)] at hb
        rw [hb]
        unfold bt
        rw [List.getD_eq_getElem?_getD, List.getD_eq_getElem?_getD, List.getElem?_append_right (by omega)]
    · exact World.isSome_setCells g _ _ w _ (h6 j hj).1
    · rw [World.frozen?_setCells]; exact (h6 j hj).2
  · have hold : (Builtin.firstCells i.size l.length (.slice (some ⟨g, 0, none⟩) l.length c)).run Tryd.prog w.drew = .ok (bvs l).toArray w.drew := by
      refine run_firstCells_some w.drew i.size l.length ⟨g, 0, none⟩ l.length c (bvs l) (by rw [bvs_length, hs1, Nat.mul_one]) ?_
      intro j u hu
      have hj : j < l.length := by have := (List.getElem?_eq_some_iff.1 hu).1; rwa [bvs_length] at this
      rw [bvs_get l j hj] at hu
      cases hu
      rw [add_lit, Nat.zero_add]
      exact h5 j hj
    have hr := run_append_grow_src (P := Tryd.prog) w 28 tx ty 5 i (.int .u8 0) st8.under hi hz (some ⟨g, 0, none⟩) l.length c (bvs l) hold x k.length (bvs k) (by rw [hs1]; exact hx) (by omega) (by omega) (growslice_fits (by omega) (by rw [hb1]; omega))
    have hge := grownCap_ge w (l.length + k.length) c 5
    have hcm : grownCap w (l.length + k.length) c 5 ≤ maxLen := grownCap_le_maxLen w (l.length + k.length) c 5 (by unfold maxLen; omega)
    refine ⟨_, _, hr, CRow.of_own (n := l.length + k.length) ?_ (by rw [List.length_append]), ⟨rfl, rfl, rfl, by simp, fun q hq _ => World.drew_heap_alloc_old w _ q hq⟩⟩
    refine ⟨by simp [bvs_length], .inr ⟨w.heap.size, _, _, rfl, hbase, heap_alloc_new w.drew _, hge, hcm, ?_, ?_⟩⟩
    · simp [size_zeroCells, Value.cells, bvs_length]; omega
    · have hl2 : (bvs l ++ bvs k).length = (l.length + k.length) * 1 := by simp [bvs_length]
      rw [bvs_append]
      simp only [Array.toList_append]
      rw [← hl2]
      exact List.take_left
theorem wpList_appC {w : World} {base : Nat} {ops : Array Oper} {rest : List Oper} {o : Oper} {a : Act} {Q : Exit → Act → World → Prop} {tx : TypeId} (hgd : o.guard = none) (s x : Operand)
    (ho : o.op = .call { callee := .builtin .append, args := #[s, x], argTypes := #[28, tx] })
    {v : Value} (hs : a.eval s = v) {l : List UInt8} (hown : CRow w base v l) {xv : Value} (hxv : a.eval x = xv) {m : Nat} {k : List UInt8} (hx : Src Tryd.prog 1 tx xv m (bvs k) w) (hlen : l.length + k.length ≤ 1000000000) (hbase : base ≤ w.heap.size)
    (h : ∀ v' w', CRow w' base v' (l ++ k) → w.grownBy w' v.ownBlock → wpList Tryd.prog ops Q rest (a.put o.dst v') w') : wpList Tryd.prog ops Q (o :: rest) a w := by
  obtain ⟨v', w', hr, h2, h3⟩ := run_append_crow hown tx o.type xv m k hx hlen hbase
  refine wpList_plain hgd fun K hK => ?_
  unfold Oper.wp execOp
  simp only [ho, resolve, invoke, builtin, Sem.run_bind, Sem.run_pure, Result.andThen_ok, List.map_toArray, List.map_cons, List.map_nil, hs, hxv, hr]
  exact hK _ _ (h v' w' h2 h3)
theorem src_text (tx : TypeId) (ht : Tryd.prog.underlying tx = some .string) (l : List UInt8) (w : World) : Src Tryd.prog 1 tx (.string (strB l)) (strB l).size (bvs l) w := Src.ofString w ht (strB l)
theorem CRow.base_le {w : World} {base : Nat} {v : Value} {l : List UInt8} (h : CRow w base v l) (k : Nat) (hk : v.ownBlock = some k) : base ≤ k := by
  obtain ⟨g, c, rfl, h1, _⟩ := h
  simp [Value.ownBlock] at hk; omega
end Go.Proofs.YtocfcgjjepegmaaDoor
