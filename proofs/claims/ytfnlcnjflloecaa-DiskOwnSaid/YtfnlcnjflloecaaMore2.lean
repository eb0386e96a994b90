/- More words for walks over bytes: a string's bytes as a slice, a constant's, 'append([]byte{}, x...)'. -/
import Derived.Test.YtfnlcnjflloecaaBase
import Derived.Test.YtfnlcnjflloecaaMore
import Derived.Lib.ConvBytes
import Derived.Lib.SlBytesConst
/-! ### Keep -/
set_option linter.unusedVariables false
set_option linter.unusedSimpArgs false
namespace Go.Proofs.Ytfnlcnjflloecaa
open Go.RowKit

theorem bvs_piece (l : List UInt8) (lo hi : Nat) : ((bvs l).take (hi * 1)).drop (lo * 1) = bvs ((l.take hi).drop lo) := by simp [bvs, List.map_take, List.map_drop]
theorem Rd.piece {w : World} {A : Option Addr} {c : Nat} {l : List UInt8} (h : Rd w (.slice A l.length c) l) (lo hi : Nat) (hl : lo ≤ hi) (hh : hi ≤ l.length) : Rd w (sliced A lo hi c 1) ((l.take hi).drop lo) := by
  have := RdW.piece h lo hi hl hh
  rw [bvs_piece] at this
  have e : ((l.take hi).drop lo).length = hi - lo := by simp; omega
  unfold Rd; rw [e]; exact this
theorem Rd.take {w : World} {A : Option Addr} {c : Nat} {l : List UInt8} (h : Rd w (.slice A l.length c) l) (m : Nat) (hm : m ≤ l.length) : Rd w (.slice A m c) (l.take m) := by
  obtain ⟨A', c', e, h1, h2, h3⟩ := h.open
  cases e
  refine Rd.mk (by simp; omega) (by omega) h2 fun hn => ?_
  obtain ⟨b, off, e, hc⟩ := h3 (by omega)
  refine ⟨b, off, e, fun j hj => ?_⟩
  rw [hc j (by omega)]
  unfold bt; simp [List.getD_eq_getElem?_getD, hj]
set_option maxHeartbeats 400000 in
theorem twin_c (v : Value) (l : List UInt8) (m : Int) (w : World) (h : Rd w v l) (hm0 : 0 ≤ m) (hm1 : m ≤ 1000000) :
    Calls Try.prog 31 #[v, .int .i64 m] w (Gives8 5 w (l.take m.toNat)) := by
  obtain ⟨m, rfl⟩ := Int.eq_ofNat_of_zero_le hm0
  rw [Int.toNat_natCast]
  have hm2 : m ≤ 1000000 := by omega
  have hll := h.len_le
  obtain ⟨A, c, rfl, h1, h2, h3⟩ := h.open
  unfold maxLen at h2
  clear h3
  by_cases hlt : m < l.length
  · have hT := h.take m (by omega)
    have hl : (l.take m).length = m := by simp; omega
    go_enter Try.func31, Try.ntmps31
    go_wp2_with (at_builtin; refine wpList_app8 rfl _ _ rfl st8 rfl (Own8.empty w w.heap.size _ (Nat.le_refl _)) rfl (Rd.src (Rd.below hT ((Below.refl _ _).alloc (Nat.le_refl _) _)) Try.underlying38) ?_ ?_ ?_)
    · simp; omega
    · simp
    · intro v' w' ho hg hb
      go_wp2
      go_ret
      exact ⟨v', rfl, ho, ((Below.refl _ _).alloc (Nat.le_refl _) _).grown hg (by simp) (by intro k hk; cases hk; exact Nat.le_refl _)⟩
  · go_enter Try.func31, Try.ntmps31
    rw [List.take_of_length_le (by omega)]
    go_wp2_with (at_builtin; refine wpList_app8 rfl _ _ rfl st8 rfl (Own8.empty w w.heap.size _ (Nat.le_refl _)) rfl (Rd.src (Rd.below h ((Below.refl _ _).alloc (Nat.le_refl _) _)) Try.underlying38) ?_ ?_ ?_)
    · simp; omega
    · simp
    · intro v' w' ho hg hb
      go_wp2
      go_ret
      exact ⟨v', rfl, ho, ((Below.refl _ _).alloc (Nat.le_refl _) _).grown hg (by simp) (by intro k hk; cases hk; exact Nat.le_refl _)⟩
end Go.Proofs.Ytfnlcnjflloecaa
/-! ### More2 -/
set_option linter.unusedVariables false
set_option linter.unusedSimpArgs false
namespace Go.Proofs.Ytfnlcnjflloecaa
open Go.RowKit
/-- '[]byte(s)': new memory that reads as the string's bytes. -/
theorem conv_bytes (w : World) (s : ByteArray) (hs : s.size ≤ 100000000000) : ∃ v w', (convert 9 38 (.string s)).run Try.prog w = .ok v w' ∧ Rd w' v s.data.toList ∧ v.ownBlock = some w.heap.size ∧ Below w.heap.size w w' := by
  refine ⟨_, _, Lib.run_convert_string_bytes w _ _ _ s Try.underlying9 Try.underlying38 Try.underlying5, ?_, rfl, ?_⟩
  · have hz : s.size = s.data.toList.length := by rw [Array.length_toList]; rfl
    refine Rd.mk hz (grownCap_ge _ _ _ _) (grownCap_le_maxLen _ _ _ _ (by unfold maxLen; omega)) fun hn => ⟨w.heap.size, 0, rfl, fun j hj => ?_⟩
    rw [Nat.zero_add, Lib.bytesWorld_cell w _ s j hj]
    rfl
  · exact ⟨rfl, rfl, rfl, by rw [Lib.bytesWorld_size]; omega, fun k hk => Lib.bytesWorld_at_old w _ s k hk⟩
/-- A bytes' block of which a piece may be frozen, but no place of it below n. -/
structure BRow (w : World) (g n c : Nat) (l : List UInt8) : Prop where
  len : n = l.length
  le : n ≤ c
  max : c ≤ maxLen
  row : ∃ cs e fr, w.heap[g]? = some (.cells cs e (fr, fr + 1)) ∧ n ≤ fr ∧ ∀ j, j < n → cs[j]? = some (.int .u8 (bt l j))
theorem BRow.rd {w : World} {g n c : Nat} {l : List UInt8} (h : BRow w g n c l) : Rd w (.slice (some ⟨g, 0, none⟩) n c) l := by
  obtain ⟨cs, e, fr, hg, _, hc⟩ := h.row
  refine Rd.mk h.len h.le h.max fun hn => ⟨g, 0, rfl, fun j hj => ?_⟩
  rw [cell_of_row w g (0 + j) cs e _ hg, Nat.zero_add]
  exact hc j hj
theorem BRow.cell {w : World} {g n c : Nat} {l : List UInt8} (h : BRow w g n c l) (j : Nat) (hj : j < n) : w.cell? ⟨g, j, none⟩ = some (.int .u8 (bt l j)) := by
  obtain ⟨cs, e, fr, hg, _, hc⟩ := h.row
  rw [cell_of_row w g j cs e _ hg]; exact hc j hj
theorem BRow.frozen {w : World} {g n c : Nat} {l : List UInt8} (h : BRow w g n c l) (j : Nat) (hj : j < n) : w.frozen? ⟨g, j, none⟩ = false := by
  obtain ⟨cs, e, fr, hg, hf, hc⟩ := h.row
  unfold World.frozen?
  simp only [hg]
  have : ¬ fr ≤ j := by omega
  simp [this]
theorem BRow.stored {w : World} {g n c : Nat} {l : List UInt8} (h : BRow w g n c l) (j : Nat) (hj : j < n) (b : UInt8) : BRow (w.setCell ⟨g, j, none⟩ (.int .u8 (b.toNat : Int))) g n c (l.set j b) := by
  obtain ⟨cs, e, fr, hg, hf, hc⟩ := h.row
  refine ⟨by rw [List.length_set]; exact h.len, h.le, h.max, cs.setIfInBounds j (.int .u8 (b.toNat : Int)), e, fr, ?_, hf, fun k hk => ?_⟩
  · unfold World.setCell
    simp only [Array.getElem?_modify, if_pos]
    rw [hg]
    simp
  · have hl := h.len
    have hcs : j < cs.size := (Array.getElem?_eq_some_iff.1 (hc j hj)).1
    rw [Array.getElem?_setIfInBounds]
    by_cases e1 : j = k
    · subst e1
      rw [if_pos rfl, if_pos hcs, bt_get _ _ (by rw [List.length_set]; omega)]
      simp
    · rw [if_neg e1, hc k hk, bt_get _ _ (by omega), bt_get _ _ (by rw [List.length_set]; omega), List.getElem_set_ne e1]
theorem conv_brow (w : World) (s : ByteArray) (hs : s.size ≤ 100000000000) : ∃ v w', (convert 9 38 (.string s)).run Try.prog w = .ok v w' ∧ ∃ c, v = .slice (some ⟨w.heap.size, 0, none⟩) s.size c ∧ BRow w' w.heap.size s.size c s.data.toList ∧ Below w.heap.size w w' := by
  refine ⟨_, _, Lib.run_convert_string_bytes w _ _ _ s Try.underlying9 Try.underlying38 Try.underlying5, _, rfl, ?_, ?_⟩
  · have hz : s.size = s.data.toList.length := by rw [Array.length_toList]; rfl
    refine ⟨hz, grownCap_ge _ _ _ _, grownCap_le_maxLen _ _ _ _ (by unfold maxLen; omega), _, _, _, Lib.bytesWorld_at_new w _ s, ?_, fun j hj => ?_⟩
    · have := grownCap_ge w s.size 0 5
      have e : (Lib.bytesCells w 5 s).size = s.size + (grownCap w s.size 0 5 - s.size) := by unfold Lib.bytesCells; simp
      omega
    · have := Lib.bytesWorld_cell w 5 s j hj
      rw [cell_of_row _ _ _ _ _ _ (Lib.bytesWorld_at_new w _ s)] at this
      exact this
  · exact ⟨rfl, rfl, rfl, by rw [Lib.bytesWorld_size]; omega, fun k hk => Lib.bytesWorld_at_old w _ s k hk⟩
section
variable {w : World} {ops : Array Oper} {rest : List Oper} {a : Act} {Q : Exit → Act → World → Prop} {d x : Nat} {ty : TypeId} {pos : String} {after : Array Edge} {ts tb : TypeId}
theorem G_conv {P : Program} (h : wpList P ops Q ({ dst := some d, op := .convert ts tb (.tmp x), type := ty, pos := pos, after := after, guard := none } :: rest) a w) :
    wpList P ops Q ({ dst := some d, op := .convert ts tb (.tmp x), type := ty, pos := pos, after := after, guard := none } :: rest) a w := h
theorem L_convb {P : Program} {s : ByteArray} (hv : a.eval (.tmp x) = .string s) {R : Value → World → Prop} (hc : ∃ v w', (convert ts tb (.string s)).run P w = .ok v w' ∧ R v w')
    (h : ∀ v w', R v w' → wpList P ops Q rest (a.put (some d) v) w') :
    wpList P ops Q ({ dst := some d, op := .convert ts tb (.tmp x), type := ty, pos := pos, after := after, guard := none } :: rest) a w := by
  obtain ⟨v, w', hr, h1⟩ := hc
  refine wpList_plain rfl fun K hK => ?_
  unfold Oper.wp execOp
  simp [hv, hr, Oper.upon]
  exact hK _ _ (h v w' h1)
end
/-- A slice of a slice, as an equation for the walk to use (for bounds that are constants). -/
theorem slice_run_h {W : World} {v : Value} {l : List UInt8} (h : Rd W v l) (hi : Nat) (hh : hi ≤ l.length) : ∃ v', (∀ w, (Instr.sliceAt 38 v none (some (.int .i64 (hi : Int))) none).run Try.prog w = .ok v' w) ∧ Rd W v' (l.take hi) ∧ v'.ownBlock = v.ownBlock := by
  obtain ⟨A, c, rfl, h1, _, _⟩ := h.open
  refine ⟨_, fun w => (run_sliced (w := w) st8 A l.length c 0 hi (Nat.zero_le _) hh h1 .i64 .i64).2.1, ?_, sliced_block ..⟩
  have hp := h.piece 0 hi (Nat.zero_le _) hh
  simpa using hp
theorem slice_run_l {W : World} {v : Value} {l : List UInt8} (h : Rd W v l) (lo : Nat) (hh : lo ≤ l.length) : ∃ v', (∀ w, (Instr.sliceAt 38 v (some (.int .i64 (lo : Int))) none none).run Try.prog w = .ok v' w) ∧ Rd W v' (l.drop lo) ∧ v'.ownBlock = v.ownBlock := by
  obtain ⟨A, c, rfl, h1, _, _⟩ := h.open
  refine ⟨_, fun w => (run_sliced (w := w) st8 A l.length c lo l.length hh (Nat.le_refl _) h1 .i64 .i64).2.2, ?_, sliced_block ..⟩
  have hp := h.piece lo l.length hh (Nat.le_refl _)
  simpa using hp
theorem Own8.rebase2 {w : World} {base b : Nat} {e : TypeId} {v : Value} {l : List UInt8} (h : Own8 w base e v l) (hb : ∀ g, v.ownBlock = some g → b ≤ g) : Own8 w b e v l := by
  refine ⟨h.1, ?_⟩
  rcases h.2 with h2 | ⟨g, cap, cur, rfl, _, rest⟩
  · exact .inl h2
  · exact .inr ⟨g, cap, cur, rfl, hb g rfl, rest⟩
theorem kconst (w : World) (C : Array Value) (n c g : Nat) (hg : g = w.heap.size) : (convert 38 38 (.slice (some ⟨g, 0, none⟩) n c)).run Try.prog (w.alloc (.cells C 5)) = .ok (.slice (some ⟨g, 0, none⟩) n c) (w.alloc (.cells C 5 (C.size, C.size + 1))) := by
  subst hg; exact Lib.run_convert_bytes_const (P := Try.prog) w 38 5 C n c Try.underlying38 Try.underlying5
/-- 'append([]byte{}, x...)': a copy in new memory. -/
theorem wpList_cp8 {P : Program} {w : World} {t tx e : TypeId} {ops : Array Oper} {rest : List Oper} {o : Oper} {a : Act} {Q : Exit → Act → World → Prop} (hgd : o.guard = none) (s x : Operand)
    (ho : o.op = .call { callee := .builtin .append, args := #[s, x], argTypes := #[t, tx] }) (ST : SlTy P t e 1 1 (.int .u8 0)) (hT : P.underlying tx = some (.slice e))
    (hs : a.eval s = .slice (some ⟨w.heap.size, 0, none⟩) 0 0)
    {xv : Value} (hxv : a.eval x = xv) {k : List UInt8} (hx : Rd w xv k) (hbytes : k.length ≤ 140737488355328)
    (h : ∀ v' w', Own8 w' w.heap.size e v' k → Below w.heap.size w w' → wpList P ops Q rest (a.put o.dst v') w') :
    wpList P ops Q (o :: rest) a (w.alloc (.cells #[] e)) := by
  have hA := (Below.refl w.heap.size w).alloc (Nat.le_refl _) (.cells #[] e)
  refine wpList_app8 hgd s x ho ST hs (Own8.empty w w.heap.size e (Nat.le_refl _)) hxv (Rd.src (hx.below hA) hT) (by simpa using hbytes) hA.size fun v' w' h1 h2 h3 => ?_
  exact h v' w' (by simpa using h1) (app_step0 hA (Own8.empty w w.heap.size e (Nat.le_refl _)) (Nat.le_refl _) h2).1
theorem wpList_want {P : Program} {w : World} {ops : Array Oper} {rest : List Oper} {o : Oper} {a : Act} {Q : Exit → Act → World → Prop} (hw : Region.wanted o (yielded ops a.tmps) = true)
    (h : ∀ K : Act → World → Prop, (∀ a w, wpList P ops Q rest a w → K a w) → o.wp P a w K Q) : wpList P ops Q (o :: rest) a w :=
  wpList_step fun K hK => by rw [if_pos hw]; exact h K hK
theorem wpList_app8w {P : Program} {w : World} {base : Nat} {t tx e : TypeId} {ops : Array Oper} {rest : List Oper} {o : Oper} {a : Act} {Q : Exit → Act → World → Prop} (hw : Region.wanted o (yielded ops a.tmps) = true) (s x : Operand)
    (ho : o.op = .call { callee := .builtin .append, args := #[s, x], argTypes := #[t, tx] }) (ST : SlTy P t e 1 1 (.int .u8 0))
    {v : Value} (hs : a.eval s = v) {l : List UInt8} (hown : Own8 w base e v l)
    {xv : Value} (hxv : a.eval x = xv) {k : List UInt8} (hx : Src P 1 tx xv k.length (bvs k) w) (hbytes : l.length + k.length ≤ 140737488355328) (hbase : base ≤ w.heap.size)
    (h : ∀ v' w', Own8 w' base e v' (l ++ k) → w.grownBy w' v.ownBlock → (v'.ownBlock = v.ownBlock ∨ v'.ownBlock = some w.heap.size) → wpList P ops Q rest (a.put o.dst v') w') :
    wpList P ops Q (o :: rest) a w :=
  wpList_want hw fun _ hK => wp_app s x ho ST hs hown hxv hx (by unfold maxLen; omega) (by omega) hbase fun v' w' h2 h3 h4 => hK _ _ (h v' w' (by unfold Own8; rw [bvs_append, List.length_append]; exact h2) h3 h4)
theorem wpList_cp8w {P : Program} {w : World} {t tx e : TypeId} {ops : Array Oper} {rest : List Oper} {o : Oper} {a : Act} {Q : Exit → Act → World → Prop} (hw : Region.wanted o (yielded ops a.tmps) = true) (s x : Operand)
    (ho : o.op = .call { callee := .builtin .append, args := #[s, x], argTypes := #[t, tx] }) (ST : SlTy P t e 1 1 (.int .u8 0)) (hT : P.underlying tx = some (.slice e))
    (hs : a.eval s = .slice (some ⟨w.heap.size, 0, none⟩) 0 0)
    {xv : Value} (hxv : a.eval x = xv) {k : List UInt8} (hx : Rd w xv k) (hbytes : k.length ≤ 140737488355328)
    (h : ∀ v' w', Own8 w' w.heap.size e v' k → Below w.heap.size w w' → wpList P ops Q rest (a.put o.dst v') w') :
    wpList P ops Q (o :: rest) a (w.alloc (.cells #[] e)) := by
  have hA := (Below.refl w.heap.size w).alloc (Nat.le_refl _) (.cells #[] e)
  refine wpList_app8w hw s x ho ST hs (Own8.empty w w.heap.size e (Nat.le_refl _)) hxv (Rd.src (hx.below hA) hT) (by simpa using hbytes) hA.size fun v' w' h1 h2 h3 => ?_
  exact h v' w' (by simpa using h1) (app_step0 hA (Own8.empty w w.heap.size e (Nat.le_refl _)) (Nat.le_refl _) h2).1
theorem strB_size (l : List UInt8) : (strB l).size = l.length := by simp [strB, ByteArray.size]
theorem strB_append (a b : List UInt8) : strB a ++ strB b = strB (a ++ b) := by
  apply ByteArray.ext
  simp [strB]
theorem strB_toList (l : List UInt8) : (strB l).toList = l := by rw [ByteArray.toList_eq]; rfl
theorem strB_beq (a b : List UInt8) : ((strB a).toList == (strB b).toList) = decide (a = b) := by rw [strB_toList, strB_toList]; by_cases h : a = b <;> simp [h]
end Go.Proofs.Ytfnlcnjflloecaa
