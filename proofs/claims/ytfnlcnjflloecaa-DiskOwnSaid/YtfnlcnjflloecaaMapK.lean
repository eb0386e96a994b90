/- Maps with text keys, told by a plain function: looked up, updated, deleted from; their entries bear stamps, so that they can be ranged over. -/
import Derived.Test.YtfnlcnjflloecaaMore2
import Derived.Maps.Range
import Derived.Sort.KeysCollected
set_option linter.unusedVariables false
set_option linter.unusedSimpArgs false
namespace Go.Proofs.Ytfnlcnjflloecaa
open Go.RowKit Go.MapKept
/-- Block r of w is a map that holds just f. -/
def MapK (w : World) (r : Nat) (f : ByteArray → Option Value) : Prop := ∃ es clock, w.heap[r]? = some (.map es clock) ∧ (∀ x ∈ es.toList, ∃ s, x.key = .string s) ∧ Stamped es clock ∧
  ∀ s v, f s = some v ↔ ∃ x ∈ es.toList, x.key = .string s ∧ x.val = v
theorem MapK.lt {w : World} {r : Nat} {f : ByteArray → Option Value} (h : MapK w r f) : r < w.heap.size := by obtain ⟨es, c, h1, _⟩ := h; exact (Array.getElem?_eq_some_iff.1 h1).1
theorem MapK.loc {w w' : World} {r : Nat} {f : ByteArray → Option Value} (h : MapK w r f) (hk : w'.heap[r]? = w.heap[r]?) : MapK w' r f := by
  obtain ⟨es, c, h1, h2⟩ := h
  exact ⟨es, c, hk.trans h1, h2⟩
theorem MapK.below {w w' : World} {r : Nat} {f : ByteArray → Option Value} (h : MapK w r f) (hb : Below w.heap.size w w') : MapK w' r f := h.loc (hb.block r h.lt)
theorem MapK.grown {w w' : World} {r : Nat} {f : ByteArray → Option Value} {row : Option Nat} (h : MapK w r f) (hg : w.grownBy w' row) (hne : some r ≠ row) : MapK w' r f := h.loc (hg.block r h.lt hne)
theorem MapK.drew {w : World} {r : Nat} {f : ByteArray → Option Value} (h : MapK w r f) : MapK w.drew r f := h
theorem MapK.new (w : World) (c : Nat) : MapK (w.alloc (.map #[] c)) w.heap.size (fun _ => none) := by
  refine ⟨#[], c, ?_, by simp, stamped_empty c, by simp⟩
  show (w.heap.push _)[w.heap.size]? = _
  simp
theorem isKeyK (l : List MapEntry) (h : ∀ x ∈ l, ∃ s, x.key = .string s) : ∀ x ∈ l, IsKey .string x.key := by
  intro x hx
  obtain ⟨s, hs⟩ := h x hx
  rw [hs]; trivial
theorem keys_nodup {es : Array MapEntry} {c : Nat} (h : Stamped es c) : (es.toList.map (·.key)).Nodup := by
  have := ((stamped_iff es c).1 h).2.2
  unfold List.Nodup
  rw [List.pairwise_map]
  exact this
theorem run_lookupK {P : Program} {w : World} {r : Nat} {f : ByteArray → Option Value} (h : MapK w r f) {mt kt et : TypeId} (hm : P.underlying mt = some (.map kt et)) (hk : P.underlying kt = some .string) {z : Value} (hz : (P.info? et).map (·.zero) = some (some z)) (s : ByteArray) :
    (Instr.lookup mt (.map (some r)) (.string s) true).run P w = .ok (.tuple #[(f s).getD z, .bool (f s).isSome]) w ∧ (Instr.lookup mt (.map (some r)) (.string s) false).run P w = .ok ((f s).getD z) w := by
  obtain ⟨es, c, h1, h2, h3, h4⟩ := h
  have hK : IsKey .string (Value.string s) := trivial
  have hz2 : (zeroValue et).run P w = .ok z w := by
    cases hq : P.info? et with
    | none => simp [hq] at hz
    | some i =>
      have hzz : i.zero = some z := by simpa [hq] using hz
      simp [zeroValue, typeInfo, hq, hzz]
  rcases findNow_spec hK es.toList 0 (isKeyK _ h2) with ⟨h5, h6⟩ | ⟨j, e, h5, h6, h7⟩
  · have hn : f s = none := by
      cases hf : f s with
      | none => rfl
      | some v => obtain ⟨x, hx, hk, _⟩ := (h4 s v).1 hf; exact absurd hk (h6 x hx)
    constructor
    · simp only [Instr.lookup, Sem.run_bind, run_underlying hm, Go.MapKept.run_getObj_map h1, Sem.run_pure, run_checkKey hk hK, run_findKey hk h5, Result.andThen, hz2, hn]
      rfl
    · simp only [Instr.lookup, Sem.run_bind, run_underlying hm, Go.MapKept.run_getObj_map h1, Sem.run_pure, run_checkKey hk hK, run_findKey hk h5, Result.andThen, hz2, hn]
      rfl
  · have hs : f s = some e.val := (h4 s e.val).2 ⟨e, List.mem_of_getElem? h6, h7, rfl⟩
    constructor
    · simp only [Instr.lookup, Sem.run_bind, run_underlying hm, Go.MapKept.run_getObj_map h1, Sem.run_pure, run_checkKey hk hK, run_findKey hk h5, Result.andThen, hs]
      rfl
    · simp only [Instr.lookup, Sem.run_bind, run_underlying hm, Go.MapKept.run_getObj_map h1, Sem.run_pure, run_checkKey hk hK, run_findKey hk h5, Result.andThen, hs]
      rfl
theorem run_updateK {P : Program} {w : World} {r : Nat} {f : ByteArray → Option Value} (h : MapK w r f) {mt kt et : TypeId} (hm : P.underlying mt = some (.map kt et)) (hk : P.underlying kt = some .string) (s : ByteArray) (v : Value) :
    ∃ w', (Instr.mapUpdate mt (.map (some r)) (.string s) v).run P w = .ok () w' ∧ MapK w' r (fun t => if t = s then some v else f t) ∧ w.grownBy w' (some r) ∧ w'.heap.size = w.heap.size := by
  obtain ⟨es, c, h1, h2, h3, h4⟩ := h
  have hK : IsKey .string (Value.string s) := trivial
  have grown : ∀ o, w.grownBy { w with heap := w.heap.setIfInBounds r o } (some r) := fun o => ⟨rfl, rfl, rfl, by simp, fun k _ hne => (heap_set h1).2 k (fun e => hne (by rw [e]))⟩
  rcases findNow_spec hK es.toList 0 (isKeyK _ h2) with ⟨h5, h6⟩ | ⟨j, e, h5, h6, h7⟩
  · refine ⟨{ w with heap := w.heap.setIfInBounds r (.map (es.push { key := .string s, val := v, born := c }) (c + 1)) }, ?_, ⟨_, _, (heap_set h1).1, ?_, stamped_push h3 h6, ?_⟩, grown _, by simp⟩
    · simp [Instr.mapUpdate, run_underlying hm, Go.MapKept.run_getObj_map h1, run_checkKey hk hK, run_findKey hk h5, run_setObj_map _ h1, Result.andThen]
    · intro x hx
      simp only [Array.toList_push, List.mem_append, List.mem_singleton] at hx
      rcases hx with hx | rfl
      · exact h2 x hx
      · exact ⟨s, rfl⟩
    · intro t u
      show (if t = s then some v else f t) = some u ↔ _
      simp only [Array.toList_push, List.mem_append, List.mem_singleton]
      by_cases ht : t = s
      · subst ht
        rw [if_pos rfl]
        constructor
        · intro h; cases h; exact ⟨_, .inr rfl, rfl, rfl⟩
        · rintro ⟨x, hx | rfl, hk, hv⟩
          · exact absurd hk (h6 x hx)
          · rw [← hv]
      · rw [if_neg ht, h4]
        constructor
        · rintro ⟨x, hx, a, b⟩; exact ⟨x, .inl hx, a, b⟩
        · rintro ⟨x, hx | rfl, a, b⟩
          · exact ⟨x, hx, a, b⟩
          · simp at a; exact absurd a.symm ht
  · have hj : es[j]? = some e := by simpa using h6
    have hje : j < es.size := (Array.getElem?_eq_some_iff.1 hj).1
    have hkeep : ∀ e', es[j]? = some e' → ({ e' with key := Value.string s, val := v } : MapEntry).key = e'.key := fun e' he' => by
      rw [hj] at he'; cases he'; exact h7.symm
    have hget : (es.modify j fun e' => { e' with key := Value.string s, val := v })[j]? = some { e with key := .string s, val := v } := by
      rw [Array.getElem?_modify, if_pos rfl, hj]; rfl
    have hoth : ∀ k, k ≠ j → (es.modify j fun e' => { e' with key := Value.string s, val := v })[k]? = es[k]? := fun k hne => by
      rw [Array.getElem?_modify, if_neg (fun e => hne e.symm)]
    have hnd := keys_nodup h3
    refine ⟨{ w with heap := w.heap.setIfInBounds r (.map (es.modify j fun e' => { e' with key := .string s, val := v }) c) }, ?_, ⟨_, _, (heap_set h1).1, ?_, stamped_modify h3 j _ (fun e' _ => rfl) (fun e' _ he' => hkeep e' he'), ?_⟩, grown _, by simp⟩
    · simp [Instr.mapUpdate, run_underlying hm, Go.MapKept.run_getObj_map h1, run_checkKey hk hK, run_findKey hk h5, hj, h7, run_keyThatStays hK, run_setObj_map _ h1, Result.andThen]
    · intro x hx
      rw [Array.mem_toList_iff, Array.mem_iff_getElem?] at hx
      obtain ⟨k, hk'⟩ := hx
      by_cases hkj : k = j
      · subst hkj; rw [hget] at hk'; cases hk'; exact ⟨s, rfl⟩
      · rw [hoth k hkj] at hk'; exact h2 x (by rw [Array.mem_toList_iff, Array.mem_iff_getElem?]; exact ⟨k, hk'⟩)
    · intro t u
      show (if t = s then some v else f t) = some u ↔ _
      by_cases ht : t = s
      · subst ht
        rw [if_pos rfl]
        constructor
        · intro h; cases h
          exact ⟨_, by rw [Array.mem_toList_iff, Array.mem_iff_getElem?]; exact ⟨j, hget⟩, rfl, rfl⟩
        · rintro ⟨x, hx, a, b⟩
          rw [Array.mem_toList_iff, Array.mem_iff_getElem?] at hx
          obtain ⟨k, hk'⟩ := hx
          by_cases hkj : k = j
          · subst hkj; rw [hget] at hk'; cases hk'; rw [← b]
          · rw [hoth k hkj] at hk'
            exfalso
            have hkl := (Array.getElem?_eq_some_iff.1 hk').1
            apply hkj
            refine (List.getElem_inj (h₀ := by simpa using hkl) (h₁ := by simpa using hje) hnd).1 ?_
            simp only [List.getElem_map, Array.getElem_toList]
            rw [(Array.getElem?_eq_some_iff.1 hk').2, (Array.getElem?_eq_some_iff.1 hj).2, a, h7]
      · rw [if_neg ht, h4]
        constructor
        · rintro ⟨x, hx, a, b⟩
          rw [Array.mem_toList_iff, Array.mem_iff_getElem?] at hx
          obtain ⟨k, hk'⟩ := hx
          have hkj : k ≠ j := by
            rintro rfl
            rw [hj] at hk'; cases hk'
            rw [h7] at a; simp at a; exact ht a.symm
          exact ⟨x, by rw [Array.mem_toList_iff, Array.mem_iff_getElem?]; exact ⟨k, by rw [hoth k hkj]; exact hk'⟩, a, b⟩
        · rintro ⟨x, hx, a, b⟩
          rw [Array.mem_toList_iff, Array.mem_iff_getElem?] at hx
          obtain ⟨k, hk'⟩ := hx
          by_cases hkj : k = j
          · subst hkj; rw [hget] at hk'; cases hk'; simp at a; exact absurd a.symm ht
          · rw [hoth k hkj] at hk'
            exact ⟨x, by rw [Array.mem_toList_iff, Array.mem_iff_getElem?]; exact ⟨k, hk'⟩, a, b⟩
theorem run_deleteK {P : Program} {w : World} {r : Nat} {f : ByteArray → Option Value} (h : MapK w r f) {mt kt et : TypeId} (hm : P.underlying mt = some (.map kt et)) (hk : P.underlying kt = some .string) (ty : TypeId) (s : ByteArray) :
    ∃ w', (Builtin.delete_ #[mt, kt] ty #[.map (some r), .string s]).run P w = .ok (.tuple #[]) w' ∧ MapK w' r (fun t => if t = s then none else f t) ∧ w.grownBy w' (some r) ∧ w'.heap.size = w.heap.size := by
  obtain ⟨es, c, h1, h2, h3, h4⟩ := h
  have hK : IsKey .string (Value.string s) := trivial
  have grown : ∀ o, w.grownBy { w with heap := w.heap.setIfInBounds r o } (some r) := fun o => ⟨rfl, rfl, rfl, by simp, fun k _ hne => (heap_set h1).2 k (fun e => hne (by rw [e]))⟩
  rcases findNow_spec hK es.toList 0 (isKeyK _ h2) with ⟨h5, h6⟩ | ⟨j, e, h5, h6, h7⟩
  · refine ⟨{ w with heap := w.heap.setIfInBounds r (.map es c) }, ?_, ⟨es, c, (heap_set h1).1, h2, h3, fun t u => ?_⟩, grown _, by simp⟩
    · simp [Builtin.delete_, run_underlying hm, Go.MapKept.run_getObj_map h1, run_checkKey hk hK, run_findKey hk h5, run_setObj_map _ h1, Result.andThen]
    · show (if t = s then none else f t) = some u ↔ _
      by_cases ht : t = s
      · subst ht
        rw [if_pos rfl]
        exact ⟨fun h => (by cases h), fun ⟨x, hx, a, _⟩ => absurd a (h6 x hx)⟩
      · rw [if_neg ht, h4]
  · have hjl : j < es.toList.length := (List.getElem?_eq_some_iff.1 h6).1
    have hjs : j < es.size := by simpa using hjl
    have hsub : (es.eraseIdxIfInBounds j).toList = es.toList.eraseIdx j := by
      unfold Array.eraseIdxIfInBounds
      rw [dif_pos hjs]
      simp
    have hnd := keys_nodup h3
    refine ⟨{ w with heap := w.heap.setIfInBounds r (.map (es.eraseIdxIfInBounds j) c) }, ?_, ⟨_, c, (heap_set h1).1, ?_, stamped_erase h3 j, fun t u => ?_⟩, grown _, by simp⟩
    · simp [Builtin.delete_, run_underlying hm, Go.MapKept.run_getObj_map h1, run_checkKey hk hK, run_findKey hk h5, run_setObj_map _ h1, Result.andThen]
    · intro x hx
      rw [hsub] at hx
      exact h2 x ((List.eraseIdx_sublist _ _).subset hx)
    · show (if t = s then none else f t) = some u ↔ _
      rw [hsub]
      by_cases ht : t = s
      · subst ht
        rw [if_pos rfl]
        constructor
        · intro h; cases h
        · rintro ⟨x, hx, a, _⟩
          exfalso
          obtain ⟨i, hne, hi⟩ := List.mem_eraseIdx_iff_getElem?.1 hx
          apply hne
          have hil := (List.getElem?_eq_some_iff.1 hi).1
          refine (List.getElem_inj (h₀ := by simpa using hil) (h₁ := by simpa using hjl) hnd).1 ?_
          simp only [List.getElem_map]
          rw [(List.getElem?_eq_some_iff.1 hi).2, (List.getElem?_eq_some_iff.1 h6).2, a, h7]
      · rw [if_neg ht, h4]
        constructor
        · rintro ⟨x, hx, a, b⟩
          refine ⟨x, List.mem_eraseIdx_iff_getElem?.2 ?_, a, b⟩
          obtain ⟨i, hi⟩ := List.mem_iff_getElem?.1 hx
          refine ⟨i, fun e1 => ?_, hi⟩
          subst e1
          rw [h6] at hi; cases hi
          rw [h7] at a; simp at a; exact ht a.symm
        · rintro ⟨x, hx, a, b⟩
          exact ⟨x, (List.eraseIdx_sublist _ _).subset hx, a, b⟩
/-! ### ranging: its keys, sorted -/
/-- How an element reads where nothing is asked of it. -/
def anyR : Value → Option (DataW Unit × List MemPlace) := fun _ => some (.nil, [])
theorem MapK.owns {P : Program} {w : World} {r : Nat} {f : ByteArray → Option Value} (h : MapK w r f) {kt : TypeId} (hk : P.underlying kt = some .string) {names : List (List UInt8)} (hn : names.Nodup)
    (hm : ∀ s : List UInt8, s ∈ names ↔ (f (strB s)).isSome = true) (hl : ∀ s ∈ names, s.length ≤ maxLen) (hc : names.length ≤ maxLen) :
    ∃ D : DataW Unit, w.ownsMap P kt anyR r names.length D ∧ Maps.size D = names.length ∧ (strKeys D).Perm names := by
  obtain ⟨es, c, h1, h2, h3, h4⟩ := h
  have K := Maps.string_keyed hk
  have hks : ∀ x ∈ es.toList, ∃ s : List UInt8, x.key = .string (strB s) ∧ s ∈ names := fun x hx => by
    obtain ⟨s, hs⟩ := h2 x hx
    refine ⟨s.data.toList, hs, (hm _).2 ?_⟩
    have : f s = some x.val := (h4 s x.val).2 ⟨x, hx, hs, rfl⟩
    show (f s).isSome = true
    rw [this]; rfl
  have hkey : ∀ s : List UInt8, s ∈ names → keyOf P kt (.string (strB s)) = some (.string s) := fun s hs => by
    have hb : (strB s).size ≤ maxLen := by rw [strB_size]; exact hl s hs
    simp [keyOf, hk, mapKey, hb]
    rfl
  have hnd := keys_nodup h3
  have hp : (es.toList.map fun x => (x.key : Value)).Perm (names.map fun s => Value.string (strB s)) := by
    refine (List.perm_ext_iff_of_nodup hnd ?_).2 fun v => ?_
    · unfold List.Nodup
      rw [List.pairwise_map]
      exact hn.imp fun hne e => hne (by injection e with e; exact (strB_eq _ _).1 e)
    · constructor
      · intro hv
        obtain ⟨x, hx, rfl⟩ := List.mem_map.1 hv
        obtain ⟨s, hs, hs2⟩ := hks x hx
        exact List.mem_map.2 ⟨s, hs2, hs.symm⟩
      · intro hv
        obtain ⟨s, hs, rfl⟩ := List.mem_map.1 hv
        have := (hm s).1 hs
        obtain ⟨v, hv⟩ := Option.isSome_iff_exists.1 this
        obtain ⟨x, hx, a, _⟩ := (h4 _ v).1 hv
        exact List.mem_map.2 ⟨x, hx, a⟩
  have hsz : es.size = names.length := by
    have := hp.length_eq
    simpa using this
  have F : WideElems.Fit P kt anyR es c := ⟨by omega, h3, fun x hx => by
    obtain ⟨s, hs, hs2⟩ := hks x hx
    refine ⟨(.string s, .nil), ?_⟩
    simp only [WideElems.rd, hs, hkey s hs2, anyR]
    rfl⟩
  have hrg : ∀ x ∈ es.toList, ∃ s, x.key = .string (strB s) ∧ WideElems.rg P kt anyR x = (.string s, .nil) := fun x hx => by
    obtain ⟨s, hs, hs2⟩ := hks x hx
    refine ⟨s, hs, ?_⟩
    simp only [WideElems.rg, WideElems.rd, hs, hkey s hs2, anyR]
    rfl
  refine ⟨_, ⟨es, c, h1, F, by omega, rfl⟩, ?_, ?_⟩
  · simp only [Maps.size, length_sorted, List.length_map, Array.length_toList]; exact hsz
  · show ((((es.toList.map (WideElems.rg P kt anyR)).foldr DataW.insert []).map fun p => strOf p.1)).Perm names
    refine ((WideShapes.sorted_perm _).map _).trans ?_
    rw [List.map_map]
    have hq := hp.map (fun v : Value => match v with | .string s => s.data.toList | _ => [])
    rw [List.map_map, List.map_map] at hq
    have e1 : (names.map ((fun v : Value => match v with | .string s => s.data.toList | _ => []) ∘ fun s => Value.string (strB s))) = names := by
      refine (List.map_congr_left fun s _ => ?_).trans (List.map_id _)
      rfl
    have e2 : (es.toList.map ((fun p => strOf p.1) ∘ WideElems.rg P kt anyR)) = es.toList.map ((fun v : Value => match v with | .string s => s.data.toList | _ => []) ∘ fun x => (x.key : Value)) := by
      refine List.map_congr_left fun x hx => ?_
      obtain ⟨s, hs, hr⟩ := hrg x hx
      simp only [Function.comp, hr, hs]
      rfl
    rw [e1] at hq
    rw [e2]
    exact hq
/-! ### at the operations -/
theorem GK_mapupd {P : Program} {w : World} {ops : Array Oper} {rest : List Oper} {a : Act} {Q : Exit → Act → World → Prop} {x y z : Operand} {t ty : TypeId} {pos : String} {after : Array Edge}
    (h : wpList P ops Q ({ dst := none, op := .mapUpdate t x y z, type := ty, pos := pos, after := after, guard := none } :: rest) a w) :
    wpList P ops Q ({ dst := none, op := .mapUpdate t x y z, type := ty, pos := pos, after := after, guard := none } :: rest) a w := h
theorem LK_mapupd {P : Program} {w : World} {ops : Array Oper} {rest : List Oper} {a : Act} {Q : Exit → Act → World → Prop} {x y z : Operand} {t ty kt et : TypeId} {pos : String} {after : Array Edge} {r : Nat} {f : ByteArray → Option Value} {s : ByteArray} {v : Value}
    (hm : P.underlying t = some (.map kt et)) (hk : P.underlying kt = some .string) (h : MapK w r f) (hx : a.eval x = .map (some r)) (hy : a.eval y = .string s) (hz : a.eval z = v)
    (hK : ∀ w', MapK w' r (fun t => if t = s then some v else f t) → w.grownBy w' (some r) → w'.heap.size = w.heap.size → wpList P ops Q rest (a.put none undef) w') :
    wpList P ops Q ({ dst := none, op := .mapUpdate t x y z, type := ty, pos := pos, after := after, guard := none } :: rest) a w := by
  obtain ⟨w', hr, h1, h2, h3⟩ := run_updateK (P := P) h hm hk s v
  refine wpList_plain rfl fun K hK' => ?_
  unfold Oper.wp execOp
  simp [hx, hy, hz, hr, Oper.upon]
  exact hK' _ _ (hK w' h1 h2 h3)
theorem LK_mapdel {P : Program} {w : World} {ops : Array Oper} {rest : List Oper} {o : Oper} {a : Act} {Q : Exit → Act → World → Prop} {x y : Operand} {t kt et : TypeId} {r : Nat} {f : ByteArray → Option Value} {s : ByteArray}
    (hm : P.underlying t = some (.map kt et)) (hk : P.underlying kt = some .string) (hg : o.guard = none) (h : MapK w r f) (ho : o.op = .call { callee := .builtin .delete, args := #[x, y], argTypes := #[t, kt] }) (hx : a.eval x = .map (some r)) (hy : a.eval y = .string s)
    (hK : ∀ w', MapK w' r (fun t => if t = s then none else f t) → w.grownBy w' (some r) → w'.heap.size = w.heap.size → wpList P ops Q rest (a.put o.dst (.tuple #[])) w') :
    wpList P ops Q (o :: rest) a w := by
  obtain ⟨w', hr, h1, h2, h3⟩ := run_deleteK (P := P) h hm hk o.type s
  refine wpList_plain hg fun K hK' => ?_
  unfold Oper.wp execOp
  simp only [ho, resolve, invoke, builtin, Sem.run_bind, Sem.run_pure, Result.andThen_ok, List.map_toArray, List.map_cons, List.map_nil, hx, hy, hr]
  exact hK' _ _ (hK w' h1 h2 h3)
end Go.Proofs.Ytfnlcnjflloecaa
