/- A map with texts for keys: what it holds, looked up, updated. -/
import Derived.Test.YtpjpmgpehpigaabArr
import Derived.MapKept
import Derived.MapFrom
set_option linter.unusedVariables false
set_option linter.unusedSimpArgs false
namespace Go.Proofs.Ytpjpmgpehpigaab
open Go.RowKit Go.MapKept
/-- Block r of w is a map that holds just f. -/
def MapAt (w : World) (r : Nat) (f : ByteArray → Option Value) : Prop := ∃ es clock, w.heap[r]? = some (.map es clock) ∧ (∀ x ∈ es.toList, ∃ s, x.key = .string s) ∧ (es.toList.map (·.key)).Nodup ∧
  ∀ s v, f s = some v ↔ ∃ x ∈ es.toList, x.key = .string s ∧ x.val = v
theorem MapAt.lt {w : World} {r : Nat} {f : ByteArray → Option Value} (h : MapAt w r f) : r < w.heap.size := by obtain ⟨es, c, h1, _⟩ := h; exact (Array.getElem?_eq_some_iff.1 h1).1
theorem MapAt.below {w w' : World} {r : Nat} {f : ByteArray → Option Value} (h : MapAt w r f) (hb : Below w.heap.size w w') : MapAt w' r f := by
  have hl := h.lt
  obtain ⟨es, c, h1, h2⟩ := h
  exact ⟨es, c, by rw [hb.block r hl]; exact h1, h2⟩
theorem MapAt.grown {w w' : World} {r : Nat} {f : ByteArray → Option Value} {row : Option Nat} (h : MapAt w r f) (hg : w.grownBy w' row) (hne : some r ≠ row) : MapAt w' r f := by
  have hl := h.lt
  obtain ⟨es, c, h1, h2⟩ := h
  exact ⟨es, c, by rw [hg.block r hl hne]; exact h1, h2⟩
theorem MapAt.drew {w : World} {r : Nat} {f : ByteArray → Option Value} (h : MapAt w r f) : MapAt w.drew r f := h
theorem MapAt.new (w : World) (c : Nat) : MapAt (w.alloc (.map #[] c)) w.heap.size (fun _ => none) := by
  refine ⟨#[], c, ?_, by simp, by simp, by simp⟩
  show (w.heap.push _)[w.heap.size]? = _
  simp
theorem isKeyS (l : List MapEntry) (h : ∀ x ∈ l, ∃ s, x.key = .string s) : ∀ x ∈ l, IsKey .string x.key := by
  intro x hx
  obtain ⟨s, hs⟩ := h x hx
  rw [hs]; trivial
theorem run_lookup {P : Program} {w : World} {r : Nat} {f : ByteArray → Option Value} (h : MapAt w r f) {mt kt et : TypeId} (hm : P.underlying mt = some (.map kt et)) (hk : P.underlying kt = some .string) {z : Value} (hz : (P.info? et).map (·.zero) = some (some z)) (s : ByteArray) :
    (Instr.lookup mt (.map (some r)) (.string s) true).run P w = .ok (.tuple #[(f s).getD z, .bool (f s).isSome]) w := by
  obtain ⟨es, c, h1, h2, h3, h4⟩ := h
  have hK : IsKey .string (Value.string s) := trivial
  have hz2 : (zeroValue et).run P w = .ok z w := by
    cases hq : P.info? et with
    | none => simp [hq] at hz
    | some i =>
      have hzz : i.zero = some z := by simpa [hq] using hz
      simp [zeroValue, typeInfo, hq, hzz]
  rcases findNow_spec hK es.toList 0 (isKeyS _ h2) with ⟨h5, h6⟩ | ⟨j, e, h5, h6, h7⟩
  · have hn : f s = none := by
      cases hf : f s with
      | none => rfl
      | some v => obtain ⟨x, hx, hk, _⟩ := (h4 s v).1 hf; exact absurd hk (h6 x hx)
    simp only [Instr.lookup, Sem.run_bind, run_underlying hm, Go.MapKept.run_getObj_map h1, Sem.run_pure, run_checkKey hk hK, run_findKey hk h5, Result.andThen, hz2, hn]
    rfl
  · have hs : f s = some e.val := (h4 s e.val).2 ⟨e, List.mem_of_getElem? h6, h7, rfl⟩
    simp only [Instr.lookup, Sem.run_bind, run_underlying hm, Go.MapKept.run_getObj_map h1, Sem.run_pure, run_checkKey hk hK, run_findKey hk h5, Result.andThen, hs]
    rfl
theorem run_update {P : Program} {w : World} {r : Nat} {f : ByteArray → Option Value} (h : MapAt w r f) {mt kt et : TypeId} (hm : P.underlying mt = some (.map kt et)) (hk : P.underlying kt = some .string) (s : ByteArray) (v : Value) :
    ∃ w', (Instr.mapUpdate mt (.map (some r)) (.string s) v).run P w = .ok () w' ∧ MapAt w' r (fun t => if t = s then some v else f t) ∧ w.grownBy w' (some r) ∧ w'.heap.size = w.heap.size := by
  obtain ⟨es, c, h1, h2, h3, h4⟩ := h
  have hK : IsKey .string (Value.string s) := trivial
  have grown : ∀ o, w.grownBy { w with heap := w.heap.setIfInBounds r o } (some r) := fun o => ⟨rfl, rfl, rfl, by simp, fun k _ hne => (heap_set h1).2 k (fun e => hne (by rw [e]))⟩
  rcases findNow_spec hK es.toList 0 (isKeyS _ h2) with ⟨h5, h6⟩ | ⟨j, e, h5, h6, h7⟩
  · refine ⟨{ w with heap := w.heap.setIfInBounds r (.map (es.push { key := .string s, val := v, born := c }) (c + 1)) }, ?_, ⟨_, _, (heap_set h1).1, ?_, ?_, ?_⟩, grown _, by simp⟩
    · simp [Instr.mapUpdate, run_underlying hm, Go.MapKept.run_getObj_map h1, run_checkKey hk hK, run_findKey hk h5, run_setObj_map _ h1, Result.andThen]
    · intro x hx
      simp only [Array.toList_push, List.mem_append, List.mem_singleton] at hx
      rcases hx with hx | rfl
      · exact h2 x hx
      · exact ⟨s, rfl⟩
    · simp only [Array.toList_push, List.map_append, List.map_cons, List.map_nil]
      refine List.nodup_append.2 ⟨h3, by simp, ?_⟩
      intro a ha b hb
      simp only [List.mem_singleton] at hb
      subst hb
      obtain ⟨x, hx, rfl⟩ := List.mem_map.1 ha
      exact h6 x hx
    · intro t u
      show (if t = s then some v else f t) = some u ↔ _
      simp only [Array.toList_push, List.mem_append, List.mem_singleton]
      by_cases ht : t = s
      · subst ht
        rw [if_pos rfl]
        constructor
        · intro h; cases h; exact ⟨_, .inr rfl, rfl, rfl⟩
        · rintro ⟨x, hx | rfl, hk, hv⟩
          · exact absurd hk (h6 x hx)
          · rw [← hv]
      · rw [if_neg ht, h4]
        constructor
        · rintro ⟨x, hx, a, b⟩; exact ⟨x, .inl hx, a, b⟩
        · rintro ⟨x, hx | rfl, a, b⟩
          · exact ⟨x, hx, a, b⟩
          · simp at a; exact absurd a.symm ht
  · have hj : es[j]? = some e := by simpa using h6
    have hje : j < es.size := (Array.getElem?_eq_some_iff.1 hj).1
    have hkeep : ∀ e', es[j]? = some e' → ({ e' with key := Value.string s, val := v } : MapEntry).key = e'.key := fun e' he' => by
      rw [hj] at he'; cases he'; exact h7.symm
    have hkeys := modify_keys (es := es) j (fun e' => { e' with key := .string s, val := v }) hkeep
    have hget : (es.modify j fun e' => { e' with key := Value.string s, val := v })[j]? = some { e with key := .string s, val := v } := by
      rw [Array.getElem?_modify, if_pos rfl, hj]; rfl
    have hoth : ∀ k, k ≠ j → (es.modify j fun e' => { e' with key := Value.string s, val := v })[k]? = es[k]? := fun k hne => by
      rw [Array.getElem?_modify, if_neg (fun e => hne e.symm)]
    refine ⟨{ w with heap := w.heap.setIfInBounds r (.map (es.modify j fun e' => { e' with key := .string s, val := v }) c) }, ?_, ⟨_, _, (heap_set h1).1, ?_, by rw [hkeys]; exact h3, ?_⟩, grown _, by simp⟩
    · simp [Instr.mapUpdate, run_underlying hm, Go.MapKept.run_getObj_map h1, run_checkKey hk hK, run_findKey hk h5, hj, h7, run_keyThatStays hK, run_setObj_map _ h1, Result.andThen]
    · intro x hx
      rw [Array.mem_toList_iff, Array.mem_iff_getElem?] at hx
      obtain ⟨k, hk'⟩ := hx
      by_cases hkj : k = j
      · subst hkj; rw [hget] at hk'; cases hk'; exact ⟨s, rfl⟩
      · rw [hoth k hkj] at hk'; exact h2 x (by rw [Array.mem_toList_iff, Array.mem_iff_getElem?]; exact ⟨k, hk'⟩)
    · intro t u
      show (if t = s then some v else f t) = some u ↔ _
      by_cases ht : t = s
      · subst ht
        rw [if_pos rfl]
        constructor
        · intro h; cases h
          exact ⟨_, by rw [Array.mem_toList_iff, Array.mem_iff_getElem?]; exact ⟨j, hget⟩, rfl, rfl⟩
        · rintro ⟨x, hx, a, b⟩
          rw [Array.mem_toList_iff, Array.mem_iff_getElem?] at hx
          obtain ⟨k, hk'⟩ := hx
          by_cases hkj : k = j
          · subst hkj; rw [hget] at hk'; cases hk'; rw [← b]
          · rw [hoth k hkj] at hk'
            exfalso
            have hkl := (Array.getElem?_eq_some_iff.1 hk').1
            apply hkj
            refine (List.getElem_inj (h₀ := by simpa using hkl) (h₁ := by simpa using hje) h3).1 ?_
            simp only [List.getElem_map, Array.getElem_toList]
            rw [(Array.getElem?_eq_some_iff.1 hk').2, (Array.getElem?_eq_some_iff.1 hj).2, a, h7]
      · rw [if_neg ht, h4]
        constructor
        · rintro ⟨x, hx, a, b⟩
          rw [Array.mem_toList_iff, Array.mem_iff_getElem?] at hx
          obtain ⟨k, hk'⟩ := hx
          have hkj : k ≠ j := by
            rintro rfl
            rw [hj] at hk'; cases hk'
            rw [h7] at a; simp at a; exact ht a.symm
          exact ⟨x, by rw [Array.mem_toList_iff, Array.mem_iff_getElem?]; exact ⟨k, by rw [hoth k hkj]; exact hk'⟩, a, b⟩
        · rintro ⟨x, hx, a, b⟩
          rw [Array.mem_toList_iff, Array.mem_iff_getElem?] at hx
          obtain ⟨k, hk'⟩ := hx
          by_cases hkj : k = j
          · subst hkj; rw [hget] at hk'; cases hk'; simp at a; exact absurd a.symm ht
          · rw [hoth k hkj] at hk'
            exact ⟨x, by rw [Array.mem_toList_iff, Array.mem_iff_getElem?]; exact ⟨k, hk'⟩, a, b⟩
end Go.Proofs.Ytpjpmgpehpigaab
