/- The creds laws' wakes. -/
import Derived.Test.YtfnlcnjflloecaaDoorOct3
import Derived.Test.YtfnlcnjflloecaaDoorArr
import Derived.Laws.Externs
import Derived.Laws.Cover2
import Derived.Laws.FloatArith
import Derived.MapKept
import Derived.MapFrom
/-! ### FloB -/
set_option linter.unusedVariables false
set_option linter.unusedSimpArgs false
namespace Go.Proofs.YtfnlcnjflloecaaDoor
open Go.RowKit
def ninf : Nat := 18442240474082181120
theorem ninf_nan : fnan ninf = false := by decide
theorem ninf_least (x : Nat) (h : fnan x = false) : fkey ninf ≤ fkey x := by
  have e : fkey ninf = -9218868437227405312 := by decide
  rw [e]
  unfold fnan at h
  rw [decide_eq_false_iff_not] at h
  unfold fkey
  split <;> omega
theorem inf_c (w : World) : Calls Tryd.prog 137 #[.int .i64 (-1)] w fun e w' => e = .returned (.float .f64 ninf) ∧ w = w' := by
  have hd := fun w' => f64frombits w' 18442240474082181120
  go_enter Tryd.func137, Tryd.ntmps137
  go_wp2
  go_ret
  exact ⟨rfl, rfl⟩
/-- r may be the sum of x and y. -/
def SumOk (x y r : Nat) : Prop := (∀ q, FloatKind.f64.format.add x y = some q → r = q) ∧ (FloatKind.f64.format.add x y = none → fnan r = true)
theorem SumOk.cases {x y a b : Nat} (ha : SumOk x y a) (hb : SumOk x y b) : a = b ∨ (fnan a = true ∧ fnan b = true) := by
  cases h : FloatKind.f64.format.add x y with
  | none => exact .inr ⟨ha.2 h, hb.2 h⟩
  | some q => exact .inl ((ha.1 q h).trans (hb.1 q h).symm)
theorem nan_pick (t : Nat) : fnan ((t % 2) * 2 ^ 63 + 0x7ff0000000000000 + 1 + (t / 2) % (2 ^ 52 - 1)) = true := by
  unfold fnan
  rw [decide_eq_true_eq]
  have h1 : t % 2 < 2 := Nat.mod_lt _ (by omega)
  have h2 : (t / 2) % (2 ^ 52 - 1) < 4503599627370495 := Nat.mod_lt _ (by decide)
  generalize (t / 2) % (2 ^ 52 - 1) = m at *
  generalize t % 2 = b at *
  have e : (2 : Nat) ^ 63 = 9223372036854775808 := by decide
  rw [e]
  omega
theorem run_fadd {P : Program} (w : World) (t : TypeId) (x y : Nat) : ∃ r w', (binOp .add t (.float .f64 x) (.float .f64 y)).run P w = .ok (.float .f64 r) w' ∧ (w' = w ∨ w' = w.drew) ∧ SumOk x y r := by
  cases h : FloatKind.f64.format.add x y with
  | some q =>
    refine ⟨q, w, run_float_arith w .add t .f64 x y q h, .inl rfl, fun q' h' => ?_, fun h' => ?_⟩
    · rw [h] at h'; cases h'; rfl
    · rw [h] at h'; cases h'
  | none =>
    refine ⟨_, w.drew, ?_, .inr rfl, fun q' h' => ?_, fun _ => nan_pick (w.tape w.drawn (.nanBits .f64 x y))⟩
    · simp [binOp, Op.floatArith, h, Question.forced, Question.cut]
    · rw [h] at h'; cases h'
theorem G_fadd {P : Program} {w : World} {ops : Array Oper} {rest : List Oper} {a : Act} {Q : Exit → Act → World → Prop} {d : Nat} {x y : Operand} {ty t : TypeId} {t' : TypeId} {pos : String} {after : Array Edge}
    (h : wpList P ops Q ({ dst := some d, op := .binOp .add t x y t', type := ty, pos := pos, after := after, guard := none } :: rest) a w) :
    wpList P ops Q ({ dst := some d, op := .binOp .add t x y t', type := ty, pos := pos, after := after, guard := none } :: rest) a w := h
theorem L_fadd {P : Program} {w : World} {ops : Array Oper} {rest : List Oper} {a : Act} {Q : Exit → Act → World → Prop} {d : Nat} {x y : Operand} {ty t : TypeId} {t' : TypeId} {pos : String} {after : Array Edge} {X Y : Nat}
    (hx : a.eval x = .float .f64 X) (hy : a.eval y = .float .f64 Y)
    (h : ∀ r w', (w' = w ∨ w' = w.drew) → SumOk X Y r → wpList P ops Q rest (a.put (some d) (.float .f64 r)) w') :
    wpList P ops Q ({ dst := some d, op := .binOp .add t x y t', type := ty, pos := pos, after := after, guard := none } :: rest) a w := by
  obtain ⟨r, w', hr, hw, hs⟩ := run_fadd (P := P) w t X Y
  refine wpList_plain rfl fun K hK => ?_
  unfold Oper.wp execOp
  simp [hx, hy, hr, Oper.upon, eqGuard]
  exact hK _ _ (h r w' hw hs)
end Go.Proofs.YtfnlcnjflloecaaDoor
/-! ### MapS -/
set_option linter.unusedVariables false
set_option linter.unusedSimpArgs false
namespace Go.Proofs.YtfnlcnjflloecaaDoor
open Go.RowKit Go.MapKept
/-- Block r of w is a map that holds just f. -/
def MapAt (w : World) (r : Nat) (f : ByteArray → Option Value) : Prop := ∃ es clock, w.heap[r]? = some (.map es clock) ∧ (∀ x ∈ es.toList, ∃ s, x.key = .string s) ∧ (es.toList.map (·.key)).Nodup ∧
  ∀ s v, f s = some v ↔ ∃ x ∈ es.toList, x.key = .string s ∧ x.val = v
theorem MapAt.lt {w : World} {r : Nat} {f : ByteArray → Option Value} (h : MapAt w r f) : r < w.heap.size := by obtain ⟨es, c, h1, _⟩ := h; exact (Array.getElem?_eq_some_iff.1 h1).1
theorem MapAt.below {w w' : World} {r : Nat} {f : ByteArray → Option Value} (h : MapAt w r f) (hb : Below w.heap.size w w') : MapAt w' r f := by
  have hl := h.lt
  obtain ⟨es, c, h1, h2⟩ := h
  exact ⟨es, c, by rw [hb.block r hl]; exact h1, h2⟩
theorem MapAt.grown {w w' : World} {r : Nat} {f : ByteArray → Option Value} {row : Option Nat} (h : MapAt w r f) (hg : w.grownBy w' row) (hne : some r ≠ row) : MapAt w' r f := by
  have hl := h.lt
  obtain ⟨es, c, h1, h2⟩ := h
  exact ⟨es, c, by rw [hg.block r hl hne]; exact h1, h2⟩
theorem MapAt.drew {w : World} {r : Nat} {f : ByteArray → Option Value} (h : MapAt w r f) : MapAt w.drew r f := h
theorem MapAt.new (w : World) (c : Nat) : MapAt (w.alloc (.map #[] c)) w.heap.size (fun _ => none) := by
  refine ⟨#[], c, ?_, by simp, by simp, by simp⟩
  show (w.heap.push _)[w.heap.size]? = _
  simp
theorem isKeyS (l : List MapEntry) (h : ∀ x ∈ l, ∃ s, x.key = .string s) : ∀ x ∈ l, IsKey .string x.key := by
  intro x hx
  obtain ⟨s, hs⟩ := h x hx
  rw [hs]; trivial
theorem run_lookup {P : Program} {w : World} {r : Nat} {f : ByteArray → Option Value} (h : MapAt w r f) {mt kt et : TypeId} (hm : P.underlying mt = some (.map kt et)) (hk : P.underlying kt = some .string) {z : Value} (hz : (P.info? et).map (·.zero) = some (some z)) (s : ByteArray) :
    (Instr.lookup mt (.map (some r)) (.string s) true).run P w = .ok (.tuple #[(f s).getD z, .bool (f s).isSome]) w := by
  obtain ⟨es, c, h1, h2, h3, h4⟩ := h
  have hK : IsKey .string (Value.string s) := trivial
  have hz2 : (zeroValue et).run P w = .ok z w := by
    cases hq : P.info? et with
    | none => simp [hq] at hz
    | some i =>
      have hzz : i.zero = some z := by simpa [hq] using hz
      simp [zeroValue, typeInfo, hq, hzz]
  rcases findNow_spec hK es.toList 0 (isKeyS _ h2) with ⟨h5, h6⟩ | ⟨j, e, h5, h6, h7⟩
  · have hn : f s = none := by
      cases hf : f s with
      | none => rfl
      | some v => obtain ⟨x, hx, hk, _⟩ := (h4 s v).1 hf; exact absurd hk (h6 x hx)
    simp only [Instr.lookup, Sem.run_bind, run_underlying hm, Go.MapKept.run_getObj_map h1, Sem.run_pure, run_checkKey hk hK, run_findKey hk h5, Result.andThen, hz2, hn]
    rfl
  · have hs : f s = some e.val := (h4 s e.val).2 ⟨e, List.mem_of_getElem? h6, h7, rfl⟩
    simp only [Instr.lookup, Sem.run_bind, run_underlying hm, Go.MapKept.run_getObj_map h1, Sem.run_pure, run_checkKey hk hK, run_findKey hk h5, Result.andThen, hs]
    rfl
theorem run_update {P : Program} {w : World} {r : Nat} {f : ByteArray → Option Value} (h : MapAt w r f) {mt kt et : TypeId} (hm : P.underlying mt = some (.map kt et)) (hk : P.underlying kt = some .string) (s : ByteArray) (v : Value) :
    ∃ w', (Instr.mapUpdate mt (.map (some r)) (.string s) v).run P w = .ok () w' ∧ MapAt w' r (fun t => if t = s then some v else f t) ∧ w.grownBy w' (some r) ∧ w'.heap.size = w.heap.size := by
  obtain ⟨es, c, h1, h2, h3, h4⟩ := h
  have hK : IsKey .string (Value.string s) := trivial
  have grown : ∀ o, w.grownBy { w with heap := w.heap.setIfInBounds r o } (some r) := fun o => ⟨rfl, rfl, rfl, by simp, fun k _ hne => (heap_set h1).2 k (fun e => hne (by rw [e]))⟩
  rcases findNow_spec hK es.toList 0 (isKeyS _ h2) with ⟨h5, h6⟩ | ⟨j, e, h5, h6, h7⟩
  · refine ⟨{ w with heap := w.heap.setIfInBounds r (.map (es.push { key := .string s, val := v, born := c }) (c + 1)) }, ?_, ⟨_, _, (heap_set h1).1, ?_, ?_, ?_⟩, grown _, by simp⟩
    · simp [Instr.mapUpdate, run_underlying hm, Go.MapKept.run_getObj_map h1, run_checkKey hk hK, run_findKey hk h5, run_setObj_map _ h1, Result.andThen]
    · intro x hx
      simp only [Array.toList_push, List.mem_append, List.mem_singleton] at hx
      rcases hx with hx | rfl
      · exact h2 x hx
      · exact ⟨s, rfl⟩
    · simp only [Array.toList_push, List.map_append, List.map_cons, List.map_nil]
      refine List.nodup_append.2 ⟨h3, by simp, ?_⟩
      intro a ha b hb
      simp only [List.mem_singleton] at hb
      subst hb
      obtain ⟨x, hx, rfl⟩ := List.mem_map.1 ha
      exact h6 x hx
    · intro t u
      show (if t = s then some v else f t) = some u ↔ _
      simp only [Array.toList_push, List.mem_append, List.mem_singleton]
      by_cases ht : t = s
      · subst ht
        rw [if_pos rfl]
        constructor
        · intro h; cases h; exact ⟨_, .inr rfl, rfl, rfl⟩
        · rintro ⟨x, hx | rfl, hk, hv⟩
          · exact absurd hk (h6 x hx)
          · rw [← hv]
      · rw [if_neg ht, h4]
        constructor
        · rintro ⟨x, hx, a, b⟩; exact ⟨x, .inl hx, a, b⟩
        · rintro ⟨x, hx | rfl, a, b⟩
          · exact ⟨x, hx, a, b⟩
          · simp at a; exact absurd a.symm ht
  · have hj : es[j]? = some e := by simpa using h6
    have hje : j < es.size := (Array.getElem?_eq_some_iff.1 hj).1
    have hkeep : ∀ e', es[j]? = some e' → ({ e' with key := Value.string s, val := v } : MapEntry).key = e'.key := fun e' he' => by
      rw [hj] at he'; cases he'; exact h7.symm
    have hkeys := modify_keys (es := es) j (fun e' => { e' with key := .string s, val := v }) hkeep
    have hget : (es.modify j fun e' => { e' with key := Value.string s, val := v })[j]? = some { e with key := .string s, val := v } := by
      rw [Array.getElem?_modify, if_pos rfl, hj]; rfl
    have hoth : ∀ k, k ≠ j → (es.modify j fun e' => { e' with key := Value.string s, val := v })[k]? = es[k]? := fun k hne => by
      rw [Array.getElem?_modify, if_neg (fun e => hne e.symm)]
    refine ⟨{ w with heap := w.heap.setIfInBounds r (.map (es.modify j fun e' => { e' with key := .string s, val := v }) c) }, ?_, ⟨_, _, (heap_set h1).1, ?_, by rw [hkeys]; exact h3, ?_⟩, grown _, by simp⟩
    · simp [Instr.mapUpdate, run_underlying hm, Go.MapKept.run_getObj_map h1, run_checkKey hk hK, run_findKey hk h5, hj, h7, run_keyThatStays hK, run_setObj_map _ h1, Result.andThen]
    · intro x hx
      rw [Array.mem_toList_iff, Array.mem_iff_getElem?] at hx
      obtain ⟨k, hk'⟩ := hx
      by_cases hkj : k = j
      · subst hkj; rw [hget] at hk'; cases hk'; exact ⟨s, rfl⟩
      · rw [hoth k hkj] at hk'; exact h2 x (by rw [Array.mem_toList_iff, Array.mem_iff_getElem?]; exact ⟨k, hk'⟩)
    · intro t u
      show (if t = s then some v else f t) = some u ↔ _
      by_cases ht : t = s
      · subst ht
        rw [if_pos rfl]
        constructor
        · intro h; cases h
          exact ⟨_, by rw [Array.mem_toList_iff, Array.mem_iff_getElem?]; exact ⟨j, hget⟩, rfl, rfl⟩
        · rintro ⟨x, hx, a, b⟩
          rw [Array.mem_toList_iff, Array.mem_iff_getElem?] at hx
          obtain ⟨k, hk'⟩ := hx
          by_cases hkj : k = j
          · subst hkj; rw [hget] at hk'; cases hk'; rw [← b]
          · rw [hoth k hkj] at hk'
            exfalso
            have hkl := (Array.getElem?_eq_some_iff.1 hk').1
            apply hkj
            refine (List.getElem_inj (h₀ := by simpa using hkl) (h₁ := by simpa using hje) h3).1 ?_
            simp only [List.getElem_map, Array.getElem_toList]
            rw [(Array.getElem?_eq_some_iff.1 hk').2, (Array.getElem?_eq_some_iff.1 hj).2, a, h7]
      · rw [if_neg ht, h4]
        constructor
        · rintro ⟨x, hx, a, b⟩
          rw [Array.mem_toList_iff, Array.mem_iff_getElem?] at hx
          obtain ⟨k, hk'⟩ := hx
          have hkj : k ≠ j := by
            rintro rfl
            rw [hj] at hk'; cases hk'
            rw [h7] at a; simp at a; exact ht a.symm
          exact ⟨x, by rw [Array.mem_toList_iff, Array.mem_iff_getElem?]; exact ⟨k, by rw [hoth k hkj]; exact hk'⟩, a, b⟩
        · rintro ⟨x, hx, a, b⟩
          rw [Array.mem_toList_iff, Array.mem_iff_getElem?] at hx
          obtain ⟨k, hk'⟩ := hx
          by_cases hkj : k = j
          · subst hkj; rw [hget] at hk'; cases hk'; simp at a; exact absurd a.symm ht
          · rw [hoth k hkj] at hk'
            exact ⟨x, by rw [Array.mem_toList_iff, Array.mem_iff_getElem?]; exact ⟨k, hk'⟩, a, b⟩
end Go.Proofs.YtfnlcnjflloecaaDoor
/-! ### Door -/
set_option linter.unusedVariables false
set_option linter.unusedSimpArgs false
namespace Go.Proofs.YtfnlcnjflloecaaDoor
open Go.RowKit
def usr (u : Int × Nat) : Value := .agg #[.int .i64 u.1, .float .f64 u.2]
theorem agU : AggTy Tryd.prog 147 2 := ⟨⟨_, Tryd.underlying147, rfl⟩, by kernel_rfl⟩
theorem zU : (Tryd.prog.info? 147).map (·.zero) = some (some (.agg [Value.int .i64 0, Value.float .f64 0].toArray)) := by kernel_rfl
/-- In w the pointer p is a door with these bounds, of which f is known; all of it lies from B on. -/
def DoorAt (w : World) (B p : Nat) (most : Int) (sec : Nat) (f : ByteArray → Option (Int × Nat)) : Prop :=
  ∃ r, B ≤ p ∧ B ≤ r ∧ r ≠ p ∧ Blk w p 145 [.int .i64 most, .float .f64 sec, .map (some r)] ∧ MapAt w r (fun s => (f s).map usr)
theorem DoorAt.below {w w' : World} {B p : Nat} {most : Int} {sec : Nat} {f : ByteArray → Option (Int × Nat)} (h : DoorAt w B p most sec f) (hb : Below w.heap.size w w') : DoorAt w' B p most sec f := by
  obtain ⟨r, h1, h2, h3, h4, h5⟩ := h
  exact ⟨r, h1, h2, h3, h4.below hb, h5.below hb⟩
theorem DoorAt.drew {w : World} {B p : Nat} {most : Int} {sec : Nat} {f : ByteArray → Option (Int × Nat)} (h : DoorAt w B p most sec f) : DoorAt w.drew B p most sec f := h
def known (f : ByteArray → Option (Int × Nat)) (s : ByteArray) : Int × Nat := (f s).getD (0, ninf)
set_option maxRecDepth 100000 in
set_option maxHeartbeats 800000 in
theorem at_c (w : World) (B p : Nat) (most : Int) (sec : Nat) (f : ByteArray → Option (Int × Nat)) (s : ByteArray) (h : DoorAt w B p most sec f) :
    Calls Tryd.prog 105 #[.pointer (some ⟨p, 0, none⟩), .string s] w fun e w' => e = .returned (usr (known f s)) ∧ Below w.heap.size w w' := by
  obtain ⟨r, _, _, _, hp, hm⟩ := h
  have oZ : ∀ u ∈ [Value.int .i64 0, Value.float .f64 0], u.oneCell' = true := by simp [Value.oneCell']
  have hBu : ∀ x : Nat, Tryd.prog.built 147 [(1, .float .f64 x)] = some #[.int .i64 0, .float .f64 x] := fun x => by kernel_rfl
  go_enter Tryd.func105, Tryd.ntmps105
  cases hf : f s with
  | some u =>
    have hk : known f s = u := by unfold known; rw [hf]; rfl
    rw [hk]
    unfold usr
    have oU : ∀ x ∈ [Value.int .i64 u.1, Value.float .f64 u.2], x.oneCell' = true := by simp [Value.oneCell']
    have tok0 : True := trivial
    go_wp2_with (first
      | (have _t := tok0; (with_reducible refine G_alloc ?_; refine L_alloc zU ?_); intro w1 hk1 hb1 hs1; clear hs1; have hp1 := hp.below hb1; have c2 : _ = some (Value.map (some r)) := hp1.cell 2; have hl := run_lookup (P := Tryd.prog) (hm.below hb1) Tryd.underlying143 Tryd.underlying9 zU s; simp only [hf, Option.map_some, Option.getD_some, Option.isSome_some] at hl; unfold usr at hl; clear tok0; have tok1 : True := trivial)
      | (have _t := tok1; (with_reducible refine G_alloc ?_; refine L_alloc zU ?_); intro w2 hk2 hb2 hs2; clear hs2; clear tok1; have tok2 : True := trivial)
      | (have _t := tok2; (with_reducible refine G_store ?_; refine L_store_agg agU (by with_unfolding_all (conv => lhs; whnf)) (by with_unfolding_all (conv => lhs; whnf)) hk2 rfl rfl oU ?_); intro w3 hk3 hg3 hs3; replace hk3 : Blk w3 w1.heap.size _ [Value.int .i64 u.1, Value.float .f64 u.2] := hk3; clear tok2; have tok3 : True := trivial)
      | (have _t := tok3; (with_reducible refine G_load ?_; refine L_load_agg agU (by with_unfolding_all (conv => lhs; whnf)) hk3 rfl ?_); clear tok3; have tok4 : True := trivial)
      | (have _t := tok4; (with_reducible refine G_store ?_; refine L_store_agg agU (by with_unfolding_all (conv => lhs; whnf)) (by with_unfolding_all (conv => lhs; whnf)) ((hk1.below hb2).grown hg3 (by have := hk1.lt; simp; omega)) rfl rfl oU ?_); intro w4 hk4 hg4 hs4; clear tok4; have tok5 : True := trivial))
    have hb13 := (below_below hb1 hb2).grown hg3 (below_below hb1 hb2).size (by intro k hk; cases hk; exact hb1.size)
    exact ret_agg (cs := [Value.int .i64 u.1, Value.float .f64 u.2]) rfl agU rfl rfl (by simpa using hk4) rfl ⟨rfl, hb13.grown hg4 hb13.size (by intro k hk; cases hk; exact Nat.le_refl _)⟩
  | none =>
    have hk : known f s = (0, ninf) := by unfold known; rw [hf]; rfl
    rw [hk]
    unfold usr
    have oN : ∀ x ∈ [Value.int .i64 0, Value.float .f64 ninf], x.oneCell' = true := by simp [Value.oneCell']
    have hBn := hBu ninf
    have tok0 : True := trivial
    go_wp2_with (first
      | (have _t := tok0; (with_reducible refine G_alloc ?_; refine L_alloc zU ?_); intro w1 hk1 hb1 hs1; clear hs1; have hp1 := hp.below hb1; have c2 : _ = some (Value.map (some r)) := hp1.cell 2; have hl := run_lookup (P := Tryd.prog) (hm.below hb1) Tryd.underlying143 Tryd.underlying9 zU s; simp only [hf, Option.map_none, Option.getD_none, Option.isSome_none] at hl; clear tok0; have tok1 : True := trivial)
      | (have _t := tok1; (with_reducible refine G_alloc ?_; refine L_alloc zU ?_); intro w2 hk2 hb2 hs2; clear hs2; clear tok1; have tok2 : True := trivial)
      | (have _t := tok2; (with_reducible refine G_store ?_; refine L_store_agg agU (by with_unfolding_all (conv => lhs; whnf)) (by with_unfolding_all (conv => lhs; whnf)) hk2 rfl rfl oZ ?_); intro w3 hk3 hg3 hs3; clear tok2; have tok3 : True := trivial)
      | (have _t := tok3; go_at_call 137; refine (inf_c _).mono ?_; rintro e w' ⟨rfl, rfl⟩; clear tok3; have tok4 : True := trivial)
      | (have _t := tok4; (with_reducible refine G_build ?_; refine L_build #[Value.int .i64 0, Value.float .f64 ninf] (by kernel_rfl) ?_); clear tok4; have tok5 : True := trivial)
      | (have _t := tok5; (with_reducible refine G_store ?_; refine L_store_agg agU (by with_unfolding_all (conv => lhs; whnf)) (by with_unfolding_all (conv => lhs; whnf)) ((hk1.below hb2).grown hg3 (by have := hk1.lt; simp; omega)) rfl rfl oN ?_); intro w4 hk4 hg4 hs4; clear tok5; have tok6 : True := trivial))
    have hb13 := (below_below hb1 hb2).grown hg3 (below_below hb1 hb2).size (by intro k hk; cases hk; exact hb1.size)
    exact ret_agg (cs := [Value.int .i64 0, Value.float .f64 ninf]) rfl agU rfl rfl (by simpa using hk4) rfl ⟨rfl, hb13.grown hg4 hb13.size (by intro k hk; cases hk; exact Nat.le_refl _)⟩
theorem field1 (w : World) (c : Int) (t : Nat) : (Instr.field 147 (.agg #[.int .i64 c, .float .f64 t]) 1).run Tryd.prog w = .ok (.float .f64 t) w := by
  simp [Instr.field, run_underlying Tryd.underlying147, asAgg, part, isAgg, run_underlying Tryd.underlying93]
def askI (f : ByteArray → Option (Int × Nat)) (s : ByteArray) (now : Nat) : Int := if fnan now then 1 else if fnan (known f s).2 = false ∧ fkey now < fkey (known f s).2 then 12 else 0
set_option maxRecDepth 100000 in
set_option maxHeartbeats 800000 in
theorem ask_c (w : World) (B p : Nat) (most : Int) (sec : Nat) (f : ByteArray → Option (Int × Nat)) (s : ByteArray) (now : Nat) (h : DoorAt w B p most sec f) :
    Calls Tryd.prog 61 #[.pointer (some ⟨p, 0, none⟩), .string s, .float .f64 now] w fun e w' => e = .returned (.int .i64 (askI f s now)) ∧ Below w.heap.size w w' := by
  have A := at_c w B p most sec f s h
  have N := isnan_c now w
  unfold askI
  unfold usr at A
  generalize known f s = u at *
  obtain ⟨c, t⟩ := u
  have hc := f_lt now t
  have hfd := fun w' => field1 w' c t
  have oU : ∀ x ∈ [Value.int .i64 c, Value.float .f64 t], x.oneCell' = true := by simp [Value.oneCell']
  cases hn : fnan now
  · rw [hn] at N hc
    by_cases hl : fnan t = false ∧ fkey now < fkey t
    · have hc2 : (!false && !fnan t && decide (fkey now < fkey t)) = true := by simp [hl]
      rw [hc2] at hc
      rw [if_neg (by decide), if_pos hl]
      go_enter Tryd.func61, Tryd.ntmps61
      have tok0 : True := trivial
      go_wp2_with (first
        | (have _t := tok0; go_at_call 106; refine N.mono ?_; rintro e w' ⟨rfl, rfl⟩; clear tok0; have tok1 : True := trivial)
        | (have _t := tok1; go_at_call 105; refine A.mono ?_; rintro e w1 ⟨rfl, hb1⟩; clear tok1; have tok2 : True := trivial))
      go_ret
      exact ⟨rfl, hb1⟩
    · have hc2 : (!false && !fnan t && decide (fkey now < fkey t)) = false := by
        cases ht : fnan t
        · have : ¬ fkey now < fkey t := fun h => hl ⟨ht, h⟩
          simp [this]
        · rfl
      rw [hc2] at hc
      rw [if_neg (by decide), if_neg hl]
      go_enter Tryd.func61, Tryd.ntmps61
      have tok0 : True := trivial
      go_wp2_with (first
        | (have _t := tok0; go_at_call 106; refine N.mono ?_; rintro e w' ⟨rfl, rfl⟩; clear tok0; have tok1 : True := trivial)
        | (have _t := tok1; go_at_call 105; refine A.mono ?_; rintro e w1 ⟨rfl, hb1⟩; clear tok1; have tok2 : True := trivial))
      go_ret
      exact ⟨rfl, hb1⟩
  · rw [hn] at N
    go_enter Tryd.func61, Tryd.ntmps61
    go_wp2_with (go_at_call 106; refine N.mono ?_; rintro e w' ⟨rfl, rfl⟩)
    go_ret
    exact ⟨rfl, Below.refl _ _⟩
theorem G_mapupd {P : Program} {w : World} {ops : Array Oper} {rest : List Oper} {a : Act} {Q : Exit → Act → World → Prop} {x y z : Operand} {t ty : TypeId} {pos : String} {after : Array Edge}
    (h : wpList P ops Q ({ dst := none, op := .mapUpdate t x y z, type := ty, pos := pos, after := after, guard := none } :: rest) a w) :
    wpList P ops Q ({ dst := none, op := .mapUpdate t x y z, type := ty, pos := pos, after := after, guard := none } :: rest) a w := h
theorem L_mapupd {P : Program} {w : World} {ops : Array Oper} {rest : List Oper} {a : Act} {Q : Exit → Act → World → Prop} {x y z : Operand} {t ty kt et : TypeId} {pos : String} {after : Array Edge} {r : Nat} {f : ByteArray → Option Value} {s : ByteArray} {v : Value}
    (hm : P.underlying t = some (.map kt et)) (hk : P.underlying kt = some .string) (h : MapAt w r f) (hx : a.eval x = .map (some r)) (hy : a.eval y = .string s) (hz : a.eval z = v)
    (hK : ∀ w', MapAt w' r (fun t => if t = s then some v else f t) → w.grownBy w' (some r) → w'.heap.size = w.heap.size → wpList P ops Q rest (a.put none undef) w') :
    wpList P ops Q ({ dst := none, op := .mapUpdate t x y z, type := ty, pos := pos, after := after, guard := none } :: rest) a w := by
  obtain ⟨w', hr, h1, h2, h3⟩ := run_update (P := P) h hm hk s v
  refine wpList_plain rfl fun K hK' => ?_
  unfold Oper.wp execOp
  simp [hx, hy, hz, hr, Oper.upon]
  exact hK' _ _ (hK w' h1 h2 h3)
theorem map_put (f : ByteArray → Option (Int × Nat)) (s : ByteArray) (u : Int × Nat) : (fun t => if t = s then some (usr u) else (f t).map usr) = fun t => ((fun t => if t = s then some u else f t) t).map usr := by
  funext t
  by_cases h : t = s <;> simp [h]
def FailOk (B p : Nat) (most : Int) (sec : Nat) (f : ByteArray → Option (Int × Nat)) (s : ByteArray) (now : Nat) (k : Int × Nat) (w' : World) : Prop :=
  ∃ u : Int × Nat, DoorAt w' B p most sec (fun t => if t = s then some u else f t) ∧ (k.1 + 1 = most → u.1 = 0 ∧ SumOk now sec u.2) ∧ (k.1 + 1 ≠ most → u = (k.1 + 1, k.2))
set_option maxRecDepth 100000 in
set_option maxHeartbeats 1600000 in
theorem fail_c (w : World) (B p : Nat) (most : Int) (sec : Nat) (f : ByteArray → Option (Int × Nat)) (s : ByteArray) (now : Nat) (h : DoorAt w B p most sec f) (ha : askI f s now = 0) (hc : 0 ≤ (known f s).1 ∧ (known f s).1 ≤ 1000000) :
    Calls Tryd.prog 60 #[.pointer (some ⟨p, 0, none⟩), .string s, .float .f64 now] w fun e w' => e = .returned (.int .i64 0) ∧ Below B w w' ∧ FailOk B p most sec f s now (known f s) w' := by
  have K := fun w1 hw => ask_c w1 B p most sec f s now hw
  have A := fun w1 hw => at_c w1 B p most sec f s hw
  rw [ha] at K
  unfold usr at A
  obtain ⟨r, hBp, hBr, hrp, hp, hm⟩ := id h
  have hpl := hp.lt
  generalize known f s = k at *
  obtain ⟨c, t⟩ := k
  simp only at hc A ⊢
  have oU : ∀ x ∈ [Value.int .i64 c, Value.float .f64 t], x.oneCell' = true := by simp [Value.oneCell']
  go_enter Tryd.func60, Tryd.ntmps60
  have tok0 : True := trivial
  go_upto_region 6 with (first
    | (have _t := tok0; go_at_call 61; refine (K _ h).mono ?_; rintro e w1 ⟨rfl, hb1⟩; have h1 := h.below hb1; clear tok0; have tok1 : True := trivial)
    | (have _t := tok1; go_at_call 105; refine (A _ h1).mono ?_; rintro e w2 ⟨rfl, hb2⟩; have hb12 := below_below hb1 hb2; clear tok1; have tok2 : True := trivial)
    | (have _t := tok2; (with_reducible refine G_alloc ?_; refine L_alloc zU ?_); intro w3 hk3 hb3 hs3; clear hs3; have hb13 := below_below hb12 hb3; clear tok2; have tok3 : True := trivial)
    | (have _t := tok3; (with_reducible refine G_store ?_; refine L_store_agg agU (by with_unfolding_all (conv => lhs; whnf)) (by with_unfolding_all (conv => lhs; whnf)) hk3 rfl rfl oU ?_); intro w4 hk4 hg4 hs4; replace hk4 : Blk w4 w2.heap.size _ [Value.int .i64 c, Value.float .f64 t] := hk4; have c4 : _ = some (Value.int .i64 c) := hk4.cell 0; have f4 := hk4.frozen 0; clear tok3; have tok4 : True := trivial))
  have hb14 := hb13.grown hg4 hb13.size (by intro k hk; cases hk; exact hb12.size)
  have hls := hb12.size
  have hm1 := hm.lt
  have hpA := ((((hp.below hb1).below hb2).below hb3).grown hg4 (by simp; omega))
  have hmA := ((((hm.below hb1).below hb2).below hb3).grown hg4 (by simp; omega))
  have hk5 := hk4.stored 0 (.int .i64 (c + 1))
  simp only [List.set_cons_zero] at hk5
  have hp5 := hpA.other (a := ⟨w2.heap.size, 0, none⟩) (by show p ≠ w2.heap.size; omega) (.int .i64 (c + 1))
  have hm5 := hmA.grown (grown_setCell w4 ⟨w2.heap.size, 0, none⟩ (.int .i64 (c + 1))) (by simp; omega)
  have hb15 : Below w.heap.size w (w4.setCell ⟨w2.heap.size, 0, none⟩ (.int .i64 (c + 1))) := hb14.setCell (by show w.heap.size ≤ w2.heap.size; omega) _
  generalize hg8 : w2.heap.size = g8 at *
  generalize w4.setCell _ _ = w5 at *
  clear hk3 hk4 hg4 hs4 c4 f4 hb13 hb14 hpA hmA hb12 hb1 hb2 hb3 h1 K A
  have oV : ∀ x ∈ [Value.int .i64 (c + 1), Value.float .f64 t], x.oneCell' = true := by simp [Value.oneCell']
  by_cases hmo : c + 1 = most
  · subst hmo
    refine region_making 7 (fun _ => []) (fun _ => none) (by kernel_rfl) (by kernel_rfl) ?_ ?_
    · intro i S h; cases h
    simp only [List.take_succ_cons, List.take_zero, List.drop_succ_cons, List.drop_zero]
    (apply wpG_pure; (focus rfl); (focus (intro wg Bg hbg hBg hFg; go_simp; (try go_bits); (first | done | exact ⟨rfl, Below.refl _ _⟩ | rfl))); simp only [Act.put, List.setIfInBounds_toArray, List.set_cons_succ, List.set_cons_zero])
    (apply wpG_pure; (focus rfl); (focus (intro wg Bg hbg hBg hFg; have hc1 : _ = some (Value.int .i64 (c + 1)) := (hk5.drew.below hbg).cell 0; go_simp; (try go_bits); (first | done | exact ⟨rfl, Below.refl _ _⟩ | rfl))); simp only [Act.put, List.setIfInBounds_toArray, List.set_cons_succ, List.set_cons_zero])
    (apply wpG_pure; (focus rfl); (focus (intro wg Bg hbg hBg hFg; go_simp; (try go_bits); (first | done | exact ⟨rfl, Below.refl _ _⟩ | rfl))); simp only [Act.put, List.setIfInBounds_toArray, List.set_cons_succ, List.set_cons_zero])
    (apply wpG_pure; (focus rfl); (focus (intro wg Bg hbg hBg hFg; go_simp; (try go_bits); (first | done | exact ⟨rfl, Below.refl _ _⟩ | rfl))); simp only [Act.put, List.setIfInBounds_toArray, List.set_cons_succ, List.set_cons_zero])
    (apply wpG_pure; (focus rfl); (focus (intro wg Bg hbg hBg hFg; go_simp; (try go_bits); (first | done | exact ⟨rfl, Below.refl _ _⟩ | rfl))); simp only [Act.put, List.setIfInBounds_toArray, List.set_cons_succ, List.set_cons_zero])
    (apply wpG_pure; (focus rfl); (focus (intro wg Bg hbg hBg hFg; have hc1 : _ = some (Value.int .i64 (c + 1)) := (hp5.drew.below hbg).cell 0; go_simp; (try go_bits); (first | done | exact ⟨rfl, Below.refl _ _⟩ | rfl))); simp only [Act.put, List.setIfInBounds_toArray, List.set_cons_succ, List.set_cons_zero])
    (apply wpG_pure; (focus rfl); (focus (intro wg Bg hbg hBg hFg; go_simp; (try go_bits); (first | done | exact ⟨rfl, Below.refl _ _⟩ | rfl))); simp only [Act.put, List.setIfInBounds_toArray, List.set_cons_succ, List.set_cons_zero])
    refine wpG_end (fun wg Bg hbg hBg hFg => ?_)
    have hk6 := hk5.drew.below hbg
    have hp6 := hp5.drew.below hbg
    have hm6 := hm5.drew.below hbg
    have hb16 := below_below hb15.drew hbg
    clear hFg hBg hbg hk5 hp5 hm5 hb15
    have c6 : _ = some (Value.float .f64 sec) := hp6.cell 1
    have tok0 : True := trivial
    go_upto_region 8 with (first
      | (have _t := tok0; (with_reducible refine G_fadd ?_; refine L_fadd (by with_unfolding_all (conv => lhs; whnf)) (by with_unfolding_all (conv => lhs; whnf)) ?_); intro q w7 hw7 hq; have hk7 : Blk w7 g8 147 [Value.int .i64 (c + 1), Value.float .f64 t] := (by rcases hw7 with rfl | rfl; exact hk6; exact hk6); have hp7 : Blk w7 p 145 [.int .i64 (c + 1), .float .f64 sec, .map (some r)] := (by rcases hw7 with rfl | rfl; exact hp6; exact hp6); have hm7 : MapAt w7 r (fun s => (f s).map usr) := (by rcases hw7 with rfl | rfl; exact hm6; exact hm6); have hb17 : Below w.heap.size w w7 := (by rcases hw7 with rfl | rfl; exact hb16; exact hb16.drew); have oQ : ∀ x ∈ [Value.int .i64 0, Value.float .f64 q], x.oneCell' = true := (by simp [Value.oneCell']); have hBq : Tryd.prog.built 147 [(1, .float .f64 q)] = some #[.int .i64 0, .float .f64 q] := (by kernel_rfl); clear tok0; have tok1 : True := trivial)
      | (have _t := tok1; (with_reducible refine G_build ?_; refine L_build #[Value.int .i64 0, Value.float .f64 q] (by kernel_rfl) ?_); clear tok1; have tok2 : True := trivial)
      | (have _t := tok2; (with_reducible refine G_store ?_; refine L_store_agg agU (by with_unfolding_all (conv => lhs; whnf)) (by with_unfolding_all (conv => lhs; whnf)) hk7 rfl rfl oQ ?_); intro w8 hk8 hg8' hs8; replace hk8 : Blk w8 g8 _ [Value.int .i64 0, Value.float .f64 q] := hk8; clear tok2; have tok3 : True := trivial))
    have hp8 := hp7.grown hg8' (by simp; omega)
    have hm8 := hm7.grown hg8' (by simp; omega)
    have hb18 := hb17.grown hg8' hb17.size (by intro k hk; cases hk; omega)
    refine region_making 6 (fun _ => []) (fun _ => none) (by kernel_rfl) (by kernel_rfl) ?_ ?_
    · intro i S h; cases h
    simp only [List.take_succ_cons, List.take_zero, List.drop_succ_cons, List.drop_zero]
    (apply wpG_pure; (focus rfl); (focus (intro wg Bg hbg hBg hFg; go_simp; (try go_bits); (first | done | exact ⟨rfl, Below.refl _ _⟩ | rfl))); simp only [Act.put, List.setIfInBounds_toArray, List.set_cons_succ, List.set_cons_zero])
    (apply wpG_pure; (focus rfl); (focus (intro wg Bg hbg hBg hFg; go_simp; (try go_bits); (first | done | exact ⟨rfl, Below.refl _ _⟩ | rfl))); simp only [Act.put, List.setIfInBounds_toArray, List.set_cons_succ, List.set_cons_zero])
    (apply wpG_pure; (focus rfl); (focus (intro wg Bg hbg hBg hFg; go_simp; (try go_bits); (first | done | exact ⟨rfl, Below.refl _ _⟩ | rfl))); simp only [Act.put, List.setIfInBounds_toArray, List.set_cons_succ, List.set_cons_zero])
    (apply wpG_pure; (focus rfl); (focus (intro wg Bg hbg hBg hFg; have hc1 : _ = some (Value.map (some r)) := (hp8.drew.below hbg).cell 2; go_simp; (try go_bits); (first | done | exact ⟨rfl, Below.refl _ _⟩ | rfl))); simp only [Act.put, List.setIfInBounds_toArray, List.set_cons_succ, List.set_cons_zero])
    (apply wpG_pure; (focus rfl); (focus (intro wg Bg hbg hBg hFg; go_simp; (try go_bits); (first | done | exact ⟨rfl, Below.refl _ _⟩ | rfl))); simp only [Act.put, List.setIfInBounds_toArray, List.set_cons_succ, List.set_cons_zero])
    (apply wpG_pure; (focus rfl); (focus (intro wg Bg hbg hBg hFg; exact pureTo_load_agg agU (by with_unfolding_all (conv => lhs; whnf)) (hk8.drew.below hbg) rfl)); simp only [Act.put, List.setIfInBounds_toArray, List.set_cons_succ, List.set_cons_zero])
    refine wpG_end (fun wg Bg hbg hBg hFg => ?_)
    have hp9 := hp8.drew.below hbg
    have hm9 := hm8.drew.below hbg
    have hb9 := below_below hb18.drew hbg
    clear hFg hBg hbg
    go_wp2_with (first | ((with_reducible refine G_mapupd ?_; refine L_mapupd Tryd.underlying143 Tryd.underlying9 hm9 (by with_unfolding_all (conv => lhs; whnf)) (by with_unfolding_all (conv => lhs; whnf)) rfl ?_); intro wz hmz hgz hsz))
    go_ret
    refine ⟨rfl, ?_, show FailOk _ _ _ _ _ _ _ _ _ from ⟨(0, q), ⟨r, hBp, hBr, hrp, hp9.grown hgz (by simp; omega), ?_⟩, fun _ => ⟨rfl, hq⟩, fun h => absurd rfl h⟩⟩
    · exact (hb9.mono (by omega)).grown hgz (by have := hb9.size; omega) (by intro k hk; cases hk; omega)
    · have e := map_put f s (0, q)
      rw [← e]
      exact hmz
  · have e1 : decide (c + 1 = most) = false := decide_eq_false hmo
    have e2 : ((c + 1) == most) = false := by rw [← e1]; rfl
    refine region_making 7 (fun _ => []) (fun _ => none) (by kernel_rfl) (by kernel_rfl) ?_ ?_
    · intro i S h; cases h
    simp only [List.take_succ_cons, List.take_zero, List.drop_succ_cons, List.drop_zero]
    (apply wpG_pure; (focus rfl); (focus (intro wg Bg hbg hBg hFg; go_simp; (try go_bits); (first | done | exact ⟨rfl, Below.refl _ _⟩ | rfl))); simp only [Act.put, List.setIfInBounds_toArray, List.set_cons_succ, List.set_cons_zero])
    (apply wpG_pure; (focus rfl); (focus (intro wg Bg hbg hBg hFg; have hc1 : _ = some (Value.int .i64 (c + 1)) := (hk5.drew.below hbg).cell 0; go_simp; (try go_bits); (first | done | exact ⟨rfl, Below.refl _ _⟩ | rfl))); simp only [Act.put, List.setIfInBounds_toArray, List.set_cons_succ, List.set_cons_zero])
    (apply wpG_pure; (focus rfl); (focus (intro wg Bg hbg hBg hFg; go_simp; (try go_bits); (first | done | exact ⟨rfl, Below.refl _ _⟩ | rfl))); simp only [Act.put, List.setIfInBounds_toArray, List.set_cons_succ, List.set_cons_zero])
    (apply wpG_pure; (focus rfl); (focus (intro wg Bg hbg hBg hFg; go_simp; (try go_bits); (first | done | exact ⟨rfl, Below.refl _ _⟩ | rfl))); simp only [Act.put, List.setIfInBounds_toArray, List.set_cons_succ, List.set_cons_zero])
    (apply wpG_pure; (focus rfl); (focus (intro wg Bg hbg hBg hFg; go_simp; (try go_bits); (first | done | exact ⟨rfl, Below.refl _ _⟩ | rfl))); simp only [Act.put, List.setIfInBounds_toArray, List.set_cons_succ, List.set_cons_zero])
    (apply wpG_pure; (focus rfl); (focus (intro wg Bg hbg hBg hFg; have hc1 : _ = some (Value.int .i64 most) := (hp5.drew.below hbg).cell 0; go_simp; (try go_bits); (first | done | exact ⟨rfl, Below.refl _ _⟩ | rfl))); simp only [Act.put, List.setIfInBounds_toArray, List.set_cons_succ, List.set_cons_zero])
    (apply wpG_pure; (focus rfl); (focus (intro wg Bg hbg hBg hFg; go_simp; (try go_bits); (first | done | exact ⟨rfl, Below.refl _ _⟩ | rfl))); simp only [Act.put, List.setIfInBounds_toArray, List.set_cons_succ, List.set_cons_zero])
    refine wpG_end (fun wg Bg hbg hBg hFg => ?_)
    have hk6 := hk5.drew.below hbg
    have hp6 := hp5.drew.below hbg
    have hm6 := hm5.drew.below hbg
    have hb16 := below_below hb15.drew hbg
    clear hFg hBg hbg hk5 hp5 hm5 hb15
    go_upto_region 8 with fail
    refine region_making 6 (fun _ => []) (fun _ => none) (by kernel_rfl) (by kernel_rfl) ?_ ?_
    · intro i S h; cases h
    simp only [List.take_succ_cons, List.take_zero, List.drop_succ_cons, List.drop_zero]
    (apply wpG_pure; (focus rfl); (focus (intro wg Bg hbg hBg hFg; go_simp; (try go_bits); (first | done | exact ⟨rfl, Below.refl _ _⟩ | rfl))); simp only [Act.put, List.setIfInBounds_toArray, List.set_cons_succ, List.set_cons_zero])
    (apply wpG_pure; (focus rfl); (focus (intro wg Bg hbg hBg hFg; go_simp; (try go_bits); (first | done | exact ⟨rfl, Below.refl _ _⟩ | rfl))); simp only [Act.put, List.setIfInBounds_toArray, List.set_cons_succ, List.set_cons_zero])
    (apply wpG_pure; (focus rfl); (focus (intro wg Bg hbg hBg hFg; go_simp; (try go_bits); (first | done | exact ⟨rfl, Below.refl _ _⟩ | rfl))); simp only [Act.put, List.setIfInBounds_toArray, List.set_cons_succ, List.set_cons_zero])
    (apply wpG_pure; (focus rfl); (focus (intro wg Bg hbg hBg hFg; have hc1 : _ = some (Value.map (some r)) := (hp6.drew.below hbg).cell 2; go_simp; (try go_bits); (first | done | exact ⟨rfl, Below.refl _ _⟩ | rfl))); simp only [Act.put, List.setIfInBounds_toArray, List.set_cons_succ, List.set_cons_zero])
    (apply wpG_pure; (focus rfl); (focus (intro wg Bg hbg hBg hFg; go_simp; (try go_bits); (first | done | exact ⟨rfl, Below.refl _ _⟩ | rfl))); simp only [Act.put, List.setIfInBounds_toArray, List.set_cons_succ, List.set_cons_zero])
    (apply wpG_pure; (focus rfl); (focus (intro wg Bg hbg hBg hFg; exact pureTo_load_agg agU (by with_unfolding_all (conv => lhs; whnf)) (hk6.drew.below hbg) rfl)); simp only [Act.put, List.setIfInBounds_toArray, List.set_cons_succ, List.set_cons_zero])
    refine wpG_end (fun wg Bg hbg hBg hFg => ?_)
    have hp9 := hp6.drew.below hbg
    have hm9 := hm6.drew.below hbg
    have hb9 := below_below hb16.drew hbg
    clear hFg hBg hbg
    go_wp2_with (first | ((with_reducible refine G_mapupd ?_; refine L_mapupd Tryd.underlying143 Tryd.underlying9 hm9 (by with_unfolding_all (conv => lhs; whnf)) (by with_unfolding_all (conv => lhs; whnf)) rfl ?_); intro wz hmz hgz hsz))
    go_ret
    refine ⟨rfl, ?_, show FailOk _ _ _ _ _ _ _ _ _ from ⟨(c + 1, t), ⟨r, hBp, hBr, hrp, hp9.grown hgz (by simp; omega), ?_⟩, fun h => absurd h hmo, fun _ => rfl⟩⟩
    · exact (hb9.mono (by omega)).grown hgz (by have := hb9.size; omega) (by intro k hk; cases hk; omega)
    · have e := map_put f s (c + 1, t)
      rw [← e]
      exact hmz
set_option maxRecDepth 100000 in
set_option maxHeartbeats 800000 in
theorem new_c (w : World) (most : Int) (sec : Nat) (hm : 1 ≤ most) (hs : fnan sec = false ∧ 0 ≤ fkey sec) :
    Calls Tryd.prog 59 #[.int .i64 most, .float .f64 sec] w fun e w' => ∃ p, e = .returned (.tuple #[.pointer (some ⟨p, 0, none⟩), .int .i64 0]) ∧ DoorAt w' w.heap.size p most sec (fun _ => none) ∧ Below w.heap.size w w' := by
  obtain ⟨h1, h2⟩ := hs
  have hn0 : fnan 0 = false := by decide
  have hk0 : fkey 0 = 0 := by decide
  have f1 := f_gt sec 0
  have f2 := f_eq sec 0
  rw [h1, hn0, hk0] at f1 f2
  have hmk : ∀ w1, (Instr.makeMap 143 none).run Tryd.prog w1 = .ok (.map (some w1.heap.size)) (w1.alloc (.map #[] 0)) := fun w1 => by simp [Instr.makeMap, Result.andThen]
  have hBd : ∀ r : Nat, Tryd.prog.built 145 [(0, .int .i64 most), (1, .float .f64 sec), (2, .map (some r))] = some #[.int .i64 most, .float .f64 sec, .map (some r)] := fun r => by kernel_rfl
  have hm2 : ¬ most < 1 := by omega
  have hb1 := (Below.refl w.heap.size w).alloc (Nat.le_refl _) (.map #[] 0)
  have hM := MapAt.new w 0
  have fin : ∀ w2, Blk w2 (w.heap.size + 1) 145 [.int .i64 most, .float .f64 sec, .map (some w.heap.size)] → Below (w.alloc (.map #[] 0)).heap.size (w.alloc (.map #[] 0)) w2 → DoorAt w2 w.heap.size (w.heap.size + 1) most sec (fun _ => none) ∧ Below w.heap.size w w2 := fun w2 hk hb =>
    ⟨⟨w.heap.size, by omega, Nat.le_refl _, by omega, hk, hM.below hb⟩, below_below hb1 hb⟩
  go_enter Tryd.func59, Tryd.ntmps59
  by_cases h0 : 0 < fkey sec
  · skip
    have tok0 : True := trivial
    go_wp2_with (first
      | (have _t := tok0; (with_reducible refine G_build ?_; refine L_build #[.int .i64 most, .float .f64 sec, .map (some w.heap.size)] (by kernel_rfl) ?_); clear tok0; have tok1 : True := trivial)
      | (have _t := tok1; (with_reducible refine G_box ?_; refine L_box (by with_unfolding_all (conv => lhs; whnf)) ?_); intro w2 hk2 hb2 hs2; clear tok1; have tok2 : True := trivial))
    go_ret2
    exact ⟨_, rfl, fin _ (by simpa using hk2) hb2⟩
  · have h00 : fkey sec = 0 := by omega
    have tok0 : True := trivial
    go_wp2_with (first
      | (have _t := tok0; (with_reducible refine G_build ?_; refine L_build #[.int .i64 most, .float .f64 sec, .map (some w.heap.size)] (by kernel_rfl) ?_); clear tok0; have tok1 : True := trivial)
      | (have _t := tok1; (with_reducible refine G_box ?_; refine L_box (by with_unfolding_all (conv => lhs; whnf)) ?_); intro w2 hk2 hb2 hs2; clear tok1; have tok2 : True := trivial))
    go_ret2
    exact ⟨_, rfl, fin _ (by simpa using hk2) hb2⟩
set_option maxRecDepth 100000 in
set_option maxHeartbeats 800000 in
theorem new_bad_c (w : World) (most : Int) (sec : Nat) (hm : 1 ≤ most) (hs : ¬ (fnan sec = false ∧ 0 ≤ fkey sec)) :
    Calls Tryd.prog 59 #[.int .i64 most, .float .f64 sec] w fun e w' => e = .returned (.tuple #[.pointer none, .int .i64 1]) ∧ w = w' := by
  have hn0 : fnan 0 = false := by decide
  have hk0 : fkey 0 = 0 := by decide
  have f1 := f_gt sec 0
  have f2 := f_eq sec 0
  rw [hn0, hk0] at f1 f2
  have hm2 : ¬ most < 1 := by omega
  go_enter Tryd.func59, Tryd.ntmps59
  cases h1 : fnan sec
  · have h0 : ¬ 0 < fkey sec := fun h => hs ⟨h1, by omega⟩
    have h00 : ¬ fkey sec = 0 := fun h => hs ⟨h1, by omega⟩
    clear hs
    go_wp2
    go_ret2
    exact ⟨rfl, rfl⟩
  · clear hs
    go_wp2
    go_ret2
    exact ⟨rfl, rfl⟩
end Go.Proofs.YtfnlcnjflloecaaDoor
/-! ### DoorW -/
set_option linter.unusedVariables false
set_option linter.unusedSimpArgs false
namespace Go.Proofs.YtfnlcnjflloecaaDoor
open Go.RowKit
theorem sum_ex (r : Nat) (h : SumOk 4618441417868443648 4621819117588971520 r) : r = 4625196817309499392 := h.1 _ (by decide +kernel)
set_option maxRecDepth 100000 in
set_option maxHeartbeats 800000 in
theorem wakes8_c (w : World) : Calls Tryd.prog 21 #[] w (Ok w) := by
  have N := new_c w 2 4621819117588971520 (by omega) (by decide +kernel)
  have hab : ({ data := #[98] } : ByteArray) ≠ { data := #[97] } := by decide
  go_enter Tryd.func21, Tryd.ntmps21
  have tok0 : True := trivial
  go_wp2_with (first
    | (have _t := tok0; go_at_call 59; refine N.mono ?_; rintro e w1 ⟨p, rfl, hd, hb1⟩; clear tok0; have tok1 : True := trivial)
    | (have _t := tok1; go_at_call 60; refine (fail_c _ _ _ _ _ _ _ _ hd (by decide +kernel) (by decide +kernel)).mono ?_; rintro e w2 ⟨rfl, hb2, u, hd2, _, hu2⟩; obtain rfl : u = (1, ninf) := hu2 (by decide +kernel); clear tok1; have tok2 : True := trivial)
    | (have _t := tok2; go_at_call 60; refine (fail_c _ _ _ _ _ _ _ _ hd2 (by decide +kernel) (by decide +kernel)).mono ?_; rintro e w3 ⟨rfl, hb3, u, hd3, hu3, _⟩; obtain ⟨u0, u1⟩ := u; obtain ⟨g0, g1⟩ := hu3 (by decide +kernel); obtain rfl : u0 = 0 := g0; obtain rfl : u1 = 4625196817309499392 := sum_ex _ g1; have hb13 := (hb1.trans hb2).trans hb3; clear tok2; have tok3 : True := trivial)
    | (have _t := tok3; go_at_call 61; refine (ask_c _ _ _ _ _ _ _ _ hd3).mono ?_; rintro e w4 ⟨rfl, hb4⟩; have hd4 := hd3.below hb4; have hb14 := below_below hb13 hb4; rw [show askI _ _ _ = 12 from by decide +kernel]; clear tok3; have tok4 : True := trivial)
    | (have _t := tok4; go_at_call 61; refine (ask_c _ _ _ _ _ _ _ _ hd4).mono ?_; rintro e w5 ⟨rfl, hb5⟩; have hd5 := hd4.below hb5; have hb15 := below_below hb14 hb5; rw [show askI _ _ _ = 0 from by decide +kernel]; clear tok4; have tok5 : True := trivial)
    | (have _t := tok5; go_at_call 61; refine (ask_c _ _ _ _ _ _ _ _ hd5).mono ?_; rintro e w6 ⟨rfl, hb6⟩; have hb16 := below_below hb15 hb6; rw [show askI _ _ _ = 0 from by decide +kernel]; clear tok5; have tok6 : True := trivial))
  go_ret
  exact ⟨rfl, hb16⟩
end Go.Proofs.YtfnlcnjflloecaaDoor
