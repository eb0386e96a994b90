/- Whole blocks: arrays and structs in memory, told by the list of their cells; the operations on them. -/
import Derived.Test.YtfnlcnjflloecaaGrow
import Derived.Laws.Tables
import Derived.Deep.DeepCutAuto
import Derived.Laws.Rows
set_option linter.unusedVariables false
set_option linter.unusedSimpArgs false
namespace Go.Proofs.Ytfnlcnjflloecaa
open Go.RowKit
/-- Block g of w holds just these cells, none of them frozen. -/
def Blk (w : World) (g : Nat) (T : TypeId) (cs : List Value) : Prop := w.heap[g]? = some (.cells cs.toArray T (0, 0))
section
variable {w w' : World} {g : Nat} {T : TypeId} {cs : List Value}
theorem Blk.lt (h : Blk w g T cs) : g < w.heap.size := (Array.getElem?_eq_some_iff.1 h).1
theorem Blk.below (h : Blk w g T cs) (hb : Below w.heap.size w w') : Blk w' g T cs := by unfold Blk; rw [hb.block g h.lt]; exact h
theorem Blk.grown {row : Option Nat} (h : Blk w g T cs) (hg : w.grownBy w' row) (hne : some g ≠ row) : Blk w' g T cs := by unfold Blk; rw [hg.block g h.lt hne]; exact h
theorem Blk.drew (h : Blk w g T cs) : Blk w.drew g T cs := h
theorem Blk.cell (h : Blk w g T cs) (j : Nat) : w.cell? ⟨g, j, none⟩ = cs[j]? := by rw [cell_of_row w g j _ T _ h]; simp
theorem Blk.frozen (h : Blk w g T cs) (j : Nat) : w.frozen? ⟨g, j, none⟩ = false := frozen_of_row w g j _ T h
theorem Blk.new (w : World) (T : TypeId) (cs : List Value) : Blk (w.alloc (.cells cs.toArray T)) w.heap.size T cs := by
  show (w.heap.push _)[w.heap.size]? = _
  simp
theorem Blk.stored (h : Blk w g T cs) (j : Nat) (v : Value) : Blk (w.setCell ⟨g, j, none⟩ v) g T (cs.set j v) := by
  unfold Blk World.setCell
  simp only [Array.getElem?_modify, if_pos]
  rw [show w.heap[g]? = some (.cells cs.toArray T (0, 0)) from h]
  simp
theorem Blk.other {a : Addr} (h : Blk w g T cs) (hne : g ≠ a.block) (v : Value) : Blk (w.setCell a v) g T cs := by
  unfold Blk; rw [Below.heap_setCell _ _ _ _ hne]; exact h
end
/-- T is an array's or a struct's type, of n cells. -/
structure AggTy (P : Program) (T : TypeId) (n : Nat) : Prop where
  shape : ∃ d, P.underlying T = some d ∧ (match d with | .struct _ | .array _ _ => true | _ => false) = true
  size : (P.info? T).map (·.size) = some n
section
variable {P : Program} {w : World} {ops : Array Oper} {rest : List Oper} {a : Act} {Q : Exit → Act → World → Prop} {d x y : Nat} {ty T T' : TypeId} {pos : String} {after : Array Edge} {g n : Nat} {cs : List Value}
theorem G_load (h : wpList P ops Q ({ dst := some d, op := .load T (.tmp x), type := ty, pos := pos, after := after, guard := none } :: rest) a w) :
    wpList P ops Q ({ dst := some d, op := .load T (.tmp x), type := ty, pos := pos, after := after, guard := none } :: rest) a w := h
theorem G_store (h : wpList P ops Q ({ dst := none, op := .store T (.tmp x) (.tmp y), type := ty, pos := pos, after := after, guard := none } :: rest) a w) :
    wpList P ops Q ({ dst := none, op := .store T (.tmp x) (.tmp y), type := ty, pos := pos, after := after, guard := none } :: rest) a w := h
theorem G_alloc (h : wpList P ops Q ({ dst := some d, op := .alloc T, type := ty, pos := pos, after := after, guard := none } :: rest) a w) :
    wpList P ops Q ({ dst := some d, op := .alloc T, type := ty, pos := pos, after := after, guard := none } :: rest) a w := h
theorem G_box (h : wpList P ops Q ({ dst := some d, op := .box T (.tmp x), type := ty, pos := pos, after := after, guard := none } :: rest) a w) :
    wpList P ops Q ({ dst := some d, op := .box T (.tmp x), type := ty, pos := pos, after := after, guard := none } :: rest) a w := h
theorem run_load_agg (AT : AggTy P T n) (hn : cs.length = n) (hb : Blk w g T' cs) : (Instr.loadAt T (.pointer (some ⟨g, 0, none⟩))).run P w = .ok (.agg cs.toArray) w := by
  obtain ⟨dd, h1, h2⟩ := AT.shape
  have := run_loadVar_row (P := P) w g T' T cs.toArray (0, 0) dd hb h1 (by cases dd <;> simp_all) (by rw [AT.size]; simp [hn])
  simp [Instr.loadAt, Instr.sureAddr, this]
theorem L_load_agg (AT : AggTy P T n) (hx : a.eval (.tmp x) = .pointer (some ⟨g, 0, none⟩)) (hb : Blk w g T' cs) (hn : cs.length = n) (h : wpList P ops Q rest (a.put (some d) (.agg cs.toArray)) w) :
    wpList P ops Q ({ dst := some d, op := .load T (.tmp x), type := ty, pos := pos, after := after, guard := none } :: rest) a w := by
  obtain ⟨dd, h1, h2⟩ := AT.shape
  exact wpList_load_row rfl T (.tmp x) rfl g hx T' cs.toArray (0, 0) dd hb h1 (by cases dd <;> simp_all) (by rw [AT.size]; simp [hn]) h
theorem L_store_agg {cs' : Array Value} (AT : AggTy P T n) (hx : a.eval (.tmp x) = .pointer (some ⟨g, 0, none⟩)) (hy : a.eval (.tmp y) = .agg cs') (hb : Blk w g T' cs) (hn : cs.length = n) (hn' : cs'.size = n) (h1 : ∀ u ∈ cs'.toList, u.oneCell' = true)
    (h : ∀ w', Blk w' g T' cs'.toList → w.grownBy w' (some g) → w'.heap.size = w.heap.size → wpList P ops Q rest (a.put none undef) w') :
    wpList P ops Q ({ dst := none, op := .store T (.tmp x) (.tmp y), type := ty, pos := pos, after := after, guard := none } :: rest) a w :=
  wpList_plain rfl fun K hK => wp_store_row T (.tmp x) (.tmp y) rfl g cs' hx hy T' cs.toArray hb (by rw [AT.size, hn']) (by simp [hn, hn']) (Array.all_eq_true_iff_forall_mem.2 fun u hu => h1 u (by simpa using hu))
    (hK _ _ (h _ (by unfold Blk; rw [Array.toArray_toList]; exact setRow_heap w g _ _ T' _ hb) ⟨rfl, rfl, rfl, by simp, fun k _ hk => setRow_other w g k _ (fun e => hk (by simp [e]))⟩ (by simp)))
theorem L_alloc {zs : List Value} (hz : (P.info? T).map (·.zero) = some (some (.agg zs.toArray)))
    (h : ∀ w', Blk w' w.heap.size T zs → Below w.heap.size w w' → w'.heap.size = w.heap.size + 1 → wpList P ops Q rest (a.put (some d) (.pointer (some ⟨w.heap.size, 0, none⟩))) w') :
    wpList P ops Q ({ dst := some d, op := .alloc T, type := ty, pos := pos, after := after, guard := none } :: rest) a w := by
  refine wpList_plain rfl fun K hK => ?_
  cases hq : P.info? T with
  | none => simp [hq] at hz
  | some i =>
    have hzz : i.zero = some (.agg zs.toArray) := by simpa [hq] using hz
    unfold Oper.wp execOp
    simp [Instr.alloc, zeroValue, typeInfo, hq, hzz, newVar, newRow, Value.cells, Oper.upon]
    exact hK _ _ (h _ (Blk.new w T zs) ((Below.refl _ _).alloc (Nat.le_refl _) _) (by simp))
theorem L_box {cs' : Array Value} (hx : a.eval (.tmp x) = .agg cs')
    (h : ∀ w', Blk w' w.heap.size T cs'.toList → Below w.heap.size w w' → w'.heap.size = w.heap.size + 1 → wpList P ops Q rest (a.put (some d) (.pointer (some ⟨w.heap.size, 0, none⟩))) w') :
    wpList P ops Q ({ dst := some d, op := .box T (.tmp x), type := ty, pos := pos, after := after, guard := none } :: rest) a w := by
  refine wpList_plain rfl fun K hK => ?_
  unfold Oper.wp execOp
  simp [Instr.box, hx, newVar, newRow, Value.cells, Oper.upon]
  refine hK _ _ (h _ ?_ ((Below.refl _ _).alloc (Nat.le_refl _) _) (by simp))
  have := Blk.new w T cs'.toList
  rwa [Array.toArray_toList] at this
theorem G_build {parts : Array (Nat × Operand)} (h : wpList P ops Q ({ dst := some d, op := .build T parts, type := ty, pos := pos, after := after, guard := none } :: rest) a w) :
    wpList P ops Q ({ dst := some d, op := .build T parts, type := ty, pos := pos, after := after, guard := none } :: rest) a w := h
theorem L_build {parts : Array (Nat × Operand)} (cs : Array Value) (hf : P.built T (parts.map fun (i, x) => (i, a.eval x)).toList = some cs) (h : wpList P ops Q rest (a.put (some d) (.agg cs)) w) :
    wpList P ops Q ({ dst := some d, op := .build T parts, type := ty, pos := pos, after := after, guard := none } :: rest) a w :=
  wpList_build rfl T parts rfl (by rw [hf]; rfl) (by rw [hf]; exact h)
/-- The function's one result lies in a block. -/
theorem ret_agg {fn : Func} {R : Ending → World → Prop} {p : Tmp} (h : fn.results = #[.cell p T]) (AT : AggTy P T n) (hd : a.defers = []) (hp : a.tmps.getD p undef = .pointer (some ⟨g, 0, none⟩)) (hb : Blk w g T' cs) (hn : cs.length = n)
    (hR : R (.returned (.agg cs.toArray)) w) : bodyPost P fn R .ret a w := by
  obtain ⟨dd, h1, h2⟩ := AT.shape
  exact bodyPost_ret_by (results_cell_row h a.tmps w g T' cs.toArray (0, 0) dd hp hb h1 (by cases dd <;> simp_all) (by rw [AT.size]; simp [hn])) hd hR
/-- A new block with these cells. -/
def newBlk (T : TypeId) (zs : List Value) : GSpec := fun u B w => ∃ g, u = .pointer (some ⟨g, 0, none⟩) ∧ B g ∧ Blk w g T zs
theorem newBlk_loc (T : TypeId) (zs : List Value) (w0 : World) (u : Value) : Loc w0 (newBlk T zs u) := by
  intro B w w' ⟨g, h1, h2, h3⟩ hs hk
  exact ⟨g, h1, h2, by unfold Blk; rw [hk g h3.lt (.inr h2)]; exact h3⟩
theorem wanted_none {o : Oper} (h : o.guard = none) (f : Nat → Option Bool) : Region.wanted o f = true := by unfold Region.wanted; rw [h]
theorem goesTo_alloc {zs : List Value} {M : Nat → Prop} (hz : (P.info? T).map (·.zero) = some (some (.agg zs.toArray))) :
    GoesTo P ops { dst := some d, op := .alloc T, type := ty, pos := pos, after := after, guard := none } a w fun v w' => Chg M w w' ∧ newBlk T zs v (fun b => M b ∨ (w.heap.size ≤ b ∧ b < w'.heap.size)) w' := by
  cases hq : P.info? T with
  | none => simp [hq] at hz
  | some i =>
    have hzz : i.zero = some (.agg zs.toArray) := by simpa [hq] using hz
    unfold GoesTo
    rw [if_pos (wanted_none rfl _)]
    simp [execOp, Instr.alloc, zeroValue, typeInfo, hq, hzz, newVar, newRow, Value.cells]
    exact ⟨Chg.of_below ((Below.refl _ _).alloc (Nat.le_refl _) _), w.heap.size, rfl, .inr ⟨Nat.le_refl _, by simp⟩, Blk.new w T zs⟩
theorem pureTo_load_agg (AT : AggTy P T n) (hx : a.eval (.tmp x) = .pointer (some ⟨g, 0, none⟩)) (hb : Blk w g T' cs) (hn : cs.length = n) :
    PureTo P ops { dst := some d, op := .load T (.tmp x), type := ty, pos := pos, after := after, guard := none } a w (.agg cs.toArray) := by
  unfold PureTo
  rw [if_pos (wanted_none rfl _)]
  have := run_load_agg AT hn hb
  simp [execOp, hx, this, Below.refl]
/-- The block at this pointer now holds these cells. -/
def stBlk (T : TypeId) (zs : List Value) (p : Value) : GSpec := fun u B w => ∃ g, p = .pointer (some ⟨g, 0, none⟩) ∧ B g ∧ Blk w g T zs
theorem stBlk_loc (T : TypeId) (zs : List Value) (w0 : World) (p u : Value) : Loc w0 (stBlk T zs p u) := by
  intro B w w' ⟨g, h1, h2, h3⟩ hs hk
  exact ⟨g, h1, h2, by unfold Blk; rw [hk g h3.lt (.inr h2)]; exact h3⟩
theorem goesTo_store_agg {cs' : Array Value} {M : Nat → Prop} (AT : AggTy P T n) (hx : a.eval (.tmp x) = .pointer (some ⟨g, 0, none⟩)) (hy : a.eval (.tmp y) = .agg cs') (hb : Blk w g T' cs) (hn : cs.length = n) (hn' : cs'.size = n) (h1 : ∀ u ∈ cs'.toList, u.oneCell' = true) (hM : M g)
    (hl : (Oper.looksAt ops { dst := none, op := .store T (.tmp x) (.tmp y), type := ty, pos := pos, after := after, guard := none }).contains x = true) :
    GoesTo P ops { dst := none, op := .store T (.tmp x) (.tmp y), type := ty, pos := pos, after := after, guard := none } a w fun v w' => Chg M w w' ∧
      stBlk T' cs'.toList (look ops { dst := none, op := .store T (.tmp x) (.tmp y), type := ty, pos := pos, after := after, guard := none } a x) v (fun b => M b ∨ (w.heap.size ≤ b ∧ b < w'.heap.size)) w' := by
  unfold GoesTo
  rw [if_pos (wanted_none rfl _)]
  have hr := run_storeVar_row (P := P) w g T' T cs.toArray cs' hb (by rw [AT.size, hn']) (by simp [hn, hn']) (Array.all_eq_true_iff_forall_mem.2 fun u hu => h1 u (by simpa using hu))
  rw [look_eq hl, hx]
  simp [execOp, hx, hy, Instr.storeAt, Instr.sureAddr, hr]
  exact ⟨⟨rfl, rfl, rfl, by simp, fun k _ hk => setRow_other w g k _ (fun e => hk (e ▸ hM))⟩, g, rfl, .inl hM, by unfold Blk; rw [Array.toArray_toList]; exact setRow_heap w g _ _ T' _ hb⟩
theorem wpG_slice8_h {w0 : World} {dep cons : Nat → List Nat} {QA : Act → World → Prop} {sg : Nat → Option ((Tmp → Value) → GSpec)} {k : Nat} {F : Nat → (Nat → Prop) → World → Prop} (hsg : sg k = none)
    {t e : TypeId} {z : Value} {bytes : Nat} (ST : SlTy P t e 1 bytes z) {v : Value} {l : List UInt8} {W : World} {oh : Operand} {k' : IntKind} {hi : Nat} {HI : Int}
    (hv : a.eval (.tmp x) = v) (hs : Rd W v l) (hhi : a.eval oh = .int k' HI) (ehi : HI = (hi : Int)) (hh : hi ≤ l.length)
    (h : ∀ v', Rd W v' (l.take hi) → v'.ownBlock = v.ownBlock → wpG P ops w0 dep cons QA (gitems sg rest (k + 1)) F (a.put (some d) v')) :
    wpG P ops w0 dep cons QA (gitems sg ({ dst := some d, op := .slice t (.tmp x) none (some oh) none, type := ty, pos := pos, after := after, guard := none } :: rest) k) F a := by
  subst ehi
  obtain ⟨A, c, rfl⟩ := shape_len hs
  obtain ⟨_, _, _, e1, hc, _⟩ := id hs
  cases e1
  have hp := RdW.piece hs 0 hi (Nat.zero_le _) hh
  simp only [Nat.zero_mul, List.drop_zero, Nat.sub_zero] at hp
  refine wpG_pure hsg (sliced A 0 hi c 1) (fun wg Bg _ _ _ => ?_) (h _ ?_ (sliced_block ..))
  · have hr := (run_sliced (w := wg) ST A l.length c 0 hi (Nat.zero_le _) hh hc k' k').2.1
    unfold PureTo
    rw [if_pos (wanted_none rfl _)]
    simp [execOp, hv, hhi, hr, Below.refl]
  · have e : (l.take hi).length = hi := by simp; omega
    unfold Rd; rw [e]; simpa [bvs, List.map_take] using hp
end
end Go.Proofs.Ytfnlcnjflloecaa
