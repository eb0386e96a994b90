/- Records of creds in memory: their cells, how they are built, their parts. -/
import Derived.Test.YtfnlcnjflloecaaDoorDigXor
import Derived.Test.YtfnlcnjflloecaaDoorMore2
import Derived.Test.YtfnlcnjflloecaaDoorGrowP
import Derived.Test.YtfnlcnjflloecaaDoorDig3
import Derived.ChangeKeysEq
import Derived.Deep.MidRow
/-! ### ArrEq -/
set_option linter.unusedVariables false
set_option linter.unusedSimpArgs false
namespace Go.Proofs.YtfnlcnjflloecaaDoor
open Go.RowKit
theorem eqItems8 (w : World) (d : Nat) (a b : List UInt8) : ∀ is : List Nat, (∀ i ∈ is, i < a.length ∧ i < b.length) →
    (Op.eqItems (d + 1) 5 1 (bvs a).toArray (bvs b).toArray is).run Tryd.prog w = .ok (is.all fun i => decide (a.getD i 0 = b.getD i 0)) w
  | [], _ => by simp [Op.eqItems]
  | i :: is, h => by
    have hi := h i (by simp)
    have ih := eqItems8 w d a b is (fun j hj => h j (by simp [hj]))
    have hp : Tryd.prog.plainKey 5 = true := by kernel_rfl
    have p1 : (part 5 (bvs a).toArray (i * 1)).run Tryd.prog w = .ok (.int .u8 (bt a i)) w := run_part_plain w hp (by simpa using bvs_get a i hi.1)
    have p2 : (part 5 (bvs b).toArray (i * 1)).run Tryd.prog w = .ok (.int .u8 (bt b i)) w := run_part_plain w hp (by simpa using bvs_get b i hi.2)
    have p3 := run_equalIn_int (P := Tryd.prog) (w := w) d 5 .u8 .u8 (bt a i) (bt b i) Tryd.underlying5
    have hb : (bt a i == bt b i) = decide (a.getD i 0 = b.getD i 0) := by
      unfold bt
      rw [Bool.eq_iff_iff]
      simp only [beq_iff_eq, decide_eq_true_eq]
      constructor
      · intro h; exact UInt8.toNat_inj.1 (by omega)
      · intro h; rw [h]
    simp only [Op.eqItems, Sem.run_bind, p1, p2, p3, Result.andThen_ok, hb, List.all_cons]
    cases hd : decide (a.getD i 0 = b.getD i 0)
    · simp
    · simpa using ih
set_option maxRecDepth 100000 in
@[go_sem] theorem eq32_run (w : World) (a b : List UInt8) (ha : a.length = 32) (hb : b.length = 32) :
    (Op.equalIn 10000 40 (.agg (bvs a).toArray) (.agg (bvs b).toArray)).run Tryd.prog w = .ok (decide (a = b)) w := by
  obtain ⟨i, hi⟩ := info_of_underlying Tryd.underlying5
  have hc : Tryd.prog.cellsOf 5 = 1 := by kernel_rfl
  rw [show (10000 : Nat) = 9999 + 1 from rfl, run_equalIn_array w 9999 _ _ Tryd.underlying40 hi, hc]
  rw [eqItems8 w 9998 a b _ (fun j hj => by have := List.mem_range.1 hj; omega)]
  congr 1
  rw [Bool.eq_iff_iff]
  simp only [List.all_eq_true, List.mem_range, decide_eq_true_eq]
  constructor
  · intro h
    apply List.ext_getElem (by omega)
    intro j h1 h2
    have := h j (by omega)
    simpa [List.getD_eq_getElem?_getD, h1, h2] using this
  · rintro rfl j _; rfl
end Go.Proofs.YtfnlcnjflloecaaDoor
/-! ### Mark -/
set_option linter.unusedVariables false
set_option linter.unusedSimpArgs false
namespace Go.Proofs.YtfnlcnjflloecaaDoor
open Go.RowKit
theorem freeze_block (w : World) (g k : Nat) (C : Array Value) (e : TypeId) (fr : Nat × Nat) (hb : w.heap[g]? = some (.cells C e fr)) :
    (∃ fr', (w.freeze ⟨g, k, none⟩ 1).heap[g]? = some (.cells C e fr')) ∧ w.grownBy (w.freeze ⟨g, k, none⟩ 1) (some g) := by
  obtain ⟨lo, hi⟩ := fr
  unfold World.freeze
  rw [if_neg (by decide)]
  refine ⟨⟨_, by simp only [Array.getElem?_modify, if_pos, hb]; rfl⟩, rfl, rfl, rfl, by simp, fun j _ hj => ?_⟩
  simp only [Array.getElem?_modify]
  rw [if_neg (fun e => hj (by rw [e]))]
theorem run_convert_mark {P : Program} (w : World) (t e : TypeId) (g n c : Nat) (C : Array Value) (E : TypeId) (fr : Nat × Nat) (ht : P.underlying t = some (.slice e)) (he : P.underlying e = some (.int .u8)) (hb : w.heap[g]? = some (.cells C E fr)) :
    (convert t t (.slice (some ⟨g, 0, none⟩) n c)).run P w = .ok (.slice (some ⟨g, 0, none⟩) n c) (w.freeze ⟨g, C.size, none⟩ 1) := by
  have hsh : w.shape? g = some (E, C.size) := by unfold World.shape?; rw [hb]
  simp [convert, run_underlying ht, run_underlying he, markStringish, hsh]
/-- A row that reads as these bytes, marked. -/
def rd8 (l : List UInt8) : GSpec := fun u B w => ∃ g, u = .slice (some ⟨g, 0, none⟩) l.length l.length ∧ B g ∧ ∃ e fr, w.heap[g]? = some (.cells (bvs l).toArray e fr)
theorem rd8_loc (l : List UInt8) (w0 : World) (u : Value) : Loc w0 (rd8 l u) := by
  intro B w w' ⟨g, h1, h2, e, fr, h3⟩ hs hk
  exact ⟨g, h1, h2, e, fr, by rw [hk g (Array.getElem?_eq_some_iff.1 h3).1 (.inr h2)]; exact h3⟩
theorem rd8_rd {l : List UInt8} {u : Value} {B : Nat → Prop} {w : World} (h : rd8 l u B w) (hl : l.length ≤ 1000000) : Rd w u l := by
  obtain ⟨g, rfl, _, e, fr, h3⟩ := h
  refine Rd.mk rfl (Nat.le_refl _) (by unfold maxLen; omega) fun _ => ⟨g, 0, rfl, fun j hj => ?_⟩
  rw [cell_of_row w g (0 + j) _ e fr h3]
  simp [bvs_get l j hj]
section
variable {P : Program} {w : World} {ops : Array Oper} {a : Act} {M N : Nat → Prop} {o : Oper} {t e : TypeId} {x : Nat} {l : List UInt8}
theorem goesTo_row {n : Nat} (hw : Region.wanted o (yielded ops a.tmps) = true) (hn : n = l.length)
    (hr : (execOp a.eval o).run P w = .ok (.value (.slice (some ⟨w.heap.size, 0, none⟩) n n)) (w.alloc (.cells (bvs l).toArray e))) :
    GoesTo P ops o a w fun v' w' => Chg M w w' ∧ rd8 l v' (fun b => M b ∨ (w.heap.size ≤ b ∧ b < w'.heap.size)) w' := by
  subst hn
  unfold GoesTo
  rw [if_pos hw, hr]
  refine ⟨Chg.of_below ((Below.refl _ _).alloc (Nat.le_refl _) _), w.heap.size, rfl, .inr ⟨Nat.le_refl _, by simp⟩, e, (0, 0), ?_⟩
  show (w.heap.push _)[w.heap.size]? = _
  simp
theorem goesTo_mark {v : Value} (hS : rd8 l v M w) (hw : Region.wanted o (yielded ops a.tmps) = true) (ho : o.op = .convert t t (.tmp x)) (ht : P.underlying t = some (.slice e)) (he : P.underlying e = some (.int .u8)) (hx : a.eval (.tmp x) = v) (hM : ∀ k, M k → N k) :
    GoesTo P ops o a w fun v' w' => Chg N w w' ∧ rd8 l v' (fun b => N b ∨ (w.heap.size ≤ b ∧ b < w'.heap.size)) w' := by
  obtain ⟨g, rfl, h2, E, fr, h3⟩ := hS
  have hr := run_convert_mark (P := P) w t e g l.length l.length _ E fr ht he h3
  obtain ⟨⟨fr', k1⟩, k2⟩ := freeze_block w g (bvs l).toArray.size _ E fr h3
  unfold GoesTo
  rw [if_pos hw]
  simp [execOp, ho, hx]
  simp only [List.size_toArray] at hr k1 k2
  rw [hr]
  exact ⟨Chg.grown k2 (fun k hk => by cases hk; exact hM g h2), g, rfl, .inl (hM g h2), E, fr', k1⟩
end
theorem rd8_locO (M0 : Nat → Prop) (l : List UInt8) (w0 : World) (u : Value) : O.Loc M0 w0 (rd8 l u) := by
  intro B w w' ⟨g, h1, h2, e, fr, h3⟩ hs hk
  exact ⟨g, h1, h2, e, fr, by rw [hk g (Array.getElem?_eq_some_iff.1 h3).1 (.inr h2)]; exact h3⟩
/-- A whole array or struct stored into it. -/
theorem goesTo_aggB {P : Program} {ops : Array Oper} {w : World} {a : Act} {o : Oper} {p x y n : Nat} {T T' : TypeId} {M N : Nat → Prop} {cs : List Value} {cs' : Array Value} {u : Value} (AT : AggTy P T n) (hS : oneB p T' cs u M w) (hw : Region.wanted o (yielded ops a.tmps) = true) (ho : o.op = .store T (.tmp x) (.tmp y))
    (hx : a.eval (.tmp x) = .pointer (some ⟨p, 0, none⟩)) (hy : a.eval (.tmp y) = .agg cs') (hn : cs.length = n) (hn' : cs'.size = n) (h1 : ∀ v ∈ cs'.toList, v.oneCell' = true) (hM : ∀ k, M k → N k) :
    GoesTo P ops o a w fun u' w' => Chg N w w' ∧ oneB p T' cs'.toList u' (fun b => N b ∨ (w.heap.size ≤ b ∧ b < w'.heap.size)) w' := by
  obtain ⟨k1, k3⟩ := hS
  have hr := run_storeVar_row (P := P) w p T' T cs.toArray cs' k1 (by rw [AT.size, hn']) (by simp [hn, hn']) (Array.all_eq_true_iff_forall_mem.2 fun u hu => h1 u (by simpa using hu))
  unfold GoesTo
  rw [if_pos hw]
  simp [execOp, ho, hx, hy, Instr.storeAt, Instr.sureAddr, hr]
  exact ⟨⟨rfl, rfl, rfl, by simp, fun k _ hk => setRow_other w p k _ (fun e => hk (e ▸ hM _ k3))⟩, by unfold Blk; rw [Array.toArray_toList]; exact setRow_heap w p _ _ T' _ k1, .inl (hM _ k3)⟩
/-- Two blocks. -/
def twoB (p q : Nat) (T T2 : TypeId) (cs ds : List Value) : GSpec := fun _ B w => Blk w p T cs ∧ Blk w q T2 ds ∧ B p ∧ B q
theorem twoB_loc (M0 : Nat → Prop) (w0 : World) (p q : Nat) (T T2 : TypeId) (cs ds : List Value) (u : Value) : O.Loc M0 w0 (twoB p q T T2 cs ds u) := by
  intro B w w' ⟨h1, h2, h3, h4⟩ hs hk
  exact ⟨by unfold Blk; rw [hk p h1.lt (.inr h3)]; exact h1, by unfold Blk; rw [hk q h2.lt (.inr h4)]; exact h2, h3, h4⟩
theorem goesTo_two1 {P : Program} {ops : Array Oper} {w : World} {a : Act} {o : Oper} {p q x y n : Nat} {T T' T2 : TypeId} {M N : Nat → Prop} {cs ds : List Value} {cs' : Array Value} {u : Value} (AT : AggTy P T n) (hS : twoB p q T' T2 cs ds u M w) (hne : q ≠ p) (hw : Region.wanted o (yielded ops a.tmps) = true) (ho : o.op = .store T (.tmp x) (.tmp y))
    (hx : a.eval (.tmp x) = .pointer (some ⟨p, 0, none⟩)) (hy : a.eval (.tmp y) = .agg cs') (hn : cs.length = n) (hn' : cs'.size = n) (h1 : ∀ v ∈ cs'.toList, v.oneCell' = true) (hM : ∀ k, M k → N k) :
    GoesTo P ops o a w fun u' w' => Chg N w w' ∧ twoB p q T' T2 cs'.toList ds u' (fun b => N b ∨ (w.heap.size ≤ b ∧ b < w'.heap.size)) w' := by
  obtain ⟨k1, k2, k3, k4⟩ := hS
  have hr := run_storeVar_row (P := P) w p T' T cs.toArray cs' k1 (by rw [AT.size, hn']) (by simp [hn, hn']) (Array.all_eq_true_iff_forall_mem.2 fun u hu => h1 u (by simpa using hu))
  unfold GoesTo
  rw [if_pos hw]
  simp [execOp, ho, hx, hy, Instr.storeAt, Instr.sureAddr, hr]
  exact ⟨⟨rfl, rfl, rfl, by simp, fun k _ hk => setRow_other w p k _ (fun e => hk (e ▸ hM _ k3))⟩, by unfold Blk; rw [Array.toArray_toList]; exact setRow_heap w p _ _ T' _ k1, by unfold Blk; rw [setRow_other w p q _ hne]; exact k2, .inl (hM _ k3), .inl (hM _ k4)⟩
theorem goesTo_two2 {P : Program} {ops : Array Oper} {w : World} {a : Act} {o : Oper} {p q x y n : Nat} {T T' T2 : TypeId} {M N : Nat → Prop} {cs ds : List Value} {cs' : Array Value} {u : Value} (AT : AggTy P T n) (hS : twoB p q T2 T' ds cs u M w) (hne : p ≠ q) (hw : Region.wanted o (yielded ops a.tmps) = true) (ho : o.op = .store T (.tmp x) (.tmp y))
    (hx : a.eval (.tmp x) = .pointer (some ⟨q, 0, none⟩)) (hy : a.eval (.tmp y) = .agg cs') (hn : cs.length = n) (hn' : cs'.size = n) (h1 : ∀ v ∈ cs'.toList, v.oneCell' = true) (hM : ∀ k, M k → N k) :
    GoesTo P ops o a w fun u' w' => Chg N w w' ∧ twoB p q T2 T' ds cs'.toList u' (fun b => N b ∨ (w.heap.size ≤ b ∧ b < w'.heap.size)) w' := by
  obtain ⟨k2, k1, k4, k3⟩ := hS
  have hr := run_storeVar_row (P := P) w q T' T cs.toArray cs' k1 (by rw [AT.size, hn']) (by simp [hn, hn']) (Array.all_eq_true_iff_forall_mem.2 fun u hu => h1 u (by simpa using hu))
  unfold GoesTo
  rw [if_pos hw]
  simp [execOp, ho, hx, hy, Instr.storeAt, Instr.sureAddr, hr]
  exact ⟨⟨rfl, rfl, rfl, by simp, fun k _ hk => setRow_other w q k _ (fun e => hk (e ▸ hM _ k3))⟩, by unfold Blk; rw [setRow_other w q p _ hne]; exact k2, by unfold Blk; rw [Array.toArray_toList]; exact setRow_heap w q _ _ T' _ k1, .inl (hM _ k4), .inl (hM _ k3)⟩
/-- Two and three results in memory, and one in a slot. -/
theorem ret_2agg {P : Program} {w : World} {fn : Func} {R : Ending → World → Prop} {a : Act} {p q u : Tmp} {T T1 T2 : TypeId} {n g1 g2 : Nat} {c1 c2 : List Value} {x : Value} (h : fn.results = #[.cell p T, .cell q T, .tmp u]) (AT : AggTy P T n) (hd : a.defers = [])
    (hp : a.tmps.getD p undef = .pointer (some ⟨g1, 0, none⟩)) (hq : a.tmps.getD q undef = .pointer (some ⟨g2, 0, none⟩)) (hb1 : Blk w g1 T1 c1) (hb2 : Blk w g2 T2 c2) (hn1 : c1.length = n) (hn2 : c2.length = n)
    (hu : a.tmps.getD u undef = x) (hR : R (.returned (.tuple #[.agg c1.toArray, .agg c2.toArray, x])) w) : bodyPost P fn R .ret a w := by
  obtain ⟨dd, h1, h2⟩ := AT.shape
  refine bodyPost_ret_by ?_ hd hR
  have r1 := run_loadVar_row (P := P) w g1 T1 T c1.toArray (0, 0) dd hb1 h1 (by cases dd <;> simp_all) (by rw [AT.size]; simp [hn1])
  have r2 := run_loadVar_row (P := P) w g2 T2 T c2.toArray (0, 0) dd hb2 h1 (by cases dd <;> simp_all) (by rw [AT.size]; simp [hn2])
  simp only [Array.getD_eq_getD_getElem?] at hp hq hu
  simp [results, h, hp, hq, hu, asAddr, r1, r2]
theorem ret_3agg {P : Program} {w : World} {fn : Func} {R : Ending → World → Prop} {a : Act} {p q s u : Tmp} {T T1 T2 T3 : TypeId} {n g1 g2 g3 : Nat} {c1 c2 c3 : List Value} {x : Value} (h : fn.results = #[.cell p T, .cell q T, .cell s T, .tmp u]) (AT : AggTy P T n) (hd : a.defers = [])
    (hp : a.tmps.getD p undef = .pointer (some ⟨g1, 0, none⟩)) (hq : a.tmps.getD q undef = .pointer (some ⟨g2, 0, none⟩)) (hs : a.tmps.getD s undef = .pointer (some ⟨g3, 0, none⟩)) (hb1 : Blk w g1 T1 c1) (hb2 : Blk w g2 T2 c2) (hb3 : Blk w g3 T3 c3) (hn1 : c1.length = n) (hn2 : c2.length = n) (hn3 : c3.length = n)
    (hu : a.tmps.getD u undef = x) (hR : R (.returned (.tuple #[.agg c1.toArray, .agg c2.toArray, .agg c3.toArray, x])) w) : bodyPost P fn R .ret a w := by
  obtain ⟨dd, h1, h2⟩ := AT.shape
  refine bodyPost_ret_by ?_ hd hR
  have r1 := run_loadVar_row (P := P) w g1 T1 T c1.toArray (0, 0) dd hb1 h1 (by cases dd <;> simp_all) (by rw [AT.size]; simp [hn1])
  have r2 := run_loadVar_row (P := P) w g2 T2 T c2.toArray (0, 0) dd hb2 h1 (by cases dd <;> simp_all) (by rw [AT.size]; simp [hn2])
  have r3 := run_loadVar_row (P := P) w g3 T3 T c3.toArray (0, 0) dd hb3 h1 (by cases dd <;> simp_all) (by rw [AT.size]; simp [hn3])
  simp only [Array.getD_eq_getD_getElem?] at hp hq hs hu
  simp [results, h, hp, hq, hs, hu, asAddr, r1, r2, r3]
end Go.Proofs.YtfnlcnjflloecaaDoor
/-! ### Rec -/
set_option linter.unusedVariables false
set_option linter.unusedSimpArgs false
set_option linter.unnecessarySimpa false
namespace Go.Proofs.YtfnlcnjflloecaaDoor
open Go.RowKit
def zB : List UInt8 := List.replicate 32 0
theorem zB_len : zB.length = 32 := rfl
def recC (u : List UInt8) (v : Value) (n : Int) (a b : List UInt8) : List Value := .string (strB u) :: v :: .int .i64 n :: (bvs a ++ bvs b)
theorem recC_len {u : List UInt8} {v : Value} {n : Int} {a b : List UInt8} (ha : a.length = 32) (hb : b.length = 32) : (recC u v n a b).length = 67 := by
  simp [recC, bvs_length, ha, hb]
theorem recC_one {u : List UInt8} {v : Value} {n : Int} {a b : List UInt8} (hv : v.oneCell' = true) : ∀ x ∈ recC u v n a b, x.oneCell' = true := by
  intro x hx
  simp only [recC, List.mem_cons, List.mem_append] at hx
  rcases hx with rfl | rfl | rfl | h | h
  · rfl
  · exact hv
  · rfl
  · exact bvs_one _ _ h
  · exact bvs_one _ _ h
theorem agR : AggTy Tryd.prog 42 67 := ⟨⟨_, Tryd.underlying42, rfl⟩, by kernel_rfl⟩
theorem zR : (Tryd.prog.info? 42).map (·.zero) = some (some (.agg (recC [] (.slice none 0 0) 0 zB zB).toArray)) := by kernel_rfl
theorem bR0 : Tryd.prog.built 42 [] = some (recC [] (.slice none 0 0) 0 zB zB).toArray := by kernel_rfl
theorem fold_set (off : Nat) : ∀ (vs : List Value) (k : Nat) (pre mid post : List Value), mid.length = vs.length → pre.length = off + k →
    (vs.zipIdx k).foldl (fun (cs : Array Value) (x : Value × Nat) => cs.setIfInBounds (off + x.2) x.1) (pre ++ (mid ++ post)).toArray = (pre ++ (vs ++ post)).toArray
  | [], k, pre, mid, post, h, _ => by
    have : mid = [] := List.eq_nil_of_length_eq_zero h
    subst this
    rfl
  | v :: vs, k, pre, [], post, h, _ => by cases h
  | v :: vs, k, pre, m :: mid, post, h, hp => by
    simp only [List.zipIdx_cons, List.foldl_cons]
    have e : (pre ++ (m :: mid ++ post)).toArray.setIfInBounds (off + k) v = ((pre ++ [v]) ++ (mid ++ post)).toArray := by
      rw [List.setIfInBounds_toArray]
      congr 1
      rw [← hp]
      simp [List.set_append]
    rw [e, fold_set off vs (k + 1) (pre ++ [v]) mid post (by simpa using h) (by simp; omega)]
    simp
theorem fold_setA (off : Nat) (V : Array Value) (pre mid post : List Value) (h : mid.length = V.size) (hp : pre.length = off) :
    V.zipIdx.foldl (fun (cs : Array Value) (x : Value × Nat) => cs.setIfInBounds (off + x.2) x.1) (pre ++ (mid ++ post)).toArray = (pre ++ (V.toList ++ post)).toArray := by
  obtain ⟨l⟩ := V
  have := fold_set off l 0 pre mid post (by simpa using h) (by omega)
  simp only at this ⊢
  rw [← this, ← Array.foldl_toList, Array.toList_zipIdx]
theorem fill_step (place : Nat → Option (Nat × Nat)) (i off size : Nat) (v : Value) (rest : List (Nat × Value)) (pre mid post : List Value) (hpl : place i = some (off, size)) (hs : v.cells.size = size) (hm : mid.length = size) (hp : pre.length = off) :
    Instr.fill place (pre ++ (mid ++ post)).toArray ((i, v) :: rest) = Instr.fill place (pre ++ (v.cells.toList ++ post)).toArray rest := by
  conv => lhs; unfold Instr.fill
  simp only [hpl]
  rw [if_neg (by simp [hs, hm, hp])]
  have := fold_setA off v.cells pre mid post (by omega) hp
  rw [← this]
theorem rec_built (u : List UInt8) (v : Value) (n : Int) (a b : List UInt8) (hv : v.cells = #[v]) (ha : a.length = 32) (hb : b.length = 32) :
    Tryd.prog.built 42 [(0, .string (strB u)), (1, v), (2, .int .i64 n), (3, .agg (bvs a).toArray), (4, .agg (bvs b).toArray)] = some (recC u v n a b).toArray := by
  obtain ⟨i, hi⟩ := info_of_underlying Tryd.underlying42
  have hz : i.zero = some (.agg (recC [] (.slice none 0 0) 0 zB zB).toArray) := by
    have := zR
    rw [hi] at this
    simpa using this
  have hpl : (Tryd.prog.underlying 42).bind (fun d => match d with | .struct fields => fields.toList.mapM (fun f => (Tryd.prog.info? f.type).map fun i => (f.offset, i.size)) | _ => none) = some [(0, 1), (1, 1), (2, 1), (3, 32), (35, 32)] := by kernel_rfl
  obtain ⟨fs, hfs⟩ : ∃ fs, Tryd.prog.underlying 42 = some (.struct fs) := ⟨_, Tryd.underlying42⟩
  rw [hfs] at hpl
  simp only [Option.bind_some] at hpl
  unfold Program.built
  simp only [hi, hfs, hz, hpl, Value.cells]
  have e0 : (recC [] (.slice none 0 0) 0 zB zB).toArray = (([] : List Value) ++ ([Value.string (strB [])] ++ (Value.slice none 0 0 :: Value.int .i64 0 :: (bvs zB ++ bvs zB)))).toArray := rfl
  rw [e0, fill_step _ 0 0 1 _ _ [] _ _ rfl rfl rfl rfl]
  have e1 : (([] : List Value) ++ ((Value.string (strB u)).cells.toList ++ (Value.slice none 0 0 :: Value.int .i64 0 :: (bvs zB ++ bvs zB)))).toArray = ([Value.string (strB u)] ++ ([Value.slice none 0 0] ++ (Value.int .i64 0 :: (bvs zB ++ bvs zB)))).toArray := rfl
  rw [e1, fill_step _ 1 1 1 _ _ [.string (strB u)] _ _ rfl (by rw [hv]; rfl) rfl rfl, hv]
  have e2 : ([Value.string (strB u)] ++ ((#[v] : Array Value).toList ++ (Value.int .i64 0 :: (bvs zB ++ bvs zB)))).toArray = ([Value.string (strB u), v] ++ ([Value.int .i64 0] ++ (bvs zB ++ bvs zB))).toArray := rfl
  rw [e2, fill_step _ 2 2 1 _ _ [.string (strB u), v] _ _ rfl rfl rfl rfl]
  have e3 : ([Value.string (strB u), v] ++ ((Value.int .i64 n).cells.toList ++ (bvs zB ++ bvs zB))).toArray = ([Value.string (strB u), v, Value.int .i64 n] ++ (bvs zB ++ bvs zB)).toArray := rfl
  rw [e3, fill_step _ 3 3 32 _ _ [.string (strB u), v, .int .i64 n] (bvs zB) (bvs zB) rfl (by simp [Value.cells, bvs_length, ha]) (by rw [bvs_length]; rfl) rfl]
  have e4 : ([Value.string (strB u), v, Value.int .i64 n] ++ ((Value.agg (bvs a).toArray).cells.toList ++ bvs zB)).toArray = (([Value.string (strB u), v, Value.int .i64 n] ++ bvs a) ++ (bvs zB ++ [])).toArray := by simp [Value.cells]
  rw [e4, fill_step _ 4 35 32 _ _ ([Value.string (strB u), v, Value.int .i64 n] ++ bvs a) (bvs zB) [] rfl (by simp [Value.cells, bvs_length, hb]) (by rw [bvs_length]; rfl) (by simp [bvs_length, ha])]
  simp [Instr.fill, recC, Value.cells]
section
variable {w : World} {g : Nat} {T : TypeId} {u : List UInt8} {v : Value} {n : Int} {a b : List UInt8}
theorem rec_st (h : Blk w g T (recC u v n a b)) (ha : a.length = 32) : w.rangeAt g 3 (bvs a) := by
  intro j x hx
  have hj : j < (bvs a).length := (List.getElem?_eq_some_iff.1 hx).1
  rw [h.cell, recC, show 3 + j = j + 1 + 1 + 1 by omega]
  simp only [List.getElem?_cons_succ]
  rw [List.getElem?_append_left hj]; exact hx
theorem rec_sv (h : Blk w g T (recC u v n a b)) (ha : a.length = 32) : w.rangeAt g 35 (bvs b) := by
  intro j x hx
  rw [h.cell, recC, show 35 + j = (32 + j) + 1 + 1 + 1 by omega]
  simp only [List.getElem?_cons_succ]
  rw [List.getElem?_append_right (by rw [bvs_length]; omega), bvs_length, ha]
  simpa using hx
end
theorem L_load_mid32 {P : Program} {w : World} {ops : Array Oper} {rest : List Oper} {o : Oper} {a : Act} {Q : Exit → Act → World → Prop} {x g k : Nat} {T : TypeId} {cs : List Value} (hw : Region.wanted o (yielded ops a.tmps) = true) (ho : o.op = .load T (.tmp x)) (AT : AggTy P T 32)
    (hx : a.eval (.tmp x) = .pointer (some ⟨g, k, none⟩)) (hb : w.rangeAt g k cs) (hn : cs.length = 32) (h : wpList P ops Q rest (a.put o.dst (.agg cs.toArray)) w) : wpList P ops Q (o :: rest) a w := by
  obtain ⟨dd, h1, h2⟩ := AT.shape
  exact wpList_want hw fun _ hK => wp_load_mid T (.tmp x) ho g k hx cs dd hb h1 (by cases dd <;> simp_all) (by rw [AT.size, hn]) (hK _ _ h)
theorem L_load_aggw {P : Program} {w : World} {ops : Array Oper} {rest : List Oper} {o : Oper} {a : Act} {Q : Exit → Act → World → Prop} {x : Nat} {T T' : TypeId} {n g : Nat} {cs : List Value} (hw : Region.wanted o (yielded ops a.tmps) = true) (ho : o.op = .load T (.tmp x)) (AT : AggTy P T n)
    (hx : a.eval (.tmp x) = .pointer (some ⟨g, 0, none⟩)) (hb : Blk w g T' cs) (hn : cs.length = n) (h : wpList P ops Q rest (a.put o.dst (.agg cs.toArray)) w) : wpList P ops Q (o :: rest) a w := by
  obtain ⟨dd, h1, h2⟩ := AT.shape
  exact wpList_want hw fun _ hK => wp_load_row T (.tmp x) ho g hx T' cs.toArray (0, 0) dd hb h1 (by cases dd <;> simp_all) (by rw [AT.size]; simp [hn]) (hK _ _ h)
end Go.Proofs.YtfnlcnjflloecaaDoor
