/- General words for walks over bytes: what an append leaves, makers for the heads of drawn regions, bytes as a text. -/
import Derived.Test.YtfnlcnjflloecaaArr
import Derived.Laws.BytesArg
set_option linter.unusedVariables false
set_option linter.unusedSimpArgs false
namespace Go.Proofs.Ytfnlcnjflloecaa
open Go.RowKit
def slen : Value → Nat
  | .slice _ n _ => n
  | _ => 0
theorem Rd.slen {w : World} {v : Value} {l : List UInt8} (h : Rd w v l) : slen v = l.length := by obtain ⟨A, c, rfl, _⟩ := h.open; rfl
theorem app_step0 {w w1 w2 : World} {base : Nat} {e : TypeId} {v1 : Value} {l1 : List UInt8} (hb : Below w.heap.size w w1) (ho : Own8 w1 base e v1 l1) (hbase : w.heap.size ≤ base) (hg : w1.grownBy w2 v1.ownBlock) :
    Below w.heap.size w w2 ∧ ∀ g T cs, Blk w1 g T cs → g < base → Blk w2 g T cs :=
  ⟨hb.grown hg hb.size (fun k hk => Nat.le_trans hbase (ho.base_le k hk)), fun g T cs hk hlt => hk.grown hg (fun e => by have := ho.base_le g e.symm; omega)⟩
theorem app_step {w w1 w2 : World} {base : Nat} {e : TypeId} {v1 : Value} {l1 : List UInt8} {o : Obj} (hb : Below w.heap.size w w1) (ho : Own8 w1 base e v1 l1) (hbase : w.heap.size ≤ base) (hg : (w1.alloc o).grownBy w2 v1.ownBlock) :
    Below w.heap.size w w2 ∧ ∀ g T cs, Blk w1 g T cs → g < base → Blk w2 g T cs := by
  have hba := (Below.refl w1.heap.size w1).alloc (Nat.le_refl _) o
  have h2 := app_step0 (below_below hb hba) (ho.below hba) hbase hg
  exact ⟨h2.1, fun g T cs hk hlt => h2.2 g T cs (hk.below hba) hlt⟩
theorem new8_of {w w' : World} {e : TypeId} {l : List UInt8} {u : Value} {M : Nat → Prop} (ho : Own8 w' w.heap.size e u l) : new8 e l u (fun b => M b ∨ (w.heap.size ≤ b ∧ b < w'.heap.size)) w' :=
  ⟨ho.mono (Nat.zero_le _), fun g hg => .inr ⟨ho.base_le g hg, ho.lt g hg⟩⟩
theorem Rd.ne_own {w w2 : World} {B : Nat} {e : TypeId} {u v : Value} {l l' : List UInt8} (h : Rd w v l) (hB : w.heap.size ≤ B) (ho : Own8 w2 B e u l') (hn : 0 < l.length) : v.ownBlock ≠ u.ownBlock := by
  intro e1
  obtain ⟨A, c, rfl, _, _, h3⟩ := h.open
  obtain ⟨b, off, rfl, _⟩ := h3 hn
  have h1 := h.lt b rfl hn
  have h2 := ho.base_le b (by rw [← e1]; rfl)
  omega
theorem Own8.lit (w : World) (base : Nat) (e : TypeId) (l : List UInt8) (hb : base ≤ w.heap.size) (hl : l.length ≤ maxLen) {n c : Nat} (hn : n = l.length) (hc : c = l.length) :
    Own8 (w.alloc (.cells (bvs l).toArray e)) base e (.slice (some ⟨w.heap.size, 0, none⟩) n c) l := by
  subst hn hc
  exact ⟨by simp [bvs_length], .inr ⟨w.heap.size, _, _, rfl, hb, heap_alloc_new w _, Nat.le_refl _, hl, by simp [bvs_length], by simp [bvs_length, List.take_of_length_le]⟩⟩
theorem goesTo_app8w {P : Program} {w : World} {ops : Array Oper} {a : Act} {M : Nat → Prop} {base : Nat} {t tx e : TypeId} {o : Oper} (hw : Region.wanted o (yielded ops a.tmps) = true) (s x : Operand)
    (ho : o.op = .call { callee := .builtin .append, args := #[s, x], argTypes := #[t, tx] }) (ST : SlTy P t e 1 1 (.int .u8 0))
    {v : Value} (hs : a.eval s = v) {l : List UInt8} (hown : Own8 w base e v l)
    {xv : Value} (hxv : a.eval x = xv) {k : List UInt8} (hx : Src P 1 tx xv k.length (bvs k) w) (hbytes : l.length + k.length ≤ 140737488355328) (hbase : base ≤ w.heap.size) (hM : ∀ g, v.ownBlock = some g → M g) :
    GoesTo P ops o a w fun v' w' => Chg M w w' ∧ new8 e (l ++ k) v' (fun b => M b ∨ (w.heap.size ≤ b ∧ b < w'.heap.size)) w' := by
  obtain ⟨v', w', hr, h2, h3, h4⟩ := run_append_src (P := P) ST o.type v l.length (bvs l) hown xv k.length (bvs k) hx (by unfold maxLen; omega) (by omega) hbase
  unfold GoesTo
  rw [if_pos hw]
  unfold execOp
  simp only [ho, resolve, invoke, builtin, Sem.run_bind, Sem.run_pure, Result.andThen_ok, List.map_toArray, List.map_cons, List.map_nil, hs, hxv, hr]
  have ho' : Own8 w' base e v' (l ++ k) := by unfold Own8; rw [bvs_append, List.length_append]; exact h2
  refine ⟨Chg.grown h3 hM, ho'.mono (Nat.zero_le _), fun g hg => ?_⟩
  rcases h4 with h4 | h4
  · exact .inl (hM g (by rw [← h4]; exact hg))
  · rw [h4] at hg; cases hg
    exact .inr ⟨Nat.le_refl _, ho'.lt _ h4⟩
theorem goesTo_lit {P : Program} {w : World} {ops : Array Oper} {a : Act} {M : Nat → Prop} {e : TypeId} {o : Oper} (hw : Region.wanted o (yielded ops a.tmps) = true) (l : List UInt8) {n : Nat} (hn : n = l.length) (hm : n ≤ maxLen)
    (hr : (execOp a.eval o).run P w = .ok (.value (.slice (some ⟨w.heap.size, 0, none⟩) n n)) (w.alloc (.cells (bvs l).toArray e))) :
    GoesTo P ops o a w fun v' w' => Chg M w w' ∧ new8 e l v' (fun b => M b ∨ (w.heap.size ≤ b ∧ b < w'.heap.size)) w' := by
  unfold GoesTo
  rw [if_pos hw, hr]
  have ho := Own8.lit w w.heap.size e l (Nat.le_refl _) (by omega) hn hn
  exact ⟨Chg.of_below ((Below.refl _ _).alloc (Nat.le_refl _) _), ho.mono (Nat.zero_le _), fun g hg => .inr ⟨ho.base_le g hg, ho.lt g hg⟩⟩
theorem pureTo_load_aggw {P : Program} {w : World} {ops : Array Oper} {a : Act} {d x : Nat} {ty : TypeId} {pos : String} {after : Array Edge} {T T' : TypeId} {n g : Nat} {cs : List Value} {gd : Option (Nat × Bool)}
    (hw : Region.wanted { dst := some d, op := .load T (.tmp x), type := ty, pos := pos, after := after, guard := gd } (yielded ops a.tmps) = true) (AT : AggTy P T n) (hx : a.eval (.tmp x) = .pointer (some ⟨g, 0, none⟩)) (hb : Blk w g T' cs) (hn : cs.length = n) :
    PureTo P ops { dst := some d, op := .load T (.tmp x), type := ty, pos := pos, after := after, guard := gd } a w (.agg cs.toArray) := by
  unfold PureTo
  rw [if_pos hw]
  have := run_load_agg AT hn hb
  simp [execOp, hx, this, Below.refl]
theorem wpG_lenw {P : Program} {ops : Array Oper} {w0 : World} {dep cons : Nat → List Nat} {QA : Act → World → Prop} {sg : Nat → Option ((Tmp → Value) → GSpec)} {rest : List Oper} {k : Nat} {F : Nat → (Nat → Prop) → World → Prop} {a : Act} {d x : Nat} {ty : TypeId} {pos : String} {after : Array Edge} {t e : TypeId} {gd : Option (Nat × Bool)}
    (hsg : sg k = none) (hw : Region.wanted { dst := some d, op := .call { callee := .builtin .len, args := #[.tmp x], argTypes := #[t] }, type := ty, pos := pos, after := after, guard := gd } (yielded ops a.tmps) = true) (ht : P.underlying t = some (.slice e)) {v : Value} {l : List UInt8} {W : World} (hv : a.eval (.tmp x) = v) (hs : Rd W v l)
    (h : wpG P ops w0 dep cons QA (gitems sg rest (k + 1)) F (a.put (some d) (.int .i64 l.length))) :
    wpG P ops w0 dep cons QA (gitems sg ({ dst := some d, op := .call { callee := .builtin .len, args := #[.tmp x], argTypes := #[t] }, type := ty, pos := pos, after := after, guard := gd } :: rest) k) F a := by
  obtain ⟨A, c, rfl⟩ := shape_len hs
  refine wpG_pure hsg _ (fun wg Bg _ _ _ => ?_) h
  unfold PureTo
  rw [if_pos hw]
  simp [execOp, resolve, invoke, builtin, Builtin.len_, hv, run_underlying ht, Below.refl]
  rfl
theorem wpG_len {P : Program} {ops : Array Oper} {w0 : World} {dep cons : Nat → List Nat} {QA : Act → World → Prop} {sg : Nat → Option ((Tmp → Value) → GSpec)} {rest : List Oper} {k : Nat} {F : Nat → (Nat → Prop) → World → Prop} {a : Act} {d x : Nat} {ty : TypeId} {pos : String} {after : Array Edge} {t e : TypeId}
    (hsg : sg k = none) (ht : P.underlying t = some (.slice e)) {v : Value} {l : List UInt8} {W : World} (hv : a.eval (.tmp x) = v) (hs : Rd W v l)
    (h : wpG P ops w0 dep cons QA (gitems sg rest (k + 1)) F (a.put (some d) (.int .i64 l.length))) :
    wpG P ops w0 dep cons QA (gitems sg ({ dst := some d, op := .call { callee := .builtin .len, args := #[.tmp x], argTypes := #[t] }, type := ty, pos := pos, after := after, guard := none } :: rest) k) F a := by
  obtain ⟨A, c, rfl⟩ := shape_len hs
  refine wpG_pure hsg _ (fun wg Bg _ _ _ => ?_) h
  unfold PureTo
  rw [if_pos (wanted_none rfl _)]
  simp [execOp, resolve, invoke, builtin, Builtin.len_, hv, run_underlying ht, Below.refl]
  rfl
theorem opt_apart {a b : Option Nat} (h : ∀ g, a = some g → b ≠ some g) : b = none ∨ b ≠ a := by
  cases b with
  | none => exact .inl rfl
  | some g => exact .inr fun e => h g e.symm rfl
theorem two_apart {w w3 : World} {B : Nat} {e : TypeId} {vi vo v3 : Value} {lo : List UInt8} {o1 : Obj} (hoo : Own8 w B e vo lo) (hne : ∀ g, vi.ownBlock = some g → vo.ownBlock ≠ some g)
    (hg3 : (w.alloc o1).grownBy w3 vi.ownBlock) (hb3 : v3.ownBlock = vi.ownBlock ∨ v3.ownBlock = some (w.alloc o1).heap.size) : Own8 w3 B e vo lo ∧ (∀ g, v3.ownBlock = some g → vo.ownBlock ≠ some g) := by
  have hA := (Below.refl w.heap.size w).alloc (Nat.le_refl _) o1
  refine ⟨(hoo.below hA).grown hg3 (opt_apart hne), fun g hg hv => ?_⟩
  rcases hb3 with hb | hb
  · exact hne g (by rw [← hb]; exact hg) hv
  · rw [hb] at hg; cases hg
    have := hoo.lt _ hv
    simp at this
    omega
theorem rd_app {w w3 : World} {o : Obj} {row : Option Nat} {v : Value} {l : List UInt8} (h : Rd w v l) (hg : (w.alloc o).grownBy w3 row) (hne : 0 < l.length → v.ownBlock ≠ row) : Rd w3 v l :=
  (h.below ((Below.refl w.heap.size w).alloc (Nat.le_refl _) o)).grown hg hne
theorem size_app {w w3 : World} {o : Obj} {row : Option Nat} (hg : (w.alloc o).grownBy w3 row) : w.heap.size < w3.heap.size := by
  have := hg.size; simp at this; omega
theorem ne_base {w : World} {B g : Nat} {e : TypeId} {u v : Value} {l : List UInt8} (ho : Own8 w B e v l) (hu : u.ownBlock = some g) (hg : g < B) : u.ownBlock ≠ v.ownBlock := fun e => by
  have := ho.base_le g (by rw [← e]; exact hu); omega
def strB (l : List UInt8) : ByteArray := ⟨l.toArray⟩
theorem strB_eq (a b : List UInt8) : (strB a = strB b) ↔ a = b := by
  unfold strB
  simp
theorem convert_str {w : World} {v : Value} {l : List UInt8} (h : Rd w v l) : (convert 38 9 v).run Try.prog w = .ok (.string (strB l)) w := by
  obtain ⟨A, c, rfl, h1, h2, h3⟩ := h.open
  rcases Nat.eq_zero_or_pos l.length with h0 | h0
  · have hl : l = [] := List.eq_nil_of_length_eq_zero h0
    subst hl
    rw [run_convert_bytes_string w _ _ _ _ _ _ Try.underlying38 Try.underlying5 Try.underlying9]
    cases A with
    | none => simp [Conv.bytesToString]; rfl
    | some a =>
      have := run_bytesToString (P := Try.prog) w a 0 c [] (by simp [loadCells, loadCellsFrom])
      simp only [List.length_nil] at this ⊢
      rw [this]
      rfl
  · obtain ⟨b, off, rfl, hc⟩ := h3 h0
    rw [run_convert_bytes_arg w _ _ Try.underlying38 Try.underlying5 b off l.length c (l.map fun x => (x.toNat : Int)) (by simp) (fun i hi => ?_) _ Try.underlying9]
    · congr 2
      unfold strOfNums strB
      congr 1
      apply congrArg
      rw [List.map_map]
      conv => rhs; rw [← List.map_id l]
      apply List.map_congr_left
      intro x _
      simp
    · rw [hc i hi]
      unfold bt
      simp [List.getD_eq_getElem?_getD, hi]
theorem Blk.rd {w : World} {g : Nat} {T : TypeId} {l : List UInt8} (h : Blk w g T (bvs l)) (hl : l.length ≤ 1000000) {n c : Nat} (hn : n = l.length) (hc : c = l.length) : Rd w (.slice (some ⟨g, 0, none⟩) n c) l := by
  subst hn hc
  refine Rd.mk rfl (Nat.le_refl _) (by unfold maxLen; omega) fun _ => ⟨g, 0, rfl, fun j hj => ?_⟩
  rw [Nat.zero_add, h.cell, bvs_get l j hj]
end Go.Proofs.Ytfnlcnjflloecaa
