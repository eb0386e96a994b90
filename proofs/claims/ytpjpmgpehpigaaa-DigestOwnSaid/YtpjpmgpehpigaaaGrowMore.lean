/- More makers for the heads of drawn regions: append under a guard, a literal. -/
import Derived.Test.YtpjpmgpehpigaaaHmac
set_option linter.unusedVariables false
set_option linter.unusedSimpArgs false
namespace Go.Proofs.Ytpjpmgpehpigaaa
open Go.RowKit
theorem Rd.ne_own {w w2 : World} {B : Nat} {e : TypeId} {u v : Value} {l l' : List UInt8} (h : Rd w v l) (hB : w.heap.size ≤ B) (ho : Own8 w2 B e u l') (hn : 0 < l.length) : v.ownBlock ≠ u.ownBlock := by
  intro e1
  obtain ⟨A, c, rfl, _, _, h3⟩ := h.open
  obtain ⟨b, off, rfl, _⟩ := h3 hn
  have h1 := h.lt b rfl hn
  have h2 := ho.base_le b (by rw [← e1]; rfl)
  omega
theorem Own8.lit (w : World) (base : Nat) (e : TypeId) (l : List UInt8) (hb : base ≤ w.heap.size) (hl : l.length ≤ maxLen) {n c : Nat} (hn : n = l.length) (hc : c = l.length) :
    Own8 (w.alloc (.cells (bvs l).toArray e)) base e (.slice (some ⟨w.heap.size, 0, none⟩) n c) l := by
  subst hn hc
  exact ⟨by simp [bvs_length], .inr ⟨w.heap.size, _, _, rfl, hb, heap_alloc_new w _, Nat.le_refl _, hl, by simp [bvs_length], by simp [bvs_length, List.take_of_length_le]⟩⟩
theorem goesTo_app8w {P : Program} {w : World} {ops : Array Oper} {a : Act} {M : Nat → Prop} {base : Nat} {t tx e : TypeId} {o : Oper} (hw : Region.wanted o (yielded ops a.tmps) = true) (s x : Operand)
    (ho : o.op = .call { callee := .builtin .append, args := #[s, x], argTypes := #[t, tx] }) (ST : SlTy P t e 1 1 (.int .u8 0))
    {v : Value} (hs : a.eval s = v) {l : List UInt8} (hown : Own8 w base e v l)
    {xv : Value} (hxv : a.eval x = xv) {k : List UInt8} (hx : Src P 1 tx xv k.length (bvs k) w) (hbytes : l.length + k.length ≤ 140737488355328) (hbase : base ≤ w.heap.size) (hM : ∀ g, v.ownBlock = some g → M g) :
    GoesTo P ops o a w fun v' w' => Chg M w w' ∧ new8 e (l ++ k) v' (fun b => M b ∨ (w.heap.size ≤ b ∧ b < w'.heap.size)) w' := by
  obtain ⟨v', w', hr, h2, h3, h4⟩ := run_append_src (P := P) ST o.type v l.length (bvs l) hown xv k.length (bvs k) hx (by unfold maxLen; omega) (by omega) hbase
  unfold GoesTo
  rw [if_pos hw]
  unfold execOp
  simp only [ho, resolve, invoke, builtin, Sem.run_bind, Sem.run_pure, Result.andThen_ok, List.map_toArray, List.map_cons, List.map_nil, hs, hxv, hr]
  have ho' : Own8 w' base e v' (l ++ k) := by unfold Own8; rw [bvs_append, List.length_append]; exact h2
  refine ⟨Chg.grown h3 hM, ho'.mono (Nat.zero_le _), fun g hg => ?_⟩
  rcases h4 with h4 | h4
  · exact .inl (hM g (by rw [← h4]; exact hg))
  · rw [h4] at hg; cases hg
    exact .inr ⟨Nat.le_refl _, ho'.lt _ h4⟩
theorem goesTo_lit {P : Program} {w : World} {ops : Array Oper} {a : Act} {M : Nat → Prop} {e : TypeId} {o : Oper} (hw : Region.wanted o (yielded ops a.tmps) = true) (l : List UInt8) {n : Nat} (hn : n = l.length) (hm : n ≤ maxLen)
    (hr : (execOp a.eval o).run P w = .ok (.value (.slice (some ⟨w.heap.size, 0, none⟩) n n)) (w.alloc (.cells (bvs l).toArray e))) :
    GoesTo P ops o a w fun v' w' => Chg M w w' ∧ new8 e l v' (fun b => M b ∨ (w.heap.size ≤ b ∧ b < w'.heap.size)) w' := by
  unfold GoesTo
  rw [if_pos hw, hr]
  have ho := Own8.lit w w.heap.size e l (Nat.le_refl _) (by omega) hn hn
  exact ⟨Chg.of_below ((Below.refl _ _).alloc (Nat.le_refl _) _), ho.mono (Nat.zero_le _), fun g hg => .inr ⟨ho.base_le g hg, ho.lt g hg⟩⟩
theorem pureTo_load_aggw {P : Program} {w : World} {ops : Array Oper} {a : Act} {d x : Nat} {ty : TypeId} {pos : String} {after : Array Edge} {T T' : TypeId} {n g : Nat} {cs : List Value} {gd : Option (Nat × Bool)}
    (hw : Region.wanted { dst := some d, op := .load T (.tmp x), type := ty, pos := pos, after := after, guard := gd } (yielded ops a.tmps) = true) (AT : AggTy P T n) (hx : a.eval (.tmp x) = .pointer (some ⟨g, 0, none⟩)) (hb : Blk w g T' cs) (hn : cs.length = n) :
    PureTo P ops { dst := some d, op := .load T (.tmp x), type := ty, pos := pos, after := after, guard := gd } a w (.agg cs.toArray) := by
  unfold PureTo
  rw [if_pos hw]
  have := run_load_agg AT hn hb
  simp [execOp, hx, this, Below.refl]
theorem wpG_lenw {P : Program} {ops : Array Oper} {w0 : World} {dep cons : Nat → List Nat} {QA : Act → World → Prop} {sg : Nat → Option ((Tmp → Value) → GSpec)} {rest : List Oper} {k : Nat} {F : Nat → (Nat → Prop) → World → Prop} {a : Act} {d x : Nat} {ty : TypeId} {pos : String} {after : Array Edge} {t e : TypeId} {gd : Option (Nat × Bool)}
    (hsg : sg k = none) (hw : Region.wanted { dst := some d, op := .call { callee := .builtin .len, args := #[.tmp x], argTypes := #[t] }, type := ty, pos := pos, after := after, guard := gd } (yielded ops a.tmps) = true) (ht : P.underlying t = some (.slice e)) {v : Value} {l : List UInt8} {W : World} (hv : a.eval (.tmp x) = v) (hs : Rd W v l)
    (h : wpG P ops w0 dep cons QA (gitems sg rest (k + 1)) F (a.put (some d) (.int .i64 l.length))) :
    wpG P ops w0 dep cons QA (gitems sg ({ dst := some d, op := .call { callee := .builtin .len, args := #[.tmp x], argTypes := #[t] }, type := ty, pos := pos, after := after, guard := gd } :: rest) k) F a := by
  obtain ⟨A, c, rfl⟩ := shape_len hs
  refine wpG_pure hsg _ (fun wg Bg _ _ _ => ?_) h
  unfold PureTo
  rw [if_pos hw]
  simp [execOp, resolve, invoke, builtin, Builtin.len_, hv, run_underlying ht, Below.refl]
  rfl
theorem wpG_len {P : Program} {ops : Array Oper} {w0 : World} {dep cons : Nat → List Nat} {QA : Act → World → Prop} {sg : Nat → Option ((Tmp → Value) → GSpec)} {rest : List Oper} {k : Nat} {F : Nat → (Nat → Prop) → World → Prop} {a : Act} {d x : Nat} {ty : TypeId} {pos : String} {after : Array Edge} {t e : TypeId}
    (hsg : sg k = none) (ht : P.underlying t = some (.slice e)) {v : Value} {l : List UInt8} {W : World} (hv : a.eval (.tmp x) = v) (hs : Rd W v l)
    (h : wpG P ops w0 dep cons QA (gitems sg rest (k + 1)) F (a.put (some d) (.int .i64 l.length))) :
    wpG P ops w0 dep cons QA (gitems sg ({ dst := some d, op := .call { callee := .builtin .len, args := #[.tmp x], argTypes := #[t] }, type := ty, pos := pos, after := after, guard := none } :: rest) k) F a := by
  obtain ⟨A, c, rfl⟩ := shape_len hs
  refine wpG_pure hsg _ (fun wg Bg _ _ _ => ?_) h
  unfold PureTo
  rw [if_pos (wanted_none rfl _)]
  simp [execOp, resolve, invoke, builtin, Builtin.len_, hv, run_underlying ht, Below.refl]
  rfl
end Go.Proofs.Ytpjpmgpehpigaaa
