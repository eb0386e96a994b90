/- roostkeep.Loan: Bytes, Back. -/
import Derived.Test.YtfnlcnjflloecaaDoorGrowO
import Derived.Test.YtfnlcnjflloecaaDoorMore2
import Derived.Test.YtfnlcnjflloecaaDoorKeep
set_option linter.unusedVariables false
set_option linter.unusedSimpArgs false
namespace Go.Proofs.YtfnlcnjflloecaaDoor
open Go.RowKit
theorem stL : SlTy Tryd.prog 151 37 1 24 (.slice none 0 0) := SlTy.of Tryd.underlying151 (by kernel_rfl) rfl (by omega)
def OwnV (w : World) (base : Nat) (v : Value) (us : List Value) : Prop := w.ownsRow base 37 1 v us.length us
def ap (a b : Value) : Prop := ∀ g, a.ownBlock = some g → b.ownBlock ≠ some g
theorem ap.symm {a b : Value} (h : ap a b) : ap b a := fun g h1 h2 => h g h2 h1
theorem ap.or {a b : Value} (h : ap a b) : b.ownBlock = none ∨ b.ownBlock ≠ a.ownBlock := opt_apart h
theorem OwnV.grown {w w' : World} {base : Nat} {v : Value} {us : List Value} {row : Option Nat} (h : OwnV w base v us) (hg : w.grownBy w' row) (hne : v.ownBlock = none ∨ v.ownBlock ≠ row) : OwnV w' base v us := World.ownsRow.kept h hg hne
theorem OwnV.below {w w' : World} {base : Nat} {v : Value} {us : List Value} (h : OwnV w base v us) (hb : Below w.heap.size w w') : OwnV w' base v us := h.grown (grown_below hb none) (by cases v.ownBlock <;> simp)
theorem OwnV.lt {w : World} {base : Nat} {v : Value} {us : List Value} (h : OwnV w base v us) (k : Nat) (hk : v.ownBlock = some k) : k < w.heap.size := (World.ownsRow.lt h k hk).2
theorem OwnV.base_le {w : World} {base : Nat} {v : Value} {us : List Value} (h : OwnV w base v us) (k : Nat) (hk : v.ownBlock = some k) : base ≤ k := (World.ownsRow.lt h k hk).1
theorem OwnV.rdw {w : World} {base : Nat} {v : Value} {us : List Value} (h : OwnV w base v us) : RdW w 1 v us.length us := ownsRow_rd h
theorem OwnV.open {w : World} {base : Nat} {v : Value} {us : List Value} (h : OwnV w base v us) (hn : 0 < us.length) : ∃ g cap, v = .slice (some ⟨g, 0, none⟩) us.length cap ∧ base ≤ g ∧ g < w.heap.size := World.ownsRow.form h hn
structure Lent where
  full : Value
  want : Value
  given : Value
  l : List UInt8
def tail5 : List UInt8 := [77, 78, 79, 80, 81]
@[simp] theorem tail5_len : tail5.length = 5 := rfl
/-- One list that was lent stands as it was. -/
def LentOk (w : World) (base : Nat) (e : Lent) : Prop := Own8 w base 5 e.full (e.l ++ tail5) ∧ Own8 w base 5 e.want (e.l ++ tail5) ∧ Rd w e.given e.l ∧ e.given.ownBlock = e.full.ownBlock ∧ e.l.length ≤ 1000000
/-- The slice's block is one of S. -/
def In (S : Nat → Prop) (v : Value) : Prop := ∀ g, v.ownBlock = some g → S g
theorem In.mono {S T : Nat → Prop} {v : Value} (h : In S v) (hm : ∀ k, S k → T k) : In T v := fun g hg => hm g (h g hg)
theorem LentOk.below {w w' : World} {base : Nat} {e : Lent} (h : LentOk w base e) (hb : Below w.heap.size w w') : LentOk w' base e := ⟨h.1.below hb, h.2.1.below hb, h.2.2.1.below hb, h.2.2.2⟩
theorem RdW.lit1 (w : World) (e : TypeId) (fr : Nat × Nat) (u : Value) : RdW (w.alloc (.cells #[u] e fr)) 1 (.slice (some ⟨w.heap.size, 0, none⟩) 1 1) 1 [u] := by
  refine ⟨rfl, _, _, rfl, Nat.le_refl _, by decide, fun _ => ⟨w.heap.size, 0, rfl, fun j x hx => ?_⟩⟩
  have hb : (w.alloc (.cells #[u] e fr)).heap[w.heap.size]? = some (.cells #[u] e fr) := by
    show (w.heap.push _)[w.heap.size]? = _
    simp
  rw [cell_of_row _ w.heap.size (0 + j) _ e fr hb]
  rw [Nat.zero_add]
  simpa using hx
theorem own_one {w : World} {base : Nat} {e : TypeId} {u : Value} {l : List UInt8} (h : Own8 w base e u l) : u.oneCell' = true := by
  rcases h.2 with ⟨rfl, _⟩ | ⟨g, cap, cur, rfl, _⟩ <;> rfl
theorem own_cells {w : World} {base : Nat} {e : TypeId} {u : Value} {l : List UInt8} (h : Own8 w base e u l) : u.cells = #[u] := by
  rcases h.2 with ⟨rfl, _⟩ | ⟨g, cap, cur, rfl, _⟩ <;> rfl
/-- An operation that appends one list to a row of lists. -/
theorem wpList_appL {w : World} {base : Nat} {ops : Array Oper} {rest : List Oper} {o : Oper} {a : Act} {Q : Exit → Act → World → Prop} (hgd : o.guard = none) (s x : Operand)
    (ho : o.op = .call { callee := .builtin .append, args := #[s, x], argTypes := #[151, 151] })
    {v : Value} (hs : a.eval s = v) {us : List Value} (hown : OwnV w base v us)
    {xv u : Value} (hxv : a.eval x = xv) (hx : RdW w 1 xv 1 [u]) (hu : u.oneCell' = true) (hn : us.length ≤ 1000) (hbase : base ≤ w.heap.size)
    (h : ∀ v' w', OwnV w' base v' (us ++ [u]) → w.grownBy w' v.ownBlock → (v'.ownBlock = v.ownBlock ∨ v'.ownBlock = some w.heap.size) → wpList Tryd.prog ops Q rest (a.put o.dst v') w') :
    wpList Tryd.prog ops Q (o :: rest) a w := by
  refine wpList_app hgd s x ho stL hs hown hxv (hx.src (by simpa using hu) Tryd.underlying151) (by unfold maxLen; omega) (by omega) hbase fun v' w' h1 h2 h3 => h v' w' ?_ h2 h3
  unfold OwnV
  rw [List.length_append]
  exact h1
theorem owns_chg {w w' : World} {M : Nat → Prop} {base size n : Nat} {e : TypeId} {v : Value} {us : List Value} (h : w.ownsRow base e size v n us) (hc : Chg M w w') (hm : ∀ g, v.ownBlock = some g → ¬ M g) : w'.ownsRow base e size v n us := by
  refine ⟨h.1, ?_⟩
  rcases h.2 with h2 | ⟨g, cap, cur, rfl, hb, hg, rest⟩
  · exact .inl h2
  · exact .inr ⟨g, cap, cur, rfl, hb, by rw [hc.block g (Array.getElem?_eq_some_iff.1 hg).1 (hm g rfl)]; exact hg, rest⟩
theorem Rd.chg {w w' : World} {M : Nat → Prop} {v : Value} {l : List UInt8} (h : Rd w v l) (hc : Chg M w w') (hm : ∀ g, v.ownBlock = some g → ¬ M g) : Rd w' v l := by
  obtain ⟨A, c, rfl, h1, h2, h3⟩ := h.open
  refine Rd.mk rfl h1 h2 fun hn => ?_
  obtain ⟨b, off, rfl, hcell⟩ := h3 hn
  refine ⟨b, off, rfl, fun j hj => ?_⟩
  have h4 := hcell j hj
  have hlt := World.block_lt_of_cell? w _ h4
  have hb := hc.block b hlt (hm b rfl)
  rw [← h4]
  unfold World.cell?
  simp only [hb]
theorem LentOk.chg {w w' : World} {M : Nat → Prop} {base : Nat} {e : Lent} (h : LentOk w base e) (hc : Chg M w w') (h1 : ∀ g, e.full.ownBlock = some g → ¬ M g) (h2 : ∀ g, e.want.ownBlock = some g → ¬ M g) : LentOk w' base e :=
  ⟨owns_chg h.1 hc h1, owns_chg h.2.1 hc h2, h.2.2.1.chg hc (by rw [h.2.2.2.1]; exact h1), h.2.2.2⟩
theorem Chg.setCell (w : World) (a : Addr) (u : Value) : Chg (fun k => k = a.block) w (w.setCell a u) := Chg.grown (grown_setCell w a u) (fun k hk => by cases hk; rfl)
theorem Chg.mono {M N : Nat → Prop} {w w' : World} (h : Chg M w w') (hmn : ∀ k, M k → N k) : Chg N w w' := ⟨h.os, h.tape, h.output, h.size, fun k hk hn => h.block k hk (fun hm => hn (hmn k hm))⟩
theorem Own8.chg {w w' : World} {M : Nat → Prop} {base : Nat} {e : TypeId} {v : Value} {l : List UInt8} (h : Own8 w base e v l) (hc : Chg M w w') (hm : ∀ g, v.ownBlock = some g → ¬ M g) : Own8 w' base e v l := owns_chg h hc hm
theorem OwnV.chg {w w' : World} {M : Nat → Prop} {base : Nat} {v : Value} {us : List Value} (h : OwnV w base v us) (hc : Chg M w w') (hm : ∀ g, v.ownBlock = some g → ¬ M g) : OwnV w' base v us := owns_chg h hc hm
theorem Own8.rebase {w : World} {base b : Nat} {e : TypeId} {v : Value} {l : List UInt8} (h : Own8 w base e v l) (hb : ∀ g, v.ownBlock = some g → b ≤ g) : Own8 w b e v l := by
  refine ⟨h.1, ?_⟩
  rcases h.2 with h2 | ⟨g, cap, cur, rfl, _, rest⟩
  · exact .inl h2
  · exact .inr ⟨g, cap, cur, rfl, hb g rfl, rest⟩
theorem Blk.chg {w w' : World} {M : Nat → Prop} {p : Nat} {T : TypeId} {cs : List Value} (h : Blk w p T cs) (hc : Chg M w w') (hm : ¬ M p) : Blk w' p T cs := by
  have := h.lt
  unfold Blk at h ⊢
  rw [hc.block p this hm]; exact h
/-- What a literal of one new list is. -/
def litL (eL e8 : TypeId) (l : List UInt8) : GSpec := fun u B w => ∃ x g0, u = .slice (some ⟨g0, 0, none⟩) 1 1 ∧ w.heap[g0]? = some (.cells #[x] eL (0, 0)) ∧ B g0 ∧ new8 e8 l x B w
/-- What a row of lists is, behind which one new list has been put. -/
def rowL (base n0 : Nat) (ws : List Value) (e8 : TypeId) (l : List UInt8) : GSpec := fun v B w => ∃ x, OwnV w base v (ws ++ [x]) ∧ new8 e8 l x B w ∧ (∀ g, v.ownBlock = some g → B g) ∧ ap v x ∧ ∀ g, x.ownBlock = some g → n0 ≤ g
theorem litL_loc (M0 : Nat → Prop) (eL e8 : TypeId) (l : List UInt8) (w0 : World) (u : Value) : O.Loc M0 w0 (litL eL e8 l u) := by
  rintro B w w' ⟨x, g0, h1, h2, h3, h4⟩ hs hk
  refine ⟨x, g0, h1, ?_, h3, O.new8_loc M0 e8 l w0 x B w w' h4 hs hk⟩
  rw [hk g0 (Array.getElem?_eq_some_iff.1 h2).1 (.inr h3)]; exact h2
theorem ownV_loc {w w' : World} {base : Nat} {v : Value} {us : List Value} (h : OwnV w base v us) (hk : ∀ k, v.ownBlock = some k → w'.heap[k]? = w.heap[k]?) : OwnV w' base v us := by
  refine ⟨h.1, ?_⟩
  rcases h.2 with h2 | ⟨g, cap, cur, rfl, hb, hg, rest⟩
  · exact .inl h2
  · exact .inr ⟨g, cap, cur, rfl, hb, by rw [hk g rfl]; exact hg, rest⟩
theorem rowL_loc (M0 : Nat → Prop) (base n0 : Nat) (ws : List Value) (e8 : TypeId) (l : List UInt8) (w0 : World) (u : Value) : O.Loc M0 w0 (rowL base n0 ws e8 l u) := by
  rintro B w w' ⟨x, h1, h2, h3, h4, h5⟩ hs hk
  exact ⟨x, ownV_loc h1 (fun k hv => hk k (h1.lt k hv) (.inr (h3 k hv))), O.new8_loc M0 e8 l w0 x B w w' h2 hs hk, h3, h4, h5⟩
def oldL (base : Nat) (v : Value) (ws : List Value) : (Nat → Prop) → World → Prop := fun B w => OwnV w base v ws ∧ ∀ g, v.ownBlock = some g → B g
theorem oldL_loc (M0 : Nat → Prop) (base : Nat) (v : Value) (ws : List Value) (w0 : World) : O.Loc M0 w0 (oldL base v ws) := by
  rintro B w w' ⟨h1, h2⟩ hs hk
  exact ⟨ownV_loc h1 (fun k hv => hk k (h1.lt k hv) (.inr (h2 k hv))), h2⟩
theorem goesTo_litL {P : Program} {w : World} {ops : Array Oper} {a : Act} {M : Nat → Prop} {eL e8 : TypeId} {o : Oper} {x : Value} {l : List UInt8} (hw : Region.wanted o (yielded ops a.tmps) = true) (hx : new8 e8 l x M w)
    (hr : (execOp a.eval o).run P w = .ok (.value (.slice (some ⟨w.heap.size, 0, none⟩) 1 1)) (w.alloc (.cells #[x] eL))) :
    GoesTo P ops o a w fun v' w' => Chg M w w' ∧ litL eL e8 l v' (fun b => M b ∨ (w.heap.size ≤ b ∧ b < w'.heap.size)) w' := by
  unfold GoesTo
  rw [if_pos hw, hr]
  have hb : Below w.heap.size w (w.alloc (.cells #[x] eL)) := (Below.refl _ _).alloc (Nat.le_refl _) _
  refine ⟨Chg.of_below hb, x, w.heap.size, rfl, heap_alloc_new w _, .inr ⟨Nat.le_refl _, ?_⟩, hx.1.below hb, fun g hg => .inl (hx.2 g hg)⟩
  simp
theorem goesTo_appL {w : World} {ops : Array Oper} {a : Act} {M : Nat → Prop} {base n0 : Nat} {o : Oper} {e8 : TypeId} {l : List UInt8} (hw : Region.wanted o (yielded ops a.tmps) = true) (s x : Operand)
    (ho : o.op = .call { callee := .builtin .append, args := #[s, x], argTypes := #[151, 151] })
    {v : Value} (hs : a.eval s = v) {us : List Value} (hown : OwnV w base v us) {xv : Value} (hxv : a.eval x = xv) {eL : TypeId} {B8 : Nat → Prop} (hl : litL eL e8 l xv B8 w)
    (hn : us.length ≤ 1000) (hbase : base ≤ w.heap.size) (hM : ∀ g, v.ownBlock = some g → M g) (h8 : ∀ g, B8 g → M g ∧ n0 ≤ g ∧ v.ownBlock ≠ some g) (hn0 : n0 ≤ w.heap.size) :
    GoesTo Tryd.prog ops o a w fun v' w' => Chg M w w' ∧ rowL base n0 us e8 l v' (fun b => M b ∨ (w.heap.size ≤ b ∧ b < w'.heap.size)) w' := by
  obtain ⟨u, g0, rfl, hg0, hB0, hu⟩ := hl
  have hx : RdW w 1 (.slice (some ⟨g0, 0, none⟩) 1 1) 1 [u] := by
    refine ⟨rfl, _, _, rfl, Nat.le_refl _, by decide, fun _ => ⟨g0, 0, rfl, fun j x hx => ?_⟩⟩
    rw [cell_of_row _ g0 (0 + j) _ eL (0, 0) hg0, Nat.zero_add]
    simpa using hx
  obtain ⟨v', w', hr, h2, h3, h4⟩ := run_append_src stL o.type v us.length us hown _ 1 [u] (hx.src (by simpa using own_one hu.1) Tryd.underlying151) (by unfold maxLen; omega) (by omega) hbase
  unfold GoesTo
  rw [if_pos hw]
  unfold execOp
  simp only [ho, resolve, invoke, builtin, Sem.run_bind, Sem.run_pure, Result.andThen_ok, List.map_toArray, List.map_cons, List.map_nil, hs, hxv, hr]
  have ho' : OwnV w' base v' (us ++ [u]) := by unfold OwnV; rw [List.length_append]; exact h2
  have hne : ap v u := fun g hv hu' => (h8 g (hu.2 g hu')).2.2 hv
  refine ⟨Chg.grown h3 hM, u, ho', ⟨hu.1.grown h3 hne.or, fun g hg => .inl (h8 g (hu.2 g hg)).1⟩, fun g hg => ?_, ?_, fun g hg => (h8 g (hu.2 g hg)).2.1⟩
  · rcases h4 with h4 | h4
    · exact .inl (hM g (by rw [← h4]; exact hg))
    · rw [h4] at hg; cases hg
      exact .inr ⟨Nat.le_refl _, ho'.lt _ h4⟩
  · intro g hg hug
    rcases h4 with h4 | h4
    · exact hne g (by rw [← h4]; exact hg) hug
    · rw [h4] at hg; cases hg
      have := hu.1.lt _ hug; omega
end Go.Proofs.YtfnlcnjflloecaaDoor
