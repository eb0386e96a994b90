/- roostkeep.Loan: Bytes, Back. -/
import Derived.Test.YtocfcgjjepegmaaDoorGrowO
import Derived.Test.YtocfcgjjepegmaaDoorMore2
import Derived.Test.YtocfcgjjepegmaaDoorKeep
set_option linter.unusedVariables false
set_option linter.unusedSimpArgs false
namespace Go.Proofs.YtocfcgjjepegmaaDoor
open Go.RowKit
theorem stL : SlTy Tryd.prog 47 28 1 24 (.slice none 0 0) := SlTy.of Tryd.underlying47 (by kernel_rfl) rfl (by omega)
def OwnV (w : World) (base : Nat) (v : Value) (us : List Value) : Prop := w.ownsRow base 28 1 v us.length us
def ap (a b : Value) : Prop := ∀ g, a.ownBlock = some g → b.ownBlock ≠ some g
theorem ap.symm {a b : Value} (h : ap a b) : ap b a := fun g h1 h2 => h g h2 h1
theorem ap.or {a b : Value} (h : ap a b) : b.ownBlock = none ∨ b.ownBlock ≠ a.ownBlock := opt_apart h
theorem OwnV.grown {w w' : World} {base : Nat} {v : Value} {us : List Value} {row : Option Nat} (h : OwnV w base v us) (hg : w.grownBy w' row) (hne : v.ownBlock = none ∨ v.ownBlock ≠ row) : OwnV w' base v us := World.ownsRow.kept h hg hne
theorem OwnV.below {w w' : World} {base : Nat} {v : Value} {us : List Value} (h : OwnV w base v us) (hb : Below w.heap.size w w') : OwnV w' base v us := h.grown (grown_below hb none) (by cases v.ownBlock <;> simp)
theorem OwnV.lt {w : World} {base : Nat} {v : Value} {us : List Value} (h : OwnV w base v us) (k : Nat) (hk : v.ownBlock = some k) : k < w.heap.size := (World.ownsRow.lt h k hk).2
theorem OwnV.base_le {w : World} {base : Nat} {v : Value} {us : List Value} (h : OwnV w base v us) (k : Nat) (hk : v.ownBlock = some k) : base ≤ k := (World.ownsRow.lt h k hk).1
theorem OwnV.rdw {w : World} {base : Nat} {v : Value} {us : List Value} (h : OwnV w base v us) : RdW w 1 v us.length us := ownsRow_rd h
theorem OwnV.open {w : World} {base : Nat} {v : Value} {us : List Value} (h : OwnV w base v us) (hn : 0 < us.length) : ∃ g cap, v = .slice (some ⟨g, 0, none⟩) us.length cap ∧ base ≤ g ∧ g < w.heap.size := World.ownsRow.form h hn
structure Lent where
  full : Value
  want : Value
  given : Value
  l : List UInt8
def tail5 : List UInt8 := [77, 78, 79, 80, 81]
@[simp] theorem tail5_len : tail5.length = 5 := rfl
/-- One list that was lent stands as it was. -/
def LentOk (w : World) (base : Nat) (e : Lent) : Prop := Own8 w base 5 e.full (e.l ++ tail5) ∧ Own8 w base 5 e.want (e.l ++ tail5) ∧ Rd w e.given e.l ∧ e.given.ownBlock = e.full.ownBlock ∧ e.l.length ≤ 1000000
/-- The slice's block is one of S. -/
def In (S : Nat → Prop) (v : Value) : Prop := ∀ g, v.ownBlock = some g → S g
theorem In.mono {S T : Nat → Prop} {v : Value} (h : In S v) (hm : ∀ k, S k → T k) : In T v := fun g hg => hm g (h g hg)
def LoanAt (w : World) (B p : Nat) (S : Nat → Prop) (es : List Lent) : Prop :=
  ∃ vF vW, B ≤ p ∧ Blk w p 49 [vF, vW] ∧ OwnV w (p + 1) vF (es.map (·.full)) ∧ OwnV w (p + 1) vW (es.map (·.want)) ∧ ap vF vW ∧
    (∀ e ∈ es, LentOk w (p + 1) e ∧ ap vF e.full ∧ ap vF e.want ∧ ap vW e.full ∧ ap vW e.want) ∧ es.Pairwise (fun a b => ap a.full b.full) ∧ (∀ a ∈ es, ∀ b ∈ es, ap a.full b.want) ∧
    (S p ∧ In S vF ∧ In S vW ∧ (∀ e ∈ es, In S e.full ∧ In S e.want) ∧ ∀ k, S k → k < w.heap.size)
theorem LentOk.below {w w' : World} {base : Nat} {e : Lent} (h : LentOk w base e) (hb : Below w.heap.size w w') : LentOk w' base e := ⟨h.1.below hb, h.2.1.below hb, h.2.2.1.below hb, h.2.2.2⟩
theorem LoanAt.below {w w' : World} {B p : Nat} {S : Nat → Prop} {es : List Lent} (h : LoanAt w B p S es) (hb : Below w.heap.size w w') : LoanAt w' B p S es := by
  obtain ⟨vF, vW, h0, h1, h2, h3, h4, h5, h6, h7, h8⟩ := h
  exact ⟨vF, vW, h0, h1.below hb, h2.below hb, h3.below hb, h4, fun e he => ⟨(h5 e he).1.below hb, (h5 e he).2⟩, h6, h7, h8.1, h8.2.1, h8.2.2.1, h8.2.2.2.1, fun k hk => Nat.lt_of_lt_of_le (h8.2.2.2.2 k hk) hb.size⟩
theorem RdW.lit1 (w : World) (e : TypeId) (fr : Nat × Nat) (u : Value) : RdW (w.alloc (.cells #[u] e fr)) 1 (.slice (some ⟨w.heap.size, 0, none⟩) 1 1) 1 [u] := by
  refine ⟨rfl, _, _, rfl, Nat.le_refl _, by decide, fun _ => ⟨w.heap.size, 0, rfl, fun j x hx => ?_⟩⟩
  have hb : (w.alloc (.cells #[u] e fr)).heap[w.heap.size]? = some (.cells #[u] e fr) := by
    show (w.heap.push _)[w.heap.size]? = _
    simp
  rw [cell_of_row _ w.heap.size (0 + j) _ e fr hb]
  rw [Nat.zero_add]
  simpa using hx
theorem own_one {w : World} {base : Nat} {e : TypeId} {u : Value} {l : List UInt8} (h : Own8 w base e u l) : u.oneCell' = true := by
  rcases h.2 with ⟨rfl, _⟩ | ⟨g, cap, cur, rfl, _⟩ <;> rfl
theorem own_cells {w : World} {base : Nat} {e : TypeId} {u : Value} {l : List UInt8} (h : Own8 w base e u l) : u.cells = #[u] := by
  rcases h.2 with ⟨rfl, _⟩ | ⟨g, cap, cur, rfl, _⟩ <;> rfl
/-- An operation that appends one list to a row of lists. -/
theorem wpList_appL {w : World} {base : Nat} {ops : Array Oper} {rest : List Oper} {o : Oper} {a : Act} {Q : Exit → Act → World → Prop} (hgd : o.guard = none) (s x : Operand)
    (ho : o.op = .call { callee := .builtin .append, args := #[s, x], argTypes := #[47, 47] })
    {v : Value} (hs : a.eval s = v) {us : List Value} (hown : OwnV w base v us)
    {xv u : Value} (hxv : a.eval x = xv) (hx : RdW w 1 xv 1 [u]) (hu : u.oneCell' = true) (hn : us.length ≤ 1000) (hbase : base ≤ w.heap.size)
    (h : ∀ v' w', OwnV w' base v' (us ++ [u]) → w.grownBy w' v.ownBlock → (v'.ownBlock = v.ownBlock ∨ v'.ownBlock = some w.heap.size) → wpList Tryd.prog ops Q rest (a.put o.dst v') w') :
    wpList Tryd.prog ops Q (o :: rest) a w := by
  refine wpList_app hgd s x ho stL hs hown hxv (hx.src (by simpa using hu) Tryd.underlying47) (by unfold maxLen; omega) (by omega) hbase fun v' w' h1 h2 h3 => h v' w' ?_ h2 h3
  unfold OwnV
  rw [List.length_append]
  exact h1
theorem owns_chg {w w' : World} {M : Nat → Prop} {base size n : Nat} {e : TypeId} {v : Value} {us : List Value} (h : w.ownsRow base e size v n us) (hc : Chg M w w') (hm : ∀ g, v.ownBlock = some g → ¬ M g) : w'.ownsRow base e size v n us := by
  refine ⟨h.1, ?_⟩
  rcases h.2 with h2 | ⟨g, cap, cur, rfl, hb, hg, rest⟩
  · exact .inl h2
  · exact .inr ⟨g, cap, cur, rfl, hb, by rw [hc.block g (Array.getElem?_eq_some_iff.1 hg).1 (hm g rfl)]; exact hg, rest⟩
theorem Rd.chg {w w' : World} {M : Nat → Prop} {v : Value} {l : List UInt8} (h : Rd w v l) (hc : Chg M w w') (hm : ∀ g, v.ownBlock = some g → ¬ M g) : Rd w' v l := by
  obtain ⟨A, c, rfl, h1, h2, h3⟩ := h.open
  refine Rd.mk rfl h1 h2 fun hn => ?_
  obtain ⟨b, off, rfl, hcell⟩ := h3 hn
  refine ⟨b, off, rfl, fun j hj => ?_⟩
  have h4 := hcell j hj
  have hlt := World.block_lt_of_cell? w _ h4
  have hb := hc.block b hlt (hm b rfl)
  rw [← h4]
  unfold World.cell?
  simp only [hb]
theorem LentOk.chg {w w' : World} {M : Nat → Prop} {base : Nat} {e : Lent} (h : LentOk w base e) (hc : Chg M w w') (h1 : ∀ g, e.full.ownBlock = some g → ¬ M g) (h2 : ∀ g, e.want.ownBlock = some g → ¬ M g) : LentOk w' base e :=
  ⟨owns_chg h.1 hc h1, owns_chg h.2.1 hc h2, h.2.2.1.chg hc (by rw [h.2.2.2.1]; exact h1), h.2.2.2⟩
theorem Chg.setCell (w : World) (a : Addr) (u : Value) : Chg (fun k => k = a.block) w (w.setCell a u) := Chg.grown (grown_setCell w a u) (fun k hk => by cases hk; rfl)
theorem Chg.mono {M N : Nat → Prop} {w w' : World} (h : Chg M w w') (hmn : ∀ k, M k → N k) : Chg N w w' := ⟨h.os, h.tape, h.output, h.size, fun k hk hn => h.block k hk (fun hm => hn (hmn k hm))⟩
theorem Own8.chg {w w' : World} {M : Nat → Prop} {base : Nat} {e : TypeId} {v : Value} {l : List UInt8} (h : Own8 w base e v l) (hc : Chg M w w') (hm : ∀ g, v.ownBlock = some g → ¬ M g) : Own8 w' base e v l := owns_chg h hc hm
theorem OwnV.chg {w w' : World} {M : Nat → Prop} {base : Nat} {v : Value} {us : List Value} (h : OwnV w base v us) (hc : Chg M w w') (hm : ∀ g, v.ownBlock = some g → ¬ M g) : OwnV w' base v us := owns_chg h hc hm
theorem Own8.rebase {w : World} {base b : Nat} {e : TypeId} {v : Value} {l : List UInt8} (h : Own8 w base e v l) (hb : ∀ g, v.ownBlock = some g → b ≤ g) : Own8 w b e v l := by
  refine ⟨h.1, ?_⟩
  rcases h.2 with h2 | ⟨g, cap, cur, rfl, _, rest⟩
  · exact .inl h2
  · exact .inr ⟨g, cap, cur, rfl, hb g rfl, rest⟩
theorem Blk.chg {w w' : World} {M : Nat → Prop} {p : Nat} {T : TypeId} {cs : List Value} (h : Blk w p T cs) (hc : Chg M w w') (hm : ¬ M p) : Blk w' p T cs := by
  have := h.lt
  unfold Blk at h ⊢
  rw [hc.block p this hm]; exact h
theorem LoanAt.chg {w w' : World} {B p : Nat} {S M : Nat → Prop} {es : List Lent} (h : LoanAt w B p S es) (hc : Chg M w w') (hm : ∀ k, S k → ¬ M k) : LoanAt w' B p S es := by
  obtain ⟨vF, vW, h0, h1, h2, h3, h4, h5, h6, h7, h8⟩ := h
  exact ⟨vF, vW, h0, h1.chg hc (hm p h8.1), h2.chg hc (fun g hg => hm g (h8.2.1 g hg)), h3.chg hc (fun g hg => hm g (h8.2.2.1 g hg)), h4,
    fun e he => ⟨(h5 e he).1.chg hc (fun g hg => hm g ((h8.2.2.2.1 e he).1 g hg)) (fun g hg => hm g ((h8.2.2.2.1 e he).2 g hg)), (h5 e he).2⟩, h6, h7, h8.1, h8.2.1, h8.2.2.1, h8.2.2.2.1, fun k hk => Nat.lt_of_lt_of_le (h8.2.2.2.2 k hk) hc.size⟩
/-- What a literal of one new list is. -/
def litL (eL e8 : TypeId) (l : List UInt8) : GSpec := fun u B w => ∃ x g0, u = .slice (some ⟨g0, 0, none⟩) 1 1 ∧ w.heap[g0]? = some (.cells #[x] eL (0, 0)) ∧ B g0 ∧ new8 e8 l x B w
/-- What a row of lists is, behind which one new list has been put. -/
def rowL (base n0 : Nat) (ws : List Value) (e8 : TypeId) (l : List UInt8) : GSpec := fun v B w => ∃ x, OwnV w base v (ws ++ [x]) ∧ new8 e8 l x B w ∧ (∀ g, v.ownBlock = some g → B g) ∧ ap v x ∧ ∀ g, x.ownBlock = some g → n0 ≤ g
theorem litL_loc (M0 : Nat → Prop) (eL e8 : TypeId) (l : List UInt8) (w0 : World) (u : Value) : O.Loc M0 w0 (litL eL e8 l u) := by
  rintro B w w' ⟨x, g0, h1, h2, h3, h4⟩ hs hk
  refine ⟨x, g0, h1, ?_, h3, O.new8_loc M0 e8 l w0 x B w w' h4 hs hk⟩
  rw [hk g0 (Array.getElem?_eq_some_iff.1 h2).1 (.inr h3)]; exact h2
theorem ownV_loc {w w' : World} {base : Nat} {v : Value} {us : List Value} (h : OwnV w base v us) (hk : ∀ k, v.ownBlock = some k → w'.heap[k]? = w.heap[k]?) : OwnV w' base v us := by
  refine ⟨h.1, ?_⟩
  rcases h.2 with h2 | ⟨g, cap, cur, rfl, hb, hg, rest⟩
  · exact .inl h2
  · exact .inr ⟨g, cap, cur, rfl, hb, by rw [hk g rfl]; exact hg, rest⟩
theorem rowL_loc (M0 : Nat → Prop) (base n0 : Nat) (ws : List Value) (e8 : TypeId) (l : List UInt8) (w0 : World) (u : Value) : O.Loc M0 w0 (rowL base n0 ws e8 l u) := by
  rintro B w w' ⟨x, h1, h2, h3, h4, h5⟩ hs hk
  exact ⟨x, ownV_loc h1 (fun k hv => hk k (h1.lt k hv) (.inr (h3 k hv))), O.new8_loc M0 e8 l w0 x B w w' h2 hs hk, h3, h4, h5⟩
def oldL (base : Nat) (v : Value) (ws : List Value) : (Nat → Prop) → World → Prop := fun B w => OwnV w base v ws ∧ ∀ g, v.ownBlock = some g → B g
theorem oldL_loc (M0 : Nat → Prop) (base : Nat) (v : Value) (ws : List Value) (w0 : World) : O.Loc M0 w0 (oldL base v ws) := by
  rintro B w w' ⟨h1, h2⟩ hs hk
  exact ⟨ownV_loc h1 (fun k hv => hk k (h1.lt k hv) (.inr (h2 k hv))), h2⟩
theorem goesTo_litL {P : Program} {w : World} {ops : Array Oper} {a : Act} {M : Nat → Prop} {eL e8 : TypeId} {o : Oper} {x : Value} {l : List UInt8} (hw : Region.wanted o (yielded ops a.tmps) = true) (hx : new8 e8 l x M w)
    (hr : (execOp a.eval o).run P w = .ok (.value (.slice (some ⟨w.heap.size, 0, none⟩) 1 1)) (w.alloc (.cells #[x] eL))) :
    GoesTo P ops o a w fun v' w' => Chg M w w' ∧ litL eL e8 l v' (fun b => M b ∨ (w.heap.size ≤ b ∧ b < w'.heap.size)) w' := by
  unfold GoesTo
  rw [if_pos hw, hr]
  have hb : Below w.heap.size w (w.alloc (.cells #[x] eL)) := (Below.refl _ _).alloc (Nat.le_refl _) _
  refine ⟨Chg.of_below hb, x, w.heap.size, rfl, heap_alloc_new w _, .inr ⟨Nat.le_refl _, ?_⟩, hx.1.below hb, fun g hg => .inl (hx.2 g hg)⟩
  simp
theorem goesTo_appL {w : World} {ops : Array Oper} {a : Act} {M : Nat → Prop} {base n0 : Nat} {o : Oper} {e8 : TypeId} {l : List UInt8} (hw : Region.wanted o (yielded ops a.tmps) = true) (s x : Operand)
    (ho : o.op = .call { callee := .builtin .append, args := #[s, x], argTypes := #[47, 47] })
    {v : Value} (hs : a.eval s = v) {us : List Value} (hown : OwnV w base v us) {xv : Value} (hxv : a.eval x = xv) {eL : TypeId} {B8 : Nat → Prop} (hl : litL eL e8 l xv B8 w)
    (hn : us.length ≤ 1000) (hbase : base ≤ w.heap.size) (hM : ∀ g, v.ownBlock = some g → M g) (h8 : ∀ g, B8 g → M g ∧ n0 ≤ g ∧ v.ownBlock ≠ some g) (hn0 : n0 ≤ w.heap.size) :
    GoesTo Tryd.prog ops o a w fun v' w' => Chg M w w' ∧ rowL base n0 us e8 l v' (fun b => M b ∨ (w.heap.size ≤ b ∧ b < w'.heap.size)) w' := by
  obtain ⟨u, g0, rfl, hg0, hB0, hu⟩ := hl
  have hx : RdW w 1 (.slice (some ⟨g0, 0, none⟩) 1 1) 1 [u] := by
    refine ⟨rfl, _, _, rfl, Nat.le_refl _, by decide, fun _ => ⟨g0, 0, rfl, fun j x hx => ?_⟩⟩
    rw [cell_of_row _ g0 (0 + j) _ eL (0, 0) hg0, Nat.zero_add]
    simpa using hx
  obtain ⟨v', w', hr, h2, h3, h4⟩ := run_append_src stL o.type v us.length us hown _ 1 [u] (hx.src (by simpa using own_one hu.1) Tryd.underlying47) (by unfold maxLen; omega) (by omega) hbase
  unfold GoesTo
  rw [if_pos hw]
  unfold execOp
  simp only [ho, resolve, invoke, builtin, Sem.run_bind, Sem.run_pure, Result.andThen_ok, List.map_toArray, List.map_cons, List.map_nil, hs, hxv, hr]
  have ho' : OwnV w' base v' (us ++ [u]) := by unfold OwnV; rw [List.length_append]; exact h2
  have hne : ap v u := fun g hv hu' => (h8 g (hu.2 g hu')).2.2 hv
  refine ⟨Chg.grown h3 hM, u, ho', ⟨hu.1.grown h3 hne.or, fun g hg => .inl (h8 g (hu.2 g hg)).1⟩, fun g hg => ?_, ?_, fun g hg => (h8 g (hu.2 g hg)).2.1⟩
  · rcases h4 with h4 | h4
    · exact .inl (hM g (by rw [← h4]; exact hg))
    · rw [h4] at hg; cases hg
      exact .inr ⟨Nat.le_refl _, ho'.lt _ h4⟩
  · intro g hg hug
    rcases h4 with h4 | h4
    · exact hne g (by rw [← h4]; exact hg) hug
    · rw [h4] at hg; cases hg
      have := hu.1.lt _ hug; omega
set_option maxRecDepth 100000 in
set_option maxHeartbeats 1600000 in
theorem bytes_c (w : World) (B p : Nat) (S : Nat → Prop) (es : List Lent) (v : Value) (l : List UInt8) (h : LoanAt w B p S es) (hv : Rd w v l) (hl : l.length ≤ 1000000) (hn : es.length ≤ 999) :
    Calls Tryd.prog 27 #[.pointer (some ⟨p, 0, none⟩), v] w fun e w' => ∃ (x : Lent) (S' : Nat → Prop), e = .returned x.given ∧ x.l = l ∧ LoanAt w' B p S' (es ++ [x]) ∧ (∀ k, S' k → S k ∨ w.heap.size ≤ k) ∧ Chg S w w' ∧ Below B w w' := by
  obtain ⟨vF, vW, hBp, hp, hF, hW, hFW, hes, hff, hfw, hSp, hSF, hSW, hSe, hSl⟩ := h
  have hpl := hp.lt
  have hA := (Below.refl w.heap.size w).alloc (Nat.le_refl _) (.cells #[] 5)
  have hvA := hv.below hA
  go_enter Tryd.func27, Tryd.ntmps27
  have tok0 : True := trivial
  go_upto_region 3 with (first
    | (have _t := tok0; (at_builtin; refine wpList_app8 rfl _ _ rfl st8 (by with_unfolding_all (conv => lhs; whnf)) (Own8.empty w w.heap.size _ (Nat.le_refl _)) rfl (Rd.src hvA Tryd.underlying28) (by first | omega | (simp; omega)) (by first | (simp; done) | omega | (simp; omega)) ?_); intro v1 w1 ho1 hg1 hb1; have hw1 := app_step0 hA (Own8.empty w w.heap.size 5 (Nat.le_refl _)) (Nat.le_refl _) hg1; rw [List.nil_append] at ho1; have hz1 := hw1.1.size; clear tok0; have tok1 : True := trivial)
    | (have _t := tok1; (at_builtin; refine wpList_app8 rfl _ _ rfl st8 (by with_unfolding_all (conv => lhs; whnf)) (Own8.below ho1 ((Below.refl _ _).alloc (Nat.le_refl _) _)) rfl (Rd.src (Rd.lit _ _ _ [77, 78, 79, 80, 81] rfl rfl (by simp) (by decide)) Tryd.underlying28) (by first | omega | (simp; omega)) (by first | (simp; done) | omega | (simp; omega)) ?_); intro v2 w2 ho2 hg2 hb2; have hw2 := app_step hw1.1 ho1 (Nat.le_refl _) hg2; have hz2 := hw2.1.size; obtain ⟨g2, cp2, e2, hg2a, hg2b⟩ := ho2.open (by simp); generalize hn2 : (l ++ [77, 78, 79, 80, 81]).length = n2 at e2; subst e2; have hp2 := hp.below hw2.1; have cF : _ = some vF := hp2.cell 0; have hF2 := (hF.below hw2.1).below ((Below.refl w2.heap.size w2).alloc (Nat.le_refl _) (.cells #[.slice (some ⟨g2, 0, none⟩) n2 cp2] 28)); clear tok1; have tok2 : True := trivial)
    | (have _t := tok2; at_builtin; refine wpList_appL rfl _ _ rfl (by with_unfolding_all (conv => lhs; whnf)) hF2 rfl (RdW.lit1 w2 _ _ _) (own_one ho2) (by rw [List.length_map]; omega) (by simp; omega) ?_; intro v3 w3 ho3 hg3 hb3; have hp3 := (hp2.below ((Below.refl w2.heap.size w2).alloc (Nat.le_refl _) (.cells #[.slice (some ⟨g2, 0, none⟩) n2 cp2] 28))).grown hg3 (fun e => by have := hF2.base_le p e.symm; omega); have f3 := hp3.frozen 0; have k3 : _ = some vF := hp3.cell 0; obtain ⟨g3, cp3, e3, hg3a, hg3b⟩ := ho3.open (by simp); generalize hn3 : (List.map (fun x => x.full) es ++ [Value.slice (some ⟨g2, 0, none⟩) n2 cp2]).length = n3 at e3; subst e3; clear tok2; have tok3 : True := trivial))
  have hchS : Chg (fun k => k = p ∨ vF.ownBlock = some k) w (w3.setCell ⟨p, 0, none⟩ (.slice (some ⟨g3, 0, none⟩) n3 cp3)) := by
    refine Chg.chg_trans (M := fun k => k = p ∨ vF.ownBlock = some k) ?_ (Chg.setCell w3 ⟨p, 0, none⟩ (.slice (some ⟨g3, 0, none⟩) n3 cp3)) (fun k hk => .inr (.inl hk))
    refine Chg.chg_trans (M := fun k => k = p ∨ vF.ownBlock = some k) ?_ (Chg.grown hg3 (fun k hk => hk)) (fun k hk => .inr (.inr hk))
    exact Chg.below_trans (Chg.of_below hw2.1) ((Below.refl _ _).alloc (Nat.le_refl _) _)
  have hpS : Blk (w3.setCell ⟨p, 0, none⟩ (.slice (some ⟨g3, 0, none⟩) n3 cp3)) p 49 [.slice (some ⟨g3, 0, none⟩) n3 cp3, vW] := hp3.stored 0 _
  have hFS : OwnV (w3.setCell ⟨p, 0, none⟩ (.slice (some ⟨g3, 0, none⟩) n3 cp3)) (p + 1) (.slice (some ⟨g3, 0, none⟩) n3 cp3) (es.map (·.full) ++ [.slice (some ⟨g2, 0, none⟩) n2 cp2]) :=
    ho3.grown (grown_setCell _ _ _) (.inr (by intro e; cases e; omega))
  have hvF2 : ∀ k, vF.ownBlock = some k → k < w.heap.size := fun k hk => hF.lt k hk
  have ho2S : Own8 (w3.setCell ⟨p, 0, none⟩ (.slice (some ⟨g3, 0, none⟩) n3 cp3)) w.heap.size 5 (.slice (some ⟨g2, 0, none⟩) n2 cp2) (l ++ tail5) := by
    refine Own8.grown ?_ (grown_setCell _ _ _) (.inr (by intro e; cases e; omega))
    exact Own8.grown (ho2.below ((Below.refl _ _).alloc (Nat.le_refl _) _)) hg3 (.inr (by intro e; have := hvF2 g2 e.symm; omega))
  have hvS := hv.chg hchS
  have hg3n : (some g3 = vF.ownBlock ∨ w.heap.size ≤ g3) ∧ g3 ≠ g2 := by
    have hz : (w2.alloc (Obj.cells #[Value.slice (some { block := g2, off := 0 }) n2 cp2] 28)).heap.size = w2.heap.size + 1 := by simp
    rcases hb3 with h | h
    · refine ⟨.inl h, fun e => ?_⟩
      have := hvF2 g3 h.symm; omega
    · have h' : some g3 = some _ := h
      rw [hz] at h'
      cases h'
      exact ⟨.inr (by omega), by omega⟩
  clear k3 f3 hp3 hb3 hg3 hF2 cF hp2 hb2 hw2 hg2 hb1 hw1 hg1 ho1 ho2 hvS ho3 hvA hA
  generalize hwS : w3.setCell ⟨p, 0, none⟩ (.slice (some ⟨g3, 0, none⟩) n3 cp3) = wS at *
  clear hwS
  have hWS : OwnV wS (p + 1) vW (es.map (·.want)) := owns_chg hW hchS (fun g hg hm => by
    rcases hm with rfl | hm
    · have := hW.base_le g hg; omega
    · exact hFW g hm hg)
  refine O.region_making 12 (fun | 7 => [5] | 8 => [7] | 9 => [100, 8] | _ => []) (fun | 5 => some fun _ => new8 5 [] | 7 => some fun _ => new8 5 ([] ++ (l ++ tail5)) | 8 => some fun _ => litL 28 5 ([] ++ (l ++ tail5)) | 9 => some fun _ => rowL (p + 1) wS.heap.size (es.map (·.want)) 5 ([] ++ (l ++ tail5)) | _ => none) 9 100 (fun k => vW.ownBlock = some k) (oldL (p + 1) vW (es.map (·.want))) (by kernel_rfl) (by kernel_rfl) ?_ ?_ ?_ ?_ ?_
  · intro i' S' h' e v'
    match i', h' with
    | 5, h' => cases h'; exact O.new8_loc _ _ _ _ _
    | 7, h' => cases h'; exact O.new8_loc _ _ _ _ _
    | 8, h' => cases h'; exact litL_loc _ _ _ _ _ _
    | 9, h' => cases h'; exact rowL_loc _ _ _ _ _ _ _ _
  · exact oldL_loc _ _ _ _ _
  · exact ⟨hWS, fun g hg => hg⟩
  · exact fun k hk => hWS.lt k hk
  simp only [List.take_succ_cons, List.take_zero, List.drop_succ_cons, List.drop_zero]
  have hpM : ¬ (vW.ownBlock = some p) := fun e => by have := hW.base_le p e; omega
  have h2M : ∀ g, (Value.slice (some ⟨g2, 0, none⟩) n2 cp2).ownBlock = some g → ¬ (vW.ownBlock = some g) := fun g hg e => by cases hg; have := hW.lt g2 e; omega
  have hWb : p + 1 ≤ wS.heap.size := hpS.lt
  (apply O.wpG_pure; (focus rfl); (focus (intro wg Bg hbg hBg hFg; go_simp; (try go_bits); (first | done | exact ⟨rfl, Below.refl _ _⟩ | rfl))); simp only [Act.put, List.setIfInBounds_toArray, List.set_cons_succ, List.set_cons_zero])
  (apply O.wpG_pure; (focus rfl); (focus (intro wg Bg hbg hBg hFg; go_simp; (try go_bits); (first | done | exact ⟨rfl, Below.refl _ _⟩ | rfl))); simp only [Act.put, List.setIfInBounds_toArray, List.set_cons_succ, List.set_cons_zero])
  (apply O.wpG_pure; (focus rfl); (focus (intro wg Bg hbg hBg hFg; go_simp; (try go_bits); (first | done | exact ⟨rfl, Below.refl _ _⟩ | rfl))); simp only [Act.put, List.setIfInBounds_toArray, List.set_cons_succ, List.set_cons_zero])
  (apply O.wpG_pure; (focus rfl); (focus (intro wg Bg hbg hBg hFg; go_simp; (try go_bits); (first | done | exact ⟨rfl, Below.refl _ _⟩ | rfl))); simp only [Act.put, List.setIfInBounds_toArray, List.set_cons_succ, List.set_cons_zero])
  (apply O.wpG_pure; (focus rfl); (focus (intro wg Bg hbg hBg hFg; have hpg := hpS.drew.chg hbg hpM; have cW : _ = some vW := hpg.cell 1; go_simp; (try go_bits); (first | done | exact ⟨rfl, Below.refl _ _⟩ | rfl))); simp only [Act.put, List.setIfInBounds_toArray, List.set_cons_succ, List.set_cons_zero])
  (apply O.wpG_make; (focus rfl); (focus (intro wg Bg hbg hBg hFg; refine goesTo_lit (n := 0) (by go_simp) [] rfl (by decide) (by go_simp; first | done | rfl | exact ⟨rfl, rfl⟩))); intro va; simp only [Act.put, List.setIfInBounds_toArray, List.set_cons_succ, List.set_cons_zero])
  (apply O.wpG_pure; (focus rfl); (focus (intro wg Bg hbg hBg hFg; go_simp; (try go_bits); (first | done | exact ⟨rfl, Below.refl _ _⟩ | rfl))); simp only [Act.put, List.setIfInBounds_toArray, List.set_cons_succ, List.set_cons_zero])
  (apply O.wpG_make; (focus rfl); (focus (intro wg Bg hbg hBg hFg; have hN := hFg 5 (by decide +kernel); refine goesTo_app8w (by go_simp) _ _ rfl st8 (by with_unfolding_all (conv => lhs; whnf)) (id hN).1 (by with_unfolding_all (conv => lhs; whnf)) (Rd.src (ho2S.drew.chg hbg h2M).rd Tryd.underlying28) (by first | omega | (simp; omega)) (Nat.zero_le _) (fun g hg => ⟨5, by simp, (id hN).2 g hg⟩))); intro vb; simp only [Act.put, List.setIfInBounds_toArray, List.set_cons_succ, List.set_cons_zero])
  apply O.wpG_make; (focus rfl); (focus (intro wg Bg hbg hBg hFg; have hN : new8 5 ([] ++ (l ++ tail5)) vb (Bg 7) wg := hFg 7 (by decide +kernel); have hN' : new8 5 ([] ++ (l ++ tail5)) vb (fun b => ∃ j ∈ [7], Bg j b) wg := ⟨hN.1, fun g hg => ⟨7, by simp, hN.2 g hg⟩⟩; clear hFg hN; obtain ⟨g7, c7, rfl, _, _⟩ := hN'.1.open (by simp [tail5]); exact goesTo_litL (by go_simp) hN' (by go_simp))); intro vc; simp only [Act.put, List.setIfInBounds_toArray, List.set_cons_succ, List.set_cons_zero]
  apply O.wpG_make; (focus rfl); (focus (intro wg Bg hbg hBg hFg; have hN : litL 28 5 ([] ++ (l ++ tail5)) vc (Bg 8) wg := hFg 8 (by decide +kernel); have hO : oldL (p + 1) vW (es.map (·.want)) (Bg 100) wg := hFg 100 (by decide +kernel); exact goesTo_appL (by go_simp) _ _ rfl (by with_unfolding_all (conv => lhs; whnf)) hO.1 (by with_unfolding_all (conv => lhs; whnf)) hN (by rw [List.length_map]; omega) (by have := hbg.size; have := hWb; have e : wS.drew.heap.size = wS.heap.size := rfl; omega) (fun g hg => ⟨100, by simp, hO.2 g hg⟩) (fun g hg => ⟨⟨8, by simp, hg⟩, (hBg.lo 8 g hg).elim id (fun h => absurd (hBg.apart 8 100 g hg (hO.2 g h)) (by decide)), fun h => absurd (hBg.apart 8 100 g hg (hO.2 g h)) (by decide)⟩) hbg.size)); intro vd; simp only [Act.put, List.setIfInBounds_toArray, List.set_cons_succ, List.set_cons_zero]
  (apply O.wpG_pure; (focus rfl); (focus (intro wg Bg hbg hBg hFg; go_simp; (try go_bits); (first | done | exact ⟨rfl, Below.refl _ _⟩ | rfl))); simp only [Act.put, List.setIfInBounds_toArray, List.set_cons_succ, List.set_cons_zero])
  (apply O.wpG_pure; (focus rfl); (focus (intro wg Bg hbg hBg hFg; go_simp; (try go_bits); (first | done | exact ⟨rfl, Below.refl _ _⟩ | rfl))); simp only [Act.put, List.setIfInBounds_toArray, List.set_cons_succ, List.set_cons_zero])
  refine O.wpG_end (fun wg Bg hbg hBg hFg => ?_)
  have hR : rowL (p + 1) wS.heap.size (es.map (·.want)) 5 ([] ++ (l ++ tail5)) vd (Bg 9) wg := hFg 9
  clear hFg
  rw [List.nil_append] at hR
  obtain ⟨x, hr1, hr2, hr3, hr4, hr5⟩ := hR
  obtain ⟨g4, cp4, e4, hg4a, hg4b⟩ := hr1.open (by simp)
  generalize hn4 : (es.map (·.want) ++ [x]).length = n4 at e4
  subst e4
  have hpg := hpS.drew.chg hbg hpM
  have f4 := hpg.frozen 1
  have k4 : _ = some vW := hpg.cell 1
  have ho2g := ho2S.drew.chg hbg h2M
  have hc2 : n2 ≤ cp2 ∧ cp2 ≤ maxLen ∧ 0 < n2 := by
    obtain ⟨A', c', e', q1, q2, _⟩ := ho2g.rd.open
    cases e'
    exact ⟨q1, q2, by simp⟩
  have hn2' : l.length + 5 = n2 := by simpa using hn2
  have q1 : (l.length : Int) ≤ cp2 := by omega
  have q2 : (0 : Int) ≤ l.length := by omega
  have q3 : ¬ (cp2 = 0) := by omega
  have q4 : ¬ (0 = cp2) := by omega
  go_wp2_with (first
    | (with_reducible refine G_len ?_; refine L8_len Tryd.underlying28 (by with_unfolding_all (conv => lhs; whnf)) (by assumption) ?_))
  go_ret
  have zS : w.heap.size ≤ wS.heap.size := hchS.size
  have zg : wS.heap.size ≤ wg.heap.size := hbg.size
  have zp : p < w.heap.size := hpl
  have g3lt : g3 < wS.heap.size := hFS.lt g3 rfl
  have g2lt : g2 < wS.heap.size := ho2S.lt g2 rfl
  have g2ge : w.heap.size ≤ g2 := ho2S.base_le g2 rfl
  have g3ge : p + 1 ≤ g3 := hFS.base_le g3 rfl
  have hg4 : wS.heap.size ≤ g4 ∨ vW.ownBlock = some g4 := hBg.lo 9 g4 (hr3 g4 rfl)
  have hWlt : ∀ k, vW.ownBlock = some k → p + 1 ≤ k ∧ k < w.heap.size := fun k hk => ⟨hW.base_le k hk, hW.lt k hk⟩
  have hFlt : ∀ k, vF.ownBlock = some k → p + 1 ≤ k ∧ k < w.heap.size := fun k hk => ⟨hF.base_le k hk, hF.lt k hk⟩
  have h3M : ¬ (vW.ownBlock = some g3) := fun e => by
    rcases hg3n.1 with h | h
    · exact hFW g3 h.symm e
    · have := hWlt g3 e; omega
  have hch6 : Chg (fun k => k = p ∨ vF.ownBlock = some k ∨ vW.ownBlock = some k) w (wg.setCell ⟨p, 1, none⟩ (.slice (some ⟨g4, 0, none⟩) n4 cp4)) := by
    refine Chg.chg_trans ?_ (Chg.setCell wg ⟨p, 1, none⟩ (.slice (some ⟨g4, 0, none⟩) n4 cp4)) (fun k hk => .inr (.inl hk))
    have h1 : Chg (fun k => k = p ∨ vF.ownBlock = some k ∨ vW.ownBlock = some k) w wS.drew := (show Chg (fun k => k = p ∨ vF.ownBlock = some k) w wS.drew from ⟨hchS.os, hchS.tape, hchS.output, hchS.size, hchS.block⟩).mono (fun k hk => hk.imp id (fun h => Or.inl h))
    exact Chg.chg_trans h1 hbg (fun k hk => .inr (.inr (.inr hk)))
  have hB6 : Below B w (wg.setCell ⟨p, 1, none⟩ (.slice (some ⟨g4, 0, none⟩) n4 cp4)) := hch6.below (by omega) (fun k hk => by
    rcases hk with rfl | hk | hk
    · exact hBp
    · have := hFlt k hk; omega
    · have := hWlt k hk; omega)
  have set6 : ∀ {base : Nat} {e : TypeId} {u : Value} {m : List UInt8}, Own8 wg base e u m → (∀ g, u.ownBlock = some g → g ≠ p) → Own8 (wg.setCell ⟨p, 1, none⟩ (.slice (some ⟨g4, 0, none⟩) n4 cp4)) base e u m := fun h hne => h.chg (Chg.setCell _ _ _) (fun g hg e => hne g hg e)
  have hold : ∀ e ∈ es, (∀ g, e.full.ownBlock = some g → p + 1 ≤ g ∧ g < w.heap.size) ∧ (∀ g, e.want.ownBlock = some g → p + 1 ≤ g ∧ g < w.heap.size) := fun e he =>
    ⟨fun g hg => ⟨(hes e he).1.1.base_le g hg, (hes e he).1.1.lt g hg⟩, fun g hg => ⟨(hes e he).1.2.1.base_le g hg, (hes e he).1.2.1.lt g hg⟩⟩
  have own2 : Own8 (wg.setCell ⟨p, 1, none⟩ (.slice (some ⟨g4, 0, none⟩) n4 cp4)) (p + 1) 5 (.slice (some ⟨g2, 0, none⟩) n2 cp2) (l ++ tail5) := set6 (ho2g.mono zp) (fun g (hg : some g2 = some g) => by have e : g2 = g := Option.some.inj hg; omega)
  have ap3 : ∀ v' : Value, (∀ g, v'.ownBlock = some g → p + 1 ≤ g ∧ g < w.heap.size) → ap vF v' → ap (.slice (some ⟨g3, 0, none⟩) n3 cp3) v' := fun v' h1 h2 g hg e => by
    cases hg
    rcases hg3n.1 with h | h
    · exact h2 g3 h.symm e
    · have := (h1 g3 e).2; omega
  have ap4 : ∀ v' : Value, (∀ g, v'.ownBlock = some g → p + 1 ≤ g ∧ g < w.heap.size) → ap vW v' → ap (.slice (some ⟨g4, 0, none⟩) n4 cp4) v' := fun v' h1 h2 g hg e => by
    cases hg
    rcases hg4 with h | h
    · have := (h1 g4 e).2; omega
    · exact h2 g4 h e
  have zw : ∀ g, g < wg.heap.size → g < (wg.setCell ⟨p, 1, none⟩ (.slice (some ⟨g4, 0, none⟩) n4 cp4)).heap.size := fun g hg => Nat.lt_of_lt_of_le hg (Chg.setCell _ _ _).size
  have xlt : ∀ g, x.ownBlock = some g → g < wg.heap.size := fun g hg => hr2.1.lt g hg
  have g4lt : g4 < wg.heap.size := hr1.lt g4 rfl
  refine ⟨⟨.slice (some ⟨g2, 0, none⟩) n2 cp2, x, .slice (some ⟨g2, 0, none⟩) l.length cp2, l⟩, fun k => S k ∨ (w.heap.size ≤ k ∧ k < (wg.setCell ⟨p, 1, none⟩ (.slice (some ⟨g4, 0, none⟩) n4 cp4)).heap.size), rfl, rfl, ⟨.slice (some ⟨g3, 0, none⟩) n3 cp3, .slice (some ⟨g4, 0, none⟩) n4 cp4, hBp, hpg.stored 1 _, ?_, ?_, ?_, ?_, ?_, ?_, .inl hSp, ?_, ?_, ?_, ?_⟩, fun k hk => hk.imp id (fun h => h.1), hch6.mono ?_, hB6⟩
  · rw [List.map_append]
    have h7 : OwnV wg _ _ _ := OwnV.chg (w := wS.drew) hFS hbg (fun g hg hm => by cases hg; exact h3M hm)
    refine h7.chg (Chg.setCell _ _ _) (fun g hg e => ?_)
    cases hg; have : g3 = p := e; omega
  · rw [List.map_append]
    refine hr1.chg (Chg.setCell _ _ _) (fun g hg e => ?_)
    cases hg
    have : g4 = p := e
    rcases hg4 with h | h
    · omega
    · have := hWlt g4 h; omega
  · intro g hg e
    cases hg
    cases e
    rcases hg4 with h | h
    · omega
    · exact h3M h
  · intro e he
    rcases List.mem_append.1 he with he | he
    · obtain ⟨k1, k2, k3, k4, k5⟩ := hes e he
      refine ⟨k1.chg hch6 (fun g hg hm => ?_) (fun g hg hm => ?_), ap3 _ (hold e he).1 k2, ap3 _ (hold e he).2 k3, ap4 _ (hold e he).1 k4, ap4 _ (hold e he).2 k5⟩
      · rcases hm with rfl | hm | hm
        · have := (hold e he).1 _ hg; omega
        · exact k2 g hm hg
        · exact k4 g hm hg
      · rcases hm with rfl | hm | hm
        · have := (hold e he).2 _ hg; omega
        · exact k3 g hm hg
        · exact k5 g hm hg
    · rcases List.mem_singleton.1 he with rfl
      refine ⟨⟨own2, ?_, ?_, rfl, hl⟩, ?_, ?_, ?_, hr4⟩
      · exact set6 (hr2.1.rebase (fun g hg => by have := hr5 g hg; omega)) (fun g hg e => by have := hr5 g hg; omega)
      · have h7 : Rd _ _ _ := own2.rd
        have hn3' : n2 = (l ++ tail5).length := by simp; omega
        rw [hn3'] at h7
        have h8 := Rd.take h7 l.length (by simp)
        rwa [List.take_left' rfl] at h8
      · intro g hg e; cases hg; cases e; exact hg3n.2 rfl
      · intro g hg e; cases hg; have := hr5 g3 e; omega
      · intro g hg e; cases hg; cases e
        rcases hg4 with h | h
        · omega
        · have := hWlt g2 h; omega
  · rw [List.pairwise_append]
    refine ⟨hff, by simp, fun a ha b hb => ?_⟩
    rcases List.mem_singleton.1 hb with rfl
    intro g hg e
    cases e
    have := (hold a ha).1 g2 hg; omega
  · intro a ha b hb g hg e
    rcases List.mem_append.1 ha with ha | ha
    · rcases List.mem_append.1 hb with hb | hb
      · exact hfw a ha b hb g hg e
      · rcases List.mem_singleton.1 hb with rfl
        have := (hold a ha).1 _ hg; have := hr5 _ e; omega
    · rcases List.mem_singleton.1 ha with rfl
      cases hg
      rcases List.mem_append.1 hb with hb | hb
      · have := (hold b hb).2 g2 e; omega
      · rcases List.mem_singleton.1 hb with rfl
        have := hr5 g2 e; omega
  · intro g hg
    cases hg
    rcases hg3n.1 with h | h
    · exact .inl (hSF g3 h.symm)
    · exact .inr ⟨h, zw g3 (by omega)⟩
  · intro g hg
    cases hg
    rcases hg4 with h | h
    · exact .inr ⟨Nat.le_trans zS h, zw g4 g4lt⟩
    · exact .inl (hSW g4 h)
  · intro e he
    rcases List.mem_append.1 he with he | he
    · exact ⟨(hSe e he).1.mono (fun k hk => .inl hk), (hSe e he).2.mono (fun k hk => .inl hk)⟩
    · rcases List.mem_singleton.1 he with rfl
      refine ⟨fun g hg => ?_, fun g hg => ?_⟩
      · cases hg; exact .inr ⟨g2ge, zw g2 (by omega)⟩
      · exact .inr ⟨by have := hr5 g hg; omega, zw g (xlt g hg)⟩
  · intro k hk
    rcases hk with hk | hk
    · have := hSl k hk; exact zw k (by omega)
    · exact hk.2
  · intro k hk
    rcases hk with rfl | hk | hk
    · exact hSp
    · exact hSF k hk
    · exact hSW k hk
end Go.Proofs.YtocfcgjjepegmaaDoor
