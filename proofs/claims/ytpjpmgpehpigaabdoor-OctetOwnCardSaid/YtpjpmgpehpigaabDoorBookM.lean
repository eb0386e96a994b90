/- The region of closeBytes that grows a list by many and keeps it. -/
import Derived.Test.YtpjpmgpehpigaabDoorBook4
set_option linter.unusedVariables false
set_option linter.unusedSimpArgs false
namespace Go.Proofs.YtpjpmgpehpigaabDoor
open Go.RowKit
theorem mk_zero (i n : Nat) : mk i n 0 = List.replicate n (ma i) := by simp [mk]
theorem mk_succ (i n m : Nat) : mk i n m ++ [mb i] = mk i n (m + 1) := by simp [mk, List.replicate_succ']
theorem mk_add (i n m : Nat) : mk i n 0 ++ List.replicate m (mb i) = mk i n m := by simp [mk]
theorem mk_pre (i n m k : Nat) (h : m ≤ k) : mk i n m = (mk i n k).take (mk i n m).length := by
  rw [mk_len]
  unfold mk
  rw [List.take_append, List.length_replicate, List.take_replicate, List.take_replicate]
  congr 2 <;> omega
theorem rep_set (l : List UInt8) (x : Nat) (b : UInt8) (hx : x < l.length) (h : l.take x = List.replicate x b) : (l.set x b).take (x + 1) = List.replicate (x + 1) b := by
  rw [List.take_add_one, List.take_set_of_le (Nat.le_refl _), h, List.getElem?_set_self hx, List.replicate_succ']
  rfl
theorem Chg.grown' {w w' : World} {row : Option Nat} (h : w.grownBy w' row) : Chg (fun k => row = some k) w w' := Chg.grown h (fun k hk => hk)
def manyS (base : Nat) (v u vM : Value) (ms : List Value) (j n : Nat) : (Nat → Prop) → World → Prop := fun B w =>
  OwnV w base vM ms ∧ Own8 w base 5 v (mk j n 0) ∧ (u.ownBlock = v.ownBlock → Own8 w base 5 u (mk j n 16)) ∧ In B vM ∧ In B v
def manyX (base n0 : Nat) (v u vM : Value) (ms : List Value) (j n : Nat) : GSpec := fun x B w =>
  manyS base v u vM ms j n B w ∧ Own8 w base 5 x (mk j n 700) ∧ In B x ∧ In (fun g => v.ownBlock = some g ∨ n0 ≤ g) x
def manyL (base n0 : Nat) (v u vM : Value) (ms : List Value) (j n : Nat) : GSpec := fun l B w =>
  ∃ x g0, l = .slice (some ⟨g0, 0, none⟩) 1 1 ∧ w.heap[g0]? = some (.cells #[x] 22 (0, 0)) ∧ B g0 ∧ manyX base n0 v u vM ms j n x B w
def manyR (base n0 : Nat) (v u vM : Value) (ms : List Value) (j n : Nat) : GSpec := fun r B w =>
  ∃ x, OwnV w base r (ms ++ [x]) ∧ In B r ∧ In (fun g => vM.ownBlock = some g ∨ n0 ≤ g) r ∧ ap r x ∧ Own8 w base 5 v (mk j n 0) ∧ (u.ownBlock = v.ownBlock → Own8 w base 5 u (mk j n 16)) ∧ In B v ∧
    Own8 w base 5 x (mk j n 700) ∧ In B x ∧ In (fun g => v.ownBlock = some g ∨ n0 ≤ g) x
theorem own8_loc {w w' : World} {base : Nat} {e : TypeId} {v : Value} {l : List UInt8} (h : Own8 w base e v l) (hk : ∀ k, v.ownBlock = some k → w'.heap[k]? = w.heap[k]?) : Own8 w' base e v l := by
  refine ⟨h.1, ?_⟩
  rcases h.2 with h2 | ⟨g, cap, cur, rfl, hb, hg, rest⟩
  · exact .inl h2
  · exact .inr ⟨g, cap, cur, rfl, hb, by rw [hk g rfl]; exact hg, rest⟩
section
variable (M0 : Nat → Prop) (base n0 : Nat) (v u vM : Value) (ms : List Value) (j n : Nat) (w0 : World)
theorem manyS_loc : O.Loc M0 w0 (manyS base v u vM ms j n) := by
  rintro B w w' ⟨h1, h2, h3, h4, h5⟩ hs hk
  exact ⟨ownV_loc h1 (fun k hv => hk k (h1.lt k hv) (.inr (h4 k hv))), own8_loc h2 (fun k hv => hk k (h2.lt k hv) (.inr (h5 k hv))), fun e => own8_loc (h3 e) (fun k hv => hk k ((h3 e).lt k hv) (.inr (h5 k (by rw [← e]; exact hv)))), h4, h5⟩
theorem manyX_loc (x : Value) : O.Loc M0 w0 (manyX base n0 v u vM ms j n x) := by
  rintro B w w' ⟨h1, h2, h3, h4⟩ hs hk
  exact ⟨manyS_loc M0 base v u vM ms j n w0 B w w' h1 hs hk, own8_loc h2 (fun k hv => hk k (h2.lt k hv) (.inr (h3 k hv))), h3, h4⟩
theorem manyL_loc (x : Value) : O.Loc M0 w0 (manyL base n0 v u vM ms j n x) := by
  rintro B w w' ⟨y, g0, h1, h2, h3, h4⟩ hs hk
  exact ⟨y, g0, h1, by rw [hk g0 (Array.getElem?_eq_some_iff.1 h2).1 (.inr h3)]; exact h2, h3, manyX_loc M0 base n0 v u vM ms j n w0 y B w w' h4 hs hk⟩
theorem manyR_loc (x : Value) : O.Loc M0 w0 (manyR base n0 v u vM ms j n x) := by
  rintro B w w' ⟨y, h1, h2, h3, h4, h5, h6, h7, h8, h9, h10⟩ hs hk
  exact ⟨y, ownV_loc h1 (fun k hv => hk k (h1.lt k hv) (.inr (h2 k hv))), h2, h3, h4, own8_loc h5 (fun k hv => hk k (h5.lt k hv) (.inr (h7 k hv))), fun e => own8_loc (h6 e) (fun k hv => hk k ((h6 e).lt k hv) (.inr (h7 k (by rw [← e]; exact hv)))), h7,
    own8_loc h8 (fun k hv => hk k (h8.lt k hv) (.inr (h9 k hv))), h9, h10⟩
end
section
variable {B B' : Nat → Prop} {base n0 : Nat} {v u vM x : Value} {ms : List Value} {j n : Nat} {w : World}
theorem manyS_mono (h : manyS base v u vM ms j n B w) (hB : ∀ k, B k → B' k) : manyS base v u vM ms j n B' w := ⟨h.1, h.2.1, h.2.2.1, h.2.2.2.1.mono hB, h.2.2.2.2.mono hB⟩
theorem manyX_mono (h : manyX base n0 v u vM ms j n x B w) (hB : ∀ k, B k → B' k) : manyX base n0 v u vM ms j n x B' w := ⟨manyS_mono h.1 hB, h.2.1, h.2.2.1.mono hB, h.2.2.2⟩
theorem manyL_mono (h : manyL base n0 v u vM ms j n x B w) (hB : ∀ k, B k → B' k) : manyL base n0 v u vM ms j n x B' w := by
  obtain ⟨y, g0, h1, h2, h3, h4⟩ := h
  exact ⟨y, g0, h1, h2, hB g0 h3, manyX_mono h4 hB⟩
end
section
variable {w : World} {ops : Array Oper} {a : Act} {M : Nat → Prop} {base n0 : Nat} {v u vM : Value} {ms : List Value} {j n : Nat} {o : Oper}
theorem goesTo_manyX (hw : Region.wanted o (yielded ops a.tmps) = true) (s x : Operand)
    (ho : o.op = .call { callee := .builtin .append, args := #[s, x], argTypes := #[22, 22] })
    (hs : a.eval s = v) (hS : manyS base v u vM ms j n M w) {m : Value} (hxv : a.eval x = m) (hm : Rd w m (List.replicate 700 (mb j))) (hvM : ap v vM) (hn : n ≤ 10000000) (hb : base ≤ w.heap.size) (hn0 : n0 ≤ w.heap.size) :
    GoesTo Tryd.prog ops o a w fun x' w' => Chg M w w' ∧ manyX base n0 v u vM ms j n x' (fun b => M b ∨ (w.heap.size ≤ b ∧ b < w'.heap.size)) w' := by
  obtain ⟨h1, h2, h3, h4, h5⟩ := hS
  obtain ⟨x', w', hr, hap⟩ := run_app8k st8 o.type (tx := 22) h2 (Rd.src hm Tryd.underlying22) (by rw [mk_len, List.length_replicate]; omega) hb
  unfold GoesTo
  rw [if_pos hw]
  unfold execOp
  simp only [ho, resolve, invoke, builtin, Sem.run_bind, Sem.run_pure, Result.andThen_ok, List.map_toArray, List.map_cons, List.map_nil, hs, hxv, hr]
  have hown := hap.own
  rw [mk_add] at hown
  refine ⟨Chg.grown hap.grown h5, ⟨⟨h1.grown hap.grown ?_, hap.old, fun e => hap.other h2 (h3 e) (fun _ => by rw [mk_add]; exact ⟨by rw [mk_len, mk_len]; omega, mk_pre _ _ _ _ (by omega)⟩), h4.mono (fun k hk => .inl hk), h5.mono (fun k hk => .inl hk)⟩, hown, fun g hg => ?_, fun g hg => ?_⟩⟩
  · exact hvM.or
  · rcases hap.place with h | ⟨h, _⟩
    · exact .inl (h5 g (by rw [← h]; exact hg))
    · have hlt := hown.lt g hg
      rw [h] at hg
      have := Option.some.inj hg
      exact .inr ⟨by omega, hlt⟩
  · rcases hap.place with h | ⟨h, _⟩
    · exact .inl (by rw [← h]; exact hg)
    · rw [h] at hg
      have := Option.some.inj hg
      exact .inr (by omega)
theorem goesTo_manyL {x : Value} (hw : Region.wanted o (yielded ops a.tmps) = true) (hx : manyX base n0 v u vM ms j n x M w)
    (hr : (execOp a.eval o).run Tryd.prog w = .ok (.value (.slice (some ⟨w.heap.size, 0, none⟩) 1 1)) (w.alloc (.cells #[x] 22))) :
    GoesTo Tryd.prog ops o a w fun l w' => Chg M w w' ∧ manyL base n0 v u vM ms j n l (fun b => M b ∨ (w.heap.size ≤ b ∧ b < w'.heap.size)) w' := by
  unfold GoesTo
  rw [if_pos hw, hr]
  have hb : Below w.heap.size w (w.alloc (.cells #[x] 22)) := (Below.refl _ _).alloc (Nat.le_refl _) _
  obtain ⟨⟨h1, h2, h3, h4, h5⟩, h6, h7, h8⟩ := hx
  refine ⟨Chg.of_below hb, x, w.heap.size, rfl, heap_alloc_new w _, .inr ⟨Nat.le_refl _, by simp⟩, ⟨h1.below hb, h2.below hb, fun e => (h3 e).below hb, h4.mono (fun k hk => .inl hk), h5.mono (fun k hk => .inl hk)⟩, h6.below hb, h7.mono (fun k hk => .inl hk), h8⟩
theorem goesTo_manyR (hw : Region.wanted o (yielded ops a.tmps) = true) (s x : Operand)
    (ho : o.op = .call { callee := .builtin .append, args := #[s, x], argTypes := #[56, 56] })
    (hs : a.eval s = vM) {l : Value} (hxv : a.eval x = l) (hl : manyL base n0 v u vM ms j n l M w) (hvM : ap v vM) (huv : u.ownBlock = v.ownBlock → ap u vM) (hM : In (fun g => g < n0) vM) (hlen : ms.length ≤ 1000) (hb : base ≤ w.heap.size) (hn0 : n0 ≤ w.heap.size) :
    GoesTo Tryd.prog ops o a w fun r w' => Chg M w w' ∧ manyR base n0 v u vM ms j n r (fun b => M b ∨ (w.heap.size ≤ b ∧ b < w'.heap.size)) w' := by
  obtain ⟨y, g0, rfl, hg0, hB0, ⟨h1, h2, h3, h4, h5⟩, h6, h7, h8⟩ := hl
  have hx : RdW w 1 (.slice (some ⟨g0, 0, none⟩) 1 1) 1 [y] := by
    refine ⟨rfl, _, _, rfl, Nat.le_refl _, by decide, fun _ => ⟨g0, 0, rfl, fun j x hx => ?_⟩⟩
    rw [cell_of_row _ g0 (0 + j) _ 22 (0, 0) hg0, Nat.zero_add]
    simpa using hx
  obtain ⟨r, w', hr, k2, k3, k4⟩ := run_append_src stL o.type vM ms.length ms h1 _ 1 [y] (hx.src (by simpa using own_one h6) Tryd.underlying56) (by unfold maxLen; omega) (by omega) hb
  unfold GoesTo
  rw [if_pos hw]
  unfold execOp
  simp only [ho, resolve, invoke, builtin, Sem.run_bind, Sem.run_pure, Result.andThen_ok, List.map_toArray, List.map_cons, List.map_nil, hs, hxv, hr]
  have ho' : OwnV w' base r (ms ++ [y]) := by unfold OwnV; rw [List.length_append]; exact k2
  have hyM : ap vM y := fun g h h' => by
    rcases h8 g h' with e | e
    · exact hvM g e h
    · have := hM g h; simp only at this; omega
  refine ⟨Chg.grown k3 h4, y, ho', fun g hg => ?_, fun g hg => ?_, fun g hg hy => ?_, h2.grown k3 hvM.symm.or, fun e => (h3 e).grown k3 (huv e).symm.or, h5.mono (fun k hk => .inl hk), h6.grown k3 hyM.or, h7.mono (fun k hk => .inl hk), h8⟩
  · rcases k4 with h | h
    · exact .inl (h4 g (by rw [← h]; exact hg))
    · have hlt := ho'.lt g hg
      rw [h] at hg
      have := Option.some.inj hg
      exact .inr ⟨by omega, hlt⟩
  · rcases k4 with h | h
    · exact .inl (by rw [← h]; exact hg)
    · rw [h] at hg
      have := Option.some.inj hg
      exact .inr (by omega)
  · rcases k4 with h | h
    · exact hyM g (by rw [← h]; exact hg) hy
    · rw [h] at hg
      have := Option.some.inj hg
      have := h6.lt g hy; omega
end
end Go.Proofs.YtpjpmgpehpigaabDoor
