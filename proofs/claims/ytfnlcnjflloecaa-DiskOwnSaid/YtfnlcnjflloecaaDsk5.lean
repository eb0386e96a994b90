/- A disk in memory. -/
import Derived.Test.YtfnlcnjflloecaaDsk4
set_option linter.unusedVariables false
set_option linter.unusedSimpArgs false
set_option linter.unnecessarySimpa false
namespace Go.Proofs.Ytfnlcnjflloecaa
open Go.RowKit
/-- A file in memory: its own block, its row's; what each block is for, Lb says. -/
structure FileAt (w : World) (M : Nat → Prop) (Lb : Nat → Nat × List UInt8) (g : Nat) (v : Value) (s : List UInt8) (f : FileE) : Prop where
  own : M g
  lab : Lb g = (2, s)
  blk : Blk w g 77 [v, .int .i64 (f.safe : Int)]
  row : Own8 w 0 5 v f.b
  rown : ∀ k, v.ownBlock = some k → M k ∧ Lb k = (3, s)
structure DiskMem (w : World) (M : Nat → Prop) (p r : Nat) (G : List UInt8 → Nat) (V : List UInt8 → Value) (Lb : Nat → Nat × List UInt8) (D : Dsk) : Prop where
  mp : M p
  mr : M r
  lp : Lb p = (0, [])
  lr : Lb r = (1, [])
  blk : Blk w p 68 (dskC r D)
  map : MapK w r (ptrK G D.fs)
  lt : ∀ k, M k → k < w.heap.size
  file : ∀ s f, lookF D.fs s = some f → FileAt w M Lb (G s) (V s) s f
def DiskAt (w : World) (M : Nat → Prop) (p : Nat) (D : Dsk) : Prop := ∃ r G V Lb, DiskMem w M p r G V Lb D
def growM (M : Nat → Prop) (w w' : World) : Nat → Prop := fun k => M k ∨ (w.heap.size ≤ k ∧ k < w'.heap.size)
theorem MapK.chg {w w' : World} {N : Nat → Prop} {r : Nat} {f : ByteArray → Option Value} (h : MapK w r f) (hc : Chg N w w') (hr : ¬ N r) : MapK w' r f := h.loc (hc.block r h.lt hr)
theorem FileAt.chg {w w' : World} {M N : Nat → Prop} {Lb : Nat → Nat × List UInt8} {g : Nat} {v : Value} {s : List UInt8} {f : FileE} (h : FileAt w M Lb g v s f) (hc : Chg N w w') (hg : ¬ N g) (hv : ∀ k, v.ownBlock = some k → ¬ N k) : FileAt w' M Lb g v s f :=
  ⟨h.own, h.lab, h.blk.chg hc hg, h.row.chg hc hv, h.rown⟩
theorem FileAt.mono {w : World} {M M' : Nat → Prop} {Lb : Nat → Nat × List UInt8} {g : Nat} {v : Value} {s : List UInt8} {f : FileE} (h : FileAt w M Lb g v s f) (hM : ∀ k, M k → M' k) : FileAt w M' Lb g v s f :=
  ⟨hM _ h.own, h.lab, h.blk, h.row, fun k hk => ⟨hM _ (h.rown k hk).1, (h.rown k hk).2⟩⟩
section
variable {w w' : World} {M N : Nat → Prop} {p r : Nat} {G : List UInt8 → Nat} {V : List UInt8 → Value} {Lb : Nat → Nat × List UInt8} {D D' : Dsk}
theorem DiskMem.chg (h : DiskMem w M p r G V Lb D) (hc : Chg N w w') (hN : ∀ k, M k → ¬ N k) : DiskMem w' M p r G V Lb D :=
  ⟨h.mp, h.mr, h.lp, h.lr, h.blk.chg hc (hN _ h.mp), h.map.chg hc (hN _ h.mr), fun k hk => Nat.lt_of_lt_of_le (h.lt k hk) hc.size, fun s f hf => (h.file s f hf).chg hc (hN _ (h.file s f hf).own) fun k hk => hN _ ((h.file s f hf).rown k hk).1⟩
theorem DiskMem.mono (h : DiskMem w M p r G V Lb D) {M' : Nat → Prop} (hM : ∀ k, M k → M' k) (hlt : ∀ k, M' k → k < w.heap.size) : DiskMem w M' p r G V Lb D :=
  ⟨hM _ h.mp, hM _ h.mr, h.lp, h.lr, h.blk, h.map, hlt, fun s f hf => (h.file s f hf).mono hM⟩
theorem DiskMem.below (h : DiskMem w M p r G V Lb D) (hb : Below w.heap.size w w') : DiskMem w' M p r G V Lb D := h.chg (N := fun _ => False) (Chg.of_below hb) (fun _ _ h => h)
theorem DiskMem.drew (h : DiskMem w M p r G V Lb D) : DiskMem w.drew M p r G V Lb D := ⟨h.mp, h.mr, h.lp, h.lr, h.blk, h.map, h.lt, fun s f hf => ⟨(h.file s f hf).own, (h.file s f hf).lab, (h.file s f hf).blk, (h.file s f hf).row, (h.file s f hf).rown⟩⟩
/-- Only what stands in the disk's own block turns. -/
theorem DiskMem.ctl (h : DiskMem w M p r G V Lb D) (hfs : D'.fs = D.fs) (hc : Chg (fun k => k = p) w w') (hb : Blk w' p 68 (dskC r D')) : DiskMem w' M p r G V Lb D' := by
  refine ⟨h.mp, h.mr, h.lp, h.lr, hb, ?_, fun k hk => Nat.lt_of_lt_of_le (h.lt k hk) hc.size, fun s f hf => ?_⟩
  · rw [hfs]
    exact h.map.chg hc (fun e => by have := h.lr; rw [e, h.lp] at this; cases this)
  · rw [hfs] at hf
    have F := h.file s f hf
    exact F.chg hc (fun e => by have := F.lab; rw [e, h.lp] at this; cases this) (fun k hk e => by have := (F.rown k hk).2; rw [e, h.lp] at this; cases this)
theorem ptrK_mod (G : List UInt8 → Nat) (fs : List FileE) (s : List UInt8) (h : FileE → FileE) (hn : ∀ f, (h f).name = f.name) : ptrK G (modF fs s h) = ptrK G fs := by
  funext t
  unfold ptrK
  rw [lookF_mod fs s _ h hn]
  split
  · rw [Option.map_map]; rfl
  · rfl
/-- One file turns. -/
theorem DiskMem.modify (h : DiskMem w M p r G V Lb D) {s : List UInt8} {f : FileE} (hf : lookF D.fs s = some f) {g : FileE → FileE} (hn : ∀ f, (g f).name = f.name) (hfs : D'.fs = modF D.fs s g)
    (hc : Chg (fun k => k = p ∨ k = G s ∨ (V s).ownBlock = some k) w w') (hb : Blk w' p 68 (dskC r D')) {v' : Value} (hg : Blk w' (G s) 77 [v', .int .i64 ((g f).safe : Int)]) (hv : Own8 w' 0 5 v' (g f).b)
    (hvo : ∀ k, v'.ownBlock = some k → (V s).ownBlock = some k ∨ w.heap.size ≤ k) : ∃ V' Lb', DiskMem w' (growM M w w') p r G V' Lb' D' ∧ V' s = v' := by
  have F := h.file s f hf
  have hlt : ∀ k, M k → k < w.heap.size := h.lt
  refine ⟨fun t => if t = s then v' else V t, fun k => if w.heap.size ≤ k then (3, s) else Lb k, ⟨.inl h.mp, .inl h.mr, ?_, ?_, hb, ?_, ?_, fun t f' hf' => ?_⟩, if_pos rfl⟩
  · rw [if_neg (by have := hlt _ h.mp; omega)]; exact h.lp
  · rw [if_neg (by have := hlt _ h.mr; omega)]; exact h.lr
  · rw [hfs, ptrK_mod G _ s g hn]
    refine h.map.chg hc ?_
    rintro (e | e | e)
    · have := h.lr; rw [e, h.lp] at this; cases this
    · have := h.lr; rw [e, F.lab] at this; cases this
    · have := (F.rown _ e).2; rw [h.lr] at this; cases this
  · rintro k (hk | hk)
    · exact Nat.lt_of_lt_of_le (hlt k hk) hc.size
    · exact hk.2
  · rw [hfs, lookF_mod _ _ _ g hn] at hf'
    by_cases ht : t = s
    · subst ht
      rw [if_pos rfl, hf] at hf'
      cases hf'
      refine ⟨.inl F.own, ?_, ?_, ?_, fun k hk => ?_⟩
      · rw [if_neg (by have := hlt _ F.own; omega)]; exact F.lab
      · rw [if_pos rfl]; exact hg
      · rw [if_pos rfl]; exact hv
      · rw [if_pos rfl] at hk
        have hkl := hv.lt k hk
        rcases hvo k hk with h1 | h1
        · have h2 := F.rown k h1
          refine ⟨.inl h2.1, ?_⟩
          rw [if_neg (by have := hlt _ h2.1; omega)]; exact h2.2
        · exact ⟨.inr ⟨h1, hkl⟩, if_pos h1⟩
    · rw [if_neg ht] at hf'
      have F' := h.file t f' hf'
      have hne : ∀ k, (Lb k = (2, t) ∨ Lb k = (3, t)) → ¬ (k = p ∨ k = G s ∨ (V s).ownBlock = some k) := by
        rintro k hl (e | e | e)
        · rw [e, h.lp] at hl; rcases hl with hl | hl <;> cases hl
        · rw [e, F.lab] at hl
          rcases hl with hl | hl
          · cases hl; exact ht rfl
          · cases hl
        · rw [(F.rown k e).2] at hl
          rcases hl with hl | hl
          · cases hl
          · cases hl; exact ht rfl
      have F2 := F'.chg hc (hne _ (.inl F'.lab)) (fun k hk => hne k (.inr (F'.rown k hk).2))
      have F3 := F2.mono (M' := growM M w w') (fun k hk => .inl hk)
      rw [if_neg ht]
      refine ⟨F3.own, ?_, F3.blk, F3.row, fun k hk => ⟨(F3.rown k hk).1, ?_⟩⟩
      · rw [if_neg (by have := hlt _ F'.own; omega)]; exact F'.lab
      · have h2 := F'.rown k hk
        rw [if_neg (by have := hlt _ h2.1; omega)]; exact h2.2
theorem strB_of (t : ByteArray) : strB t.data.toList = t := by unfold strB; simp
/-- A file that is new. -/
theorem DiskMem.fresh (h : DiskMem w M p r G V Lb D) {s : List UInt8} (hf : lookF D.fs s = none) {w1 : World} (hb : Below w.heap.size w w1) (hg : Blk w1 w.heap.size 77 [.slice none 0 0, .int .i64 0]) {w2 : World} (hu : w1.grownBy w2 (some r))
    (hm : MapK w2 r (fun t => if t = strB s then some (.pointer (some ⟨w.heap.size, 0, none⟩)) else ptrK G D.fs t)) :
    ∃ G' V' Lb', DiskMem w2 (growM M w w2) p r G' V' Lb' { D with fs := putF D.fs ⟨s, [], 0⟩ } ∧ G' s = w.heap.size := by
  have hlt : ∀ k, M k → k < w.heap.size := h.lt
  have hgl := hg.lt
  have hc : Chg (fun k => k = r) w w2 := (Chg.of_below hb).chg_trans (Chg.grown hu (M := fun k => k = r) (fun k hk => by cases hk; rfl)) (fun k hk => .inr hk)
  have hlk := fun t => lookF_put (fs := D.fs) ⟨s, [], 0⟩ (lookF_none.1 hf) t
  refine ⟨fun t => if t = s then w.heap.size else G t, fun t => if t = s then .slice none 0 0 else V t, fun k => if w.heap.size ≤ k then (2, s) else Lb k, ⟨.inl h.mp, .inl h.mr, ?_, ?_, ?_, ?_, ?_, fun t f' hf' => ?_⟩, if_pos rfl⟩
  · rw [if_neg (by have := hlt _ h.mp; omega)]; exact h.lp
  · rw [if_neg (by have := hlt _ h.mr; omega)]; exact h.lr
  · have e : dskC r { D with fs := putF D.fs ⟨s, [], 0⟩ } = dskC r D := by unfold dskC; simp only [used_put]; simp
    rw [e]
    exact h.blk.chg hc (fun e => by have := h.lr; rw [← e, h.lp] at this; cases this)
  · have e : ptrK (fun t => if t = s then w.heap.size else G t) (putF D.fs ⟨s, [], 0⟩) = fun t => if t = strB s then some (.pointer (some ⟨w.heap.size, 0, none⟩)) else ptrK G D.fs t := by
      funext t
      unfold ptrK
      rw [hlk]
      by_cases ht : t.data.toList = s
      · rw [if_pos ht, if_pos (by rw [← ht, strB_of])]; simp only [Option.map_some, if_pos ht]
      · rw [if_neg ht, if_neg (fun e => ht (by rw [e]; rfl))]; simp only [if_neg ht]
    rw [e]; exact hm
  · rintro k (hk | hk)
    · exact Nat.lt_of_lt_of_le (hlt k hk) hc.size
    · exact hk.2
  · simp only at hf'
    rw [hlk] at hf'
    by_cases ht : t = s
    · subst ht
      rw [if_pos rfl] at hf'
      cases hf'
      rw [if_pos rfl, if_pos rfl]
      refine ⟨.inr ⟨Nat.le_refl _, Nat.lt_of_lt_of_le hgl hu.size⟩, if_pos (Nat.le_refl _), hg.grown hu (fun e => by cases e; have := hlt _ h.mr; omega), Own8.nil _ _ _, fun k hk => by cases hk⟩
    · rw [if_neg (show ¬ t = s from ht)] at hf'
      have F' := h.file t f' hf'
      have F2 := F'.chg hc (fun e => by have := F'.lab; rw [e, h.lr] at this; cases this) (fun k hk e => by have := (F'.rown k hk).2; rw [e, h.lr] at this; cases this)
      have F3 := F2.mono (M' := growM M w w2) (fun k hk => .inl hk)
      rw [if_neg ht, if_neg ht]
      refine ⟨F3.own, ?_, F3.blk, F3.row, fun k hk => ⟨(F3.rown k hk).1, ?_⟩⟩
      · rw [if_neg (by have := hlt _ F'.own; omega)]; exact F'.lab
      · have h2 := F'.rown k hk
        rw [if_neg (by have := hlt _ h2.1; omega)]; exact h2.2
end
end Go.Proofs.Ytfnlcnjflloecaa
