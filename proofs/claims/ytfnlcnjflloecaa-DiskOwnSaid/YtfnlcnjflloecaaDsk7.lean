/- disk.Append, Fuse, Sync, Steps. -/
import Derived.Test.YtfnlcnjflloecaaDsk6
set_option linter.unusedVariables false
set_option linter.unusedSimpArgs false
set_option linter.unnecessarySimpa false
namespace Go.Proofs.Ytfnlcnjflloecaa
open Go.RowKit
/-- What a call that changes the disk leaves. -/
def DkGives (w : World) (M : Nat → Prop) (p : Nat) (R : Int × Dsk) (e : Ending) (w' : World) : Prop := e = .returned (.int .i64 R.1) ∧ DiskAt w' (growM M w w') p R.2 ∧ Chg M w w'
theorem DiskAt.lt {w : World} {M : Nat → Prop} {p : Nat} {D : Dsk} (h : DiskAt w M p D) : ∀ k, M k → k < w.heap.size := by obtain ⟨r, G, V, Lb, h⟩ := h; exact h.lt
theorem DiskAt.own {w : World} {M : Nat → Prop} {p : Nat} {D : Dsk} (h : DiskAt w M p D) : M p := by obtain ⟨r, G, V, Lb, h⟩ := h; exact h.mp
theorem DiskAt.chg {w w' : World} {M N : Nat → Prop} {p : Nat} {D : Dsk} (h : DiskAt w M p D) (hc : Chg N w w') (hN : ∀ k, M k → ¬ N k) : DiskAt w' M p D := by
  obtain ⟨r, G, V, Lb, h⟩ := h; exact ⟨r, G, V, Lb, h.chg hc hN⟩
theorem DiskAt.below {w w' : World} {M : Nat → Prop} {p : Nat} {D : Dsk} (h : DiskAt w M p D) (hb : Below w.heap.size w w') : DiskAt w' M p D := by
  obtain ⟨r, G, V, Lb, h⟩ := h; exact ⟨r, G, V, Lb, h.below hb⟩
theorem DiskAt.mono {w : World} {M M' : Nat → Prop} {p : Nat} {D : Dsk} (h : DiskAt w M p D) (hM : ∀ k, M k → M' k) (hlt : ∀ k, M' k → k < w.heap.size) : DiskAt w M' p D := by
  obtain ⟨r, G, V, Lb, h⟩ := h; exact ⟨r, G, V, Lb, h.mono hM hlt⟩
theorem DkGives.pre {w w1 w' : World} {M : Nat → Prop} {p : Nat} {R : Int × Dsk} {e : Ending} (h : DkGives w1 M p R e w') (hb : Below w.heap.size w w1) (hlt : ∀ k, M k → k < w.heap.size) : DkGives w M p R e w' := by
  obtain ⟨h1, h2, h3⟩ := h
  refine ⟨h1, h2.mono (fun k hk => hk.imp id fun h => ⟨by have := hb.size; omega, h.2⟩) ?_, (Chg.of_below hb).tr h3⟩
  rintro k (hk | hk)
  · have := hlt k hk; have := hb.size; have := h3.size; omega
  · exact hk.2
theorem step_disk (p : Nat) (M : Nat → Prop) (D : Dsk) (R : Int × Dsk) (k : Nat) (caps : Array Value) (w : World) (h : DiskAt w M p D) (hR : D.off = true → R = (13, D)) (ek : ∀ args w, (callFunc k args).run Try.prog w = .ok (.enter k args) w)
    (HC : D.off = false → ∀ w1, Below w.heap.size w w1 → Calls Try.prog k caps w1 (DkPost w1 M p R)) :
    Calls Try.prog 26 #[.pointer (some ⟨p, 0, none⟩), .func (.func k) #[] caps] w (DkGives w M p R) := by
  have h0 := h
  obtain ⟨r, G, V, Lb, h⟩ := h
  cases ho : D.off
  · refine (step_on p (dskC r D) k caps w h.blk (by unfold dskC; rw [ho]; rfl) ek M (fun x w2 => x = R.1 ∧ DiskAt w2 (fun k => M k ∨ (w.heap.size < k ∧ k < w2.heap.size)) p R.2) (fun hm => by have := h.lt _ hm; omega) ?_ ?_).mono ?_
    · rintro x w2 w3 ⟨h1, h2⟩ hz hg
      refine ⟨h1, (h2.chg (Chg.grown hg (M := fun k => k = w.heap.size) (fun k hk => by cases hk; rfl)) ?_).mono ?_ ?_⟩
      · rintro k (hk | hk) e
        · have := h.lt k hk; omega
        · omega
      · exact fun k hk => hk.imp id fun h => ⟨h.1, by have := hg.size; omega⟩
      · rintro k (hk | hk)
        · have := h.lt k hk; have := hg.size; omega
        · exact hk.2
    · intro w1 hb hz
      refine (HC ho w1 hb).mono ?_
      rintro e w2 ⟨h1, h2, h3⟩
      refine ⟨h1, R.1, ⟨rfl, h2.mono (fun k hk => hk.imp id fun h => ⟨by omega, h.2⟩) ?_⟩, ?_⟩
      · rintro k (hk | hk)
        · have := h.lt k hk; have := h1.size; omega
        · exact hk.2
      · rcases h3 with ⟨h4, h5⟩ | ⟨h4, h5⟩
        · exact .inl ⟨h4, h5⟩
        · exact .inr h5
    · rintro e w' ⟨x, rfl, ⟨rfl, h2⟩, h3⟩
      refine ⟨rfl, h2.mono (fun k hk => hk.imp id fun h => ⟨by omega, h.2⟩) ?_, h3⟩
      rintro k (hk | hk)
      · have := h.lt k hk; have := h3.size; omega
      · exact hk.2
  · rw [hR ho]
    refine (step_off p (dskC r D) _ w h.blk (by unfold dskC; rw [ho]; rfl)).mono ?_
    rintro e w' ⟨rfl, hb⟩
    exact ⟨rfl, h0.grow hb, Chg.of_below hb⟩
theorem first_off {D : Dsk} (ho : D.off = true) (s : List UInt8) (m : Bool) : firstD D s m = 13 := by unfold firstD; rw [if_pos ho]
set_option maxRecDepth 100000 in
set_option maxHeartbeats 1600000 in
theorem append_c (p : Nat) (M : Nat → Prop) (D : Dsk) (s b : List UInt8) (v : Value) (w : World) (h : DiskAt w M p D) (ok : DskOk D) (hd : D.done ≤ 4611686018427387904) (hs : s.length ≤ 9223372036854775807)
    (hv : Rd w v b) (hvM : ∀ g, v.ownBlock = some g → ¬ M g) (hvl : ∀ g, v.ownBlock = some g → g < w.heap.size) :
    Calls Try.prog 9 #[.pointer (some ⟨p, 0, none⟩), .string (strB s), v] w (DkGives w M p (appendD D s b)) := by
  have hmf : ∀ (fn : Fn) (first cap : Array Value) (w : World), (Instr.makeFunc fn first cap).run Try.prog w = .ok (.func fn first cap) w := fun _ _ _ _ => rfl
  have ek : ∀ args w, (callFunc 27 args).run Try.prog w = .ok (.enter 27 args) w := enters_of Try.func27 (by kernel_rfl) rfl
  obtain ⟨A0, c0, ev, -, -, -⟩ := hv.open
  have kd := Blk.new w 23 [.pointer (some ⟨p, 0, none⟩)]
  have b1 := (Below.refl w.heap.size w).alloc (Nat.le_refl _) (.cells #[.pointer (some ⟨p, 0, none⟩)] 23)
  have z1 : (w.alloc (.cells #[.pointer (some ⟨p, 0, none⟩)] 23)).heap.size = w.heap.size + 1 := by simp
  generalize hw1 : w.alloc (.cells #[.pointer (some ⟨p, 0, none⟩)] 23) = w1 at *
  have kn := Blk.new w1 9 [.string (strB s)]
  have b2 := (Below.refl w1.heap.size w1).alloc (Nat.le_refl _) (.cells #[.string (strB s)] 9)
  have z2 : (w1.alloc (.cells #[.string (strB s)] 9)).heap.size = w1.heap.size + 1 := by simp
  generalize hw2 : w1.alloc (.cells #[.string (strB s)] 9) = w2 at *
  have kb := Blk.new w2 38 [v]
  have b3 := (Below.refl w2.heap.size w2).alloc (Nat.le_refl _) (.cells #[v] 38)
  generalize hw3 : w2.alloc (.cells #[v] 38) = w3 at *
  have hlt := h.lt
  have hb := below_below (below_below b1 b2) b3
  have kd3 := (kd.below b2).below b3
  have kn3 := kn.below b3
  have hno : ∀ k, w.heap.size ≤ k → ¬ M k := fun k hk hm => by have := hlt k hm; omega
  have c3 : _ = some _ := kd3.cell 0
  have ST := step_disk p M D (appendD D s b) 27 #[.pointer (some ⟨w1.heap.size, 0, none⟩), .pointer (some ⟨w2.heap.size, 0, none⟩), .pointer (some ⟨w.heap.size, 0, none⟩)] w3 (h.below hb)
    (fun ho => by unfold appendD; rw [if_pos (by rw [first_off ho]; decide), first_off ho]) ek (fun ho wx hx =>
      append1_c p M D s b v _ _ _ wx ((h.below hb).below hx) ok ho hd hs (kn3.below hx) (kb.below hx) (kd3.below hx) (hno _ (by omega)) (hno _ (by omega)) (hno _ (Nat.le_refl _)) ((hv.below hb).below hx) hvM (fun g hg => by have := hvl g hg; have := hb.size; have := hx.size; omega))
  generalize appendD D s b = R at *
  generalize strB s = S at *
  rw [z2, z1] at ST
  subst hw3 hw2 hw1
  subst ev
  go_enter Try.func9, Try.ntmps9
  go_wp2_with fail
  refine ST.mono ?_
  rintro e w4 h4
  obtain ⟨rfl, h5⟩ := h4.pre hb hlt
  go_wp2_with fail
  go_ret
  exact ⟨rfl, h5⟩
end Go.Proofs.Ytfnlcnjflloecaa
