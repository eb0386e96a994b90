/- name.Host; the reference's Host, Resource, cut. -/
import Derived.Test.YtfnlcnjflloecaaDoorNam3
import Derived.Test.YtfnlcnjflloecaaDoorStrs
set_option linter.unusedVariables false
set_option linter.unusedSimpArgs false
namespace Go.Proofs.YtfnlcnjflloecaaDoor
open Go.RowKit
/-- The library's bound that is set at start: some number. -/
def MaxL (w : World) : Prop := ∃ m, w.cell? ⟨3, 0, none⟩ = some (.int .i64 m)
theorem MaxL.below {w w' : World} (h : MaxL w) (hb : Below w.heap.size w w') : MaxL w' := by
  obtain ⟨m, hm⟩ := h
  exact ⟨m, (hb.cell (p := ⟨3, 0, none⟩) (World.block_lt_of_cell? w _ hm)).trans hm⟩
theorem count46 (t : List UInt8) : Lib.countB (strB t) ⟨#[46]⟩ = t.count 46 := Lib.count_one 46 t
theorem split_parts (t : List UInt8) : ∃ L : List (List UInt8), L.length = Lib.countB (strB t) ⟨#[46]⟩ + 1 ∧ (Lib.splitB ⟨#[46]⟩ 0 (Lib.countB (strB t) ⟨#[46]⟩) (strB t)).map Value.string = svs L ∧ L.all labelB = hostGo 46 t ∧ ∀ x ∈ L, x.length ≤ t.length := by
  have hd := Lib.splitB_data ⟨#[46]⟩ 0 (Lib.countB (strB t) ⟨#[46]⟩) (strB t)
  have hn := Lib.splitB_all ⟨#[46]⟩ (by decide) 0 _ (strB t) rfl
  have h46 : (⟨#[46]⟩ : ByteArray).data.toList = [46] := rfl
  have ht : (strB t).data.toList = t := rfl
  rw [h46, ht] at hd
  refine ⟨(Lib.splitB ⟨#[46]⟩ 0 (Lib.countB (strB t) ⟨#[46]⟩) (strB t)).map (·.data.toList), by rw [List.length_map, hn], ?_, ?_, ?_⟩
  · unfold svs
    rw [List.map_map]
    congr 1
  · rw [hd]
    exact split_host _ t (count46 t).symm
  · rw [hd]
    have key : ∀ (k : Nat) (t : List UInt8), ∀ x ∈ Lib.splitK [46] 0 k t, x.length ≤ t.length := by
      intro k
      induction k with
      | zero => intro t x hx; unfold Lib.splitK at hx; simp at hx; subst hx; exact Nat.le_refl _
      | succ k ih =>
        intro t x hx
        unfold Lib.splitK at hx
        split at hx
        · simp at hx; subst hx; exact Nat.le_refl _
        · rcases List.mem_cons.1 hx with rfl | hx
          · simp; omega
          · have := ih _ x hx
            rw [List.length_drop] at this
            omega
    exact key _ t
theorem capI_sized : mapSized capI := by
  intro r hr
  unfold capI
  split
  · unfold Lib.encodeRune
    rw [List.length_map, List.length_map, Lib.encodeRuneZ_one (by omega) (by omega), Lib.encodeRuneZ_one (by omega) (by omega)]; rfl
  · rfl
def HsRel (w : World) (G : Nat) (L : List (List UInt8)) (b : Bool) (i : Value) (wr : World) : Prop :=
  ∃ j : Nat, j ≤ L.length ∧ i = .int .i64 (j : Int) ∧ (L.drop j).all labelB = b ∧ Blk wr G 9 (svs L) ∧ Below w.heap.size w wr
set_option maxHeartbeats 1600000 in
theorem host_c (s : List UInt8) (w : World) (hl : s.length ≤ 1000000000) (hT : Tabs w) (hM : MaxL w) : Calls Tryd.prog 16 #[.string (strB s)] w (GivesSE w (hostI s)) := by
  have SZ := sized_c s w hl hT
  have ef : ∀ args w, (callFunc 51 args).run Tryd.prog w = .ok (.enter 51 args) w := enters_of Tryd.func51 (by kernel_rfl) rfl
  have M := fun w1 (hb : Below w.heap.size w w1) => map_c 51 capI ef (fun r h0 h1 W => host_f r h0 h1 W) capI_small s w1 hl (hT.below hb)
  have hI : hostI s = if 64 < s.length then ([], 5) else if hostGo 46 (s.map lowB) then (s.map lowB, 0) else ([], 4) := rfl
  have hzz : sizedI s = if 64 < s.length then 5 else if s = [] ∨ Lib.validD s = false then 4 else 0 := rfl
  have hc := sizedI_cases s
  clear ef
  by_cases hz : sizedI s = 0
  · have hs := sizedI_zero.1 hz
    have hg := host_good s hs.2.2
    rw [if_neg (by omega : ¬ 64 < s.length)] at hI
    rw [hz] at SZ
    have hlc := map_len capI_ok capI_sized s.length s (Nat.le_refl _) hs.2.2
    have hlt : (Lib.mapD capI s).length ≤ 64 := by rw [hlc]; exact hs.1
    obtain ⟨L, hL1, hL2, hL3, hL4⟩ := split_parts (Lib.mapD capI s)
    rw [hg.1] at hL3
    have SP : ∀ w2, Below w.heap.size w w2 → Calls Tryd.prog 53 #[.string (strB (Lib.mapD capI s)), .string ⟨#[46]⟩] w2 fun e w' => e = .returned (.slice (some ⟨w2.heap.size, 0, none⟩) L.length L.length) ∧ w' = w2.alloc (.cells (svs L).toArray 9) := fun w2 hb => by
      obtain ⟨m, hm⟩ := hM.below hb
      have := Tryd.strings_Split (strB (Lib.mapD capI s)) ⟨#[46]⟩ m w2 (by rw [strB_size]; omega) hm (by decide)
      rw [← hL1, hL2] at this
      exact this
    have hLl : L.length ≤ 1000 := by
      have := Lib.countB_le ⟨#[46]⟩ (by decide) _ (strB (Lib.mapD capI s)) (Nat.le_refl _)
      rw [strB_size] at this
      omega
    have hfin : hostGo 46 (s.map lowB) = true → hostI s = (Lib.mapD capI s, 0) := fun h => by rw [hI, if_pos h, hg.2 h]
    have hbad : hostGo 46 (s.map lowB) = false → hostI s = ([], 4) := fun h => by rw [hI, h]; rfl
    have LB := fun x (hx : x ∈ L) w1 => label_c x w1 (by have := hL4 x hx; omega)
    generalize hostGo 46 (s.map lowB) = b at *
    generalize hostI s = I at *
    generalize Lib.mapD capI s = t at *
    clear hI hzz hc hz hs hg hlc hlt hL1 hL2 hL4 hM
    generalize strB s = S at *
    obtain ⟨T, hTs⟩ : ∃ T, T = strB t := ⟨_, rfl⟩
    rw [← hTs] at SP M
    replace hTs := Go.Lib.hid hTs
    go_enter Tryd.func16, Tryd.ntmps16
    have ta0 : True := trivial
    go_wp2_with (first
      | (have _t := ta0; go_at_call 46; refine SZ.mono ?_; rintro e w1 ⟨rfl, hb1⟩; clear ta0; have ta1 : True := trivial)
      | (have _t := ta1; go_at_call 47; refine (M _ hb1).mono ?_; rintro e w2 ⟨rfl, hb2⟩; have hb12 := below_below hb1 hb2; clear ta1; have ta2 : True := trivial)
      | (have _t := ta2; go_at_call 53; refine (SP _ hb12).mono ?_; rintro e w3 ⟨rfl, rfl⟩; clear ta2; have ta3 : True := trivial))
    have hkL := Blk.new w2 9 (svs L)
    have hbL := below_below hb12 ((Below.refl w2.heap.size w2).alloc (Nat.le_refl _) (.cells (svs L).toArray 9))
    generalize w2.alloc (.cells (svs L).toArray 9) = W at *
    generalize w2.heap.size = G at *
    go_loopw [17] (HsRel w G L b) (fun i _ => L.length - (intOf i).toNat)
    case atStart => exact ⟨0, by omega, rfl, hL3, hkL, hbL⟩
    clear hkL hbL hb12 hb1 hb2 SZ M SP
    case round =>
      obtain ⟨j, hj, rfl, hall, hkL, hbL⟩ := hrel
      by_cases hlt : j < L.length
      · have q1 : (j : Int) < L.length := by omega
        have cj : wr.cell? ⟨G, j, none⟩ = some (.string (strB L[j])) := (hkL.cell j).trans (svs_get L j hlt)
        have LBj := LB L[j] (List.getElem_mem hlt) wr
        rw [List.drop_eq_getElem_cons hlt, List.all_cons] at hall
        generalize L[j] = x at *
        generalize strB x = sx at *
        cases hx : labelB x
        · rw [hx] at LBj hall
          have hI2 := Go.Lib.hid (hbad (by rw [← hall]; rfl))
          clear hall hfin hbad
          go_wp2_with (go_at_call 54; refine LBj.mono ?_; rintro e w4 ⟨rfl, hb4⟩)
          go_ret2
          rw [hI2.out]
          exact ⟨rfl, below_below hbL hb4⟩
        · rw [hx, Bool.true_and] at hall
          rw [hx] at LBj
          replace hall := Go.Lib.hid hall
          clear hfin hbad
          go_wp2_with (go_at_call 54; refine LBj.mono ?_; rintro e w4 ⟨rfl, hb4⟩)
          exact ⟨⟨j + 1, by omega, by go_num, hall.out, hkL.below hb4, below_below hbL hb4⟩, by simp [intOf]; omega⟩
      · have q1 : ¬ (j : Int) < L.length := by omega
        rw [List.drop_eq_nil_of_le (by omega)] at hall
        have hI2 := Go.Lib.hid (hfin hall.symm)
        clear hall hfin hbad
        go_wp2_with fail
        go_ret2
        rw [hI2.out, hTs.out]
        exact ⟨rfl, hbL⟩
  · have hI2 : hostI s = ([], sizedI s) := by
      by_cases h64 : 64 < s.length
      · rw [hI, hzz, if_pos h64, if_pos h64]
      · rw [if_neg h64] at hI hzz
        have hv : s = [] ∨ Lib.validD s = false := by
          by_cases h : s = [] ∨ Lib.validD s = false
          · exact h
          · rw [if_neg h] at hzz; exact absurd hzz hz
        rw [hI, host_bad s hv, hzz, if_pos hv]; rfl
    rw [hI2]
    clear hI hzz hI2
    generalize sizedI s = z at *
    generalize strB s = S at *
    rcases hc with rfl | rfl | rfl
    · exact absurd rfl hz
    · go_enter Tryd.func16, Tryd.ntmps16
      go_wp2_with (go_at_call 46; refine SZ.mono ?_; rintro e w1 ⟨rfl, hb1⟩)
      go_ret2
      exact ⟨rfl, hb1⟩
    · go_enter Tryd.func16, Tryd.ntmps16
      go_wp2_with (go_at_call 46; refine SZ.mono ?_; rintro e w1 ⟨rfl, hb1⟩)
      go_ret2
      exact ⟨rfl, hb1⟩
end Go.Proofs.YtfnlcnjflloecaaDoor
