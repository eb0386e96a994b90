/- roostkeep.Loan.Back. -/
import Derived.Test.YtfnlcnjflloecaaGrowP
set_option linter.unusedVariables false
set_option linter.unusedSimpArgs false
namespace Go.Proofs.Ytfnlcnjflloecaa
open Go.RowKit
theorem OwnV.form {w : World} {base : Nat} {v : Value} {us : List Value} (h : OwnV w base v us) : ∃ A c, v = .slice A us.length c ∧ (0 < us.length → ∃ g, A = some ⟨g, 0, none⟩) := by
  rcases h.2 with ⟨rfl, h0⟩ | ⟨g, cap, cur, rfl, _⟩
  · exact ⟨none, 0, by rw [h0], fun h => by omega⟩
  · exact ⟨some ⟨g, 0, none⟩, cap, rfl, fun _ => ⟨g, rfl⟩⟩
theorem OwnV.cell {w : World} {base g n c : Nat} {us : List Value} (h : OwnV w base (.slice (some ⟨g, 0, none⟩) n c) us) (j : Nat) (u : Value) (hj : us[j]? = some u) : w.cell? ⟨g, j, none⟩ = some u := by
  have := World.ownsRow.cells h (g := g) rfl j u hj
  rw [← this]
  congr 1
  unfold Addr.add
  split
  · subst_vars; rfl
  · simp
/-- The outer loop: what was lent first has been written over, the rest stands. -/
def BkRel (w : World) (es : List Lent) (v i : Value) (wr : World) : Prop :=
  ∃ j : Nat, j ≤ es.length ∧ v = .bool true ∧ i = .int .i64 j ∧ Chg (fun k => ∃ e ∈ es.take j, e.full.ownBlock = some k) w wr
/-- The inner loop. -/
def BkIn (w1 : World) (base : Nat) (full : Value) (n : Nat) (k : Value) (wr : World) : Prop :=
  ∃ (m : Nat) (l' : List UInt8), m ≤ n ∧ k = .int .i64 m ∧ l'.length = n ∧ Own8 wr base 5 full l' ∧ Chg (fun b => full.ownBlock = some b) w1 wr
set_option maxRecDepth 100000 in
set_option maxHeartbeats 1600000 in
theorem back_c (w : World) (B p : Nat) (S : Nat → Prop) (es : List Lent) (h : LoanAt w B p S es) (hn : es.length ≤ 1000) :
    Calls Try.prog 15 #[.pointer (some ⟨p, 0, none⟩)] w fun e w' => e = .returned (.bool true) ∧ Chg S w w' ∧ Below B w w' := by
  obtain ⟨vF, vW, hBp, hp, hF, hW, hFW, hes, hff, hfw, _, _, _, hSe, _⟩ := h
  have hpl := hp.lt
  obtain ⟨AF, cF, rfl, hAF⟩ := hF.form
  obtain ⟨AW, cW, rfl, hAW⟩ := hW.form
  rw [List.length_map] at *
  rw [List.length_map] at *
  have hM : ∀ j, ∀ k, (∃ e ∈ es.take j, e.full.ownBlock = some k) → p + 1 ≤ k := fun j k ⟨e, he, hk⟩ => (hes e (List.mem_of_mem_take he)).1.1.base_le k hk
  have keepP : ∀ j wr, Chg (fun k => ∃ e ∈ es.take j, e.full.ownBlock = some k) w wr → Blk wr p 34 [.slice AF es.length cF, .slice AW es.length cW] := fun j wr hc => hp.chg hc (fun hm => by have := hM j p hm; omega)
  go_enter Try.func15, Try.ntmps15
  go_wp2_with fail
  go_loopw [3, 4] (fun v i wr => BkRel w es v i wr) (fun _ i _ => es.length - (intOf i).toNat)
  case atStart => exact ⟨0, by omega, rfl, rfl, Chg.refl _ _⟩
  case round =>
    obtain ⟨j, hj, rfl, rfl, hc⟩ := hrel
    have hpr := keepP j wr hc
    have c0 : _ = some _ := hpr.cell 0
    have c1 : _ = some _ := hpr.cell 1
    by_cases hlt : j < es.length
    · have q1 : (j : Int) < es.length := by omega
      have q2 : (0 : Int) ≤ j := by omega
      obtain ⟨gF, rfl⟩ := hAF (by omega)
      obtain ⟨gW, rfl⟩ := hAW (by omega)
      obtain ⟨e, he⟩ : ∃ e, es[j]? = some e := ⟨es[j], List.getElem?_eq_getElem hlt⟩
      have hmem : e ∈ es := List.mem_of_getElem? he
      obtain ⟨k1, k2, k3, k4, k5⟩ := hes e hmem
      have hnot : ∀ (v' : Value) (_ : ∀ a ∈ es.take j, ap a.full v'), ∀ g, v'.ownBlock = some g → ¬ ∃ e ∈ es.take j, e.full.ownBlock = some g := fun v' h1 g hg ⟨a, ha, hga⟩ => h1 a ha g hga hg
      have hFr := hF.chg hc (hnot _ (fun a ha => (hes a (List.mem_of_mem_take ha)).2.1.symm))
      have hWr := hW.chg hc (hnot _ (fun a ha => (hes a (List.mem_of_mem_take ha)).2.2.2.1.symm))
      have hfe : ∀ a ∈ es.take j, ap a.full e.full := fun a ha => by
        obtain ⟨i, hi, rfl⟩ := List.mem_iff_getElem.1 ha
        rw [List.getElem_take] at *
        have hi' : i < j := by simp at hi; omega
        have := List.pairwise_iff_getElem.1 hff i j (by omega) hlt hi'
        rwa [(List.getElem?_eq_some_iff.1 he).2] at this
      have hfr := k1.1.chg hc (hnot _ hfe)
      have hwr := k1.2.1.chg hc (hnot _ (fun a ha => hfw a (List.mem_of_mem_take ha) e hmem))
      have jf : (es.map (·.full))[j]? = some e.full := by rw [List.getElem?_map, he]; rfl
      have jw : (es.map (·.want))[j]? = some e.want := by rw [List.getElem?_map, he]; rfl
      have sfw : ∀ wg v, Own8 wg (p + 1) 5 v (e.l ++ tail5) → (convert 38 9 v).run Try.prog wg = .ok (.string (strB (e.l ++ tail5))) wg := fun wg v h => convert_str h.rd
      have hll : e.l.length ≤ 1000000 := k1.2.2.2.2
      have hBl : ∀ g, e.full.ownBlock = some g → p + 1 ≤ g ∧ g ≠ p := fun g hg => ⟨k1.1.base_le g hg, by have := k1.1.base_le g hg; omega⟩
      generalize strB (e.l ++ tail5) = S at *
      clear k1 hFW hff hfw hM
      have hee := Go.Lib.hid he
      clear he
      generalize hvfe : e.full = vf at *
      have hef := Go.Lib.hid hvfe
      clear hvfe
      generalize e.want = vw at *
      go_wp2_with fail
      have hpd := hpr.drew
      have hFd : OwnV wr.drew _ _ _ := hFr
      have hWd : OwnV wr.drew _ _ _ := hWr
      refine region_making 20 (fun _ => []) (fun _ => none) (by kernel_rfl) (by kernel_rfl) ?_ ?_
      · intro i S h; cases h
      simp only [List.take_succ_cons, List.take_zero, List.drop_succ_cons, List.drop_zero]
      (apply wpG_pure; (focus rfl); (focus (intro wg Bg hbg hBg hFg; go_simp; (try go_bits); (first | done | exact ⟨rfl, Below.refl _ _⟩ | rfl))); simp only [Act.put, List.setIfInBounds_toArray, List.set_cons_succ, List.set_cons_zero])
      (apply wpG_pure; (focus rfl); (focus (intro wg Bg hbg hBg hFg; go_simp; (try go_bits); (first | done | exact ⟨rfl, Below.refl _ _⟩ | rfl))); simp only [Act.put, List.setIfInBounds_toArray, List.set_cons_succ, List.set_cons_zero])
      (apply wpG_pure; (focus rfl); (focus (intro wg Bg hbg hBg hFg; go_simp; (try go_bits); (first | done | exact ⟨rfl, Below.refl _ _⟩ | rfl))); simp only [Act.put, List.setIfInBounds_toArray, List.set_cons_succ, List.set_cons_zero])
      (apply wpG_pure; (focus rfl); (focus (intro wg Bg hbg hBg hFg; go_simp; (try go_bits); (first | done | exact ⟨rfl, Below.refl _ _⟩ | rfl))); simp only [Act.put, List.setIfInBounds_toArray, List.set_cons_succ, List.set_cons_zero])
      (apply wpG_pure; (focus rfl); (focus (intro wg Bg hbg hBg hFg; go_simp; (try go_bits); (first | done | exact ⟨rfl, Below.refl _ _⟩ | rfl))); simp only [Act.put, List.setIfInBounds_toArray, List.set_cons_succ, List.set_cons_zero])
      (apply wpG_pure; (focus rfl); (focus (intro wg Bg hbg hBg hFg; have c0 : _ = some _ := (hpd.below hbg).cell 0; go_simp; (try go_bits); (first | done | exact ⟨rfl, Below.refl _ _⟩ | rfl))); simp only [Act.put, List.setIfInBounds_toArray, List.set_cons_succ, List.set_cons_zero])
      (apply wpG_pure; (focus rfl); (focus (intro wg Bg hbg hBg hFg; go_simp; (try go_bits); (first | done | exact ⟨rfl, Below.refl _ _⟩ | rfl))); simp only [Act.put, List.setIfInBounds_toArray, List.set_cons_succ, List.set_cons_zero])
      (apply wpG_pure; (focus rfl); (focus (intro wg Bg hbg hBg hFg; go_simp; (try go_bits); (first | done | exact ⟨rfl, Below.refl _ _⟩ | rfl))); simp only [Act.put, List.setIfInBounds_toArray, List.set_cons_succ, List.set_cons_zero])
      (apply wpG_pure; (focus rfl); (focus (intro wg Bg hbg hBg hFg; have cf : _ = some _ := (hFd.below hbg).cell j vf jf; go_simp; (try go_bits); (first | done | exact ⟨rfl, Below.refl _ _⟩ | rfl))); simp only [Act.put, List.setIfInBounds_toArray, List.set_cons_succ, List.set_cons_zero])
      (apply wpG_pure; (focus rfl); (focus (intro wg Bg hbg hBg hFg; have sf := sfw _ _ (hfr.drew.below hbg); go_simp; (try go_bits); (first | done | exact ⟨rfl, Below.refl _ _⟩ | rfl))); simp only [Act.put, List.setIfInBounds_toArray, List.set_cons_succ, List.set_cons_zero])
      (apply wpG_pure; (focus rfl); (focus (intro wg Bg hbg hBg hFg; go_simp; (try go_bits); (first | done | exact ⟨rfl, Below.refl _ _⟩ | rfl))); simp only [Act.put, List.setIfInBounds_toArray, List.set_cons_succ, List.set_cons_zero])
      (apply wpG_pure; (focus rfl); (focus (intro wg Bg hbg hBg hFg; go_simp; (try go_bits); (first | done | exact ⟨rfl, Below.refl _ _⟩ | rfl))); simp only [Act.put, List.setIfInBounds_toArray, List.set_cons_succ, List.set_cons_zero])
      (apply wpG_pure; (focus rfl); (focus (intro wg Bg hbg hBg hFg; go_simp; (try go_bits); (first | done | exact ⟨rfl, Below.refl _ _⟩ | rfl))); simp only [Act.put, List.setIfInBounds_toArray, List.set_cons_succ, List.set_cons_zero])
      (apply wpG_pure; (focus rfl); (focus (intro wg Bg hbg hBg hFg; have c1 : _ = some _ := (hpd.below hbg).cell 1; go_simp; (try go_bits); (first | done | exact ⟨rfl, Below.refl _ _⟩ | rfl))); simp only [Act.put, List.setIfInBounds_toArray, List.set_cons_succ, List.set_cons_zero])
      (apply wpG_pure; (focus rfl); (focus (intro wg Bg hbg hBg hFg; go_simp; (try go_bits); (first | done | exact ⟨rfl, Below.refl _ _⟩ | rfl))); simp only [Act.put, List.setIfInBounds_toArray, List.set_cons_succ, List.set_cons_zero])
      (apply wpG_pure; (focus rfl); (focus (intro wg Bg hbg hBg hFg; go_simp; (try go_bits); (first | done | exact ⟨rfl, Below.refl _ _⟩ | rfl))); simp only [Act.put, List.setIfInBounds_toArray, List.set_cons_succ, List.set_cons_zero])
      (apply wpG_pure; (focus rfl); (focus (intro wg Bg hbg hBg hFg; have cw : _ = some _ := (hWd.below hbg).cell j vw jw; go_simp; (try go_bits); (first | done | exact ⟨rfl, Below.refl _ _⟩ | rfl))); simp only [Act.put, List.setIfInBounds_toArray, List.set_cons_succ, List.set_cons_zero])
      (apply wpG_pure; (focus rfl); (focus (intro wg Bg hbg hBg hFg; have sw := sfw _ _ (hwr.drew.below hbg); go_simp; (try go_bits); (first | done | exact ⟨rfl, Below.refl _ _⟩ | rfl))); simp only [Act.put, List.setIfInBounds_toArray, List.set_cons_succ, List.set_cons_zero])
      (apply wpG_pure; (focus rfl); (focus (intro wg Bg hbg hBg hFg; go_simp; (try go_bits); (first | done | exact ⟨rfl, Below.refl _ _⟩ | rfl))); simp only [Act.put, List.setIfInBounds_toArray, List.set_cons_succ, List.set_cons_zero])
      (apply wpG_pure; (focus rfl); (focus (intro wg Bg hbg hBg hFg; go_simp; (try go_bits); (first | done | exact ⟨rfl, Below.refl _ _⟩ | rfl))); simp only [Act.put, List.setIfInBounds_toArray, List.set_cons_succ, List.set_cons_zero])
      refine wpG_end (fun wg Bg hbg hBg hFg => ?_)
      clear hFg hBg
      have hpg := hpd.below hbg
      have hFg := hFd.below hbg
      have hfg := hfr.drew.below hbg
      have hcg : Chg (fun k => ∃ e ∈ es.take j, e.full.ownBlock = some k) w wg := Chg.below_trans (show Chg _ w wr.drew from ⟨hc.os, hc.tape, hc.output, hc.size, hc.block⟩) hbg
      clear hpd hFd hWd hpr hFr hWr hfr hwr hbg sfw c0 c1 hF hW hp
      go_wp2_with fail
      generalize hfl : e.l ++ tail5 = fl at *
      have hfll : fl.length ≤ 1000005 := by rw [← hfl]; simp; omega
      go_loopw [5] (fun k wr' => BkIn wg (p + 1) vf fl.length k wr') (fun k _ => fl.length - (intOf k).toNat)
      case atStart => exact ⟨0, fl, by omega, rfl, rfl, hfg, Chg.refl _ _⟩
      case round =>
        clear hfg
        obtain ⟨m, l', hm, rfl, hl', hown, hci⟩ := hrel
        have hpm := hpg.chg hci (fun hm => (hBl p hm).2 rfl)
        have hFm := hFg.chg hci (fun g hg hm => k2 g hg hm)
        have c0 : _ = some _ := hpm.cell 0
        have cf : _ = some _ := hFm.cell j vf jf
        by_cases hml : m < fl.length
        · have q3 : (m : Int) < fl.length := by omega
          have q4 : (0 : Int) ≤ m := by omega
          obtain ⟨g, cap, hvf, hge, hgl⟩ := hown.open (by omega)
          rw [hl'] at hvf
          have hcap : fl.length ≤ cap := by obtain ⟨A', c', e', h1, h2, _⟩ := hown.rd.open; rw [hvf, hl'] at e'; cases e'; omega
          subst hvf
          have cm : _ = some _ := hown.cell m (by omega)
          have fm := hown.frozen m (by omega)
          go_wp2_with fail
          refine ⟨⟨m + 1, l'.set m 90, by omega, by go_num, by simp [hl'], hown.stored m (by omega) 90, ?_⟩, by simp [intOf]; omega⟩
          exact hci.chg_trans (Chg.setCell _ _ _) (fun k hk => .inr (by cases hk; rfl))
        · have q3 : ¬ (m : Int) < fl.length := by omega
          obtain ⟨A', c', e', h1, h2, _⟩ := hown.rd.open
          rw [hl'] at e'
          subst e'
          go_wp2_with fail
          refine ⟨⟨j + 1, by omega, rfl, by go_num, ?_⟩, by simp [intOf]; omega⟩
          refine Chg.chg_trans (hcg.mono fun k ⟨e', h1, h2⟩ => ⟨e', ?_, h2⟩) hci (fun k hk => .inr ⟨e, ?_, ?_⟩)
          · rw [List.take_add_one]; exact List.mem_append.2 (.inl h1)
          · rw [List.take_add_one, hee.out]; simp
          · rw [hef.out]; exact hk
    · have q1 : ¬ (j : Int) < es.length := by omega
      go_wp2_with fail
      go_ret
      exact ⟨rfl, hc.mono (fun k ⟨e, he, hk⟩ => (hSe e (List.mem_of_mem_take he)).1 k hk), hc.below (by omega) (fun k hk => by have := hM j k hk; omega)⟩
end Go.Proofs.Ytfnlcnjflloecaa
