/- roostkeep.Book.Stands. -/
import Derived.Test.YtpjpmgpehpigaabDoorBook1
set_option linter.unusedVariables false
set_option linter.unusedSimpArgs false
namespace Go.Proofs.YtpjpmgpehpigaabDoor
open Go.RowKit
set_option maxRecDepth 100000 in
set_option maxHeartbeats 1600000 in
theorem stands_c (w : World) (B p : Nat) (S : Nat → Prop) (bs : List Kept) (h : BookAt w B p S bs) (hn : bs.length ≤ 1000) :
    Calls Tryd.prog 48 #[.pointer (some ⟨p, 0, none⟩)] w fun e w' => e = .returned (.bool true) ∧ Below w.heap.size w w' := by
  obtain ⟨vB, vW, N, tg, hBp, hN, hp, hF, hW, htB, htW, hes, hSp, hSB, hSW, hSe, hSl⟩ := h
  clear hSp hSB hSW hSe hSl htB htW
  have hpl := hp.lt
  obtain ⟨AF, cF, rfl, hAF⟩ := hF.form
  obtain ⟨AW, cW, rfl, hAW⟩ := hW.form
  rw [List.length_map] at *
  rw [List.length_map] at *
  go_enter Tryd.func48, Tryd.ntmps48
  go_wp2_with fail
  go_loopw [3] (fun i wr => ∃ j : Nat, j ≤ bs.length ∧ i = .int .i64 j ∧ Below w.heap.size w wr) (fun i _ => bs.length - (intOf i).toNat)
  case atStart => exact ⟨0, by omega, rfl, Below.refl _ _⟩
  case round =>
    obtain ⟨j, hj, rfl, hc⟩ := hrel
    have hpr := hp.below hc
    have c0 : _ = some _ := hpr.cell 0
    have c1 : _ = some _ := hpr.cell 1
    by_cases hlt : j < bs.length
    · have q1 : (j : Int) < bs.length := by omega
      have q2 : (0 : Int) ≤ j := by omega
      obtain ⟨gF, rfl⟩ := hAF (by omega)
      obtain ⟨gW, rfl⟩ := hAW (by omega)
      obtain ⟨e, he⟩ : ∃ e, bs[j]? = some e := ⟨bs[j], List.getElem?_eq_getElem hlt⟩
      obtain ⟨k1, k2, k3, k4, k5⟩ := hes j e he
      have hFr := hF.below hc
      have hWr := hW.below hc
      have hfr := k1.below hc
      have hwr := k2.below hc
      have jf : (bs.map (·.v))[j]? = some e.v := by rw [List.getElem?_map, he]; rfl
      have jw : (bs.map (·.want))[j]? = some e.want := by rw [List.getElem?_map, he]; rfl
      have sfw : ∀ wg v, Own8 wg (p + 1) 5 v e.l → (convert 22 9 v).run Tryd.prog wg = .ok (.string (strB e.l)) wg := fun wg v h => convert_str h.rd
      generalize strB e.l = S at *
      clear k1 k2 k3 k4 k5 he hes
      generalize e.v = vf at *
      generalize e.want = vw at *
      go_wp2_with fail
      have hpd := hpr.drew
      have hFd : OwnV wr.drew _ _ _ := hFr
      have hWd : OwnV wr.drew _ _ _ := hWr
      refine region_making 17 (fun _ => []) (fun _ => none) (by kernel_rfl) (by kernel_rfl) ?_ ?_
      · intro i S h; cases h
      simp only [List.take_succ_cons, List.take_zero, List.drop_succ_cons, List.drop_zero]
      (apply wpG_pure; (focus rfl); (focus (intro wg Bg hbg hBg hFg; go_simp; (try go_bits); (first | done | exact ⟨rfl, Below.refl _ _⟩ | rfl))); simp only [Act.put, List.setIfInBounds_toArray, List.set_cons_succ, List.set_cons_zero])
      (apply wpG_pure; (focus rfl); (focus (intro wg Bg hbg hBg hFg; go_simp; (try go_bits); (first | done | exact ⟨rfl, Below.refl _ _⟩ | rfl))); simp only [Act.put, List.setIfInBounds_toArray, List.set_cons_succ, List.set_cons_zero])
      (apply wpG_pure; (focus rfl); (focus (intro wg Bg hbg hBg hFg; go_simp; (try go_bits); (first | done | exact ⟨rfl, Below.refl _ _⟩ | rfl))); simp only [Act.put, List.setIfInBounds_toArray, List.set_cons_succ, List.set_cons_zero])
      (apply wpG_pure; (focus rfl); (focus (intro wg Bg hbg hBg hFg; have c0 : _ = some _ := (hpd.below hbg).cell 0; go_simp; (try go_bits); (first | done | exact ⟨rfl, Below.refl _ _⟩ | rfl))); simp only [Act.put, List.setIfInBounds_toArray, List.set_cons_succ, List.set_cons_zero])
      (apply wpG_pure; (focus rfl); (focus (intro wg Bg hbg hBg hFg; go_simp; (try go_bits); (first | done | exact ⟨rfl, Below.refl _ _⟩ | rfl))); simp only [Act.put, List.setIfInBounds_toArray, List.set_cons_succ, List.set_cons_zero])
      (apply wpG_pure; (focus rfl); (focus (intro wg Bg hbg hBg hFg; go_simp; (try go_bits); (first | done | exact ⟨rfl, Below.refl _ _⟩ | rfl))); simp only [Act.put, List.setIfInBounds_toArray, List.set_cons_succ, List.set_cons_zero])
      (apply wpG_pure; (focus rfl); (focus (intro wg Bg hbg hBg hFg; have cf : _ = some _ := (hFd.below hbg).cell j vf jf; go_simp; (try go_bits); (first | done | exact ⟨rfl, Below.refl _ _⟩ | rfl))); simp only [Act.put, List.setIfInBounds_toArray, List.set_cons_succ, List.set_cons_zero])
      (apply wpG_pure; (focus rfl); (focus (intro wg Bg hbg hBg hFg; have sf := sfw _ _ (hfr.drew.below hbg); go_simp; (try go_bits); (first | done | exact ⟨rfl, Below.refl _ _⟩ | rfl))); simp only [Act.put, List.setIfInBounds_toArray, List.set_cons_succ, List.set_cons_zero])
      (apply wpG_pure; (focus rfl); (focus (intro wg Bg hbg hBg hFg; go_simp; (try go_bits); (first | done | exact ⟨rfl, Below.refl _ _⟩ | rfl))); simp only [Act.put, List.setIfInBounds_toArray, List.set_cons_succ, List.set_cons_zero])
      (apply wpG_pure; (focus rfl); (focus (intro wg Bg hbg hBg hFg; go_simp; (try go_bits); (first | done | exact ⟨rfl, Below.refl _ _⟩ | rfl))); simp only [Act.put, List.setIfInBounds_toArray, List.set_cons_succ, List.set_cons_zero])
      (apply wpG_pure; (focus rfl); (focus (intro wg Bg hbg hBg hFg; go_simp; (try go_bits); (first | done | exact ⟨rfl, Below.refl _ _⟩ | rfl))); simp only [Act.put, List.setIfInBounds_toArray, List.set_cons_succ, List.set_cons_zero])
      (apply wpG_pure; (focus rfl); (focus (intro wg Bg hbg hBg hFg; have c1 : _ = some _ := (hpd.below hbg).cell 1; go_simp; (try go_bits); (first | done | exact ⟨rfl, Below.refl _ _⟩ | rfl))); simp only [Act.put, List.setIfInBounds_toArray, List.set_cons_succ, List.set_cons_zero])
      (apply wpG_pure; (focus rfl); (focus (intro wg Bg hbg hBg hFg; go_simp; (try go_bits); (first | done | exact ⟨rfl, Below.refl _ _⟩ | rfl))); simp only [Act.put, List.setIfInBounds_toArray, List.set_cons_succ, List.set_cons_zero])
      (apply wpG_pure; (focus rfl); (focus (intro wg Bg hbg hBg hFg; go_simp; (try go_bits); (first | done | exact ⟨rfl, Below.refl _ _⟩ | rfl))); simp only [Act.put, List.setIfInBounds_toArray, List.set_cons_succ, List.set_cons_zero])
      (apply wpG_pure; (focus rfl); (focus (intro wg Bg hbg hBg hFg; have cw : _ = some _ := (hWd.below hbg).cell j vw jw; go_simp; (try go_bits); (first | done | exact ⟨rfl, Below.refl _ _⟩ | rfl))); simp only [Act.put, List.setIfInBounds_toArray, List.set_cons_succ, List.set_cons_zero])
      (apply wpG_pure; (focus rfl); (focus (intro wg Bg hbg hBg hFg; have sw := sfw _ _ (hwr.drew.below hbg); go_simp; (try go_bits); (first | done | exact ⟨rfl, Below.refl _ _⟩ | rfl))); simp only [Act.put, List.setIfInBounds_toArray, List.set_cons_succ, List.set_cons_zero])
      (apply wpG_pure; (focus rfl); (focus (intro wg Bg hbg hBg hFg; go_simp; (try go_bits); (first | done | exact ⟨rfl, Below.refl _ _⟩ | rfl))); simp only [Act.put, List.setIfInBounds_toArray, List.set_cons_succ, List.set_cons_zero])
      refine wpG_end (fun wg Bg hbg hBg hFg => ?_)
      clear hFg hBg
      have hcg : Below w.heap.size w wg := hc.trans (show Below w.heap.size wr wg from ⟨hbg.os, hbg.tape, hbg.output, hbg.size, fun k hk => hbg.block k (Nat.lt_of_lt_of_le hk hc.size)⟩)
      clear hpd hFd hWd hpr hFr hWr hfr hwr hbg sfw c0 c1 hF hW hp
      go_wp2_with fail
      exact ⟨⟨j + 1, by omega, by go_num, hcg⟩, by simp [intOf]; omega⟩
    · have q1 : ¬ (j : Int) < bs.length := by omega
      go_wp2_with fail
      go_ret
      exact ⟨rfl, hc⟩
end Go.Proofs.YtpjpmgpehpigaabDoor
