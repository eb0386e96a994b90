/- roostref10: Read, List. -/
import Derived.Test.YtfnlcnjflloecaaRdk6
set_option linter.unusedVariables false
set_option linter.unusedSimpArgs false
set_option linter.unnecessarySimpa false
namespace Go.Proofs.Ytfnlcnjflloecaa
open Go.RowKit
set_option maxRecDepth 100000 in
set_option maxHeartbeats 6400000 in
theorem refread10_c (p : Nat) (M : Nat → Prop) (D : Dsk) (s : List UInt8) (w : World) (h : RAt w M p D) (ok : DskOk D) (hl : D.fs.length ≤ 1000000) (hs : s.length ≤ 9223372036854775807) :
    Calls Try.prog 18 #[.pointer (some ⟨p, 0, none⟩), .string (strB s)] w fun e w' => ∃ v, e = .returned (.tuple #[v, .int .i64 (readD D s).1]) ∧ Own8 w' w.heap.size 5 v (readD D s).2 ∧ Below w.heap.size w w' := by
  have hF := reffirst_c p M D s true w h (by omega) hs
  by_cases hf : firstD D s true = 0
  · rw [hf] at hF
    have hR : readD D s = (0, ((lookF D.fs s).map (·.b)).getD []) := by unfold readD; rw [if_neg (by simp [hf])]
    cases hlk : lookF D.fs s with
    | none =>
      exfalso
      unfold firstD at hf
      split at hf
      · cases hf
      · split at hf
        · cases hf
        · rw [if_pos ⟨rfl, hlk⟩] at hf; cases hf
    | some f =>
      rw [hlk] at hR
      rw [hR]
      show Calls _ _ _ _ fun e w' => ∃ v, e = .returned (.tuple #[v, .int .i64 0]) ∧ Own8 w' w.heap.size 5 v f.b ∧ Below w.heap.size w w'
      obtain ⟨j, hj, hjf, hP⟩ := PosF.some ok.up hlk
      have hat := fun W (hW : RAt W M p D) => refat_r p M D s (j : Int) W hW ok.up (by omega) hs hP
      obtain ⟨vl, ps, h5⟩ := id h
      have hpl5 : ps.length = D.fs.length := by rw [← h5.fs]; simp
      obtain ⟨A5, c5, e5, hA5⟩ := h5.open
      obtain ⟨g, e6, hgM, hgp, hcs⟩ := hA5 (by omega)
      subst e6
      subst e5
      have hgl := h5.lt g hgM
      have hp5 := h5.lt p h5.mp
      have c0 : _ = some _ := h5.blk.cell 0
      have c1 := (hcs j (by omega)).2.1
      have hgf : ps[j].1 = f := by rw [← hjf]; simp [← h5.fs]
      have hr := (h5.rd ps[j] (List.getElem_mem (by omega))).1
      rw [hgf] at hr
      obtain ⟨fv, hfv⟩ : ∃ fv, ps[j].2 = fv := ⟨_, rfl⟩
      rw [hfv] at hr c1
      obtain ⟨A6, c6, e6, -⟩ := hr.open
      rw [e6] at hr c1
      clear e6 hfv fv
      have hfb : f.b.length ≤ 16777216 := by have := used_look hlk; have := ok.used; have := ok.room; omega
      have q4 : (j : Int) < (D.fs.length : Int) := by omega
      have q5 : ¬ (j : Int) < 0 := by omega
      clear hcs hA5 hR hlk hgf hjf hpl5 hP hf h5 ok
      go_enter Try.func18, Try.ntmps18
      go_wp2_with fail
      refine hF.mono ?_; rintro e w1 ⟨rfl, rfl⟩
      go_upto_region 4 with fail
      refine region_making 12 (fun | 11 => [0] | _ => []) (fun | 0 => some fun _ => new8 5 [] | 11 => some fun _ => new8 5 ([] ++ f.b) | _ => none) (by kernel_rfl) (by kernel_rfl) ?_ ?_
      · intro i' S' h' e v'
        match i', h' with
        | 0, h' => cases h'; exact new8_loc _ _ _ _
        | 11, h' => cases h'; exact new8_loc _ _ _ _
      simp only [List.take_succ_cons, List.take_zero, List.drop_succ_cons, List.drop_zero]
      (apply wpG_make; (focus rfl); (focus (intro wg Bg hbg hBg hFg; refine goesTo_lit (n := 0) (by go_simp) [] rfl (by decide) (by go_simp; first | done | rfl | exact ⟨rfl, rfl⟩))); intro va; simp only [Act.put, List.setIfInBounds_toArray, List.set_cons_succ, List.set_cons_zero])
      (apply wpG_pure; (focus rfl); (focus (intro wg Bg hbg hBg hFg; go_simp; (try go_bits); (first | done | exact ⟨rfl, Below.refl _ _⟩ | rfl))); simp only [Act.put, List.setIfInBounds_toArray, List.set_cons_succ, List.set_cons_zero])
      (apply wpG_pure; (focus rfl); (focus (intro wg Bg hbg hBg hFg; go_simp; (try go_bits); (first | done | exact ⟨rfl, Below.refl _ _⟩ | rfl))); simp only [Act.put, List.setIfInBounds_toArray, List.set_cons_succ, List.set_cons_zero])
      (apply wpG_pure; (focus rfl); (focus (intro wg Bg hbg hBg hFg; go_simp; (try go_bits); (first | done | exact ⟨rfl, Below.refl _ _⟩ | rfl))); simp only [Act.put, List.setIfInBounds_toArray, List.set_cons_succ, List.set_cons_zero])
      (apply wpG_pure; (focus rfl); (focus (intro wg Bg hbg hBg hFg; have cW : _ = some _ := (hbg.cell (p := ⟨p, 0, none⟩) hp5).trans c0; go_simp; (try go_bits); (first | done | exact ⟨rfl, Below.refl _ _⟩ | rfl))); simp only [Act.put, List.setIfInBounds_toArray, List.set_cons_succ, List.set_cons_zero])
      (apply wpG_pure; (focus rfl); (focus (intro wg Bg hbg hBg hFg; go_simp; (try go_bits); (first | done | exact ⟨rfl, Below.refl _ _⟩ | rfl))); simp only [Act.put, List.setIfInBounds_toArray, List.set_cons_succ, List.set_cons_zero])
      (apply wpG_pure; (focus rfl); (focus (intro wg Bg hbg hBg hFg; go_simp; (try go_bits); (first | done | exact ⟨rfl, Below.refl _ _⟩ | rfl))); simp only [Act.put, List.setIfInBounds_toArray, List.set_cons_succ, List.set_cons_zero])
      (apply wpG_pure; (focus rfl); (focus (intro wg Bg hbg hBg hFg; go_simp; (try refine ⟨by kernel_rfl, ?_⟩); go_at_call 35; exact Calls.mono (hat _ (h.drew.below hbg)) (fun e w' h => (by obtain ⟨rfl, hb⟩ := h; exact ⟨rfl, hb⟩)))); simp only [Act.put, List.setIfInBounds_toArray, List.set_cons_succ, List.set_cons_zero])
      (apply wpG_pure; (focus rfl); (focus (intro wg Bg hbg hBg hFg; go_simp; (try go_bits); (first | done | exact ⟨rfl, Below.refl _ _⟩ | rfl))); simp only [Act.put, List.setIfInBounds_toArray, List.set_cons_succ, List.set_cons_zero])
      (apply wpG_pure; (focus rfl); (focus (intro wg Bg hbg hBg hFg; go_simp; (try go_bits); (first | done | exact ⟨rfl, Below.refl _ _⟩ | rfl))); simp only [Act.put, List.setIfInBounds_toArray, List.set_cons_succ, List.set_cons_zero])
      (apply wpG_pure; (focus rfl); (focus (intro wg Bg hbg hBg hFg; have cW : _ = some _ := (hbg.cell (p := ⟨g, j * 3 + 1, none⟩) hgl).trans c1; go_simp; (try go_bits); (first | done | exact ⟨rfl, Below.refl _ _⟩ | rfl))); simp only [Act.put, List.setIfInBounds_toArray, List.set_cons_succ, List.set_cons_zero])
      (apply wpG_make; (focus rfl); (focus (intro wg Bg hbg hBg hFg; have hN := hFg 0 (by decide +kernel); refine goesTo_app8w (by go_simp) _ _ rfl st8 (by with_unfolding_all (conv => lhs; whnf)) (id hN).1 (by with_unfolding_all (conv => lhs; whnf)) (Rd.src (hr.drew.below hbg) Try.underlying38) (by first | omega | (simp; omega)) (Nat.zero_le _) (fun g hg => ⟨0, by simp, (id hN).2 g hg⟩))); intro vb; simp only [Act.put, List.setIfInBounds_toArray, List.set_cons_succ, List.set_cons_zero])
      refine wpG_end (fun wg Bg hbg hBg hFg => ?_)
      have hN : new8 5 ([] ++ f.b) vb (Bg 11) wg := hFg 11
      rw [List.nil_append] at hN
      obtain ⟨hN1, hN2⟩ := hN
      have hNo : Own8 wg w.heap.size 5 vb f.b := Own8.rebase2 hN1 (fun k hk => hBg.lo _ _ (hN2 k hk))
      have hbw : Below w.heap.size w wg := below_of_drew hbg
      clear hFg hBg hN2 hbg hN1
      go_wp2_with fail
      refine bodyPost_ret (results_tmp2 rfl _ _ _) rfl ?_
      exact ⟨vb, rfl, hNo, hbw⟩
  · have hR : readD D s = (firstD D s true, []) := by unfold readD; rw [if_pos hf]
    rw [hR]
    generalize firstD D s true = X at *
    have hx : (X != 0) = true := by simpa using hf
    clear hf hR
    go_enter Try.func18, Try.ntmps18
    go_wp2_with fail
    refine hF.mono ?_; rintro e w1 ⟨rfl, rfl⟩
    go_wp2_with fail
    refine bodyPost_ret (results_tmp2 rfl _ _ _) rfl ?_
    exact ⟨_, rfl, Own8.nil _ _ _, Below.refl _ _⟩
def RlRel (w : World) (fs : List FileE) (l i : Value) (wr : World) : Prop := ∃ j : Nat, j ≤ fs.length ∧ i = .int .i64 (j : Int) ∧ OwnT wr w.heap.size l (namesF (fs.take j)) ∧ Below w.heap.size w wr
set_option maxRecDepth 100000 in
set_option maxHeartbeats 3200000 in
theorem reflist10_c (p : Nat) (M : Nat → Prop) (D : Dsk) (w : World) (h : RAt w M p D) (hl : D.fs.length ≤ 999999) :
    Calls Try.prog 19 #[.pointer (some ⟨p, 0, none⟩)] w fun e w' => ∃ v, e = .returned (.tuple #[v, .int .i64 (listD D).1]) ∧ OwnT w' w.heap.size v (listD D).2 ∧ Below w.heap.size w w' := by
  obtain ⟨vl, ps, h⟩ := h
  have hpl : ps.length = D.fs.length := by rw [← h.fs]; simp
  obtain ⟨A, c, rfl, hA⟩ := h.open
  have hfs := h.fs
  have hblk := h.blk
  have hpl2 := h.lt p h.mp
  have hlt := h.lt
  clear h
  obtain ⟨fs, room, done, off, left⟩ := D
  simp only at hl hpl hfs hA
  have hge : ∀ j (hj : j < ps.length), ps[j].1 = fs[j]'(by omega) := fun j hj => by subst hfs; simp
  have c3 : _ = some _ := hblk.cell 3
  cases off
  · show Calls _ _ _ _ fun e w' => ∃ v, e = .returned (.tuple #[v, .int .i64 0]) ∧ OwnT w' w.heap.size v (namesF fs) ∧ Below w.heap.size w w'
    go_enter Try.func19, Try.ntmps19
    go_wp2_with fail
    go_loopw [4, 5] (RlRel w fs) (fun _ i _ => fs.length - (intOf i).toNat)
    case atStart => exact ⟨0, by omega, rfl, OwnT.nil _ _, Below.refl _ _⟩
    case round =>
      obtain ⟨j, hj, rfl, ho, hb⟩ := hrel
      have hz := hb.size
      have c0 : _ = some _ := (hblk.below hb).cell 0
      by_cases hlt' : j < fs.length
      · have q1 : (j : Int) < (fs.length : Int) := by omega
        obtain ⟨b, rfl, hb1, hb2, hcs⟩ := hA (by omega)
        have hn0 : _ = some _ := (hb.cell (p := ⟨b, j * 3, none⟩) (hlt b hb1)).trans (hcs j (by omega)).1
        rw [hge j (by omega)] at hn0
        have htk := Go.Lib.hid (List.take_succ_eq_append_getElem hlt')
        generalize fs[j] = f at *
        obtain ⟨fn, fb, fsf⟩ := f
        have hll : (namesF (fs.take j)).length ≤ 999999 := by unfold namesF; rw [List.length_map, List.length_take]; omega
        have hnm : namesF (fs.take (j + 1)) = namesF (fs.take j) ++ [fn] := by rw [htk.out]; simp [namesF]
        replace hnm := Go.Lib.hid hnm
        generalize namesF (fs.take j) = Y at *
        clear hcs hA htk hge
        have tok0 : True := trivial
        go_wp2_with (first
          | (have _t := tok0; at_builtin; refine wpList_appT rfl _ _ rfl (by with_unfolding_all (conv => lhs; whnf)) (ho.below ((Below.refl _ _).alloc (Nat.le_refl _) _)) (by with_unfolding_all (conv => lhs; whnf)) (rdT_one _ _ fn) (by simp; omega) (by simp; omega) ?_; intro v2 w2 ho2 hg2 hb2; clear tok0; have tok1 : True := trivial))
        have hb2' := hb.trans (grown_low ho hg2 (Nat.le_refl _) hz)
        exact ⟨⟨j + 1, by omega, by go_num, by rw [hnm.out]; exact ho2, hb2'⟩, by simp [intOf]; omega⟩
      · have q1 : ¬ (j : Int) < (fs.length : Int) := by omega
        have e1 : fs.take j = fs := List.take_of_length_le (by omega)
        rw [e1] at ho
        clear e1 hA hge
        go_wp2_with fail
        refine bodyPost_ret (results_tmp2 rfl _ _ _) rfl ?_
        exact ⟨_, rfl, ho, hb⟩
  · show Calls _ _ _ _ fun e w' => ∃ v, e = .returned (.tuple #[v, .int .i64 13]) ∧ OwnT w' w.heap.size v [] ∧ Below w.heap.size w w'
    go_enter Try.func19, Try.ntmps19
    go_wp2_with fail
    refine bodyPost_ret (results_tmp2 rfl _ _ _) rfl ?_
    exact ⟨_, rfl, OwnT.nil _ _, Below.refl _ _⟩
end Go.Proofs.Ytfnlcnjflloecaa
