/- roostref10: put. -/
import Derived.Test.YtfnlcnjflloecaaRdk3
import Derived.Sort.Walk0
import Derived.BigQuiet
set_option linter.unusedVariables false
set_option linter.unusedSimpArgs false
set_option linter.unnecessarySimpa false
namespace Go.Proofs.Ytfnlcnjflloecaa
open Go.RowKit
theorem Blk.lowB {w w' : World} {B g : Nat} {T : TypeId} {cs : List Value} (h : Blk w g T cs) (hb : Below B w w') (hg : g < B) : Blk w' g T cs := by unfold Blk; rw [hb.block g hg]; exact h
def putP : List (FileE × Value) → (FileE × Value) → List (FileE × Value)
  | [], f => [f]
  | g :: r, f => if f.1.name < g.1.name then f :: g :: r else g :: putP r f
theorem putP_fst (ps : List (FileE × Value)) (q : FileE × Value) : (putP ps q).map (·.1) = putF (ps.map (·.1)) q.1 := by
  induction ps with
  | nil => rfl
  | cons g r ih =>
    unfold putP
    simp only [List.map_cons, putF]
    split
    · simp
    · simp [ih]
theorem mem_putP {ps : List (FileE × Value)} {q g : FileE × Value} : g ∈ putP ps q → g = q ∨ g ∈ ps := by
  induction ps with
  | nil => intro h; exact .inl (by simpa [putP] using h)
  | cons x r ih =>
    unfold putP
    split
    · intro h
      rcases List.mem_cons.1 h with h | h
      · exact .inl h
      · exact .inr h
    · intro h
      rcases List.mem_cons.1 h with h | h
      · exact .inr (by rw [h]; simp)
      · rcases ih h with h | h
        · exact .inl h
        · exact .inr (by simp [h])
theorem stf : SlTy Try.prog 69 83 3 48 (.agg #[.string ByteArray.empty, .slice none 0 0, .int .i64 0]) := SlTy.of Try.underlying69 (by kernel_rfl) rfl (by omega)
/-- A row of one file that the call has just laid. -/
theorem rdF_one (w : World) (fr : Nat × Nat) (q : FileE × Value) : RdW (w.alloc (.cells (fcel q).toArray 83 fr)) 3 (.slice (some ⟨w.heap.size, 0, none⟩) 1 1) 1 (fcs [q]) := by
  refine ⟨by rw [fcs_len]; rfl, some ⟨w.heap.size, 0, none⟩, 1, rfl, by simp, by unfold maxLen; omega, fun _ => ⟨w.heap.size, 0, rfl, fun j u hu => ?_⟩⟩
  have hb : (w.alloc (.cells (fcel q).toArray 83 fr)).heap[w.heap.size]? = some (.cells (fcel q).toArray 83 fr) := by
    show (w.heap.push _)[w.heap.size]? = _
    simp
  rw [cell_of_row _ w.heap.size (0 + j) _ _ fr hb]
  simpa [fcs] using hu
def newF (s : List UInt8) : FileE × Value := (⟨s, [], 0⟩, .slice none 0 0)
def PutRel (w1 : World) (ps : List (FileE × Value)) (q : FileE × Value) (l dn i : Value) (wr : World) : Prop :=
  ∃ (j : Nat) (b : Bool) (qs : List (FileE × Value)), j ≤ ps.length ∧ i = .int .i64 (j : Int) ∧ dn = .bool b ∧ wr.ownsRow w1.heap.size 83 3 l qs.length (fcs qs) ∧ Below w1.heap.size w1 wr ∧ qs.length ≤ j + 1 ∧
    ((b = false ∧ qs = ps.take j ∧ putP ps q = ps.take j ++ putP (ps.drop j) q) ∨ (b = true ∧ putP ps q = qs ++ ps.drop j)) ∧ (∀ g ∈ qs, g = q ∨ g ∈ ps)
theorem grown_lowR {wr w2 : World} {B e size n : Nat} {v : Value} {xs : List Value} {o : Obj} (ho : wr.ownsRow B e size v n xs) (hg : (wr.alloc o).grownBy w2 v.ownBlock) (hz : B ≤ wr.heap.size) : Below B wr w2 :=
  ((Below.refl B wr).alloc hz o).grown hg (by simp; omega) (by intro k hk; exact (World.ownsRow.lt ho k hk).1)
theorem agF : AggTy Try.prog 83 3 := ⟨⟨_, Try.underlying83, rfl⟩, by kernel_rfl⟩
theorem putP_mid (ps : List (FileE × Value)) (q : FileE × Value) (j : Nat) (h : j < ps.length) : putP (ps.drop j) q = if q.1.name < ps[j].1.name then q :: ps.drop j else ps[j] :: putP (ps.drop (j + 1)) q := by
  rw [List.drop_eq_getElem_cons h]
  rfl
set_option maxRecDepth 100000 in
set_option maxHeartbeats 6400000 in
theorem refput_b (p : Nat) (A : Option Addr) (c : Nat) (ps : List (FileE × Value)) (D : Dsk) (s : List UInt8) (w : World) (hblk : Blk w p 71 (rdC (.slice A ps.length c) D)) (hl : ps.length ≤ 1048576) (hnew : ∀ g ∈ ps, g.1.name ≠ s)
    (hone : ∀ g ∈ ps, ∃ A' n' c', g.2 = .slice A' n' c')
    (hA : 0 < ps.length → ∃ b, A = some ⟨b, 0, none⟩ ∧ b < w.heap.size ∧ ∀ j (hj : j < ps.length), w.cell? ⟨b, j * 3, none⟩ = some (.string (strB ps[j].1.name)) ∧ w.cell? ⟨b, j * 3 + 1, none⟩ = some ps[j].2 ∧ w.cell? ⟨b, j * 3 + 2, none⟩ = some (.int .i64 (ps[j].1.safe : Int))) :
    Calls Try.prog 36 #[.pointer (some ⟨p, 0, none⟩), .agg #[.string (strB s), .slice none 0 0, .int .i64 0]] w fun e w' => e = .returned (.tuple #[]) ∧ Chg (fun k => k = p) w w' ∧
      ∃ l, w'.ownsRow w.heap.size 83 3 l (putP ps (newF s)).length (fcs (putP ps (newF s))) ∧ Blk w' p 71 (rdC l D) := by
  have hpl := hblk.lt
  have kf := Blk.new w 83 [.string (strB s), .slice none 0 0, .int .i64 0]
  have b1 := (Below.refl w.heap.size w).alloc (Nat.le_refl _) (.cells #[.string (strB s), .slice none 0 0, .int .i64 0] 83)
  have z1 : (w.alloc (.cells #[.string (strB s), .slice none 0 0, .int .i64 0] 83)).heap.size = w.heap.size + 1 := by simp
  go_enter Try.func36, Try.ntmps36
  go_upto_region 1 with fail
  generalize (w.alloc (.cells #[.string (strB s), .slice none 0 0, .int .i64 0] 83)) = W1 at *
  go_wp2_with fail
  go_loopw [4, 5, 6] (PutRel W1 ps (newF s)) (fun _ _ i _ => ps.length - (intOf i).toNat)
  case atStart => exact ⟨0, false, [], by omega, rfl, rfl, World.ownsRow_nil _ _ _ 3, Below.refl _ _, by simp, .inl ⟨rfl, by simp, by simp⟩, fun g hg => (by cases hg)⟩
  case round =>
    obtain ⟨j, b, qs, hj, rfl, rfl, ho, hb, hql, hcase, hmem⟩ := hrel
    have hz := hb.size
    have c0 : _ = some _ := (hblk.below b1).below hb |>.cell 0
    have cf : _ = some _ := (kf.below hb).cell 0
    by_cases hlt : j < ps.length
    · have q1 : (j : Int) < (ps.length : Int) := by omega
      obtain ⟨bb, rfl, hbl, hcs⟩ := hA (by omega)
      have hone1 := hone _ (List.getElem_mem hlt)
      clear hA
      have hc0 : wr.cell? ⟨bb, j * 3, none⟩ = some (.string (strB ps[j].1.name)) := (hb.cell (p := ⟨bb, j * 3, none⟩) (by show bb < _; omega)).trans ((b1.cell (p := ⟨bb, j * 3, none⟩) hbl).trans (hcs j hlt).1)
      have hc1 : wr.cell? ⟨bb, j * 3 + 1, none⟩ = some ps[j].2 := (hb.cell (p := ⟨bb, j * 3 + 1, none⟩) (by show bb < _; omega)).trans ((b1.cell (p := ⟨bb, j * 3 + 1, none⟩) hbl).trans (hcs j hlt).2.1)
      have hc2 : wr.cell? ⟨bb, j * 3 + 2, none⟩ = some (.int .i64 (ps[j].1.safe : Int)) := (hb.cell (p := ⟨bb, j * 3 + 2, none⟩) (by show bb < _; omega)).trans ((b1.cell (p := ⟨bb, j * 3 + 2, none⟩) hbl).trans (hcs j hlt).2.2)
      have hm : wr.rangeAt bb (j * 3) (fcel ps[j]) := by
        intro k u hu
        rcases k with _ | _ | _ | k
        · cases hu; exact hc0
        · cases hu; exact hc1
        · cases hu; exact hc2
        · simp [fcel] at hu
      clear hcs
      have hPm := Go.Lib.hid (putP_mid ps (newF s) j hlt)
      have hdr := Go.Lib.hid (List.drop_eq_getElem_cons hlt)
      have htk := Go.Lib.hid (List.take_succ_eq_append_getElem hlt)
      have hgm : ps[j] ∈ ps := List.getElem_mem hlt
      generalize ps[j] = g at *
      obtain ⟨⟨gn, gb, gs⟩, gv⟩ := g
      obtain ⟨A', n', c', hgv⟩ := hone1
      simp only at hgv
      subst hgv
      obtain ⟨g, hg⟩ : ∃ g : FileE × Value, g = (⟨gn, gb, gs⟩, .slice A' n' c') := ⟨_, rfl⟩
      rw [← hg] at hPm hdr htk hgm
      replace hg := Go.Lib.hid hg
      simp only at hc0 hc1 hc2
      have cfr : wr.rangeAt w.heap.size 0 (fcel (newF s)) := fun k u hu => by rw [Nat.zero_add]; exact ((kf.below hb).cell k).trans hu
      have hbwr := hb
      have hzwr := hz
      rcases hcase with ⟨rfl, rfl, hP⟩ | ⟨rfl, hP⟩
      · have hne : gn ≠ s := by have := hnew g hgm; rw [hg.out] at this; exact this
        have e2 : ((strB gn).toList == (strB s).toList) = false := by rw [strB_beq]; exact decide_eq_false hne
        by_cases hls : s < gn
        · have e1 : Op.bytesLess (strB gn).toList (strB s).toList = false := by
            rw [bytesLess_eq, strB_toList, strB_toList]
            exact decide_eq_false (fun h => List.lt_irrefl _ (List.lt_trans h hls))
          replace hPm := Go.Lib.hid (hPm.out.trans (if_pos (by rw [hg.out]; exact hls)))
          go_upto_region 6 with fail
          go_quiet (fail)
          replace ho : (wr.drewN nq).ownsRow W1.heap.size _ 3 _ _ _ := ho
          replace hm : (wr.drewN nq).rangeAt bb (j * 3) [.string (strB gn), .slice A' n' c', .int .i64 (gs : Int)] := hm
          replace hb : Below W1.heap.size W1 (wr.drewN nq) := hb.trans ⟨rfl, rfl, rfl, Nat.le_refl _, fun _ _ => rfl⟩
          replace c0 : (wr.drewN nq).cell? _ = some _ := c0
          replace cf : (wr.drewN nq).rangeAt w.heap.size 0 (fcel (newF s)) := cfr
          replace hz := hb.size
          clear hc0 hc1 hc2 cfr
          generalize wr.drewN nq = wr at *
          have hbwr := hb
          have hzwr := hz
          have tk10 : True := trivial
          go_upto_region 8 with (first
            | (have _t := tk10; (refine wpList_load_mid rfl 83 _ rfl w.heap.size (0) (by with_unfolding_all (conv => lhs; whnf)) [.string (strB s), .slice none 0 0, .int .i64 0] _ cf Try.underlying83 rfl (by rw [agF.size]; rfl) ?_); clear tk10; have tk11 : True := trivial)
            | (have _t := tk11; at_builtin; refine wpList_app rfl _ _ rfl stf (by with_unfolding_all (conv => lhs; whnf)) (ownsRow_chg (N := fun _ => False) ho (Chg.of_below ((Below.refl _ _).alloc (Nat.le_refl _) _)) (fun _ _ h => h)) (by with_unfolding_all (conv => lhs; whnf)) (RdW.src (rdF_one _ (0, 0) (newF s)) (fcs_one _ (by simp [newF, Value.oneCell'])) Try.underlying69) (by unfold maxLen; omega) (by omega) (by simp; omega) ?_; intro v2 w2 ho2 hg2 hb2; clear tk11; have tk12 : True := trivial))
          have bw2 := grown_lowR ho hg2 hzwr
          have hbw2 := hbwr.trans bw2
          have hzw2 := hbw2.size
          replace hm : w2.rangeAt bb (j * 3) [.string (strB gn), .slice A' n' c', .int .i64 (gs : Int)] := fun k u hu => (bw2.cell (p := ⟨bb, j * 3 + k, none⟩) (by show bb < _; omega)).trans (hm k u hu)
          replace c0 : w2.cell? _ = some _ := (bw2.cell (p := ⟨p, 0, none⟩) (by show p < _; omega)).trans c0
          have tk20 : True := trivial
          go_upto_region 5 with (first
            | (have _t := tk20; (refine wpList_load_mid rfl 83 _ rfl bb (j * 3) (by with_unfolding_all (conv => lhs; whnf)) [.string (strB gn), .slice A' n' c', .int .i64 (gs : Int)] _ hm Try.underlying83 rfl (by rw [agF.size]; rfl) ?_); clear tk20; have tk21 : True := trivial)
            | (have _t := tk21; at_builtin; refine wpList_app rfl _ _ rfl stf (by with_unfolding_all (conv => lhs; whnf)) (ownsRow_chg (N := fun _ => False) ho2 (Chg.of_below ((Below.refl _ _).alloc (Nat.le_refl _) _)) (fun _ _ h => h)) (by with_unfolding_all (conv => lhs; whnf)) (RdW.src (rdF_one _ (0, 0) (⟨gn, gb, gs⟩, .slice A' n' c')) (fcs_one _ (by simp [Value.oneCell'])) Try.underlying69) (by unfold maxLen; omega) (by omega) (by simp; omega) ?_; intro v3 w3 ho3 hg3 hb3; clear tk21; have tk22 : True := trivial))
          have bw3 := grown_lowR ho2 hg3 hzw2
          have hbw3 := hbw2.trans bw3
          have hzw3 := hbw3.size
          go_wp2_with fail
          refine ⟨⟨j + 1, true, (ps.take j ++ [newF s]) ++ [g], by omega, by go_num, rfl, ?_, hbw3, by simp; omega, .inr ⟨rfl, ?_⟩, ?_⟩, by simp [intOf]; omega⟩
          · rw [fcs_append, fcs_append, List.length_append, List.length_append, hg.out]; exact ho3
          · rw [hP, hPm.out, hdr.out]; simp
          · intro x hx
            simp only [List.mem_append, List.mem_singleton] at hx
            rcases hx with (hx | hx) | hx
            · exact .inr (List.mem_of_mem_take hx)
            · exact .inl hx
            · rw [hx]; exact .inr hgm
        · have e1 : Op.bytesLess (strB gn).toList (strB s).toList = true := by
            rw [bytesLess_eq, strB_toList, strB_toList]
            exact decide_eq_true (name_lt_of hls (fun e => hne e.symm))
          replace hPm := Go.Lib.hid (hPm.out.trans (if_neg (by rw [hg.out]; exact hls)))
          go_upto_region 6 with fail
          go_quiet (fail)
          replace ho : (wr.drewN nq).ownsRow W1.heap.size _ 3 _ _ _ := ho
          replace hm : (wr.drewN nq).rangeAt bb (j * 3) [.string (strB gn), .slice A' n' c', .int .i64 (gs : Int)] := hm
          replace hb : Below W1.heap.size W1 (wr.drewN nq) := hb.trans ⟨rfl, rfl, rfl, Nat.le_refl _, fun _ _ => rfl⟩
          replace c0 : (wr.drewN nq).cell? _ = some _ := c0
          replace cf : (wr.drewN nq).rangeAt w.heap.size 0 (fcel (newF s)) := cfr
          replace hz := hb.size
          clear hc0 hc1 hc2 cfr
          generalize wr.drewN nq = wr at *
          have hbwr := hb
          have hzwr := hz
          have tk10 : True := trivial
          go_upto_region 5 with (first
            | (have _t := tk10; (refine wpList_load_mid rfl 83 _ rfl bb (j * 3) (by with_unfolding_all (conv => lhs; whnf)) [.string (strB gn), .slice A' n' c', .int .i64 (gs : Int)] _ hm Try.underlying83 rfl (by rw [agF.size]; rfl) ?_); clear tk10; have tk11 : True := trivial)
            | (have _t := tk11; at_builtin; refine wpList_app rfl _ _ rfl stf (by with_unfolding_all (conv => lhs; whnf)) (ownsRow_chg (N := fun _ => False) ho (Chg.of_below ((Below.refl _ _).alloc (Nat.le_refl _) _)) (fun _ _ h => h)) (by with_unfolding_all (conv => lhs; whnf)) (RdW.src (rdF_one _ (0, 0) (⟨gn, gb, gs⟩, .slice A' n' c')) (fcs_one _ (by simp [Value.oneCell'])) Try.underlying69) (by unfold maxLen; omega) (by omega) (by simp; omega) ?_; intro v2 w2 ho2 hg2 hb2; clear tk11; have tk12 : True := trivial))
          have bw2 := grown_lowR ho hg2 hzwr
          have hbw2 := hbwr.trans bw2
          have hzw2 := hbw2.size
          go_wp2_with fail
          refine ⟨⟨j + 1, false, ps.take j ++ [g], by omega, by go_num, rfl, ?_, hbw2, by simp; omega, .inl ⟨rfl, htk.out.symm, ?_⟩, ?_⟩, by simp [intOf]; omega⟩
          · rw [fcs_append, List.length_append, hg.out]; exact ho2
          · rw [hP, hPm.out, htk.out]; simp
          · intro x hx
            simp only [List.mem_append, List.mem_singleton] at hx
            rcases hx with hx | hx
            · exact .inr (List.mem_of_mem_take hx)
            · rw [hx]; exact .inr hgm
      · go_upto_region 6 with fail
        go_quiet (fail)
        replace ho : (wr.drewN nq).ownsRow W1.heap.size _ 3 _ _ _ := ho
        replace hm : (wr.drewN nq).rangeAt bb (j * 3) [.string (strB gn), .slice A' n' c', .int .i64 (gs : Int)] := hm
        replace hb : Below W1.heap.size W1 (wr.drewN nq) := hb.trans ⟨rfl, rfl, rfl, Nat.le_refl _, fun _ _ => rfl⟩
        replace c0 : (wr.drewN nq).cell? _ = some _ := c0
        replace cf : (wr.drewN nq).rangeAt w.heap.size 0 (fcel (newF s)) := cfr
        replace hz := hb.size
        clear hc0 hc1 hc2 cfr
        generalize wr.drewN nq = wr at *
        have hbwr := hb
        have hzwr := hz
        have tk10 : True := trivial
        go_upto_region 5 with (first
          | (have _t := tk10; (refine wpList_load_mid rfl 83 _ rfl bb (j * 3) (by with_unfolding_all (conv => lhs; whnf)) [.string (strB gn), .slice A' n' c', .int .i64 (gs : Int)] _ hm Try.underlying83 rfl (by rw [agF.size]; rfl) ?_); clear tk10; have tk11 : True := trivial)
          | (have _t := tk11; at_builtin; refine wpList_app rfl _ _ rfl stf (by with_unfolding_all (conv => lhs; whnf)) (ownsRow_chg (N := fun _ => False) ho (Chg.of_below ((Below.refl _ _).alloc (Nat.le_refl _) _)) (fun _ _ h => h)) (by with_unfolding_all (conv => lhs; whnf)) (RdW.src (rdF_one _ (0, 0) (⟨gn, gb, gs⟩, .slice A' n' c')) (fcs_one _ (by simp [Value.oneCell'])) Try.underlying69) (by unfold maxLen; omega) (by omega) (by simp; omega) ?_; intro v2 w2 ho2 hg2 hb2; clear tk11; have tk12 : True := trivial))
        have bw2 := grown_lowR ho hg2 hzwr
        have hbw2 := hbwr.trans bw2
        have hzw2 := hbw2.size
        go_wp2_with fail
        refine ⟨⟨j + 1, true, qs ++ [g], by omega, by go_num, rfl, ?_, hbw2, by simp; omega, .inr ⟨rfl, ?_⟩, ?_⟩, by simp [intOf]; omega⟩
        · rw [fcs_append, List.length_append, hg.out]; exact ho2
        · rw [hP, hdr.out]; simp
        · intro x hx
          simp only [List.mem_append, List.mem_singleton] at hx
          rcases hx with hx | hx
          · exact hmem x hx
          · rw [hx]; exact .inr hgm
    · have q1 : ¬ (j : Int) < (ps.length : Int) := by omega
      have cfr : wr.rangeAt w.heap.size 0 (fcel (newF s)) := fun k u hu => by rw [Nat.zero_add]; exact ((kf.below hb).cell k).trans hu
      have hbwr := hb
      have hzwr := hz
      have hkp := (hblk.below b1).below hb
      have hb1r := b1.trans (hb.mono (by omega))
      have edr : ps.drop j = [] := List.drop_eq_nil_of_le (by omega)
      clear hA
      rcases hcase with ⟨rfl, rfl, hP⟩ | ⟨rfl, hP⟩
      · have hP2 : putP ps (newF s) = ps.take j ++ [newF s] := by rw [hP, edr]; rfl
        clear hP
        generalize ps.take j = T at *
        replace hP2 := Go.Lib.hid hP2
        have tk10 : True := trivial
        go_upto_region 12 with (first
          | (have _t := tk10; (refine wpList_load_mid rfl 83 _ rfl w.heap.size (0) (by with_unfolding_all (conv => lhs; whnf)) [.string (strB s), .slice none 0 0, .int .i64 0] _ cfr Try.underlying83 rfl (by rw [agF.size]; rfl) ?_); clear tk10; have tk11 : True := trivial)
          | (have _t := tk11; at_builtin; refine wpList_app rfl _ _ rfl stf (by with_unfolding_all (conv => lhs; whnf)) (ownsRow_chg (N := fun _ => False) ho (Chg.of_below ((Below.refl _ _).alloc (Nat.le_refl _) _)) (fun _ _ h => h)) (by with_unfolding_all (conv => lhs; whnf)) (RdW.src (rdF_one _ (0, 0) (newF s)) (fcs_one _ (by simp [newF, Value.oneCell'])) Try.underlying69) (by unfold maxLen; omega) (by omega) (by simp; omega) ?_; intro v2 w2 ho2 hg2 hb2; clear tk11; have tk12 : True := trivial))
        have bw2 := grown_lowR ho hg2 hzwr
        have hbw2 := hbwr.trans bw2
        have hzw2 := hbw2.size
        obtain ⟨-, A2, c2, hv2, -⟩ := ownsRow_rd ho2
        subst hv2
        have hk2 : Blk w2 p 71 (rdC (.slice A ps.length c) D) := hkp.lowB bw2 (by omega)
        have f0 := hk2.frozen 0
        have d0 : _ = some _ := hk2.cell 0
        have k3 := hk2.stored 0 (.slice A2 (T.length + 1) c2)
        have g3 := Chg.setCell w2 ⟨p, 0, none⟩ (.slice A2 (T.length + 1) c2)
        have o3 := ownsRow_low (ownsRow_chg ho2 g3 (fun x hx e => by have h9 := (World.ownsRow.lt ho2 x hx).1; have e9 : x = p := e; omega)) (base' := w.heap.size) (by omega)
        have hC : Chg (fun k => k = p) w (w2.setCell ⟨p, 0, none⟩ (.slice A2 (T.length + 1) c2)) := (Chg.of_below (hb1r.trans (bw2.mono (by omega)))).tr g3
        go_wp2_with fail
        go_end0
        refine ⟨rfl, hC, _, ?_, k3⟩
        rw [hP2.out, fcs_append, List.length_append]
        exact o3
      · have hP2 : putP ps (newF s) = qs := by rw [hP, edr]; simp
        replace hP2 := Go.Lib.hid hP2
        obtain ⟨-, A2, c2, hv2, -⟩ := ownsRow_rd ho
        subst hv2
        have hk2 : Blk wr p 71 (rdC (.slice A ps.length c) D) := hkp
        have f0 := hk2.frozen 0
        have d0 : _ = some _ := hk2.cell 0
        have k3 := hk2.stored 0 (.slice A2 qs.length c2)
        have g3 := Chg.setCell wr ⟨p, 0, none⟩ (.slice A2 qs.length c2)
        have o3 := ownsRow_low (ownsRow_chg ho g3 (fun x hx e => by have h9 := (World.ownsRow.lt ho x hx).1; have e9 : x = p := e; omega)) (base' := w.heap.size) (by omega)
        have hC : Chg (fun k => k = p) w (wr.setCell ⟨p, 0, none⟩ (.slice A2 qs.length c2)) := (Chg.of_below hb1r).tr g3
        go_wp2_with fail
        go_end0
        refine ⟨rfl, hC, _, ?_, k3⟩
        exact o3
end Go.Proofs.Ytfnlcnjflloecaa
