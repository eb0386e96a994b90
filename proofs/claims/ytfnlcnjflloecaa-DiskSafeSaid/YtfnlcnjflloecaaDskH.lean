/- DiskSafe: the walk. -/
import Derived.Test.YtfnlcnjflloecaaDskG
import Derived.Test.YtfnlcnjflloecaaDskX
import Derived.Deep.CutBlock
import Derived.Deep.DeepCutAuto
set_option linter.unusedVariables false
set_option linter.unusedSimpArgs false
set_option linter.unnecessarySimpa false
namespace Go.Proofs.Ytfnlcnjflloecaa
open Go.RowKit
theorem Below.drew_trans {w w' : World} (h : Below w.drew.heap.size w.drew w') : Below w.heap.size w w' := (Below.refl w.heap.size w).drew.trans h
theorem strB_cut (l : List UInt8) (n : Nat) : (strB l).extract 0 n = strB (l.take n) := by
  apply ByteArray.ext
  rw [ByteArray.data_extract]
  unfold strB
  simp [List.extract_eq_take_drop]
def SaX (va v10 : Value) : Nat → Prop := fun k => va.ownBlock = some k ∨ v10.ownBlock = some k
structure SaAt (w : World) (B : Nat) (p : Nat) (va : Value) (a : List UInt8) (v10 : Value) (D : Dsk) (all : List UInt8) (wr : World) : Prop where
  dx : DX w p D (SaX va v10) wr
  own : Own8 wr B 5 v10 all
  rd : Rd wr va a
  lo : w.heap.size ≤ B
  zb : B ≤ wr.heap.size
  vb : ∀ g, va.ownBlock = some g → g < B
theorem SaAt.app {w wd wn : World} {B p : Nat} {va v10 vn : Value} {a all b : List UInt8} {D : Dsk} (h : SaAt w B p va a v10 D all wd) (ho : Own8 wn B 5 vn (all ++ b)) (hg : wd.grownBy wn v10.ownBlock) (hb : vn.ownBlock = v10.ownBlock ∨ vn.ownBlock = some wd.heap.size) : SaAt w B p va a vn D (all ++ b) wn := by
  refine ⟨h.dx.turn (Chg.grown hg (M := fun k => v10.ownBlock = some k) (fun k hk => hk)) (fun k hk => .inr hk) (fun k hk => Nat.le_trans h.lo (h.own.base_le k hk)) ?_, ho, h.rd.grown hg (fun _ e => ?_), h.lo, Nat.le_trans h.zb hg.size, h.vb⟩
  · rintro k (hk | hk)
    · exact .inl (.inl hk)
    · rcases hb with e | e
      · exact .inl (.inr (e ▸ hk))
      · refine .inr ⟨?_, ho.lt k hk⟩
        rw [e] at hk; cases hk; exact Nat.le_refl _
  · cases hv : va.ownBlock with
    | none =>
      obtain ⟨hx, A, c, e2, h1, h2, h3⟩ := h.rd
      rename_i hp
      obtain ⟨b', off, eA, -⟩ := h3 hp
      subst eA
      rw [e2] at hv
      cases hv
    | some g =>
      rw [hv] at e
      have h1 := h.vb g hv
      have h2 := h.own.base_le g e.symm
      omega
def SaRel (w : World) (B p : Nat) (va : Value) (a : List UInt8) (v10 v11 : Value) (wr : World) : Prop :=
  ∃ (i : Nat) (D : Dsk) (all : List UInt8), v11 = .int .i64 (i : Int) ∧ i ≤ 40 ∧ SaD D a all (i + 2) ∧ all.length ≤ 100 * i ∧ D.off = false ∧ SaAt w B p va a v10 D all wr
def SaOut (w : World) (B p : Nat) (va : Value) (a : List UInt8) (v10 : Value) (wr : World) : Prop :=
  ∃ (D : Dsk) (all : List UInt8) (k : Nat), k ≤ 50 ∧ SaD D a all k ∧ all.length ≤ 4000 ∧ SaAt w B p va a v10 D all wr
set_option maxRecDepth 100000 in
set_option maxHeartbeats 12800000 in
theorem diskSafe_w (w : World) (v0 : Value) (l0 : List UInt8) (h0 : Rd w v0 l0) (v1 : Value) (ls : List (List UInt8)) (h1 : RdL w v1 ls) (s : Int) (hs : -9223372036854775808 ≤ s ∧ s ≤ 9223372036854775807) (v3 : Value) (kp : List Int) (h3 : RdI w v3 kp) :
    Calls Try.prog 4 #[.agg #[v0, v1, .int .i64 s, v3]] w (Ok w) := by
  obtain ⟨A, c, ev, hc1, hc2, hc3⟩ := h1.cells
  subst ev
  obtain ⟨n, hn, hnm⟩ := mod30 s
  have b1 : -30 < Int.tmod s 30 := Int.lt_tmod_of_pos s (by omega)
  have b2 := Int.tmod_lt_of_pos s (show (0 : Int) < 30 by omega)
  generalize hs1 : Int.tmod s 30 = s1 at *
  have hlen : (ls.length : Int) ≤ 9223372036854775807 := by unfold maxLen at hc2; omega
  go_enter Try.func4, Try.ntmps4
  have ta0 : True := trivial
  go_upto_region 1 with (first
    | (have _t := ta0; (with_reducible refine G_box ?_; refine L_box (by with_unfolding_all (conv => lhs; whnf)) ?_); intro w1 hk1 hb1 hs1; clear ta0; have ta1 : True := trivial))
  have c0 : _ = some _ := hk1.drew.cell 0
  have c1 : _ = some _ := hk1.drew.cell 1
  have c2 : _ = some _ := hk1.drew.cell 2
  have c3 : _ = some _ := hk1.drew.cell 3
  (refine region_still (by kernel_rfl) (by kernel_rfl) ?_; repeat (refine wpStill_step (fun K hK => ?_); go_simp; (try go_bits); refine hK _ ?_; clear hK K); try refine wpStill_nil ?_)
  replace hb1 := hb1.drew
  clear c0 c1 c2 c3 hk1 hs1
  generalize w1.drew = w2 at *
  have NW := new_good 100000 w2 (by omega) (by omega)
  go_wp2_with fail
  refine NW.mono ?_; rintro e w3 ⟨p, rfl, hd, hb3⟩
  have hbw3 := below_below hb1 hb3
  have g3 : DS w p (newD 100000) w3 := ⟨_, hd, fun k hk => by have := hb1.size; omega, hbw3⟩
  go_wp2_with fail
  refine (wakes10_c _).mono ?_; rintro e w4 ⟨rfl, hb4⟩
  have g4 := g3.below hb4
  clear NW hd g3 hb3 hbw3
  go_wp2_with fail
  refine (few10_c v0 l0 w4 (h0.below g4.bel)).mono ?_; rintro e w5 ⟨va, rfl, hoa, hb5⟩
  have g5 : DX w p (newD 100000) (fun k => va.ownBlock = some k) w5 := (DX.of g4).add hb5 (fun k hk => .inr ⟨hoa.base_le k hk, hoa.lt k hk⟩)
  have hla : (l0.take 100).length ≤ 100 := by simp; omega
  generalize l0.take 100 = a at *
  have ta : a.take 100 = a := List.take_of_length_le hla
  go_wp2_with fail
  refine (few10_c va a w5 hoa.rd).mono ?_; rintro e w6 ⟨vb, rfl, hob, hb6⟩
  rw [ta] at hob
  have AP := append_dx g5 (DskOk.new (by omega) (by omega)) (by simp [newD]) [102] a (by decide) hb6 hob.rd (fun g hg => ⟨hob.base_le g hg, hob.lt g hg⟩)
  have ok1 : DskOk (saD0 a) := (DskOk.new (room := 100000) (by omega) (by omega)).append _ _
  obtain ⟨S0, S1, S2⟩ := SaD.start a hla n hn
  have e0 : (appendD (newD 100000) [102] a).2 = saD0 a := rfl
  rw [e0] at AP
  have e1 : (syncD (saD0 a) [102]).1 = 0 := by rw [saD1_eq a hla]
  have e2 : (syncD (saD0 a) [102]).2 = saD1 a := rfl
  have e3 : (saD0 a).done ≤ 4611686018427387904 := by rw [saD0_eq a hla]; simp
  have ra5 := hoa.rd
  have ra6 := ra5.below hb6
  go_wp2_with fail
  refine AP.mono ?_; rintro e w7 ⟨rfl, g7, ch7⟩
  have ra7 := chgX_rd ra6 ch7 (fun g hg => hg)
  have SY := sync_dx g7 ok1 e3 [102] (by decide)
  rw [e1, e2] at SY
  go_wp2_with fail
  refine SY.mono ?_; rintro e w8 ⟨rfl, g8, ch8⟩
  have ra8 := chgX_rd ra7 ch8 (fun g hg => hg)
  have FU := fuse_dx g8 (n : Int)
  rw [S1] at FU
  generalize (fuseD (saD1 a) n).2 = D0 at *
  clear AP SY S1 e0 e1 e2 e3 ok1
  go_wp2_with fail
  refine FU.mono ?_; rintro e w9 ⟨rfl, g9, ch9⟩
  have ra9 := chgX_rd ra8 ch9 (fun g hg => hg)
  have hva : ∀ g, va.ownBlock = some g → g < w9.heap.size := fun g hg => by obtain ⟨M, k1, k2, k3, k4⟩ := g9; exact k3 g hg
  clear FU ch7 ch8 ch9 ra5 ra6 ra7 ra8 g4 g5 g7 g8 hoa hob hb4 hb5 hb6
  go_upto_block 0 with fail
  go_cut [10] (fun v10 wx => SaOut w w9.heap.size p va a v10 wx)
  case first =>
    go_wp2_with fail
    go_loopw [10, 11] (fun v10 v11 wr => SaRel w w9.heap.size p va a v10 v11 wr) (fun _ v11 _ => 40 - (intOf v11).toNat)
    case atStart =>
      exact ⟨0, D0, [], rfl, by omega, S0, by simp, S2, ⟨g9.add (Below.refl _ _) (fun k hk => by rcases hk with h | h; exact .inl h; cases h), Own8.nil _ _ _, ra9, by have := g9.bel.size; omega, Nat.le_refl _, hva⟩⟩
    case round =>
      obtain ⟨i, D, all, rfl, hi, hF, hal, hoff, hA⟩ := hrel
      have hdn := hF.done
      by_cases hlt : i < ls.length
      rotate_left
      · have q1 : ¬ (i : Int) < (ls.length : Int) := by omega
        have q2 : decide ((i : Int) < (ls.length : Int)) = false := decide_eq_false q1
        clear hc3
        go_wp2_with fail
        go_meet
        exact ⟨D, all, i + 2, by omega, hF, by omega, hA⟩
      have q1 : (i : Int) < (ls.length : Int) := by omega
      have q2 : decide ((i : Int) < (ls.length : Int)) = true := decide_eq_true q1
      by_cases h40 : i < 40
      rotate_left
      · have q3 : ¬ (i : Int) < 40 := by omega
        have q4 : decide ((i : Int) < 40) = false := decide_eq_false q3
        clear hc3
        go_wp2_with fail
        go_meet
        exact ⟨D, all, i + 2, by omega, hF, by omega, hA⟩
      have q3 : (i : Int) < 40 := by omega
      have q4 : decide ((i : Int) < 40) = true := decide_eq_true q3
      obtain ⟨b, off, eA, hbl, hcc⟩ := hc3 (by omega)
      obtain ⟨x, hx, hxr⟩ := hcc i ls[i] (by simp [hlt])
      subst eA
      obtain ⟨hX, hO, hRa, hlo, hzb, hvb⟩ := hA
      have hx2 : wr.cell? ⟨b, off + i, none⟩ = some x := (hX.bel.cell hbl).trans hx
      generalize hL : ls[i] = L at *
      have hLl : (L.take 100).length ≤ 100 := by simp; omega
      obtain ⟨hF2, hE⟩ := hF.next hla (by omega) hoff (L.take 100) hLl
      clear hc3 hcc
      go_wp2_with fail
      refine (few10_c x L wr (hxr.below hX.bel)).mono ?_; rintro e wa ⟨u5, rfl, ho5, hb5⟩
      have AP := append_dx hX hF.ok (by omega) [102] (L.take 100) (by decide) hb5 ho5.rd (fun g hg => ⟨ho5.base_le g hg, ho5.lt g hg⟩)
      generalize (appendD D [102] (L.take 100)).2 = D2 at *
      generalize (appendD D [102] (L.take 100)).1 = e2 at *
      clear hx2
      go_wp2_with fail
      refine AP.mono ?_; rintro e wb ⟨rfl, gb, chb⟩
      have hOb := chgX_own (hO.below hb5) chb (fun g hg => .inr hg)
      have hRb := chgX_rd (hRa.below hb5) chb (fun g hg => .inl hg)
      have hx3 : wb.cell? ⟨b, off + i, none⟩ = some x := (gb.bel.cell hbl).trans hx
      clear AP hO hRa hX
      go_wp2_with fail
      refine (few10_c x L wb (hxr.below gb.bel)).mono ?_; rintro e wd ⟨u6, rfl, ho6, hb6⟩
      have gd := gb.below hb6
      have hOd := hOb.below hb6
      have hRd := hRb.below hb6
      clear hx3 gb hOb hRb
      have hzB : w9.heap.size ≤ wd.heap.size := by have := hb5.size; have := chb.size; have := hb6.size; omega
      have hAt : SaAt w w9.heap.size p va a _ D2 all wd := ⟨gd, hOd, hRd, hlo, hzB, hvb⟩
      generalize L.take 100 = B at *
      rcases hE with ⟨rfl, hoff2⟩ | rfl
      · have tb0 : True := trivial
        go_wp2_with (first
          | (have _t := tb0; (at_builtin; refine wpList_app8 rfl _ _ rfl st8 (by with_unfolding_all (conv => lhs; whnf)) hOd rfl (Rd.src ho6.rd Try.underlying38) (by first | omega | (simp; omega)) (by first | (simp; done) | omega | (simp; omega)) ?_); intro vn wn hon hgn hbn; clear tb0; have tb1 : True := trivial))
        exact ⟨⟨i + 1, D2, all ++ B, by go_num, by omega, hF2, by simp; omega, hoff2, hAt.app hon hgn hbn⟩, by simp [intOf]; omega⟩
      · have tc0 : True := trivial
        go_wp2_with (first
          | (have _t := tc0; (at_builtin; refine wpList_app8 rfl _ _ rfl st8 (by with_unfolding_all (conv => lhs; whnf)) hOd rfl (Rd.src ho6.rd Try.underlying38) (by first | omega | (simp; omega)) (by first | (simp; done) | omega | (simp; omega)) ?_); intro vn wn hon hgn hbn; clear tc0; have tc1 : True := trivial))
        go_meet
        exact ⟨D2, all ++ B, i + 2 + 1, by omega, hF2, by simp; omega, hAt.app hon hgn hbn⟩
  case rest =>
    obtain ⟨D, all, k, hk, hF, hal, hX, hO, hRa, hlo, hzb, hvb⟩ := hcut
    clear hc3 h1 S0 S2 g9 ra9
    have IN := ints10_c v3 kp wc ⟨RdW.below h3.1 hX.bel, h3.2⟩
    obtain ⟨m, m1, m2, m3, m4, m5, m6, m7, m8⟩ := hF.rest (kp.take 30)
    go_wp2_with fail
    refine IN.mono ?_; rintro e wa ⟨u, rfl, hu, hul, hba⟩
    have RS := restart_dx hX hF.ok (by rw [hF.fs]; simp) (by rw [hF.fs]; simp) (kp.take 30) hba hu hul
    generalize restartD D (kp.take 30) = D3 at *
    go_wp2_with fail
    refine RS.mono ?_; rintro e wb ⟨rfl, gb, chb⟩
    have hOb := chgX_own (hO.below hba) chb (fun g hg => .inr hg)
    have hRb := chgX_rd (hRa.below hba) chb (fun g hg => .inl hg)
    have RD := read_ds gb.ds m5 [102] (by decide)
    rw [m4] at RD
    clear IN RS hO hRa hX
    go_wp2_with fail
    refine RD.mono ?_; rintro e wd ⟨ub, rfl, hob, hbd⟩
    have gd : DX w p D3 (fun k => SaX va _ k ∨ ub.ownBlock = some k) wd := gb.add hbd (fun k hk => hk.imp id (fun h => ⟨hob.base_le k h, hob.lt k h⟩))
    have hOd := hOb.below hbd
    have hRd := hRb.below hbd
    have hbR := hob.rd
    have hLm : ((a ++ all).take m).length = m := by simp; omega
    have hta : ((a ++ all).take m).take a.length = a := by rw [List.take_take, Nat.min_eq_left m1, List.take_left]
    obtain ⟨Ab, cb, eb, kb1, kb2, -⟩ := hbR.open
    obtain ⟨Aa, ca, ea, ka1, ka2, -⟩ := hRd.open
    obtain ⟨Al, cl, el, kl1, kl2, -⟩ := hOd.rd.open
    rw [hLm] at eb kb1
    have hpc : Rd wd (.slice Ab a.length cb) a := by
      have := (eb ▸ hob : Own8 wd wb.heap.size 5 (.slice Ab m cb) ((a ++ all).take m)).short a.length (by omega)
      rw [hta] at this
      exact this.rd
    have hsl : ∀ w, (Instr.sliceAt 38 (.slice Ab m cb) none (some (.int .i64 (a.length : Int))) none).run Try.prog w = .ok (.slice Ab a.length cb) w := fun w => by
      have := (run_sliced (w := w) st8 Ab m cb 0 a.length (Nat.zero_le _) m1 kb1 .i64 .i64).2.1
      rw [sliced_zero] at this
      exact this
    have cv1 := convert_str hpc.drew
    have cv2 := convert_str hRd.drew
    subst eb ea el
    have q1 : ¬ (m : Int) < (a.length : Int) := by omega
    have q2 : decide ((m : Int) < (a.length : Int)) = false := decide_eq_false q1
    have q3 : ¬ (a.length : Int) + (all.length : Int) < (m : Int) := by omega
    have q4 : decide ((a.length : Int) + (all.length : Int) < (m : Int)) = false := decide_eq_false q3
    have q5 : (a.length : Int) ≤ 100 := by omega
    have q6 : (all.length : Int) ≤ 4000 := by omega
    go_upto_region 19 with fail
    generalize hTT : strB a = T at cv1 cv2
    have hTq : (T.toList != T.toList) = false := by simp
    (refine region_still (by kernel_rfl) (by kernel_rfl) ?_; (iterate 29 (refine wpStill_step (fun K hK => ?_); go_simp; (try go_bits); refine hK _ ?_; clear hK K)); refine wpStill_nil ?_)
    clear cv1 cv2 hsl hpc q1 q2 q3 q4 hTq
    go_upto_region 21 with fail
    have hb2 := hbR.drew
    have hR2 := hRd.drew
    have hO2 := hOd.rd.drew
    have g2 := gd.below (Below.refl wd.heap.size wd).drew
    have hLL := hob.drew
    have FW : ∀ wg v, Rd wg v a → Calls Try.prog 11 #[v] wg (Gives8 5 wg a) := fun wg v hv => by
      have := few10_c v a wg hv
      rw [ta] at this
      exact this
    have hx3 : (strB (a ++ all)).extract 0 m = strB ((a ++ all).take m) := strB_cut _ _
    have hz3 : ((strB (a ++ all)).size : Int) = (a.length : Int) + (all.length : Int) := by rw [strB_size, List.length_append]; omega
    have cvB : ∀ wg, Rd wg (.slice Ab m cb) ((a ++ all).take m) → (convert 38 9 (.slice Ab m cb)).run Try.prog wg = .ok (.string (strB ((a ++ all).take m))) wg := fun wg h => convert_str h
    have cvD : ∀ wg v, Rd wg v ((a ++ all).take m) → (convert 38 9 v).run Try.prog wg = .ok (.string (strB ((a ++ all).take m))) wg := fun wg v h => convert_str h
    have cvC : ∀ wg v, Rd wg v (a ++ all) → (convert 38 9 v).run Try.prog wg = .ok (.string (strB (a ++ all))) wg := fun wg v h => convert_str h
    generalize wd.drew = wh at *
    generalize strB ((a ++ all).take m) = T2 at *
    generalize strB (a ++ all) = T3 at *
    have hTq : (T2.toList != T2.toList) = false := by simp
    have q7 : (m : Int) ≤ (T3.size : Int) := by rw [hz3]; omega
    clear hz3
    refine region_making 11 (fun | 5 => [3] | _ => []) (fun | 3 => some fun _ => new8 5 a | 5 => some fun _ => new8 5 (a ++ all) | _ => none) (by kernel_rfl) (by kernel_rfl) ?_ ?_
    · intro i' S' h' e v'
      match i', h' with
      | 3, h' => cases h'; exact new8_loc _ _ _ _
      | 5, h' => cases h'; exact new8_loc _ _ _ _
    simp only [List.take_succ_cons, List.take_zero, List.drop_succ_cons, List.drop_zero]
    (apply wpG_pure; (focus rfl); (focus (intro wg Bg hbg hBg hFg; go_simp; (try go_bits); (first | done | exact ⟨rfl, Below.refl _ _⟩ | rfl))); simp only [Act.put, List.setIfInBounds_toArray, List.set_cons_succ, List.set_cons_zero])
    (apply wpG_pure; (focus rfl); (focus (intro wg Bg hbg hBg hFg; have cvb := cvB wg (hb2.drew.below hbg); go_simp; (try go_bits); (first | done | exact ⟨rfl, Below.refl _ _⟩ | rfl))); simp only [Act.put, List.setIfInBounds_toArray, List.set_cons_succ, List.set_cons_zero])
    (apply wpG_pure; (focus rfl); (focus (intro wg Bg hbg hBg hFg; go_simp; (try go_bits); (first | done | exact ⟨rfl, Below.refl _ _⟩ | rfl))); simp only [Act.put, List.setIfInBounds_toArray, List.set_cons_succ, List.set_cons_zero])
    (apply wpG_make; (focus rfl); (focus (intro wg Bg hbg hBg hFg; go_simp; go_at_call 11; exact Calls.mono (FW _ _ (hR2.drew.below hbg)) (fun e w' h => (by obtain ⟨u, rfl, ho, hb⟩ := h; exact ⟨u, rfl, Chg.of_below hb, ⟨ho.mono (Nat.zero_le _), fun g hg => (by first | exact .inr ⟨ho.base_le g hg, ho.lt g hg⟩ | exact ⟨ho.base_le g hg, ho.lt g hg⟩)⟩⟩)))); intro vf; simp only [Act.put, List.setIfInBounds_toArray, List.set_cons_succ, List.set_cons_zero])
    (apply wpG_pure; (focus rfl); (focus (intro wg Bg hbg hBg hFg; go_simp; (try go_bits); (first | done | exact ⟨rfl, Below.refl _ _⟩ | rfl))); simp only [Act.put, List.setIfInBounds_toArray, List.set_cons_succ, List.set_cons_zero])
    (apply wpG_make; (focus rfl); (focus (intro wg Bg hbg hBg hFg; have hN := hFg 3 (by decide +kernel); refine goesTo_app8w (by go_simp) _ _ rfl st8 (by with_unfolding_all (conv => lhs; whnf)) (id hN).1 (by with_unfolding_all (conv => lhs; whnf)) (Rd.src (hO2.drew.below hbg) Try.underlying38) (by first | omega | (simp; omega)) (Nat.zero_le _) (fun g hg => ⟨3, by simp, (id hN).2 g hg⟩))); intro vg; simp only [Act.put, List.setIfInBounds_toArray, List.set_cons_succ, List.set_cons_zero])
    (apply wpG_pure; (focus rfl); (focus (intro wg Bg hbg hBg hFg; have cvc := cvC wg vg (Own8.rd (hFg 5 (by decide +kernel) : new8 5 (a ++ all) vg (Bg 5) wg).1); go_simp; (try go_bits); (first | done | exact ⟨rfl, Below.refl _ _⟩ | rfl))); simp only [Act.put, List.setIfInBounds_toArray, List.set_cons_succ, List.set_cons_zero])
    (apply wpG_pure; (focus rfl); (focus (intro wg Bg hbg hBg hFg; go_simp; (try go_bits); (first | done | exact ⟨rfl, Below.refl _ _⟩ | rfl))); simp only [Act.put, List.setIfInBounds_toArray, List.set_cons_succ, List.set_cons_zero])
    (apply wpG_pure; (focus rfl); (focus (intro wg Bg hbg hBg hFg; go_simp; (try go_bits); (first | done | exact ⟨rfl, Below.refl _ _⟩ | rfl))); simp only [Act.put, List.setIfInBounds_toArray, List.set_cons_succ, List.set_cons_zero])
    (apply wpG_pure; (focus rfl); (focus (intro wg Bg hbg hBg hFg; go_simp; (try go_bits); (first | done | exact ⟨rfl, Below.refl _ _⟩ | rfl))); simp only [Act.put, List.setIfInBounds_toArray, List.set_cons_succ, List.set_cons_zero])
    (apply wpG_pure; (focus rfl); (focus (intro wg Bg hbg hBg hFg; go_simp; (try go_bits); (first | done | exact ⟨rfl, Below.refl _ _⟩ | rfl))); simp only [Act.put, List.setIfInBounds_toArray, List.set_cons_succ, List.set_cons_zero])
    refine wpG_end (fun wg Bg hbg hBg hFg => ?_)
    clear hFg hBg
    have gg := g2.below (Below.drew_trans hbg)
    have hbg2 := hb2.drew.below hbg
    have RS2 := restart_dx gg m5 (by rw [m3]; simp) (by rw [m3]; simp) [] (Below.refl _ _) (v := .slice none 0 0) ⟨RdW.nil wg 1, fun z hz => by cases hz⟩ (fun g hg => by cases hg)
    clear hbg hb2 hR2 hO2 g2 hLL FW hx3 q7
    go_wp2_with fail
    refine RS2.mono ?_; rintro e wi ⟨rfl, gi, chi⟩
    have hbi := chgX_rd hbg2 chi (fun g hg => .inr hg)
    have RD2 := read_ds gi.ds m8 [102] (by decide)
    rw [m7] at RD2
    go_wp2_with fail
    refine RD2.mono ?_; rintro e wj ⟨uc, rfl, hoj, hbj⟩
    have e1 := cvB wj (hbi.below hbj)
    have e2 := cvD wj uc hoj.rd
    have hTe : (T2.toList == T2.toList) = true := by simp
    have gj := (gi.below hbj).bel
    go_wp2_with fail
    go_ret
    exact ⟨by simp, gj⟩
end Go.Proofs.Ytfnlcnjflloecaa
