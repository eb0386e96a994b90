/- disk.Append. -/
import Derived.Test.YtfnlcnjflloecaaDsk5
set_option linter.unusedVariables false
set_option linter.unusedSimpArgs false
set_option linter.unnecessarySimpa false
namespace Go.Proofs.Ytfnlcnjflloecaa
open Go.RowKit
theorem Chg.tr {M : Nat → Prop} {w w1 w2 : World} (h : Chg M w w1) (k : Chg M w1 w2) : Chg M w w2 := h.chg_trans k (fun k hk => .inr hk)
/-- What a step's body leaves: the disk, and how it ends. -/
def DkPost (w : World) (M : Nat → Prop) (p : Nat) (x : Int × Dsk) (e : Ending) (w' : World) : Prop :=
  Chg M w w' ∧ DiskAt w' (growM M w w') p x.2 ∧ ((x.1 = 0 ∧ e = .returned (.tuple #[])) ∨ (x.1 ≠ 0 ∧ e = .panicked (chainDk x.1)))
theorem DiskAt.grow {w w' : World} {M : Nat → Prop} {p : Nat} {D : Dsk} (h : DiskAt w M p D) (hb : Below w.heap.size w w') : DiskAt w' (growM M w w') p D := by
  obtain ⟨r, G, V, Lb, h⟩ := h
  have hMlt := h.lt
  have h1 := h.below hb
  refine ⟨r, G, V, Lb, h1.mono (fun k hk => .inl hk) ?_⟩
  rintro k (hk | hk)
  · exact h1.lt k hk
  · exact hk.2
def addN (fs : List FileE) (s : List UInt8) : List FileE := match lookF fs s with | some _ => fs | none => putF fs ⟨s, [], 0⟩
set_option maxRecDepth 100000 in
set_option maxHeartbeats 6400000 in
theorem append1_c (p : Nat) (M : Nat → Prop) (D : Dsk) (s b : List UInt8) (v : Value) (bn bb bd : Nat) (w : World) (h : DiskAt w M p D) (ok : DskOk D) (hoff : D.off = false) (hd : D.done ≤ 4611686018427387904) (hs : s.length ≤ 9223372036854775807)
    (kn : Blk w bn 9 [.string (strB s)]) (kb : Blk w bb 38 [v]) (kd : Blk w bd 23 [.pointer (some ⟨p, 0, none⟩)]) (nn : ¬ M bn) (nb : ¬ M bb) (nd : ¬ M bd) (hv : Rd w v b) (hvM : ∀ g, v.ownBlock = some g → ¬ M g) (hvl : ∀ g, v.ownBlock = some g → g < w.heap.size) :
    Calls Try.prog 27 #[.pointer (some ⟨bn, 0, none⟩), .pointer (some ⟨bb, 0, none⟩), .pointer (some ⟨bd, 0, none⟩)] w (DkPost w M p (appendD D s b)) := by
  have cn : _ = some _ := kn.cell 0
  have kn0 := kn
  have kb0 := kb
  have kd0 := kd
  have hv0 := hv
  obtain ⟨R, hR⟩ : ∃ R, appendD D s b = R := ⟨_, rfl⟩
  rw [hR]
  replace hR := Go.Lib.hid hR
  have bA := (Below.refl w.heap.size w).alloc (Nat.le_refl _) (.cells #[.string (strB s)] 9)
  have NM := named_c _ [s] _ (rdT_one w (0, 0) s) (by simpa using hs)
  have hf1 : firstD D s false = if rightD s = false then 4 else 0 := by unfold firstD; rw [if_neg (by rw [hoff]; decide)]; split <;> simp
  generalize hS : strB s = S at *
  go_enter Try.func27, Try.ntmps27
  go_wp2_with fail
  refine NM.mono ?_; rintro e w1 ⟨hr, hb1⟩
  have hb := below_below bA hb1
  simp only [List.all_cons, List.all_nil, Bool.and_true] at hr
  rcases hr with ⟨hr, rfl⟩ | ⟨hr, rfl⟩
  rotate_left
  · rw [if_pos hr] at hf1
    have hR2 : R = (4, D) := by rw [← hR.out]; unfold appendD; rw [if_pos (by rw [hf1]; decide), hf1]
    subst hR2
    clear hR NM bA
    go_wp2_with fail
    exact ⟨rfl, Chg.of_below hb, h.grow hb, .inr ⟨by simp, rfl⟩⟩
  rw [if_neg (by rw [hr]; decide)] at hf1
  have hR2 := hR.out
  unfold appendD at hR2
  rw [if_neg (by rw [hf1]; decide)] at hR2
  replace hR := Go.Lib.hid hR2
  clear hR2 NM cn bA hb1 hf1 hr
  replace kn := kn.below hb
  replace kb := kb.below hb
  replace kd := kd.below hb
  replace hv := hv.below hb
  obtain ⟨r, G, V, Lb, h⟩ := h
  have hMlt := h.lt
  have h1 := h.below hb
  have cb : _ = some v := kb.drew.cell 0
  have cd : _ = some (Value.pointer (some ⟨p, 0, none⟩)) := kd.drew.cell 0
  have c1 : _ = some (Value.int .i64 D.room) := h1.blk.drew.cell 1
  have c2 : _ = some (Value.int .i64 (usedF D.fs : Int)) := h1.blk.drew.cell 2
  have u1 := ok.used
  have u2 := ok.room
  have hlv := hv.len_le
  go_wp2_with fail
  (refine region_tail 12 (by kernel_rfl) (by kernel_rfl) ?_; simp only [List.take_succ_cons, List.take_zero, List.drop_succ_cons, List.drop_zero]; repeat (first | (with_reducible refine GS_len ?_; refine S8_len Try.underlying38 (by with_unfolding_all (conv => lhs; whnf)) (by assumption) ?_) | (refine wpStill_step (fun K hK => ?_); go_simp; (try go_bits); refine hK _ ?_; clear hK K)); try refine wpStill_nil ?_)
  by_cases hfull : D.room - (usedF D.fs : Int) < (b.length : Int)
  · have q1 : ¬ (b.length : Int) ≤ D.room - (usedF D.fs : Int) := by omega
    have q2 : decide ((b.length : Int) ≤ D.room - (usedF D.fs : Int)) = false := decide_eq_false q1
    rw [if_pos hfull] at hR
    obtain rfl := hR.out
    go_wp2_with fail
    refine (dkmust_bad 8 _).mono ?_; rintro e w2 ⟨rfl, rfl⟩
    go_wp2_with fail
    exact ⟨rfl, Chg.of_below hb.drew, DiskAt.grow ⟨r, G, V, Lb, h⟩ hb.drew, .inr ⟨by simp, rfl⟩⟩
  have q1 : (b.length : Int) ≤ D.room - (usedF D.fs : Int) := by omega
  have q2 : decide ((b.length : Int) ≤ D.room - (usedF D.fs : Int)) = true := decide_eq_true q1
  rw [if_neg hfull] at hR
  go_upto_region 2 with (refine (dkmust_ok 8 _).mono ?_; rintro e w2 ⟨rfl, rfl⟩)
  replace h1 := h1.drew
  replace hb := hb.drew
  replace kn := kn.drew
  replace kb := kb.drew
  replace kd := kd.drew
  replace hv := hv.drew
  clear cb cd c1 c2
  generalize w1.drew = w2 at *
  have cn : _ = some (Value.string S) := kn.drew.cell 0
  have cd : _ = some (Value.pointer (some ⟨p, 0, none⟩)) := kd.drew.cell 0
  have c0 : _ = some (Value.map (some r)) := h1.blk.drew.cell 0
  have hl := (run_lookupK (P := Try.prog) h1.map.drew Try.underlying66 Try.underlying9 zPF S).2
  have hq : (ptrK G D.fs S).getD (.pointer none) = .pointer ((lookF D.fs s).map fun _ => ⟨G s, 0, none⟩) := by
    have e : S.data.toList = s := by rw [← hS]; rfl
    unfold ptrK
    rw [e]
    cases lookF D.fs s <;> rfl
  rw [hq] at hl
  clear hq
  generalize hqe : ((lookF D.fs s).map fun _ => (⟨G s, 0, none⟩ : Addr)) = q at *
  (refine region_still (by kernel_rfl) (by kernel_rfl) ?_; repeat (refine wpStill_step (fun K hK => ?_); go_simp; (try go_bits); refine hK _ ?_; clear hK K); try refine wpStill_nil ?_)
  go_upto_if 27 with fail
  have hcB := Chg.of_below (M := M) hb.drew
  go_cut [3] from 4 (fun v3 wx => ∃ M1 G1 V1 Lb1 f1, v3 = .pointer (some ⟨G1 s, 0, none⟩) ∧ lookF (addN D.fs s) s = some f1 ∧ DiskMem wx M1 p r G1 V1 Lb1 { D with fs := addN D.fs s } ∧ Chg M w wx ∧ ∀ k, M1 k → growM M w wx k)
  case first =>
    cases hlk : lookF D.fs s with
    | some f =>
      rw [hlk] at hqe
      subst hqe
      have e : addN D.fs s = D.fs := by unfold addN; rw [hlk]
      go_wp2_with fail
      go_meet
      exact ⟨M, G, V, Lb, f, rfl, by rw [e]; exact hlk, by rw [e]; exact h1.drew, hcB, fun k hk => .inl hk⟩
    | none =>
      rw [hlk] at hqe
      subst hqe
      have e : addN D.fs s = putF D.fs ⟨s, [], 0⟩ := by unfold addN; rw [hlk]
      have kf : Blk (w2.alloc (.cells #[.slice none 0 0, .int .i64 0] 77)).drew w2.heap.size 77 [.slice none 0 0, .int .i64 0] := Blk.new w2 77 [.slice none 0 0, .int .i64 0]
      have bF : Below w2.heap.size w2 (w2.alloc (.cells #[.slice none 0 0, .int .i64 0] 77)).drew := ((Below.refl w2.heap.size w2).alloc (Nat.le_refl _) (.cells #[.slice none 0 0, .int .i64 0] 77)).drew
      go_upto_region 5 with fail
      generalize (w2.alloc (.cells #[.slice none 0 0, .int .i64 0] 77)).drew = w3 at *
      clear cn cd c0 hl
      have cn : _ = some (Value.string S) := (kn.below bF).drew.cell 0
      have cd : _ = some (Value.pointer (some ⟨p, 0, none⟩)) := (kd.below bF).drew.cell 0
      have h3 := (h1.below bF).drew
      have c0 : _ = some (Value.map (some r)) := h3.blk.cell 0
      have hm3 := h3.map
      replace kf := kf.drew
      replace bF := bF.drew
      (refine region_tail 6 (by kernel_rfl) (by kernel_rfl) ?_; simp only [List.take_succ_cons, List.take_zero, List.drop_succ_cons, List.drop_zero]; repeat (first | fail | (refine wpStill_step (fun K hK => ?_); go_simp; (try go_bits); refine hK _ ?_; clear hK K)); try refine wpStill_nil ?_)
      generalize w3.drew = w4 at *
      (with_reducible refine GK_mapupd ?_; refine LK_mapupd Try.underlying66 Try.underlying9 hm3 (by with_unfolding_all (conv => lhs; whnf)) (by with_unfolding_all (conv => lhs; whnf)) rfl ?_)
      intro w5 hm5 hg5 hs5
      rw [← hS] at hm5
      obtain ⟨G', V', Lb', h5, hG⟩ := h1.fresh hlk bF kf hg5 hm5
      go_wp2_with fail
      go_meet
      refine ⟨_, G', V', Lb', ⟨s, [], 0⟩, by rw [hG], by rw [e, lookF_put _ (lookF_none.1 hlk), if_pos rfl], by rw [e]; exact h5, ?_, ?_⟩
      · exact ((Chg.of_below (M := M) hb).tr (Chg.of_below bF)).tr (Chg.grown hg5 (fun k hk => by cases hk; exact h1.mr))
      · intro k hk
        have := hb.size
        exact hk.imp id (fun h => ⟨by omega, h.2⟩)
  case rest =>
    obtain ⟨M1, G1, V1, Lb1, f1, rfl, hl1, hm1, hc1, hM1⟩ := hcut
    clear hcB cn cd c0 hl hqe h1 hv kd kb kn hb h
    have F := hm1.file s f1 hl1
    have kb1 := kb0.chg hc1 nb
    have kd1 := kd0.chg hc1 nd
    have hv1 := hv0.chg hc1 hvM
    have zwc := hc1.size
    have hbn : bn < w.heap.size := kn0.lt
    have hbb : bb < w.heap.size := kb0.lt
    have hbd : bd < w.heap.size := kd0.lt
    have hnew : ∀ k, k < w.heap.size → ¬ M k → ¬ M1 k := fun k hk hn hm => by
      rcases hM1 k hm with h | h
      · exact hn h
      · omega
    have hFl : f1.b.length ≤ usedF (addN D.fs s) := used_look hl1
    have hau : usedF (addN D.fs s) = usedF D.fs := by
      unfold addN
      split
      · rfl
      · rw [used_put]; simp
    have hvM1 : ∀ g, v.ownBlock = some g → ¬ (V1 s).ownBlock = some g := fun g hg e => hnew g (hvl g hg) (hvM g hg) (F.rown g e).1
    have hGM : ¬ (V1 s).ownBlock = some (G1 s) := fun e => by have := (F.rown _ e).2; rw [F.lab] at this; cases this
    have hbM : ∀ k, k < w.heap.size → ¬ M k → ¬ (V1 s).ownBlock = some k := fun k hk hn e => hnew k hk hn (F.rown k e).1
    go_upto_region 6 with fail
    refine O.region_making 9 (fun | 6 => [100] | _ => []) (fun | 6 => some fun _ => new8 5 (f1.b ++ b) | _ => none) 6 100 (fun k => (V1 s).ownBlock = some k) (new8 5 f1.b (V1 s)) (by kernel_rfl) (by kernel_rfl) ?_ ?_ ?_ ?_ ?_
    · intro i' S' h' e v'
      match i', h' with
      | 6, h' => cases h'; exact O.new8_loc _ _ _ _ _
    · exact O.new8_loc _ _ _ _ _
    · exact ⟨F.row, fun g hg => hg⟩
    · exact fun k hk => F.row.lt k hk
    simp only [List.take_succ_cons, List.take_zero, List.drop_succ_cons, List.drop_zero]
    (apply O.wpG_pure; (focus rfl); (focus (intro wg Bg hbg hBg hFg; go_simp; (try go_bits); (first | done | exact ⟨rfl, Below.refl _ _⟩ | rfl))); simp only [Act.put, List.setIfInBounds_toArray, List.set_cons_succ, List.set_cons_zero])
    (apply O.wpG_pure; (focus rfl); (focus (intro wg Bg hbg hBg hFg; go_simp; (try go_bits); (first | done | exact ⟨rfl, Below.refl _ _⟩ | rfl))); simp only [Act.put, List.setIfInBounds_toArray, List.set_cons_succ, List.set_cons_zero])
    (apply O.wpG_pure; (focus rfl); (focus (intro wg Bg hbg hBg hFg; go_simp; (try go_bits); (first | done | exact ⟨rfl, Below.refl _ _⟩ | rfl))); simp only [Act.put, List.setIfInBounds_toArray, List.set_cons_succ, List.set_cons_zero])
    (apply O.wpG_pure; (focus rfl); (focus (intro wg Bg hbg hBg hFg; go_simp; (try go_bits); (first | done | exact ⟨rfl, Below.refl _ _⟩ | rfl))); simp only [Act.put, List.setIfInBounds_toArray, List.set_cons_succ, List.set_cons_zero])
    (apply O.wpG_pure; (focus rfl); (focus (intro wg Bg hbg hBg hFg; have cF : _ = some (V1 s) := (F.blk.drew.chg hbg hGM).cell 0; go_simp; (try go_bits); (first | done | exact ⟨rfl, Below.refl _ _⟩ | rfl))); simp only [Act.put, List.setIfInBounds_toArray, List.set_cons_succ, List.set_cons_zero])
    (apply O.wpG_pure; (focus rfl); (focus (intro wg Bg hbg hBg hFg; have cB : _ = some v := (kb1.drew.chg hbg (hbM _ hbb nb)).cell 0; go_simp; (try go_bits); (first | done | exact ⟨rfl, Below.refl _ _⟩ | rfl))); simp only [Act.put, List.setIfInBounds_toArray, List.set_cons_succ, List.set_cons_zero])
    (apply O.wpG_make; (focus rfl); (focus (intro wg Bg hbg hBg hFg; have hN := hFg 100 (by decide +kernel); refine goesTo_app8w (by go_simp) _ _ rfl st8 (by with_unfolding_all (conv => lhs; whnf)) (id hN).1 (by with_unfolding_all (conv => lhs; whnf)) (Rd.src (hv1.drew.chg hbg hvM1) Try.underlying38) (by first | omega | (simp; omega)) (Nat.zero_le _) (fun g hg => ⟨100, by simp, (id hN).2 g hg⟩))); intro va; simp only [Act.put, List.setIfInBounds_toArray, List.set_cons_succ, List.set_cons_zero])
    (apply O.wpG_pure; (focus rfl); (focus (intro wg Bg hbg hBg hFg; go_simp; (try go_bits); (first | done | exact ⟨rfl, Below.refl _ _⟩ | rfl))); simp only [Act.put, List.setIfInBounds_toArray, List.set_cons_succ, List.set_cons_zero])
    (apply O.wpG_pure; (focus rfl); (focus (intro wg Bg hbg hBg hFg; go_simp; (try go_bits); (first | done | exact ⟨rfl, Below.refl _ _⟩ | rfl))); simp only [Act.put, List.setIfInBounds_toArray, List.set_cons_succ, List.set_cons_zero])
    refine O.wpG_end (fun wg Bg hbg hBg hFg => ?_)
    have hN : new8 5 (f1.b ++ b) va (Bg 6) wg := hFg 6
    have hlo := fun k hk => hBg.lo 6 k (hN.2 k hk)
    clear hFg
    obtain ⟨Aa, ca, ea, -, -, -⟩ := hN.1.rd.open
    have hown := hN.1
    have hcw : Chg (fun k => k = p ∨ k = G1 s ∨ (V1 s).ownBlock = some k) wc wg := (show Chg (fun k => (V1 s).ownBlock = some k) wc wg from ⟨hbg.os, hbg.tape, hbg.output, hbg.size, hbg.block⟩).mono (fun k hk => .inr (.inr hk))
    have kF := F.blk.drew.chg hbg hGM
    have kP := hm1.blk.drew.chg hbg (fun e => by have := (F.rown _ e).2; rw [hm1.lp] at this; cases this)
    have kB := kb1.drew.chg hbg (hbM _ hbb nb)
    have kD := kd1.drew.chg hbg (hbM _ hbd nd)
    have hGp : G1 s ≠ p := fun e => by have := F.lab; rw [e, hm1.lp] at this; cases this
    have hbG : ∀ k, k < w.heap.size → ¬ M k → k ≠ G1 s := fun k hk hn e => hnew k hk hn (e ▸ F.own)
    have hvaG : ∀ k, va.ownBlock = some k → k ≠ G1 s ∧ k ≠ p := fun k hk => by
      rcases hlo k hk with h | h
      · have h1 := hm1.lt _ F.own
        have h2 := hm1.lt _ hm1.mp
        have h3 : wc.heap.size ≤ k := h
        exact ⟨by omega, by omega⟩
      · exact ⟨fun e => hGM (e ▸ h), fun e => by have := (F.rown _ h).2; rw [e, hm1.lp] at this; cases this⟩
    have hvv := hvM1
    generalize hLn : (f1.b ++ b).length = Ln at ea
    have cF : _ = some (V1 s) := kF.cell 0
    have fF := kF.frozen 0
    have hvo : ∀ k, va.ownBlock = some k → (V1 s).ownBlock = some k ∨ wc.heap.size ≤ k := fun k hk => (hlo k hk).symm
    rw [ea] at hown hvaG hvo
    subst ea
    have kF2 := kF.stored 0 (.slice Aa Ln ca)
    have gF := grown_setCell wg ⟨G1 s, 0, none⟩ (.slice Aa Ln ca)
    have kP2 := kP.other (a := ⟨G1 s, 0, none⟩) (Ne.symm hGp) (.slice Aa Ln ca)
    have kB2 := kB.other (a := ⟨G1 s, 0, none⟩) (hbG _ hbb nb) (.slice Aa Ln ca)
    have kD2 := kD.other (a := ⟨G1 s, 0, none⟩) (hbG _ hbd nd) (.slice Aa Ln ca)
    have hown2 := hown.grown gF (.inr (fun e => (hvaG (G1 s) e).1 rfl))
    go_upto_region 7 with fail
    replace hcw := hcw.tr (Chg.grown gF (M := fun k => k = p ∨ k = G1 s ∨ (V1 s).ownBlock = some k) (fun k hk => by cases hk; exact .inr (.inl rfl)))
    have zW := gF.size
    clear kF kP kB kD cF fF gF hown hbg hN hlo
    generalize wg.setCell ⟨G1 s, 0, none⟩ (.slice Aa Ln ca) = w5 at *
    have cb : _ = some v := kB2.drew.cell 0
    have cd : _ = some (Value.pointer (some ⟨p, 0, none⟩)) := kD2.drew.cell 0
    have kP2' : Blk w5 p 68 (dskC r D) := by
      have e : dskC r { D with fs := addN D.fs s } = dskC r D := by unfold dskC; simp only [hau]
      rw [← e]; exact kP2
    have c2 : _ = some (Value.int .i64 (usedF D.fs : Int)) := kP2'.drew.cell 2
    have f2 := kP2'.drew.frozen 2
    clear hau kP2
    (refine region_tail 9 (by kernel_rfl) (by kernel_rfl) ?_; simp only [List.take_succ_cons, List.take_zero, List.drop_succ_cons, List.drop_zero]; repeat (first | (with_reducible refine GS_len ?_; refine S8_len Try.underlying38 (by with_unfolding_all (conv => lhs; whnf)) (by assumption) ?_) | (refine wpStill_step (fun K hK => ?_); go_simp; (try go_bits); refine hK _ ?_; clear hK K)); try refine wpStill_nil ?_)
    have u3 : (usedF D.fs : Int) + (b.length : Int) ≤ 16777216 := by omega
    have kP3 := (kP2'.stored 2 (.int .i64 ((usedF D.fs : Int) + (b.length : Int)))).drew
    have gP := grown_setCell w5 ⟨p, 2, none⟩ (.int .i64 ((usedF D.fs : Int) + (b.length : Int)))
    have kF3 := (kF2.other (a := ⟨p, 2, none⟩) hGp (.int .i64 ((usedF D.fs : Int) + (b.length : Int)))).drew
    have hown3 := (hown2.grown gP (.inr (fun e => (hvaG p e).2 rfl))).drew
    have kD3 := (kD2.other (a := ⟨p, 2, none⟩) (fun e => by have h0 := hm1.mp; have e' : bd = p := e; rw [← e'] at h0; exact hnew bd hbd nd h0) (.int .i64 ((usedF D.fs : Int) + (b.length : Int)))).drew
    go_upto_region 8 with fail
    replace hcw := hcw.tr (Chg.grown gP (M := fun k => k = p ∨ k = G1 s ∨ (V1 s).ownBlock = some k) (fun k hk => by cases hk; exact .inl rfl))
    replace hcw : Chg (fun k => k = p ∨ k = G1 s ∨ (V1 s).ownBlock = some k) wc (w5.setCell ⟨p, 2, none⟩ (.int .i64 ((usedF D.fs : Int) + (b.length : Int)))).drew := ⟨hcw.os, hcw.tape, hcw.output, hcw.size, hcw.block⟩
    clear cb cd c2 f2 gP kP2' kF2 kB2 kD2 hown2
    generalize (w5.setCell ⟨p, 2, none⟩ (.int .i64 ((usedF D.fs : Int) + (b.length : Int)))).drew = w6 at *
    have ua := used_add ok.up s b
    obtain ⟨V2, Lb2, hm2, -⟩ := hm1.modify hl1 (g := fun f => ⟨f.name, f.b ++ b, f.safe⟩) (fun _ => rfl) (D' := { D with fs := addF D.fs s b }) rfl hcw
      (by
        unfold dskC at kP3 ⊢
        simp only at kP3 ⊢
        rw [ua, Int.natCast_add]
        exact kP3) kF3 (by simpa using hown3) hvo
    have cd : _ = some (Value.pointer (some ⟨p, 0, none⟩)) := kD3.cell 0
    have hPw := power_c p r { D with fs := addF D.fs s b } w6 hm2.blk hoff ⟨ok.done, hd⟩ ok.left.2
    go_wp2_with fail
    refine hPw.mono ?_
    rintro e w7 ⟨he, hb7, hg7⟩
    have hc7 : Chg M w w7 := (hc1.chg_trans hcw (fun k hk => by
      rcases hk with rfl | rfl | hk
      · rcases hM1 _ hm1.mp with h | h
        · exact .inr h
        · exact .inl h.1
      · rcases hM1 _ F.own with h | h
        · exact .inr h
        · exact .inl h.1
      · rcases hM1 _ (F.rown _ hk).1 with h | h
        · exact .inr h
        · exact .inl h.1)).chg_trans (Chg.grown hg7 (M := fun k => k = p) (fun k hk => by cases hk; rfl)) (fun k hk => by
      subst hk
      rcases hM1 _ hm1.mp with h | h
      · exact .inr h
      · exact .inl h.1)
    have hm7 := hm2.ctl (D' := (powerD { D with fs := addF D.fs s b }).2) (power_fs _).1 (Chg.grown hg7 (M := fun k => k = p) (fun k hk => by cases hk; rfl)) hb7
    have hfin : DiskAt w7 (growM M w w7) p R.2 := by
      rw [← hR.out]
      refine ⟨r, G1, V2, Lb2, hm7.mono ?_ ?_⟩
      · rintro k (hk | hk)
        · rcases hM1 k hk with h | h
          · exact .inl h
          · exact .inr ⟨h.1, by have := hcw.size; have := hg7.size; omega⟩
        · exact .inr ⟨by omega, by have := hg7.size; omega⟩
      · rintro k (hk | hk)
        · have := hMlt k hk; have := hc7.size; omega
        · exact hk.2
    rcases he with ⟨h0, rfl⟩ | ⟨h0, rfl⟩
    · go_wp2_with fail
      refine bodyPost_end (results_none rfl _ _ _) rfl ⟨hc7, hfin, .inl ⟨by rw [← hR.out]; exact h0, rfl⟩⟩
    · go_wp2_with fail
      exact ⟨rfl, hc7, hfin, .inr ⟨by rw [← hR.out]; exact h0, by rw [← hR.out, hoff]⟩⟩
end Go.Proofs.Ytfnlcnjflloecaa
