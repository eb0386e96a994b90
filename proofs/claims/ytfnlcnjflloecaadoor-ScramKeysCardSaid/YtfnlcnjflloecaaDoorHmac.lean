/- digest.Hmac: what it answers. -/
import Derived.Test.YtfnlcnjflloecaaDoorArr
import Derived.Test.YtfnlcnjflloecaaDoorSha
import Derived.Test.YtfnlcnjflloecaaDoorDigXor
import Derived.Laws.CopyOwn
/-! ### Copy -/
set_option linter.unusedVariables false
set_option linter.unusedSimpArgs false
namespace Go.Proofs.YtfnlcnjflloecaaDoor
open Go.RowKit
def over (l k : List UInt8) : List UInt8 := k.take l.length ++ l.drop k.length
theorem over_len (l k : List UInt8) : (over l k).length = l.length := by simp [over]; omega
theorem wpList_copy8 {P : Program} {w : World} {base : Nat} {dT sT e : TypeId} {ops : Array Oper} {rest : List Oper} {o : Oper} {a : Act} {Q : Exit → Act → World → Prop} (hgd : o.guard = none) (d s : Operand)
    (ho : o.op = .call { callee := .builtin .copy, args := #[d, s], argTypes := #[dT, sT] }) (ST : SlTy P dT e 1 1 (.int .u8 0))
    {v u : Value} {l k : List UInt8} (hd : a.eval d = v) (hown : Own8 w base e v l) (hs : a.eval s = u) (hk : Rd w u k)
    (h : ∀ w', Own8 w' base e v (over l k) → w.grownBy w' v.ownBlock → w'.heap.size = w.heap.size → wpList P ops Q rest (a.put o.dst (goInt (min k.length l.length : Nat))) w') :
    wpList P ops Q (o :: rest) a w := by
  obtain ⟨A, c, rfl, hc, hm, hp⟩ := hk.open
  have hsz : (P.info? e).map (·.size) = some 1 := by obtain ⟨i, hi, _, hs1, _⟩ := ST.info; rw [hi]; simp [hs1]
  have hmin : Nat.min k.length l.length = min k.length l.length := rfl
  rcases hown.2 with ⟨rfl, h0⟩ | ⟨g, cap, cur, rfl, hb, hg, hcap, hmx, hcs, htk⟩
  · have hl : l = [] := List.eq_nil_of_length_eq_zero h0
    subst hl
    refine wpList_copy_nothing hgd d s dT sT ho e ST.under hsz none A 0 0 k.length c hd hs (by simp) ?_
    have := h w (by simpa [over] using hown) ⟨rfl, rfl, rfl, Nat.le_refl _, fun _ _ _ => rfl⟩ rfl
    simpa using this
  · by_cases hz : min k.length l.length = 0
    · refine wpList_copy_nothing hgd d s dT sT ho e ST.under hsz _ A l.length cap k.length c hd hs hz ?_
      have ho2 : over l k = l := by
        unfold over
        rcases Nat.eq_zero_or_pos k.length with h1 | h1
        · rw [List.eq_nil_of_length_eq_zero h1]; simp
        · rw [List.eq_nil_of_length_eq_zero (show l.length = 0 by omega)]; simp
      have := h w (by rw [ho2]; exact hown) ⟨rfl, rfl, rfl, Nat.le_refl _, fun _ _ _ => rfl⟩ rfl
      rw [hz] at this
      exact this
    · obtain ⟨b, of, rfl, hcell⟩ := hp (by omega)
      have hcl : (bvs (k.take l.length)).length = min k.length l.length := by simp [bvs_length, Nat.min_comm]
      refine wpList_copy_own hgd d s dT sT ho e ST.under hsz g 0 l.length cap ⟨b, of, none⟩ k.length c hd hs cur e hg (bvs (k.take l.length)) hcl ?_ ?_ (bvs_one _) ?_
      · intro j x hj
        have hjl : j < min k.length l.length := by rw [← hcl]; exact (List.getElem?_eq_some_iff.1 hj).1
        rw [add_lit, hcell j (by omega)]
        rw [bvs_get _ _ (by rw [← bvs_length, hcl]; exact hjl)] at hj
        rw [← hj]
        unfold bt
        simp [List.getD_eq_getElem?_getD, List.getElem?_take, show j < l.length by omega]
      · rw [hcl]; simp at hcs; omega
      · rw [hcl]
        refine h _ ⟨?_, .inr ⟨g, cap, _, ?_, hb, setRow_heap w g _ _ e _ hg, ?_, hmx, ?_, ?_⟩⟩ ⟨rfl, rfl, rfl, by simp, fun k' _ hk' => setRow_other w g k' _ (fun e => hk' (by simp [e, Value.ownBlock]))⟩ (by simp)
        · simp [bvs_length]
        · rw [over_len]
        · rw [over_len]; exact hcap
        · simp [hcs]; simp at hcs; omega
        · rw [over_len]
          unfold over
          simp only [Nat.mul_one] at htk ⊢
          rw [bvs_append]
          simp only [List.take_zero, List.nil_append, Nat.zero_add]
          rw [List.take_append, List.take_of_length_le (by rw [hcl]; omega), hcl, List.take_drop, show min k.length l.length + (l.length - min k.length l.length) = l.length by omega, htk]
          congr 1
          rcases Nat.le_total k.length l.length with hle | hle
          · rw [Nat.min_eq_left hle]; simp [bvs, List.map_drop]
          · rw [Nat.min_eq_right hle, List.drop_of_length_le (by rw [bvs_length]; omega), List.drop_of_length_le hle]; rfl
theorem G_copy {P : Program} {w : World} {ops : Array Oper} {rest : List Oper} {a : Act} {Q : Exit → Act → World → Prop} {d : Nat} {x y : Operand} {ty t t' : TypeId} {pos : String} {after : Array Edge}
    (h : wpList P ops Q ({ dst := some d, op := .call { callee := .builtin .copy, args := #[x, y], argTypes := #[t, t'] }, type := ty, pos := pos, after := after, guard := none } :: rest) a w) :
    wpList P ops Q ({ dst := some d, op := .call { callee := .builtin .copy, args := #[x, y], argTypes := #[t, t'] }, type := ty, pos := pos, after := after, guard := none } :: rest) a w := h
end Go.Proofs.YtfnlcnjflloecaaDoor
/-! ### Padded -/
set_option linter.unusedVariables false
set_option linter.unusedSimpArgs false
namespace Go.Proofs.YtfnlcnjflloecaaDoor
open Go.RowKit
def keyB (k : List UInt8) : List UInt8 := if 64 < k.length then shaI k else k
theorem keyB_len (k : List UInt8) : (keyB k).length ≤ 64 := by
  unfold keyB
  split
  · rw [shaI_len]; omega
  · omega
def padX (k : List UInt8) (x : UInt8) : List UInt8 := (over (List.replicate 64 0) (keyB k)).map (· ^^^ x)
theorem padX_len (k : List UInt8) (x : UInt8) : (padX k x).length = 64 := by simp [padX, over_len]
def padZ (l : List UInt8) (x : UInt8) (j : Nat) : List UInt8 := (l.take j).map (· ^^^ x) ++ l.drop j
theorem padZ_len (l : List UInt8) (x : UInt8) (j : Nat) : (padZ l x j).length = l.length := by simp [padZ]; omega
theorem padZ_get (l : List UInt8) (x : UInt8) (j : Nat) (h : j < l.length) : bt (padZ l x j) j = bt l j := by
  unfold bt padZ
  have h1 : ((l.take j).map (· ^^^ x)).length = j := by simp; omega
  rw [List.getD_eq_getElem?_getD, List.getElem?_append_right (by omega), h1]
  simp [List.getD_eq_getElem?_getD]
theorem padZ_set (l : List UInt8) (x : UInt8) (j : Nat) (h : j < l.length) : (padZ l x j).set j (l.getD j 0 ^^^ x) = padZ l x (j + 1) := by
  unfold padZ
  have h1 : ((l.take j).map (· ^^^ x)).length = j := by simp; omega
  have h2 : l.drop j = l[j] :: l.drop (j + 1) := List.drop_eq_getElem_cons h
  have h3 : (l.take (j + 1)).map (· ^^^ x) = (l.take j).map (· ^^^ x) ++ [l.getD j 0 ^^^ x] := by
    rw [List.take_add_one, List.map_append, List.getElem?_eq_getElem h]
    congr 1
    simp [List.getD_eq_getElem?_getD, h]
  rw [h3, h2, List.set_append_right _ _ (by omega), h1, Nat.sub_self, List.set_cons_zero, List.append_assoc]
  rfl
def PadK (w : World) (kb : List UInt8) (v : Value) (wx : World) : Prop := Rd wx v kb ∧ Below w.heap.size w wx
def PadRel (w : World) (u : Value) (l : List UInt8) (x : UInt8) (i : Value) (wr : World) : Prop :=
  ∃ j : Nat, j ≤ l.length ∧ i = .int .i64 j ∧ Own8 wr w.heap.size 5 u (padZ l x j) ∧ Below w.heap.size w wr
set_option maxRecDepth 100000 in
set_option maxHeartbeats 800000 in
theorem padded_c (v : Value) (k : List UInt8) (x : UInt8) (w : World) (h : Rd w v k) (hk : k.length ≤ 1000000) :
    Calls Tryd.prog 115 #[v, .int .u8 (x.toNat : Int)] w (Gives8 5 w (padX k x)) := by
  have H := fun w' hb => sha_c v k w' (h.below (w' := w') hb) hk
  unfold GivesB at H
  have nS : (bvs (shaI k)).length = 32 := by rw [bvs_length, shaI_len]
  have oS := bvs_one (shaI k)
  have hsl := shaI_len k
  have hb64 := keyB_len k
  generalize hP : padX k x = R
  unfold padX at hP
  go_enter Tryd.func115, Tryd.ntmps115
  go_upto_if 10 with (first | (with_reducible refine G_len ?_; refine L8_len Tryd.underlying37 (by with_unfolding_all (conv => lhs; whnf)) (by assumption) ?_))
  go_cut [0] (fun v wx => PadK w (keyB k) v wx)
  case first =>
    by_cases hlt : 64 < k.length
    · have hkb : keyB k = shaI k := by unfold keyB; rw [if_pos hlt]
      go_wp2_with (first | (with_reducible refine G_len ?_; refine L8_len Tryd.underlying37 (by with_unfolding_all (conv => lhs; whnf)) (by assumption) ?_) | (go_at_call 75; refine (H _ (Below.refl _ _)).mono ?_; rintro e wa ⟨rfl, hba⟩) | ((with_reducible refine G_alloc ?_; refine L_alloc z32 ?_); intro wb hkb2 hbb hsb) | ((with_reducible refine G_store ?_; refine L_store_agg ag32 (by with_unfolding_all (conv => lhs; whnf)) (by with_unfolding_all (conv => lhs; whnf)) hkb2 rfl (by simpa using nS) (fun u hu => oS u (by simpa using hu)) ?_); intro wc hkc hgc hsc))
      all_goals go_meet
      have hbb2 := below_below hba hbb
      exact ⟨by rw [hkb]; exact Blk.rd (by simpa using hkc) (by omega) hsl.symm hsl.symm, hbb2.grown hgc hbb2.size (by intro k hk; cases hk; exact hba.size)⟩
    · have hkb : keyB k = k := by unfold keyB; rw [if_neg hlt]
      go_wp2_with (first | (with_reducible refine G_len ?_; refine L8_len Tryd.underlying37 (by with_unfolding_all (conv => lhs; whnf)) (by assumption) ?_))
      all_goals go_meet
      exact ⟨by rw [hkb]; exact h, Below.refl _ _⟩
  case rest =>
  obtain ⟨hR, hb0⟩ := hcut
  clear H oS nS hsl h
  generalize keyB k = kb at *
  have z64 : (List.replicate 64 (0 : UInt8)).length = 64 := by simp
  generalize hz : List.replicate 64 (0 : UInt8) = Z at *
  go_wp2_with (first | ((with_reducible refine G_len ?_; refine L8_len Tryd.underlying37 (by with_unfolding_all (conv => lhs; whnf)) (by assumption) ?_); rw [over_len]) | ((with_reducible refine G_make ?_; refine L8_make st8 (n := 64) (base := w.heap.size) rfl rfl (by omega) hb0.size ?_); intro u w1 ho1 hv1 hg1; rw [hz] at ho1; have hb1 := (Below.refl _ _).grown hg1 (Nat.le_refl _) (by intro k hk; cases hk); have hR1 := hR.below hb1; have hb01 := below_below hb0 hb1; clear hg1 hb1 hR) | ((with_reducible refine G_copy ?_; refine wpList_copy8 rfl _ _ rfl st8 (by with_unfolding_all (conv => lhs; whnf)) ho1 (by with_unfolding_all (conv => lhs; whnf)) hR1 ?_); intro w2 ho2 hg2 hs2; have hR2 := ho2.rd))
  have hw2 := app_step0 hb01 ho1 (Nat.le_refl _) hg2
  have hb2 := hw2.1
  have hol := over_len Z kb
  have hbs := hb0.size
  generalize over Z kb = l at *
  rw [z64] at hol
  have hv2 := hv1
  generalize wc.heap.size = g at *
  clear hw2 ho1 hR1 hg2 hs2 hb01 hv1 hb0 hR2
  go_loopw [20] (fun i wr => PadRel w u l x i wr) (fun i _ => 64 - (intOf i).toNat)
  case atStart => exact ⟨0, by omega, rfl, by simpa [padZ] using ho2, hb2⟩
  case round =>
    clear ho2 hb2
    obtain ⟨j, hj, rfl, ho, hbr⟩ := hrel
    rw [hol] at hj
    have hln := padZ_len l x j
    by_cases hlt : j < 64
    · have hjl : j < (padZ l x j).length := by omega
      have hget := padZ_get l x j (by omega)
      have hset := Go.Lib.hid (padZ_set l x j (by omega))
      have hX := Go.Lib.hid (show bits .xor .u8 (bt l j) (x.toNat : Int) = ((l.getD j 0 ^^^ x).toNat : Int) by unfold bt; rw [xor8_u8])
      have q1 := bt_lo l j
      have q2 := bt_hi l j
      have q3 : (0 : Int) ≤ x.toNat := by omega
      have q4 : (x.toNat : Int) < 256 := by have := x.toNat_lt; omega
      go_wp2_with (first | ((with_reducible refine G_index ?_; refine L8_oindex st8 (i := j) (by with_unfolding_all (conv => lhs; whnf)) (by assumption) (by assumption) (by with_unfolding_all (conv => lhs; whnf)) (by omega) (by omega) ?_); intro hcl hfr; rw [hget] at hcl))
      refine ⟨⟨j + 1, by omega, by go_num, ?_, hbr.setCell (by show w.heap.size ≤ g; omega) _⟩, by simp [intOf]; omega⟩
      rw [hX.out, ← hset.out]
      exact ho.stored' hv2 j hjl _
    · obtain rfl : j = 64 := by omega
      have hpe : padZ l x 64 = R := by rw [← hP]; unfold padZ; rw [List.take_of_length_le (by omega), List.drop_of_length_le (by omega), List.append_nil]
      rw [hpe] at ho
      go_wp2
      go_ret
      exact ⟨_, rfl, ho, hbr⟩
end Go.Proofs.YtfnlcnjflloecaaDoor
/-! ### Hmac -/
set_option linter.unusedVariables false
set_option linter.unusedSimpArgs false
namespace Go.Proofs.YtfnlcnjflloecaaDoor
open Go.RowKit
theorem goesTo_app8 {P : Program} {w : World} {ops : Array Oper} {a : Act} {M : Nat → Prop} {base : Nat} {t tx e : TypeId} {o : Oper} (hgd : o.guard = none) (s x : Operand)
    (ho : o.op = .call { callee := .builtin .append, args := #[s, x], argTypes := #[t, tx] }) (ST : SlTy P t e 1 1 (.int .u8 0))
    {v : Value} (hs : a.eval s = v) {l : List UInt8} (hown : Own8 w base e v l)
    {xv : Value} (hxv : a.eval x = xv) {k : List UInt8} (hx : Src P 1 tx xv k.length (bvs k) w) (hbytes : l.length + k.length ≤ 140737488355328) (hbase : base ≤ w.heap.size) (hM : ∀ g, v.ownBlock = some g → M g) :
    GoesTo P ops o a w fun v' w' => Chg M w w' ∧ new8 e (l ++ k) v' (fun b => M b ∨ (w.heap.size ≤ b ∧ b < w'.heap.size)) w' := by
  obtain ⟨v', w', hr, h2, h3, h4⟩ := run_append_src (P := P) ST o.type v l.length (bvs l) hown xv k.length (bvs k) hx (by unfold maxLen; omega) (by omega) hbase
  unfold GoesTo
  rw [if_pos (wanted_none hgd _)]
  unfold execOp
  simp only [ho, resolve, invoke, builtin, Sem.run_bind, Sem.run_pure, Result.andThen_ok, List.map_toArray, List.map_cons, List.map_nil, hs, hxv, hr]
  have ho' : Own8 w' base e v' (l ++ k) := by unfold Own8; rw [bvs_append, List.length_append]; exact h2
  refine ⟨Chg.grown h3 hM, ho'.mono (Nat.zero_le _), fun g hg => ?_⟩
  rcases h4 with h4 | h4
  · exact .inl (hM g (by rw [← h4]; exact hg))
  · rw [h4] at hg; cases hg
    exact .inr ⟨Nat.le_refl _, ho'.lt _ h4⟩
def hmacI (k m : List UInt8) : List UInt8 := shaI (padX k 0x5c ++ shaI (padX k 0x36 ++ m))
theorem hmacI_len (k m : List UInt8) : (hmacI k m).length = 32 := shaI_len _
set_option maxRecDepth 100000 in
set_option maxHeartbeats 800000 in
theorem hmac_c (v u : Value) (k m : List UInt8) (w : World) (h : Rd w v k) (hm : Rd w u m) (hk : k.length ≤ 1000000) (hml : m.length ≤ 900000) :
    Calls Tryd.prog 76 #[v, u] w (GivesB w (hmacI k m)) := by
  have P1 := fun w' hb => padded_c v k 0x36 w' (h.below (w' := w') hb) hk
  have P2 := fun w' hb => padded_c v k 0x5c w' (h.below (w' := w') hb) hk
  have l1 := padX_len k 0x36
  have l2 := padX_len k 0x5c
  unfold Gives8 at P1
  generalize hR : hmacI k m = R
  unfold hmacI at hR
  generalize padX k 0x36 = X at *
  generalize padX k 0x5c = Y at *
  have S1 := fun v' w' hv' => sha_c v' (X ++ m) w' hv' (by simp; omega)
  have n1 := shaI_len (X ++ m)
  generalize shaI (X ++ m) = H at *
  have S2 := fun v' w' hv' => sha_c v' (Y ++ H) w' hv' (by simp; omega)
  have n2 := shaI_len (Y ++ H)
  rw [hR] at S2 n2
  unfold GivesB at S1
  have nH : (bvs H).length = 32 := by rw [bvs_length]; exact n1
  have oH := bvs_one H
  have nR : (bvs R).length = 32 := by rw [bvs_length]; exact n2
  have oR := bvs_one R
  clear hR
  go_enter Tryd.func76, Tryd.ntmps76
  have t1 : True := trivial
  go_wp2_with (first
    | (have _t := t1; (with_reducible refine G_alloc ?_; refine L_alloc z32 ?_); intro wa hka hba hsa; clear t1)
    | (go_at_call 115; refine (P1 _ hba).mono ?_; rintro e wb ⟨p, rfl, hob, hbb⟩; have hbb2 := below_below hba hbb; have hm2 := hm.below hbb2; have hbz := hbb.size)
    | ((at_builtin; refine wpList_app8 rfl _ _ rfl st8 (by with_unfolding_all (conv => lhs; whnf)) hob rfl (Rd.src hm2 Tryd.underlying37) (by first | omega | (simp; omega)) (by first | (simp; done) | omega | (simp; omega)) ?_); intro q wc hoc hgc hqc)
    | (go_at_call 75; refine (S1 _ _ hoc.rd).mono ?_; rintro e wd ⟨rfl, hbd⟩)
    | ((with_reducible refine G_alloc ?_; refine L_alloc z32 ?_); intro we hke hbe hse)
    | ((with_reducible refine G_store ?_; refine L_store_agg ag32 (by with_unfolding_all (conv => lhs; whnf)) (by with_unfolding_all (conv => lhs; whnf)) hke rfl (by simpa using nH) (fun u hu => oH u (by simpa using hu)) ?_); intro wf hkf hgf hsf))
  have hw := app_step0 hbb2 hob hba.size hgc
  have hkc := hw.2 _ _ _ (hka.below hbb) (by omega)
  have hbd2 := below_below hw.1 hbd
  have hbe2 := below_below hbd2 hbe
  have hbf : Below w.heap.size w wf := hbe2.grown hgf hbe2.size (by intro k hk; cases hk; exact hbd2.size)
  have hkd := hkc.below hbd
  have hlt := hkd.lt
  have hk4 := (hkd.below hbe).grown hgf (by simp; omega)
  have hk5 : Blk wf wd.heap.size 40 (bvs H) := by simpa using hkf
  have hlt5 := hbd2.size
  generalize wd.heap.size = g5 at *
  clear hw hkc hbd2 hbe2 hbe hse hke hkf hgf hsf hbd hkd hoc hgc hqc hob hbb hbb2 hm2 hbz hm S1 P1 hka hba hsa
  have e1 : ∀ wg, Below wf.drew.heap.size wf.drew wg → Rd wg (.slice (some ⟨g5, 0, none⟩) 32 32) H := fun wg hbg => (hk5.drew.below hbg).rd (by omega) n1.symm n1.symm
  refine region_making 5 (fun | 3 => [1] | _ => []) (fun | 1 => some fun _ => new8 5 Y | 3 => some fun _ => new8 5 (Y ++ H) | 4 => some fun _ => isV (.agg (bvs R).toArray) | _ => none) (by kernel_rfl) (by kernel_rfl) ?_ ?_
  · intro i' S' h' e v'
    match i', h' with
    | 1, h' => cases h'; exact new8_loc _ _ _ _
    | 3, h' => cases h'; exact new8_loc _ _ _ _
    | 4, h' => cases h'; exact isV_loc _ _ _
  simp only [List.take_succ_cons, List.take_zero, List.drop_succ_cons, List.drop_zero]
  (apply wpG_pure; (focus rfl); (focus (intro wg Bg hbg hBg hFg; go_simp; (try go_bits); (first | done | exact ⟨rfl, Below.refl _ _⟩ | rfl))); simp only [Act.put, List.setIfInBounds_toArray, List.set_cons_succ, List.set_cons_zero])
  (apply wpG_make; (focus rfl); (focus (intro wg Bg hbg hBg hFg; go_simp; go_at_call 115; exact Calls.mono (P2 _ (below_below hbf.drew hbg)) (fun e w' h => (by obtain ⟨u, rfl, ho, hb⟩ := h; exact ⟨u, rfl, Chg.of_below hb, ⟨ho.mono (Nat.zero_le _), fun g hg => (by first | exact .inr ⟨ho.base_le g hg, ho.lt g hg⟩ | exact ⟨ho.base_le g hg, ho.lt g hg⟩)⟩⟩)))); intro v1; simp only [Act.put, List.setIfInBounds_toArray, List.set_cons_succ, List.set_cons_zero])
  (apply wpG_pure; (focus rfl); (focus (intro wg Bg hbg hBg hFg; go_simp; (try go_bits); (first | done | exact ⟨rfl, Below.refl _ _⟩ | rfl))); simp only [Act.put, List.setIfInBounds_toArray, List.set_cons_succ, List.set_cons_zero])
  (apply wpG_make; (focus rfl); (focus (intro wg Bg hbg hBg hFg; have hN := hFg 1 (by decide +kernel); exact goesTo_app8 rfl _ _ rfl st8 (by with_unfolding_all (conv => lhs; whnf)) (id hN).1 (by with_unfolding_all (conv => lhs; whnf)) (Rd.src (e1 wg hbg) Tryd.underlying37) (by first | omega | (simp; omega)) (Nat.zero_le _) (fun g hg => ⟨1, by simp, (id hN).2 g hg⟩))); intro v2; simp only [Act.put, List.setIfInBounds_toArray, List.set_cons_succ, List.set_cons_zero])
  (apply wpG_make; (focus rfl); (focus (intro wg Bg hbg hBg hFg; go_simp; go_at_call 75; exact Calls.mono (S2 v2 _ (Own8.rd (hFg 3 (by decide +kernel) : new8 5 (Y ++ H) v2 (Bg 3) wg).1)) (fun e w' h => ⟨_, h.1, Chg.of_below h.2, rfl⟩))); intro vB; simp only [Act.put, List.setIfInBounds_toArray, List.set_cons_succ, List.set_cons_zero])
  refine wpG_end (fun wg Bg hbg hBg hFg => ?_)
  obtain rfl : vB = .agg (bvs R).toArray := hFg 4
  have hk4g := hk4.drew.below hbg
  have hbfg := below_below hbf.drew hbg
  clear hFg hBg hbg
  generalize hRR : bvs R = RR at *
  go_wp2_with (first | ((with_reducible refine G_store ?_; refine L_store_agg ag32 (by with_unfolding_all (conv => lhs; whnf)) (by with_unfolding_all (conv => lhs; whnf)) hk4g rfl (by simpa using nR) (fun u hu => oR u (by simpa using hu)) ?_); intro wz hkz hgz hsz))
  exact ret_agg (cs := RR) rfl ag32 rfl rfl (by simpa using hkz) nR ⟨by rw [← hRR], hbfg.grown hgz hbfg.size (by intro k hk; cases hk; omega)⟩
end Go.Proofs.YtfnlcnjflloecaaDoor
