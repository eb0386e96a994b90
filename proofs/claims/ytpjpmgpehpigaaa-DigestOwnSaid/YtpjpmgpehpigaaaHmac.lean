/- digest.Hmac: what it answers. -/
import Derived.Test.YtpjpmgpehpigaaaPadded
set_option linter.unusedVariables false
set_option linter.unusedSimpArgs false
namespace Go.Proofs.Ytpjpmgpehpigaaa
open Go.RowKit
theorem new8_of {w w' : World} {e : TypeId} {l : List UInt8} {u : Value} {M : Nat → Prop} (ho : Own8 w' w.heap.size e u l) : new8 e l u (fun b => M b ∨ (w.heap.size ≤ b ∧ b < w'.heap.size)) w' :=
  ⟨ho.mono (Nat.zero_le _), fun g hg => .inr ⟨ho.base_le g hg, ho.lt g hg⟩⟩
theorem goesTo_app8 {P : Program} {w : World} {ops : Array Oper} {a : Act} {M : Nat → Prop} {base : Nat} {t tx e : TypeId} {o : Oper} (hgd : o.guard = none) (s x : Operand)
    (ho : o.op = .call { callee := .builtin .append, args := #[s, x], argTypes := #[t, tx] }) (ST : SlTy P t e 1 1 (.int .u8 0))
    {v : Value} (hs : a.eval s = v) {l : List UInt8} (hown : Own8 w base e v l)
    {xv : Value} (hxv : a.eval x = xv) {k : List UInt8} (hx : Src P 1 tx xv k.length (bvs k) w) (hbytes : l.length + k.length ≤ 140737488355328) (hbase : base ≤ w.heap.size) (hM : ∀ g, v.ownBlock = some g → M g) :
    GoesTo P ops o a w fun v' w' => Chg M w w' ∧ new8 e (l ++ k) v' (fun b => M b ∨ (w.heap.size ≤ b ∧ b < w'.heap.size)) w' := by
  obtain ⟨v', w', hr, h2, h3, h4⟩ := run_append_src (P := P) ST o.type v l.length (bvs l) hown xv k.length (bvs k) hx (by unfold maxLen; omega) (by omega) hbase
  unfold GoesTo
  rw [if_pos (wanted_none hgd _)]
  unfold execOp
  simp only [ho, resolve, invoke, builtin, Sem.run_bind, Sem.run_pure, Result.andThen_ok, List.map_toArray, List.map_cons, List.map_nil, hs, hxv, hr]
  have ho' : Own8 w' base e v' (l ++ k) := by unfold Own8; rw [bvs_append, List.length_append]; exact h2
  refine ⟨Chg.grown h3 hM, ho'.mono (Nat.zero_le _), fun g hg => ?_⟩
  rcases h4 with h4 | h4
  · exact .inl (hM g (by rw [← h4]; exact hg))
  · rw [h4] at hg; cases hg
    exact .inr ⟨Nat.le_refl _, ho'.lt _ h4⟩
def hmacI (k m : List UInt8) : List UInt8 := shaI (padX k 0x5c ++ shaI (padX k 0x36 ++ m))
theorem hmacI_len (k m : List UInt8) : (hmacI k m).length = 32 := shaI_len _
set_option maxRecDepth 100000 in
set_option maxHeartbeats 800000 in
theorem hmac_c (v u : Value) (k m : List UInt8) (w : World) (h : Rd w v k) (hm : Rd w u m) (hk : k.length ≤ 1000000) (hml : m.length ≤ 900000) :
    Calls Try.prog 26 #[v, u] w (GivesB w (hmacI k m)) := by
  have P1 := fun w' hb => padded_c v k 0x36 w' (h.below (w' := w') hb) hk
  have P2 := fun w' hb => padded_c v k 0x5c w' (h.below (w' := w') hb) hk
  have l1 := padX_len k 0x36
  have l2 := padX_len k 0x5c
  unfold Gives8 at P1
  generalize hR : hmacI k m = R
  unfold hmacI at hR
  generalize padX k 0x36 = X at *
  generalize padX k 0x5c = Y at *
  have S1 := fun v' w' hv' => sha_c v' (X ++ m) w' hv' (by simp; omega)
  have n1 := shaI_len (X ++ m)
  generalize shaI (X ++ m) = H at *
  have S2 := fun v' w' hv' => sha_c v' (Y ++ H) w' hv' (by simp; omega)
  have n2 := shaI_len (Y ++ H)
  rw [hR] at S2 n2
  unfold GivesB at S1
  have nH : (bvs H).length = 32 := by rw [bvs_length]; exact n1
  have oH := bvs_one H
  have nR : (bvs R).length = 32 := by rw [bvs_length]; exact n2
  have oR := bvs_one R
  clear hR
  go_enter Try.func26, Try.ntmps26
  have t1 : True := trivial
  go_wp2_with (first
    | (have _t := t1; (with_reducible refine G_alloc ?_; refine L_alloc z32 ?_); intro wa hka hba hsa; clear t1)
    | (go_at_call 45; refine (P1 _ hba).mono ?_; rintro e wb ⟨p, rfl, hob, hbb⟩; have hbb2 := below_below hba hbb; have hm2 := hm.below hbb2; have hbz := hbb.size)
    | ((at_builtin; refine wpList_app8 rfl _ _ rfl st8 rfl hob rfl (Rd.src hm2 Try.underlying23) (by first | omega | (simp; omega)) (by first | (simp; done) | omega | (simp; omega)) ?_); intro q wc hoc hgc hqc)
    | (go_at_call 21; refine (S1 _ _ hoc.rd).mono ?_; rintro e wd ⟨rfl, hbd⟩)
    | ((with_reducible refine G_alloc ?_; refine L_alloc z32 ?_); intro we hke hbe hse)
    | ((with_reducible refine G_store ?_; refine L_store_agg ag32 (by with_unfolding_all (conv => lhs; whnf)) (by with_unfolding_all (conv => lhs; whnf)) hke rfl (by simpa using nH) (fun u hu => oH u (by simpa using hu)) ?_); intro wf hkf hgf hsf))
  have hw := app_step0 hbb2 hob hba.size hgc
  have hkc := hw.2 _ _ _ (hka.below hbb) (by omega)
  have hbd2 := below_below hw.1 hbd
  have hbe2 := below_below hbd2 hbe
  have hbf : Below w.heap.size w wf := hbe2.grown hgf hbe2.size (by intro k hk; cases hk; exact hbd2.size)
  have hkd := hkc.below hbd
  have hlt := hkd.lt
  have hk4 := (hkd.below hbe).grown hgf (by simp; omega)
  have hk5 : Blk wf wd.heap.size 33 (bvs H) := by simpa using hkf
  have hlt5 := hbd2.size
  generalize wd.heap.size = g5 at *
  clear hw hkc hbd2 hbe2 hbe hse hke hkf hgf hsf hbd hkd hoc hgc hqc hob hbb hbb2 hm2 hbz hm S1 P1 hka hba hsa
  have e1 : ∀ wg, Below wf.drew.heap.size wf.drew wg → Rd wg (.slice (some ⟨g5, 0, none⟩) 32 32) H := fun wg hbg => (hk5.drew.below hbg).rd (by omega) n1.symm n1.symm
  refine region_making 5 (fun | 3 => [1] | _ => []) (fun | 1 => some fun _ => new8 5 Y | 3 => some fun _ => new8 5 (Y ++ H) | 4 => some fun _ => isV (.agg (bvs R).toArray) | _ => none) (by kernel_rfl) (by kernel_rfl) ?_ ?_
  · intro i' S' h' e v'
    match i', h' with
    | 1, h' => cases h'; exact new8_loc _ _ _ _
    | 3, h' => cases h'; exact new8_loc _ _ _ _
    | 4, h' => cases h'; exact isV_loc _ _ _
  simp only [List.take_succ_cons, List.take_zero, List.drop_succ_cons, List.drop_zero]
  (apply wpG_pure; (focus rfl); (focus (intro wg Bg hbg hBg hFg; go_simp; (try go_bits); (first | done | exact ⟨rfl, Below.refl _ _⟩ | rfl))); simp only [Act.put, List.setIfInBounds_toArray, List.set_cons_succ, List.set_cons_zero])
  (apply wpG_make; (focus rfl); (focus (intro wg Bg hbg hBg hFg; go_simp; go_at_call 45; exact Calls.mono (P2 _ (below_below hbf.drew hbg)) (fun e w' h => (by obtain ⟨u, rfl, ho, hb⟩ := h; exact ⟨u, rfl, Chg.of_below hb, ⟨ho.mono (Nat.zero_le _), fun g hg => (by first | exact .inr ⟨ho.base_le g hg, ho.lt g hg⟩ | exact ⟨ho.base_le g hg, ho.lt g hg⟩)⟩⟩)))); intro v1; simp only [Act.put, List.setIfInBounds_toArray, List.set_cons_succ, List.set_cons_zero])
  (apply wpG_pure; (focus rfl); (focus (intro wg Bg hbg hBg hFg; go_simp; (try go_bits); (first | done | exact ⟨rfl, Below.refl _ _⟩ | rfl))); simp only [Act.put, List.setIfInBounds_toArray, List.set_cons_succ, List.set_cons_zero])
  (apply wpG_make; (focus rfl); (focus (intro wg Bg hbg hBg hFg; have hN := hFg 1 (by decide +kernel); exact goesTo_app8 rfl _ _ rfl st8 (by with_unfolding_all (conv => lhs; whnf)) (id hN).1 (by with_unfolding_all (conv => lhs; whnf)) (Rd.src (e1 wg hbg) Try.underlying23) (by first | omega | (simp; omega)) (Nat.zero_le _) (fun g hg => ⟨1, by simp, (id hN).2 g hg⟩))); intro v2; simp only [Act.put, List.setIfInBounds_toArray, List.set_cons_succ, List.set_cons_zero])
  (apply wpG_make; (focus rfl); (focus (intro wg Bg hbg hBg hFg; go_simp; go_at_call 21; exact Calls.mono (S2 v2 _ (Own8.rd (hFg 3 (by decide +kernel) : new8 5 (Y ++ H) v2 (Bg 3) wg).1)) (fun e w' h => ⟨_, h.1, Chg.of_below h.2, rfl⟩))); intro vB; simp only [Act.put, List.setIfInBounds_toArray, List.set_cons_succ, List.set_cons_zero])
  refine wpG_end (fun wg Bg hbg hBg hFg => ?_)
  obtain rfl : vB = .agg (bvs R).toArray := hFg 4
  have hk4g := hk4.drew.below hbg
  have hbfg := below_below hbf.drew hbg
  clear hFg hBg hbg
  generalize hRR : bvs R = RR at *
  go_wp2_with (first | ((with_reducible refine G_store ?_; refine L_store_agg ag32 (by with_unfolding_all (conv => lhs; whnf)) (by with_unfolding_all (conv => lhs; whnf)) hk4g rfl (by simpa using nR) (fun u hu => oR u (by simpa using hu)) ?_); intro wz hkz hgz hsz))
  exact ret_agg (cs := RR) rfl ag32 rfl rfl (by simpa using hkz) nR ⟨by rw [← hRR], hbfg.grown hgz hbfg.size (by intro k hk; cases hk; omega)⟩
end Go.Proofs.Ytpjpmgpehpigaaa
