/- digest.mix: a block mixed into the state. -/
import Derived.Test.YtpjpmgpehpigaaaDig2
set_option linter.unusedVariables false
set_option linter.unusedSimpArgs false
namespace Go.Proofs.Ytpjpmgpehpigaaa
open Go.RowKit
structure S8 where
  (a b c d e f g h : Int)
def S8.l (s : S8) : List Int := [s.a, s.b, s.c, s.d, s.e, s.f, s.g, s.h]
def S8.ok (s : S8) : Prop := U32 s.a ∧ U32 s.b ∧ U32 s.c ∧ U32 s.d ∧ U32 s.e ∧ U32 s.f ∧ U32 s.g ∧ U32 s.h
def sg1 (e f g h k w : Int) : Int := (h + bits .xor .u32 (bits .xor .u32 (rotI e 6) (rotI e 11)) (rotI e 25) + bits .xor .u32 (bits .and .u32 e f) (bits .and .u32 (bits .xor .u32 IntKind.u32.max e) g) + k + w) % 4294967296
def sg2 (a b c : Int) : Int := (bits .xor .u32 (bits .xor .u32 (rotI a 2) (rotI a 13)) (rotI a 22) + bits .xor .u32 (bits .xor .u32 (bits .and .u32 a b) (bits .and .u32 a c)) (bits .and .u32 b c)) % 4294967296
theorem sg1_eq (e f g h k w : Int) : sg1 e f g h k w = (h + bits .xor .u32 (bits .xor .u32 (rotI e 6) (rotI e 11)) (rotI e 25) + bits .xor .u32 (bits .and .u32 e f) (bits .and .u32 (bits .xor .u32 IntKind.u32.max e) g) + k + w) % 4294967296 := rfl
theorem sg2_eq (a b c : Int) : sg2 a b c = (bits .xor .u32 (bits .xor .u32 (rotI a 2) (rotI a 13)) (rotI a 22) + bits .xor .u32 (bits .xor .u32 (bits .and .u32 a b) (bits .and .u32 a c)) (bits .and .u32 b c)) % 4294967296 := rfl
theorem sg1_u (e f g h k w : Int) : U32 (sg1 e f g h k w) := mod_u _
theorem sg2_u (a b c : Int) : U32 (sg2 a b c) := mod_u _
def S8.turn (s : S8) (T1 T2 : Int) : S8 := ⟨(T1 + T2) % 4294967296, s.a, s.b, s.c, (s.d + T1) % 4294967296, s.e, s.f, s.g⟩
def S8.step (s : S8) (k w : Int) : S8 := s.turn (sg1 s.e s.f s.g s.h k w) (sg2 s.a s.b s.c)
def rounds (s : S8) (ws : List Int) : Nat → S8
  | 0 => s
  | t + 1 => (rounds s ws t).step (kI.getD t 0) (ws.getD t 0)
theorem S8.step_ok {s : S8} (h : s.ok) (k w : Int) : (s.step k w).ok := ⟨mod_u _, h.1, h.2.1, h.2.2.1, mod_u _, h.2.2.2.2.1, h.2.2.2.2.2.1, h.2.2.2.2.2.2.1⟩
theorem rounds_ok {s : S8} (h : s.ok) (ws : List Int) (t : Nat) : (rounds s ws t).ok := by
  induction t with
  | zero => exact h
  | succ t ih => exact S8.step_ok ih _ _
theorem kI_u : ∀ x ∈ kI, U32 x := by
  have : kI.all (fun x => decide (0 ≤ x ∧ x < 4294967296)) = true := by decide +kernel
  intro x h
  have := List.all_eq_true.1 this x h
  simpa [U32] using this
def S8.add (s r : S8) : S8 := ⟨(s.a + r.a) % 4294967296, (s.b + r.b) % 4294967296, (s.c + r.c) % 4294967296, (s.d + r.d) % 4294967296, (s.e + r.e) % 4294967296, (s.f + r.f) % 4294967296, (s.g + r.g) % 4294967296, (s.h + r.h) % 4294967296⟩
theorem S8.add_ok (s r : S8) : (s.add r).ok := ⟨mod_u _, mod_u _, mod_u _, mod_u _, mod_u _, mod_u _, mod_u _, mod_u _⟩
theorem S8.u {s : S8} (h : s.ok) : ∀ x ∈ s.l, U32 x := by
  intro x hx
  simp only [S8.l, List.mem_cons, List.not_mem_nil, or_false] at hx
  obtain ⟨h1, h2, h3, h4, h5, h6, h7, h8⟩ := h
  rcases hx with rfl | rfl | rfl | rfl | rfl | rfl | rfl | rfl <;> assumption
/-- The block's state is added to the old one, so many words of it. -/
def addL (s r : S8) (i : Nat) : List Int := ((s.add r).l).take i ++ (s.l).drop i
theorem addL_len (s r : S8) (i : Nat) (h : i ≤ 8) : (addL s r i).length = 8 := by
  have h1 : (s.add r).l.length = 8 := rfl
  have h2 : s.l.length = 8 := rfl
  simp [addL, h1, h2]; omega
theorem addL_get (s r : S8) (i : Nat) (h : i < 8) : (addL s r i).getD i 0 = s.l.getD i 0 := by
  match i, h with
  | 0, _ => rfl
  | 1, _ => rfl
  | 2, _ => rfl
  | 3, _ => rfl
  | 4, _ => rfl
  | 5, _ => rfl
  | 6, _ => rfl
  | 7, _ => rfl
theorem addL_set (s r : S8) (i : Nat) (h : i < 8) : (addL s r i).set i ((s.l.getD i 0 + r.l.getD i 0) % 4294967296) = addL s r (i + 1) := by
  match i, h with
  | 0, _ => rfl
  | 1, _ => rfl
  | 2, _ => rfl
  | 3, _ => rfl
  | 4, _ => rfl
  | 5, _ => rfl
  | 6, _ => rfl
  | 7, _ => rfl
def mixS (s : S8) (b : List UInt8) : S8 := s.add (rounds s (wl b 64) 64)
def AddRel (s r : S8) (w : World) (g7 : Nat) (i : Value) (wr : World) : Prop :=
  ∃ t : Nat, t ≤ 8 ∧ i = .int .i64 t ∧ Blk wr g7 63 (u32s r.l) ∧ Blk wr w.heap.size 63 (u32s (addL s r t)) ∧ Blk wr (w.heap.size + 1) 63 (u32s (List.replicate 8 0)) ∧ Below w.heap.size w wr
def MixRel (s : S8) (ws : List Int) (w : World) (g5 g6 g7 : Nat) (i : Value) (wr : World) : Prop :=
  ∃ t : Nat, t ≤ 64 ∧ i = .int .i64 t ∧ Blk wr g5 66 (u32s ws) ∧ Blk wr g6 66 (u32s kI) ∧ Blk wr g7 63 (u32s (rounds s ws t).l) ∧ Blk wr w.heap.size 63 (u32s s.l) ∧ Blk wr (w.heap.size + 1) 63 (u32s (List.replicate 8 0)) ∧ Below w.heap.size w wr
set_option maxRecDepth 100000 in
set_option maxHeartbeats 1600000 in
theorem mix_c (s : S8) (hs : s.ok) (v : Value) (l : List UInt8) (w : World) (h : Rd w v l) (hl : l.length = 64) :
    Calls Try.prog 41 #[.agg (u32s s.l).toArray, v] w (GivesW w (mixS s l).l) := by
  have n8 : (u32s s.l).length = 8 := rfl
  have one8 : ∀ u ∈ u32s s.l, u.oneCell' = true := u32s_one _
  have hws := wl_len l 64
  have huw := wl_u l 64
  have HW := fun w' hb => words_c v l w' (h.below (w' := w') hb) hl
  unfold mixS
  generalize wl l 64 = ws at *
  have nW : (u32s ws).length = 64 := by rw [u32s_length, hws]
  have nK : (u32s kI).length = 64 := rfl
  have oneW := u32s_one ws
  have oneK := u32s_one kI
  have HR := round_c
  unfold GivesW at HW HR
  generalize hsl : u32s s.l = S at *
  generalize hWl : u32s ws = W at *
  generalize hKl : u32s kI = K at *
  go_enter Try.func41, Try.ntmps41
  go_wp2_with (first | ((with_reducible refine G_alloc ?_; refine L_alloc z8 ?_); intro wa hka hba hsa) | ((with_reducible refine G_box ?_; refine L_box (by with_unfolding_all (conv => lhs; whnf)) ?_); intro wb hkb hbb hsb))
  have hk2 := hkb.below hba
  have hb2 := below_below hbb hba
  rw [hsb] at hka
  clear hkb hba hbb
  refine region_making 10 (fun | 7 => [4] | 8 => [5] | 9 => [6] | _ => []) (fun | 1 => some fun _ => isV (.agg W.toArray) | 2 => some fun _ => isV (.agg K.toArray) | 4 => some fun _ => newBlk 66 (u32s (List.replicate 64 0)) | 5 => some fun _ => newBlk 66 (u32s (List.replicate 64 0)) | 6 => some fun _ => newBlk 63 (u32s (List.replicate 8 0)) | 7 => some fun e => stBlk 66 W (e 5) | 8 => some fun e => stBlk 66 K (e 6) | 9 => some fun e => stBlk 63 S (e 7) | _ => none) (by kernel_rfl) (by kernel_rfl) ?_ ?_
  · intro i S' h e v'
    match i, h with
    | 1, h => cases h; exact isV_loc _ _ _
    | 2, h => cases h; exact isV_loc _ _ _
    | 4, h => cases h; exact newBlk_loc _ _ _ _
    | 5, h => cases h; exact newBlk_loc _ _ _ _
    | 6, h => cases h; exact newBlk_loc _ _ _ _
    | 7, h => cases h; exact stBlk_loc _ _ _ _ _
    | 8, h => cases h; exact stBlk_loc _ _ _ _ _
    | 9, h => cases h; exact stBlk_loc _ _ _ _ _
  simp only [List.take_succ_cons, List.take_zero, List.drop_succ_cons, List.drop_zero]
  (apply wpG_pure; (focus rfl); (focus (intro wg Bg hbg hBg hFg; go_simp; (try go_bits); (first | done | exact ⟨rfl, Below.refl _ _⟩ | rfl))); simp only [Act.put, List.setIfInBounds_toArray, List.set_cons_succ, List.set_cons_zero])
  (apply wpG_make; (focus rfl); (focus (intro wg Bg hbg hBg hFg; go_simp; go_at_call 49; exact Calls.mono (HW _ (below_below hb2.drew hbg)) (fun e w' h => ⟨_, h.1, Chg.of_below h.2, rfl⟩))); intro v1; simp only [Act.put, List.setIfInBounds_toArray, List.set_cons_succ, List.set_cons_zero])
  (apply wpG_make; (focus rfl); (focus (intro wg Bg hbg hBg hFg; go_simp; go_at_call 50; exact Calls.mono (HR _) (fun e w' h => ⟨_, h.1, Chg.of_below h.2, rfl⟩))); intro v2; simp only [Act.put, List.setIfInBounds_toArray, List.set_cons_succ, List.set_cons_zero])
  (apply wpG_pure; (focus rfl); (focus (intro wg Bg hbg hBg hFg; exact pureTo_load_agg ag8 (by with_unfolding_all (conv => lhs; whnf)) (hk2.drew.below hbg) n8)); simp only [Act.put, List.setIfInBounds_toArray, List.set_cons_succ, List.set_cons_zero])
  (apply wpG_make; (focus rfl); (focus (intro wg Bg hbg hBg hFg; exact goesTo_alloc z64)); intro v5; simp only [Act.put, List.setIfInBounds_toArray, List.set_cons_succ, List.set_cons_zero])
  (apply wpG_make; (focus rfl); (focus (intro wg Bg hbg hBg hFg; exact goesTo_alloc z64)); intro v6; simp only [Act.put, List.setIfInBounds_toArray, List.set_cons_succ, List.set_cons_zero])
  (apply wpG_make; (focus rfl); (focus (intro wg Bg hbg hBg hFg; exact goesTo_alloc z8)); intro v7; simp only [Act.put, List.setIfInBounds_toArray, List.set_cons_succ, List.set_cons_zero])
  (apply wpG_make; (focus rfl); (focus (intro wg Bg hbg hBg hFg; ((obtain ⟨g, rfl, hM, hgb⟩ : newBlk 66 (u32s (List.replicate 64 0)) v5 (Bg 4) wg := hFg 4 (by decide +kernel); have hM := (⟨4, by simp, hM⟩ : ∃ j ∈ [4], Bg j g)); (have e1 : v1 = .agg W.toArray := hFg 1 (by decide +kernel); subst e1)); exact goesTo_store_agg (cs' := (W).toArray) ag64 (by with_unfolding_all (conv => lhs; whnf)) rfl (by assumption) rfl (by simpa using nW) (fun u hu => oneW u (by simpa using hu)) (by assumption) (by kernel_rfl))); intro _; simp only [Act.put])
  (apply wpG_make; (focus rfl); (focus (intro wg Bg hbg hBg hFg; ((obtain ⟨g, rfl, hM, hgb⟩ : newBlk 66 (u32s (List.replicate 64 0)) v6 (Bg 5) wg := hFg 5 (by decide +kernel); have hM := (⟨5, by simp, hM⟩ : ∃ j ∈ [5], Bg j g)); (have e1 : v2 = .agg K.toArray := hFg 2 (by decide +kernel); subst e1)); exact goesTo_store_agg (cs' := (K).toArray) ag64 (by with_unfolding_all (conv => lhs; whnf)) rfl (by assumption) rfl (by simpa using nK) (fun u hu => oneK u (by simpa using hu)) (by assumption) (by kernel_rfl))); intro _; simp only [Act.put])
  (apply wpG_make; (focus rfl); (focus (intro wg Bg hbg hBg hFg; (obtain ⟨g, rfl, hM, hgb⟩ : newBlk 63 (u32s (List.replicate 8 0)) v7 (Bg 6) wg := hFg 6 (by decide +kernel); have hM := (⟨6, by simp, hM⟩ : ∃ j ∈ [6], Bg j g)); exact goesTo_store_agg (cs' := (S).toArray) ag8 (by with_unfolding_all (conv => lhs; whnf)) rfl (by assumption) rfl (by simpa using n8) (fun u hu => one8 u (by simpa using hu)) (by assumption) (by kernel_rfl))); intro _; simp only [Act.put])
  refine wpG_end (fun wg Bg hbg hBg hFg => ?_)
  obtain ⟨g5, e5, hB5, hk5⟩ : stBlk 66 W v5 undef (Bg 7) wg := hFg 7
  obtain ⟨g6, e6, hB6, hk6⟩ : stBlk 66 K v6 undef (Bg 8) wg := hFg 8
  obtain ⟨g7, e7, hB7, hk7⟩ : stBlk 63 S v7 undef (Bg 9) wg := hFg 9
  subst e5 e6 e7
  have hbw := below_below hb2.drew hbg
  have hk2w := hk2.drew.below hbg
  have hk4w := hka.drew.below hbg
  have lo5 : wa.heap.size ≤ g5 := hBg.lo _ _ hB5
  have lo6 : wa.heap.size ≤ g6 := hBg.lo _ _ hB6
  have lo7 : wa.heap.size ≤ g7 := hBg.lo _ _ hB7
  have d57 : g5 ≠ g7 := fun e => by subst e; have := hBg.apart _ _ _ hB5 hB7; omega
  have d67 : g6 ≠ g7 := fun e => by subst e; have := hBg.apart _ _ _ hB6 hB7; omega
  rw [hsa, hsb] at lo5 lo6 lo7
  clear hFg hBg hB5 hB6 hB7 hbg hk2 hka hb2 HW HR hsa hsb
  subst hsl hWl hKl
  clear h
  go_wp2
  go_loopw [18] (fun i wr => MixRel s ws w g5 g6 g7 i wr) (fun i _ => 64 - (intOf i).toNat)
  case atStart => exact ⟨0, by omega, rfl, hk5, hk6, hk7, hk2w, hk4w, hbw⟩
  case round =>
    clear hk5 hk6 hk7 hk2w hk4w hbw
    obtain ⟨t, ht, rfl, hk5, hk6, hk7, hk2, hk4, hbr⟩ := hrel
    by_cases hlt : t < 64
    · have hrs := rounds_ok hs ws t
      have hset : (rounds s ws t).step (kI.getD t 0) (ws.getD t 0) = rounds s ws (t + 1) := rfl
      generalize rounds s ws t = r at *
      have ue : U32 r.e := hrs.2.2.2.2.1
      have ua : U32 r.a := hrs.1
      obtain ⟨⟨p1, q1⟩, ⟨p2, q2⟩, ⟨p3, q3⟩, ⟨p4, q4⟩, ⟨p5, q5⟩, ⟨p6, q6⟩, ⟨p7, q7⟩, ⟨p8, q8⟩⟩ := hrs
      have c0 : wr.cell? ⟨g7, 0, none⟩ = some (.int .u32 r.a) := hk7.cell 0
      have c1 : wr.cell? ⟨g7, 1, none⟩ = some (.int .u32 r.b) := hk7.cell 1
      have c2 : wr.cell? ⟨g7, 2, none⟩ = some (.int .u32 r.c) := hk7.cell 2
      have c3 : wr.cell? ⟨g7, 3, none⟩ = some (.int .u32 r.d) := hk7.cell 3
      have c4 : wr.cell? ⟨g7, 4, none⟩ = some (.int .u32 r.e) := hk7.cell 4
      have c5 : wr.cell? ⟨g7, 5, none⟩ = some (.int .u32 r.f) := hk7.cell 5
      have c6 : wr.cell? ⟨g7, 6, none⟩ = some (.int .u32 r.g) := hk7.cell 6
      have c7 : wr.cell? ⟨g7, 7, none⟩ = some (.int .u32 r.h) := hk7.cell 7
      have ck : wr.cell? ⟨g6, t, none⟩ = some (.int .u32 (kI.getD t 0)) := by rw [hk6.cell, u32s_get _ _ (by exact hlt)]
      have cw : wr.cell? ⟨g5, t, none⟩ = some (.int .u32 (ws.getD t 0)) := by rw [hk5.cell, u32s_get _ _ (by omega)]
      have ⟨pk, qk⟩ := getD_u kI_u t
      have ⟨pw, qw⟩ := getD_u huw t
      generalize kI.getD t 0 = kt at *
      generalize ws.getD t 0 = wt at *
      go_wp2
      (refine region_still (by kernel_rfl) (by kernel_rfl) ?_; repeat (refine wpStill_step (fun K hK => ?_); go_simp; (try go_bits); refine hK _ ?_; clear hK K); try refine wpStill_nil ?_)
      go_wp2
      (refine region_still (by kernel_rfl) (by kernel_rfl) ?_; repeat (first | (refine wpStill_step (fun K hK => ?_); go_simp; refine ⟨_, (by go_at_call 51; exact (Calls.mono (right_any _ _ _ (by assumption) (by omega) (by omega)) (fun e w' h => ⟨h.1, h.2.symm⟩))), hK _ ?_⟩; clear hK K) | (refine wpStill_step (fun K hK => ?_); go_simp; (try go_bits); refine hK _ ?_; clear hK K)); try refine wpStill_nil ?_)
      go_wp2
      (refine region_still (by kernel_rfl) (by kernel_rfl) ?_; repeat (first | (refine wpStill_step (fun K hK => ?_); go_simp; refine ⟨_, (by go_at_call 51; exact (Calls.mono (right_any _ _ _ (by assumption) (by omega) (by omega)) (fun e w' h => ⟨h.1, h.2.symm⟩))), hK _ ?_⟩; clear hK K) | (refine wpStill_step (fun K hK => ?_); go_simp; (try go_bits); refine hK _ ?_; clear hK K)); try refine wpStill_nil ?_)
      rw [← sg1_eq, ← sg2_eq]
      have ⟨pS1, qS1⟩ := sg1_u r.e r.f r.g r.h kt wt
      have ⟨pS2, qS2⟩ := sg2_u r.a r.b r.c
      have hst : r.step kt wt = r.turn (sg1 r.e r.f r.g r.h kt wt) (sg2 r.a r.b r.c) := rfl
      generalize sg1 r.e r.f r.g r.h kt wt = T1 at *
      generalize sg2 r.a r.b r.c = T2 at *
      go_wp2_with (first | (with_reducible refine G_build ?_; refine L_build (u32s (r.turn T1 T2).l).toArray (by kernel_rfl) ?_) | ((with_reducible refine G_store ?_; refine L_store_agg ag8 (by with_unfolding_all (conv => lhs; whnf)) (by with_unfolding_all (conv => lhs; whnf)) (hk7.drew.drew.drew) rfl rfl (fun u hu => u32s_one _ u (by simpa using hu)) ?_); intro wn hkn hgn hsn))
      rw [← hst, hset] at hkn
      refine ⟨⟨t + 1, by omega, by go_num, hk5.drew.drew.drew.grown hgn (by simpa using d57), hk6.drew.drew.drew.grown hgn (by simpa using d67), by simpa using hkn, hk2.drew.drew.drew.grown hgn (by simp; omega), hk4.drew.drew.drew.grown hgn (by simp; omega), ?_⟩, by simp [intOf]; omega⟩
      exact hbr.drew.drew.drew.grown hgn hbr.drew.drew.drew.size (by intro k hk; cases hk; omega)
    · have hte := Go.Lib.hid (show t = 64 by omega)
      rw [hte.out] at hk7
      have hro := rounds_ok hs ws 64
      generalize rounds s ws 64 = r at *
      clear hk5 hk6
      go_wp2
      go_loopw [98] (fun i wr => AddRel s r w g7 i wr) (fun i _ => 8 - (intOf i).toNat)
      case atStart => exact ⟨0, by omega, rfl, hk7, hk2, hk4, hbr⟩
      case round =>
        clear hk7 hk2 hk4 hbr
        obtain ⟨i, hi, rfl, hk7, hk2, hk4, hbr⟩ := hrel
        by_cases hli : i < 8
        · have hlen := addL_len s r i hi
          have ⟨pa, qa⟩ := getD_u (S8.u hs) i
          have ⟨pb, qb⟩ := getD_u (S8.u hro) i
          have hset := Go.Lib.hid (addL_set s r i hli)
          have ca : wr.cell? ⟨w.heap.size, i, none⟩ = some (.int .u32 (s.l.getD i 0)) := by rw [hk2.cell, u32s_get _ _ (by omega), addL_get _ _ _ hli]
          have cb : wr.cell? ⟨g7, i, none⟩ = some (.int .u32 (r.l.getD i 0)) := by rw [hk7.cell, u32s_get _ _ (by exact hli)]
          have hfz := hk2.frozen i
          generalize s.l.getD i 0 = x at *
          generalize r.l.getD i 0 = y at *
          have i1 : (0 : Int) ≤ i := by omega
          have i2 : (i : Int) < 8 := by omega
          go_wp2
          (refine region_tail 8 (by kernel_rfl) (by kernel_rfl) ?_; simp only [List.take_succ_cons, List.take_zero, List.drop_succ_cons, List.drop_zero]; repeat (refine wpStill_step (fun K hK => ?_); go_simp; (try go_bits); refine hK _ ?_; clear hK K); try refine wpStill_nil ?_)
          go_wp2
          refine ⟨⟨i + 1, by omega, by go_num, hk7.drew.other (by show g7 ≠ w.heap.size; omega) _, ?_, hk4.drew.other (by show w.heap.size + 1 ≠ w.heap.size; omega) _, hbr.drew.setCell (by show w.heap.size ≤ w.heap.size; omega) _⟩, by simp [intOf]; omega⟩
          have := hk2.drew.stored i (.int .u32 ((x + y) % 4294967296))
          rw [u32s_set, hset.out] at this
          exact this
        · have hie : i = 8 := by omega
          have hae : addL s r i = (s.add r).l := by rw [hie]; rfl
          clear hie
          rw [hae] at hk2
          have n8' : (u32s (s.add r).l).length = 8 := rfl
          have o8' := u32s_one (s.add r).l
          generalize (s.add r).l = ws' at *
          go_wp2_with (first | (with_reducible refine G_load ?_; refine L_load_agg ag8 (by with_unfolding_all (conv => lhs; whnf)) (by assumption) n8' ?_) | ((with_reducible refine G_store ?_; refine L_store_agg ag8 (by with_unfolding_all (conv => lhs; whnf)) (by with_unfolding_all (conv => lhs; whnf)) hk4 rfl (by simpa using n8') (fun u hu => o8' u (by simpa using hu)) ?_); intro wz hkz hgz hsz))
          exact ret_agg (cs := u32s ws') rfl ag8 rfl rfl (by simpa using hkz) n8' ⟨rfl, hbr.grown hgz hbr.size (by intro k hk; cases hk; omega)⟩
end Go.Proofs.Ytpjpmgpehpigaaa
