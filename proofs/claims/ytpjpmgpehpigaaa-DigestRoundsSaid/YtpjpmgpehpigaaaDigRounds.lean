/- DigestRounds. -/
import Derived.Test.YtpjpmgpehpigaaaDigHi
set_option linter.unusedVariables false
set_option linter.unusedSimpArgs false
namespace Go.Proofs.Ytpjpmgpehpigaaa
open Go.RowKit
theorem xor_self (a : List UInt8) (h : a.length = 32) : xorI a a = List.replicate 32 0 := by
  unfold xorI
  rw [List.zipWith_self, ← h]
  clear h
  induction a with
  | nil => rfl
  | cons x a ih => rw [List.map_cons, ih, UInt8.xor_self, List.length_cons, List.replicate_succ]
theorem rounds_m (n : Int) : ∃ M : Nat, M < 30 ∧ wrap64 ((wrap64 (n.tmod 30 + 30)).tmod 30 + 1) = (M : Int) + 1 := by
  have h1 := Int.lt_tmod_of_pos n (show (0 : Int) < 30 by omega)
  have h2 := Int.tmod_lt_of_pos n (show (0 : Int) < 30 by omega)
  generalize n.tmod 30 = t at *
  have e1 : wrap64 (t + 30) = t + 30 := by unfold wrap64; omega
  rw [e1, Int.tmod_eq_emod_of_nonneg (by omega)]
  refine ⟨((t + 30) % 30).toNat, by omega, ?_⟩
  unfold wrap64
  omega
theorem xor_xor (a b : List UInt8) (h : a.length = b.length) : xorI a (xorI a b) = b := by
  unfold xorI
  apply List.ext_getElem
  · simp; omega
  · intro i h1 h2
    simp only [List.getElem_zipWith]
    rw [← UInt8.xor_assoc, UInt8.xor_self, UInt8.zero_xor]
def IsM (w : World) (v : Value) (wx : World) : Prop := ∃ M : Nat, M < 30 ∧ v = .int .i64 ((M : Int) + 1) ∧ w = wx
def RoRel (w : World) (p : List UInt8) (v1 : Value) (A B : List UInt8) (U : Nat → List UInt8) (M ga gb gu : Nat) (i : Value) (wr : World) : Prop :=
  ∃ j : Nat, j ≤ M + 1 ∧ i = .int .i64 (j : Int) ∧ Rd wr v1 p ∧ Blk wr ga 33 (bvs A) ∧ Blk wr gb 33 (bvs B) ∧ Blk wr gu 33 (bvs (U j)) ∧ Below w.heap.size w wr
set_option maxRecDepth 100000 in
set_option maxHeartbeats 1600000 in
theorem digestRounds_w (w : World) (v : Value) (l : List UInt8) (h : Rd w v l) (v' : Value) (l' : List UInt8) (h' : Rd w v' l') (n : Int) (hn : -9223372036854775808 ≤ n ∧ n ≤ 9223372036854775807) :
    Calls Try.prog 12 #[v, v', .int .i64 n] w (Ok w) := by
  have F1 := few5_c v l w h
  have T1 := fun w1 (hb : Below w.heap.size w w1) => twin_c v' l' 100 w1 (h'.below hb) (by omega) (by omega)
  have hk : (l.take 1000).length ≤ 1000 := by simp; omega
  have hm : (l'.take 100).length ≤ 100 := by simp; omega
  rw [show (100 : Int).toNat = 100 from rfl] at T1
  have tk : (l.take 1000).take 1000 = l.take 1000 := by rw [List.take_take]; simp
  have tm : (l'.take 100).take 1000 = l'.take 100 := by rw [List.take_take]; simp
  generalize l.take 1000 = p at *
  generalize l'.take 100 = s at *
  have F2 := fun v1 w1 (hv : Rd w1 v1 p) => few5_c v1 p w1 hv
  have F3 := fun v1 w1 (hv : Rd w1 v1 s) => few5_c v1 s w1 hv
  rw [tk] at F2
  rw [tm] at F3
  clear tk tm h h'
  obtain ⟨n0, n1⟩ := hn
  go_enter Try.func12, Try.ntmps12
  go_upto_region 1 with fail
  go_cut [7] (fun v wx => IsM w v wx)
  case first =>
    obtain ⟨M, hM, hMe⟩ := rounds_m n
    go_wp2_with fail
    all_goals go_meet
    exact ⟨M, hM, by rw [hMe], rfl⟩
  case rest =>
  obtain ⟨M, hM, rfl, rfl⟩ := hcut
  clear n0 n1
  have HI := fun v1 v2 w1 h1 h2 => hi_c v1 v2 p s ((M : Int) + 1) w1 h1 h2 (by omega) (by omega)
  have HI2 := fun v1 v2 w1 h1 h2 => hi_c v1 v2 p s ((M : Int) + 1 + 1) w1 h1 h2 (by omega) (by omega)
  have hr1 : hiR p s ((M : Int) + 1) = (hiS p s M, 0) := by unfold hiR; rw [if_neg (by omega)]; congr 1
  have hr2 : hiR p s ((M : Int) + 1 + 1) = (hiS p s (M + 1), 0) := by unfold hiR; rw [if_neg (by omega)]; congr 1
  simp only [hr1] at HI
  simp only [hr2] at HI2
  clear hr1 hr2
  have HM0 := fun v1 v2 w1 (h1 : Rd w1 v1 p) (h2 : Rd w1 v2 (s ++ [0, 0, 0, 1])) => hmac_c v1 v2 p (s ++ [0, 0, 0, 1]) w1 h1 h2 (by omega) (by simp; omega)
  have hU0 : hmacI p (s ++ [0, 0, 0, 1]) = hiU p s 0 := rfl
  rw [hU0] at HM0
  have HMJ := fun j v1 v2 w1 (h1 : Rd w1 v1 p) (h2 : Rd w1 v2 (hiU p s j)) => hmac_c v1 v2 p (hiU p s j) w1 h1 h2 (by omega) (by rw [hiU_len]; omega)
  have hUJ : ∀ j, hmacI p (hiU p s j) = hiU p s (j + 1) := fun j => rfl
  simp only [hUJ] at HMJ
  have HX1 := fun w1 => xor_c (hiS p s M) (hiS p s (M + 1)) w1 (hiS_len p s M) (hiS_len p s (M + 1))
  have HX2 := fun w1 => xor_c (hiS p s M) (hiS p s M) w1 (hiS_len p s M) (hiS_len p s M)
  rw [xor_self _ (hiS_len p s M)] at HX2
  rw [show xorI (hiS p s M) (hiS p s (M + 1)) = hiU p s (M + 1) from xor_xor _ _ (by rw [hiS_len, hiU_len])] at HX1
  have lU := hiU_len p s
  have lA := hiS_len p s M
  have lB := hiS_len p s (M + 1)
  unfold GivesHi at HI HI2
  unfold GivesB at HM0 HMJ HX1 HX2
  generalize hiU p s = U at *
  generalize hiS p s M = A at *
  generalize hiS p s (M + 1) = B at *
  have nU := fun j => (bvs_length (U j)).trans (lU j)
  have nA := (bvs_length A).trans lA
  have nB := (bvs_length B).trans lB
  have oU := fun j => bvs_one (U j)
  have oA := bvs_one A
  have oB := bvs_one B
  have m0 : (0 : Int) ≤ M := by omega
  have m1 : (M : Int) < 30 := by omega
  have c0 : True := trivial
  go_wp2_with (first
    | (have _t := c0; go_at_call 22; refine F1.mono ?_; rintro e w1 ⟨v1, rfl, ho1, hb1⟩; clear c0; have c1 : True := trivial)
    | (have _t := c1; go_at_call 28; refine (T1 _ hb1).mono ?_; rintro e w2 ⟨v2, rfl, ho2, hb2⟩; have hw2 := below_below hb1 hb2; have p2 := ho1.rd.below hb2; have s2 := ho2.rd; clear c1; have c2 : True := trivial)
    | (have _t := c2; go_at_call 22; refine (F2 _ _ p2).mono ?_; rintro e w3 ⟨v3, rfl, ho3, hb3⟩; have hw3 := below_below hw2 hb3; clear c2; have c3 : True := trivial)
    | (have _t := c3; go_at_call 22; refine (F3 _ _ (s2.below hb3)).mono ?_; rintro e w4 ⟨v4, rfl, ho4, hb4⟩; have hw4 := below_below hw3 hb4; clear c3; have c4 : True := trivial)
    | (have _t := c4; go_at_call 29; refine (HI _ _ _ (ho3.rd.below hb4) ho4.rd).mono ?_; rintro e w5 ⟨rfl, hb5⟩; have hw5 := below_below hw4 hb5; have p5 := ((p2.below hb3).below hb4).below hb5; have s5 := ((s2.below hb3).below hb4).below hb5; clear ho3 ho4 ho1 ho2; clear c4; have c5 : True := trivial)
    | (have _t := c5; (with_reducible refine G_alloc ?_; refine L_alloc z32 ?_); intro w6 hk6 hb6 hs6; clear hs6; have hw6 := below_below hw5 hb6; clear c5; have c6 : True := trivial)
    | (have _t := c6; (with_reducible refine G_store ?_; refine L_store_agg ag32 (by with_unfolding_all (conv => lhs; whnf)) (by with_unfolding_all (conv => lhs; whnf)) hk6 rfl (by simpa using nA) (fun u hu => oA u (by simpa using hu)) ?_); intro w7 hk7 hg7 hs7; replace hk7 : Blk w7 w5.heap.size 33 (bvs A) := (by simpa using hk7); have hw7 := hw6.grown hg7 hw6.size (by intro k hk; cases hk; exact hw5.size); have p7 := (p5.below hb6).grown hg7 (fun hn e => by have := p5.lt _ e hn; omega); have s7 := (s5.below hb6).grown hg7 (fun hn e => by have := s5.lt _ e hn; omega); clear hk6 hg7 hs7 hb6 hb5 hb4 hb3 hb2 hb1 p5 s5 p2 s2; clear c6; have c7 : True := trivial)
    | (have _t := c7; go_at_call 22; refine (F2 _ _ p7).mono ?_; rintro e w8 ⟨v8, rfl, ho8, hb8⟩; have hw8 := below_below hw7 hb8; clear c7; have c8 : True := trivial)
    | (have _t := c8; go_at_call 22; refine (F3 _ _ (s7.below hb8)).mono ?_; rintro e w9 ⟨v9, rfl, ho9, hb9⟩; have hw9 := below_below hw8 hb9; clear c8; have c9 : True := trivial)
    | (have _t := c9; go_at_call 29; refine (HI2 _ _ _ (ho8.rd.below hb9) ho9.rd).mono ?_; rintro e wa ⟨rfl, hba⟩; have hwa := below_below hw9 hba; have pa := ((p7.below hb8).below hb9).below hba; have sa := ((s7.below hb8).below hb9).below hba; have hk7a := ((hk7.below hb8).below hb9).below hba; clear ho8 ho9; clear c9; have c10 : True := trivial)
    | (have _t := c10; (with_reducible refine G_alloc ?_; refine L_alloc z32 ?_); intro wb hkb hbb hsb; clear hsb; have hwb := below_below hwa hbb; clear c10; have c11 : True := trivial)
    | (have _t := c11; (with_reducible refine G_store ?_; refine L_store_agg ag32 (by with_unfolding_all (conv => lhs; whnf)) (by with_unfolding_all (conv => lhs; whnf)) hkb rfl (by simpa using nB) (fun u hu => oB u (by simpa using hu)) ?_); intro wc hkc hgc hsc; replace hkc : Blk wc wa.heap.size 33 (bvs B) := (by simpa using hkc); have hwc := hwb.grown hgc hwb.size (by intro k hk; cases hk; exact hwa.size); have pc := (pa.below hbb).grown hgc (fun hn e => by have := pa.lt _ e hn; omega); have sc := (sa.below hbb).grown hgc (fun hn e => by have := sa.lt _ e hn; omega); have hk7c := (hk7a.below hbb).grown hgc (by simp; have := hk7a.lt; omega); clear hkb hgc hsc hbb hba hb9 hb8 pa sa p7 s7 hk7a; clear c11; have c12 : True := trivial)
    | (have _t := c12; go_at_call 22; refine (F2 _ _ pc).mono ?_; rintro e wd ⟨vd, rfl, hod, hbd⟩; have hwd := below_below hwc hbd; clear c12; have c13 : True := trivial)
    | (have _t := c13; go_at_call 22; refine (F3 _ _ (sc.below hbd)).mono ?_; rintro e we ⟨ve, rfl, hoe, hbe⟩; have hwe := below_below hwd hbe; have hze := hbe.size; clear c13; have c14 : True := trivial)
    | (have _t := c14; (at_builtin; refine wpList_app8 rfl _ _ rfl st8 (by with_unfolding_all (conv => lhs; whnf)) (Own8.below hoe ((Below.refl _ _).alloc (Nat.le_refl _) _)) rfl (Rd.src (Rd.lit _ _ _ [0, 0, 0, 1] rfl rfl (by omega) (by decide)) Try.underlying23) (by first | omega | (simp; omega)) (by first | (simp; done) | omega | (simp; omega)) ?_); intro vf wf hof hgf hbf; have hwf := app_step hwe hoe hwd.size hgf; have pf := rd_app (hod.rd.below hbe) hgf (fun hn => hod.rd.ne_own (Nat.le_refl _) hoe hn); have hk7f := hwf.2 _ _ _ ((hk7c.below hbd).below hbe) (by have := hk7c.lt; have := hbd.size; omega); have hkcf := hwf.2 _ _ _ ((hkc.below hbd).below hbe) (by have := hkc.lt; have := hbd.size; omega); have v1f := rd_app ((pc.below hbd).below hbe) hgf (fun hn => pc.ne_own hbd.size hoe hn); clear c14; have c15 : True := trivial)
    | (have _t := c15; go_at_call 26; refine (HM0 _ _ _ pf hof.rd).mono ?_; rintro e wg ⟨rfl, hbg⟩; have hwg := below_below hwf.1 hbg; have hk7g := hk7f.below hbg; have hkcg := hkcf.below hbg; have v1g := v1f.below hbg; clear c15; have c16 : True := trivial)
    | (have _t := c16; (with_reducible refine G_alloc ?_; refine L_alloc z32 ?_); intro wh hkh hbh hsh; clear hsh; have hwh := below_below hwg hbh; clear c16; have c17 : True := trivial)
    | (have _t := c17; (with_reducible refine G_store ?_; refine L_store_agg ag32 (by with_unfolding_all (conv => lhs; whnf)) (by with_unfolding_all (conv => lhs; whnf)) hkh rfl (by simpa using nU 0) (fun u hu => oU 0 u (by simpa using hu)) ?_); intro wi hki hgi hsi; replace hki : Blk wi wg.heap.size 33 (bvs (U 0)) := (by simpa using hki); clear c17; have c18 : True := trivial))
  have hwi := hwh.grown hgi hwh.size (by intro k hk; cases hk; exact hwg.size)
  have hk7i := (hk7g.below hbh).grown hgi (by simp; have := hk7g.lt; omega)
  have hkci := (hkcg.below hbh).grown hgi (by simp; have := hkcg.lt; omega)
  have v1i := (v1g.below hbh).grown hgi (fun hn e => Nat.lt_irrefl _ (v1g.lt _ e hn))
  have l7 := hk7g.lt
  have lc := hkcg.lt
  have lg := hwg.size
  have hvlt := fun k e hn => v1g.lt k e hn
  clear hbd hod hbe hoe hze hof hgf hbf hwf pf hk7f hkcf v1f hbg hk7g hkcg v1g hkh hbh hwh hgi hsi hwd hwe hwc hw7 hw6 hw5 hw4 hw3 hw2 hw8 hw9 hwa hwb pc sc hk7 hk7c hkc hwg
  generalize wg.heap.size = gu at *
  generalize w5.heap.size = ga at *
  generalize wa.heap.size = gb at *
  have nZ : (bvs (List.replicate 32 0)).length = 32 := rfl
  have lZ : (List.replicate 32 (0 : UInt8)).length = 32 := rfl
  have hz : Try.prog.built 33 [] = some (bvs (List.replicate 32 0)).toArray := by kernel_rfl
  have hEZ : ∀ w', (Op.equalIn 10000 33 (.agg (bvs (List.replicate 32 0)).toArray) (.agg #[.int .u8 0, .int .u8 0, .int .u8 0, .int .u8 0, .int .u8 0, .int .u8 0, .int .u8 0, .int .u8 0, .int .u8 0, .int .u8 0, .int .u8 0, .int .u8 0, .int .u8 0, .int .u8 0, .int .u8 0, .int .u8 0, .int .u8 0, .int .u8 0, .int .u8 0, .int .u8 0, .int .u8 0, .int .u8 0, .int .u8 0, .int .u8 0, .int .u8 0, .int .u8 0, .int .u8 0, .int .u8 0, .int .u8 0, .int .u8 0, .int .u8 0, .int .u8 0])).run Try.prog w' = .ok true w' := fun w' => (eq32_run w' (List.replicate 32 0) (List.replicate 32 0) lZ lZ).trans (by simp)
  generalize List.replicate 32 (0 : UInt8) = Z at *
  have hEU : ∀ w', (Op.equalIn 10000 33 (.agg (bvs (U (M + 1))).toArray) (.agg (bvs (U (M + 1))).toArray)).run Try.prog w' = .ok true w' := fun w' => by rw [eq32_run w' _ _ (lU _) (lU _)]; simp
  go_loopw [15] (fun i wr => RoRel w p v1 A B U M ga gb gu i wr) (fun i _ => (32 - intOf i).toNat)
  case atStart => exact ⟨0, by omega, rfl, v1i, hk7i, hkci, hki, hwi⟩
  case round =>
    clear v1i hk7i hkci hki hwi HI HI2 HM0 T1 F1 F3
    obtain ⟨j, hj, rfl, hv, hka, hkb, hku, hbr⟩ := hrel
    by_cases hjn : j < M + 1
    · have q1 : (j : Int) < (M : Int) + 1 := by omega
      have q2 : (0 : Int) ≤ j := by omega
      replace HMJ := HMJ j
      have lj := lU j
      have nj1 := nU (j + 1)
      have oj1 := oU (j + 1)
      have nj := nU j
      generalize hUj : U (j + 1) = V at *
      go_wp2_with fail
      refine region_making 6 (fun | 4 => [2] | _ => []) (fun | 1 => some fun _ => new8 5 p | 2 => some fun _ => new8 5 [] | 4 => some fun _ => new8 5 ([] ++ U j) | 5 => some fun _ => isV (.agg (bvs V).toArray) | _ => none) (by kernel_rfl) (by kernel_rfl) ?_ ?_
      · intro i' S' h' e v'
        match i', h' with
        | 1, h' => cases h'; exact new8_loc _ _ _ _
        | 2, h' => cases h'; exact new8_loc _ _ _ _
        | 4, h' => cases h'; exact new8_loc _ _ _ _
        | 5, h' => cases h'; exact isV_loc _ _ _
      simp only [List.take_succ_cons, List.take_zero, List.drop_succ_cons, List.drop_zero]
      (apply wpG_pure; (focus rfl); (focus (intro wg Bg hbg hBg hFg; go_simp; (try go_bits); (first | done | exact ⟨rfl, Below.refl _ _⟩ | rfl))); simp only [Act.put, List.setIfInBounds_toArray, List.set_cons_succ, List.set_cons_zero])
      (apply wpG_make; (focus rfl); (focus (intro wg Bg hbg hBg hFg; go_simp; go_at_call 22; exact Calls.mono (F2 _ _ (hv.drew.below hbg)) (fun e w' h => (by obtain ⟨u, rfl, ho, hb⟩ := h; exact ⟨u, rfl, Chg.of_below hb, ⟨ho.mono (Nat.zero_le _), fun g hg => (by first | exact .inr ⟨ho.base_le g hg, ho.lt g hg⟩ | exact ⟨ho.base_le g hg, ho.lt g hg⟩)⟩⟩)))); intro va; simp only [Act.put, List.setIfInBounds_toArray, List.set_cons_succ, List.set_cons_zero])
      (apply wpG_make; (focus rfl); (focus (intro wg Bg hbg hBg hFg; refine goesTo_lit (n := 0) (by go_simp) [] rfl (by decide) (by go_simp; first | done | rfl | exact ⟨rfl, rfl⟩))); intro vb; simp only [Act.put, List.setIfInBounds_toArray, List.set_cons_succ, List.set_cons_zero])
      (apply wpG_pure; (focus rfl); (focus (intro wg Bg hbg hBg hFg; go_simp; (try go_bits); (first | done | exact ⟨rfl, Below.refl _ _⟩ | rfl))); simp only [Act.put, List.setIfInBounds_toArray, List.set_cons_succ, List.set_cons_zero])
      (apply wpG_make; (focus rfl); (focus (intro wg Bg hbg hBg hFg; have hN := hFg 2 (by decide +kernel); refine goesTo_app8w (by go_simp) _ _ rfl st8 (by with_unfolding_all (conv => lhs; whnf)) (id hN).1 (by with_unfolding_all (conv => lhs; whnf)) (Rd.src ((hku.drew.below hbg).rd (by omega) lj.symm lj.symm) Try.underlying23) (by first | omega | (simp; omega)) (Nat.zero_le _) (fun g hg => ⟨2, by simp, (id hN).2 g hg⟩))); intro vc; simp only [Act.put, List.setIfInBounds_toArray, List.set_cons_succ, List.set_cons_zero])
      (apply wpG_make; (focus rfl); (focus (intro wg Bg hbg hBg hFg; go_simp; go_at_call 26; exact Calls.mono (HMJ _ _ _ (Own8.rd (hFg 1 (by decide +kernel) : new8 5 p va (Bg 1) wg).1) (Own8.rd (hFg 4 (by decide +kernel) : new8 5 (U j) vc (Bg 4) wg).1)) (fun e w' h => ⟨_, h.1, Chg.of_below h.2, rfl⟩))); intro vB; simp only [Act.put, List.setIfInBounds_toArray, List.set_cons_succ, List.set_cons_zero])
      refine wpG_end (fun wg Bg hbg hBg hFg => ?_)
      obtain rfl : vB = .agg (bvs V).toArray := hFg 5
      have hkug := hku.drew.below hbg
      have hkag := hka.drew.below hbg
      have hkbg := hkb.drew.below hbg
      have hvg := hv.drew.below hbg
      have hbrg := below_below hbr.drew hbg
      have hwgs := hkug.lt
      clear hFg hBg hbg hka hkb hku hv hbr HMJ
      go_wp2_with (first | ((with_reducible refine G_store ?_; refine L_store_agg ag32 (by with_unfolding_all (conv => lhs; whnf)) (by with_unfolding_all (conv => lhs; whnf)) hkug nj (by simpa using nj1) (fun u hu => oj1 u (by simpa using hu)) ?_); intro wz hkz hgz hsz))
      refine ⟨⟨j + 1, by omega, by go_num, hvg.grown hgz ?_, hkag.grown hgz (by simp; omega), hkbg.grown hgz (by simp; omega), ?_, hbrg.grown hgz hbrg.size (by intro k hk; cases hk; omega)⟩, ?_⟩
      · intro hn e
        exact Nat.lt_irrefl _ (hvlt gu e hn)
      · rw [hUj]; simpa using hkz
      · simp only [intOf]; omega
    · have hjM := Go.Lib.hid (show j = M + 1 by omega)
      have q1 : ¬ (j : Int) < (M : Int) + 1 := by omega
      rw [hjM.out] at hku
      have nV := nU (M + 1)
      generalize hV : bvs (U (M + 1)) = V at *
      generalize bvs A = AA at *
      generalize bvs B = BB at *
      generalize bvs Z = ZZ at *
      clear HMJ F2 hv
      go_wp2_with fail
      refine region_making 24 (fun _ => []) (fun _ => none) (by kernel_rfl) (by kernel_rfl) ?_ ?_
      · intro i S h; cases h
      simp only [List.take_succ_cons, List.take_zero, List.drop_succ_cons, List.drop_zero]
      repeat (apply wpG_pure; (focus rfl); (focus (intro wg Bg hbg hBg hFg; go_simp; (try go_bits); (first | done | exact ⟨rfl, Below.refl _ _⟩ | rfl))); simp only [Act.put, List.setIfInBounds_toArray, List.set_cons_succ, List.set_cons_zero])
      (apply wpG_pure; (focus rfl); (focus (intro wg Bg hbg hBg hFg; exact pureTo_load_aggw (by go_simp) ag32 (by with_unfolding_all (conv => lhs; whnf)) (hka.drew.below hbg) nA)); simp only [Act.put, List.setIfInBounds_toArray, List.set_cons_succ, List.set_cons_zero])
      (apply wpG_pure; (focus rfl); (focus (intro wg Bg hbg hBg hFg; exact pureTo_load_aggw (by go_simp) ag32 (by with_unfolding_all (conv => lhs; whnf)) (hkb.drew.below hbg) nB)); simp only [Act.put, List.setIfInBounds_toArray, List.set_cons_succ, List.set_cons_zero])
      (apply wpG_pure; (focus rfl); (focus (intro wg Bg hbg hBg hFg; go_simp; (try refine ⟨by kernel_rfl, ?_⟩); go_at_call 31; exact Calls.mono (HX1 _) (fun e w' h => (by obtain ⟨rfl, hb⟩ := h; exact ⟨rfl, hb⟩)))); simp only [Act.put, List.setIfInBounds_toArray, List.set_cons_succ, List.set_cons_zero])
      (apply wpG_pure; (focus rfl); (focus (intro wg Bg hbg hBg hFg; exact pureTo_load_aggw (by go_simp) ag32 (by with_unfolding_all (conv => lhs; whnf)) (hku.drew.below hbg) nV)); simp only [Act.put, List.setIfInBounds_toArray, List.set_cons_succ, List.set_cons_zero])
      repeat (apply wpG_pure; (focus rfl); (focus (intro wg Bg hbg hBg hFg; go_simp; (try go_bits); (first | done | exact ⟨rfl, Below.refl _ _⟩ | rfl))); simp only [Act.put, List.setIfInBounds_toArray, List.set_cons_succ, List.set_cons_zero])
      (apply wpG_pure; (focus rfl); (focus (intro wg Bg hbg hBg hFg; exact pureTo_load_aggw (by go_simp) ag32 (by with_unfolding_all (conv => lhs; whnf)) (hka.drew.below hbg) nA)); simp only [Act.put, List.setIfInBounds_toArray, List.set_cons_succ, List.set_cons_zero])
      (apply wpG_pure; (focus rfl); (focus (intro wg Bg hbg hBg hFg; exact pureTo_load_aggw (by go_simp) ag32 (by with_unfolding_all (conv => lhs; whnf)) (hka.drew.below hbg) nA)); simp only [Act.put, List.setIfInBounds_toArray, List.set_cons_succ, List.set_cons_zero])
      (apply wpG_pure; (focus rfl); (focus (intro wg Bg hbg hBg hFg; go_simp; (try refine ⟨by kernel_rfl, ?_⟩); go_at_call 31; exact Calls.mono (HX2 _) (fun e w' h => (by obtain ⟨rfl, hb⟩ := h; exact ⟨rfl, hb⟩)))); simp only [Act.put, List.setIfInBounds_toArray, List.set_cons_succ, List.set_cons_zero])
      repeat (apply wpG_pure; (focus rfl); (focus (intro wg Bg hbg hBg hFg; go_simp; (try go_bits); (first | done | exact ⟨rfl, Below.refl _ _⟩ | rfl))); simp only [Act.put, List.setIfInBounds_toArray, List.set_cons_succ, List.set_cons_zero])
      (apply wpG_pure; (focus rfl); (focus (intro wg Bg hbg hBg hFg; go_simp; (try refine ⟨by kernel_rfl, ?_⟩); go_at_call 24; exact Calls.mono (wakes5_c _) (fun e w' h => (by obtain ⟨rfl, hb⟩ := h; exact ⟨rfl, hb⟩)))); simp only [Act.put, List.setIfInBounds_toArray, List.set_cons_succ, List.set_cons_zero])
      repeat (apply wpG_pure; (focus rfl); (focus (intro wg Bg hbg hBg hFg; go_simp; (try go_bits); (first | done | exact ⟨rfl, Below.refl _ _⟩ | rfl))); simp only [Act.put, List.setIfInBounds_toArray, List.set_cons_succ, List.set_cons_zero])
      refine wpG_end (fun wg2 Bg hbg hBg hFg => ?_)
      go_wp2
      go_ret
      exact ⟨rfl, below_below hbr.drew hbg⟩
end Go.Proofs.Ytpjpmgpehpigaaa
