/- roostref10.Append. -/
import Derived.Test.YtfnlcnjflloecaaRdk5
set_option linter.unusedVariables false
set_option linter.unusedSimpArgs false
set_option linter.unnecessarySimpa false
namespace Go.Proofs.Ytfnlcnjflloecaa
open Go.RowKit
theorem below_of_drew {w w' : World} (h : Below w.drew.heap.size w.drew w') : Below w.heap.size w w' := ⟨h.os, h.tape, h.output, h.size, h.block⟩
theorem powerD_fs (D : Dsk) (fs : List FileE) : powerD { D with fs := fs } = ((powerD D).1, { (powerD D).2 with fs := fs }) := by unfold powerD; split <;> rfl
theorem modF_same {fs : List FileE} {s : List UInt8} {f : FileE} (hu : upF fs) (hf : lookF fs s = some f) (b : List UInt8) : modF fs s (fun g => ⟨g.name, g.b ++ b, g.safe⟩) = modF fs s (fun g => ⟨g.name, f.b ++ b, g.safe⟩) := by
  unfold modF
  apply List.map_congr_left
  intro g hg
  by_cases h : g.name = s
  · have := lookF_mem hu hg
    rw [h, hf] at this
    cases this
    rfl
  · rw [if_neg h, if_neg h]
theorem addF_some {fs : List FileE} {s : List UInt8} {f : FileE} (hu : upF fs) (hf : lookF fs s = some f) (b : List UInt8) : addF fs s b = modF fs s (fun g => ⟨g.name, f.b ++ b, g.safe⟩) := by
  unfold addF
  rw [hf]
  exact modF_same hu hf b
theorem addF_none {fs : List FileE} {s : List UInt8} (hu : upF fs) (hf : lookF fs s = none) (b : List UInt8) : addF fs s b = modF (putF fs ⟨s, [], 0⟩) s (fun g => ⟨g.name, [] ++ b, g.safe⟩) := by
  have h1 := lookF_put (fs := fs) ⟨s, [], 0⟩ (lookF_none.1 hf) s
  rw [if_pos rfl] at h1
  unfold addF
  rw [hf]
  exact modF_same (up_put hu (lookF_none.1 hf)) h1 b
set_option maxRecDepth 100000 in
set_option maxHeartbeats 6400000 in
theorem refappend_c (p : Nat) (M : Nat → Prop) (D : Dsk) (s b : List UInt8) (v : Value) (w : World) (h : RAt w M p D) (ok : DskOk D) (hd : D.done ≤ 4611686018427387904) (hl : D.fs.length ≤ 1000000) (hs : s.length ≤ 9223372036854775807)
    (hv : Rd w v b) (hvM : ∀ g, v.ownBlock = some g → ¬ M g) :
    Calls Try.prog 12 #[.pointer (some ⟨p, 0, none⟩), .string (strB s), v] w fun e w' => e = .returned (.int .i64 (appendD D s b).1) ∧ RAt w' (growM M w w') p (appendD D s b).2 ∧ Chg M w w' := by
  have hlt := h.lt
  have hbl := hv.len_le
  have same : RAt w (growM M w w) p D := h.mono (fun k hk => .inl hk) (fun k hk => by rcases hk with hk | hk; exact hlt k hk; exact hk.2)
  have hF := reffirst_c p M D s false w h (by omega) hs
  obtain ⟨A, c, ev, -⟩ := hv.open
  have hU : ∀ n, Calls Try.prog 33 #[.pointer (some ⟨p, 0, none⟩)] (w.drewN n) fun e w' => e = .returned (.int .i64 (usedF D.fs : Int)) ∧ w' = w.drewN n := fun n => (refused_c p M D (w.drewN n) (h.below ⟨rfl, rfl, rfl, Nat.le_refl _, fun _ _ => rfl⟩) (by omega) (by have := ok.used; have := ok.room; omega)).mono (fun _ _ hh => ⟨hh.1, hh.2.symm⟩)
  have hrm := ok.room
  have hus := ok.used
  have hup := ok.up
  by_cases hf : firstD D s false = 0
  · rw [hf] at hF
    obtain ⟨vl0, ps0, h0⟩ := id h
    have cR : _ = some _ := h0.blk.cell 1
    clear h0
    by_cases hfull : D.room - (usedF D.fs : Int) < (b.length : Int)
    · have hA : appendD D s b = (8, D) := by unfold appendD; rw [if_neg (by simp [hf]), if_pos hfull]
      rw [hA]
      subst ev
      have q1 : decide (D.room - (usedF D.fs : Int) < (b.length : Int)) = true := decide_eq_true hfull
      replace ok := Go.Lib.hid ok
      generalize D.room = R at *
      generalize usedF D.fs = U at *
      clear hA hf
      go_enter Try.func12, Try.ntmps12
      go_wp2_with fail
      refine hF.mono ?_; rintro e w1 ⟨rfl, rfl⟩
      go_upto_region 4 with fail
      go_quiet (first | (go_at_call 33; refine Calls.quiet_of_same (hU _)))
      have hwd : Below w.heap.size w (w.drewN nq) := ⟨rfl, rfl, rfl, Nat.le_refl _, fun _ _ => rfl⟩
      have same2 : RAt (w.drewN nq) (growM M w (w.drewN nq)) p D := (h.below hwd).mono (fun k hk => .inl hk) (fun k hk => by rcases hk with hk | hk; exact hlt k hk; exact hk.2)
      go_wp2_with fail
      go_ret
      exact ⟨rfl, same2, Chg.of_below hwd⟩
    · have hA : appendD D s b = ((powerD D).1, { (powerD D).2 with fs := addF D.fs s b }) := by unfold appendD; rw [if_neg (by simp [hf]), if_neg hfull, powerD_fs]
      rw [hA]
      subst ev
      have q1 : decide (D.room - (usedF D.fs : Int) < (b.length : Int)) = false := decide_eq_false hfull
      have hbm : b.length ≤ 16777216 := by omega
      have hpow := fun W hW => refpower_c p M D W hW ok hd
      have hpf := (power_fs D).1
      replace ok := Go.Lib.hid ok
      have husm : usedF D.fs ≤ 16777216 := by omega
      clear hA hf
      generalize hE : (powerD D).1 = E at *
      generalize hD1 : (powerD D).2 = D1 at *
      obtain ⟨DF, hDF⟩ : ∃ DF, ({ D1 with fs := addF D.fs s b } : Dsk) = DF := ⟨_, rfl⟩
      rw [hDF]
      clear hE hD1
      generalize D.room = R at *
      generalize hUU : usedF D.fs = U at *
      have hUU' := Go.Lib.hid hUU
      clear hUU hfull same
      replace hDF := Go.Lib.hid hDF
      replace hpf := Go.Lib.hid hpf
      go_enter Try.func12, Try.ntmps12
      go_wp2_with fail
      refine hF.mono ?_; rintro e w1 ⟨rfl, rfl⟩
      go_upto_region 4 with fail
      go_quiet (first | (go_at_call 33; refine Calls.quiet_of_same (hU _)))
      have hwd : Below w.heap.size w (w.drewN nq) := ⟨rfl, rfl, rfl, Nat.le_refl _, fun _ _ => rfl⟩
      have h2 := h.below hwd
      have hC2 : Chg M w (w.drewN nq) := Chg.of_below hwd
      clear hU hwd cR
      generalize w.drewN nq = W2 at *
      go_wp2_with fail
      refine (hpow W2 h2).mono ?_; rintro e w3 ⟨rfl, h3, hC3⟩
      clear q1
      have hCb := hC2.tr hC3
      clear h2 hC2 hC3 hpow
      cases hlk0 : lookF D.fs s with
      | none =>
        have hlk1 : lookF D1.fs s = none := by rw [hpf.out]; exact hlk0
        have hu1 : upF D1.fs := by rw [hpf.out]; exact hup
        have hl1 : D1.fs.length ≤ 1000000 := by rw [hpf.out]; exact hl
        go_wp2_with fail
        refine (refat_r p M D1 s (-1) w3 h3 hu1 (by omega) hs (PosF.none hlk1)).mono ?_; rintro e w4 ⟨rfl, hb4⟩
        have h4 := h3.below hb4
        have hCc := hCb.below_trans hb4
        go_wp2_with fail
        refine (refput_c p M D1 s w4 h4 (by omega) hlk1).mono ?_; rintro e w5 ⟨rfl, hC5, h5⟩
        have hCd := hCc.tr hC5
        have hz4 := hCc.size
        clear h4 h3 hC5
        have hM4 : ∀ k, growM M w4 w5 k → w.heap.size ≤ k ∨ M k := fun k hk => by
          rcases hk with hk | hk
          · exact .inr hk
          · exact .inl (by omega)
        generalize growM M w4 w5 = M4 at *
        have hDl : ({ D1 with fs := putF D1.fs ⟨s, [], 0⟩ } : Dsk).fs = putF D1.fs ⟨s, [], 0⟩ := rfl
        have hlk := lookF_put (fs := D1.fs) ⟨s, [], 0⟩ (lookF_none.1 hlk1) s
        rw [if_pos rfl] at hlk
        have hu2 := up_put hu1 (f := ⟨s, [], 0⟩) (lookF_none.1 hlk1)
        have hlen2 := len_put D1.fs ⟨s, [], 0⟩
        have hus2 := used_put D1.fs ⟨s, [], 0⟩
        have hfin := addF_none hup hlk0 b
        rw [← hpf.out] at hfin
        rw [hpf.out, hUU'.out] at hus2
        rw [← hpf.out] at hus2
        have hus3 : usedF (putF D1.fs ⟨s, [], 0⟩) ≤ 16777216 := by simp only [List.length_nil] at hus2; omega
        replace hfin : DF = { ({ D1 with fs := putF D1.fs ⟨s, [], 0⟩ } : Dsk) with fs := modF ({ D1 with fs := putF D1.fs ⟨s, [], 0⟩ } : Dsk).fs s (fun g => ⟨g.name, [] ++ b, g.safe⟩) } := by rw [← hDF.out, ← hpf.out, hfin]
        rw [← hDl] at hlk hu2 hlen2 hus3
        generalize ({ D1 with fs := putF D1.fs ⟨s, [], 0⟩ } : Dsk) = D2 at *
        replace hlen2 : D2.fs.length ≤ 1000001 := by omega
        clear hus2 hDl hlk0 hlk1
        obtain ⟨f, hff⟩ : ∃ f : FileE, f = ⟨s, [], 0⟩ := ⟨_, rfl⟩
        have hfb0 : f.b = [] := by rw [hff]
        rw [← hff] at hlk
        rw [← hfb0] at hfin
        replace hfin := Go.Lib.hid hfin
        clear hff
        obtain ⟨j, hj, hjf, hP⟩ := PosF.some hu2 hlk
        replace hfb0 := Go.Lib.hid hfb0
        go_wp2_with fail
        refine (refat_r p M4 D2 s (j : Int) w5 h5 hu2 (by omega) hs hP).mono ?_; rintro e W4 ⟨rfl, hb6⟩
        have h4 := h5.below hb6
        have hC4 := hCd.below_trans hb6
        clear h5 hb6 hCd hb4 hCc hCb hP
        obtain ⟨vl, ps, h5⟩ := h4
        have hpl5 : ps.length = D2.fs.length := by rw [← h5.fs]; simp
        obtain ⟨A5, c5, e5, hA5⟩ := h5.open
        obtain ⟨g, e6, hgM, hgp, hcs⟩ := hA5 (by omega)
        subst e6
        subst e5
        have hgl := h5.lt g hgM
        have hp5 := h5.lt p h5.mp
        have c0 : _ = some _ := h5.blk.cell 0
        have c1 := (hcs j (by omega)).2.1
        have hgf : ps[j].1 = f := by rw [← hjf]; simp [← h5.fs]
        have hr := (h5.rd ps[j] (List.getElem_mem (by omega))).1
        rw [hgf] at hr
        obtain ⟨fv, hfv⟩ : ∃ fv, ps[j].2 = fv := ⟨_, rfl⟩
        rw [hfv] at hr c1
        obtain ⟨A6, c6, e6, -⟩ := hr.open
        rw [e6] at hr c1
        clear e6 hfv fv
        have hfb : f.b.length ≤ 16777216 := by have := used_look hlk; omega
        have q4 : (j : Int) < (D2.fs.length : Int) := by omega
        have hv4 := hv.chg hC4 hvM
        have hjn : ps[j].1.name = s := by rw [hgf]; exact (lookF_some hlk).2
        clear hcs hA5
        have hlk' := Go.Lib.hid hlk
        replace hgf := Go.Lib.hid hgf
        replace hjn := Go.Lib.hid hjn
        replace hjf := Go.Lib.hid hjf
        replace hpl5 := Go.Lib.hid hpl5
        clear hlk
        go_upto_region 10 with fail
        refine region_making 17 (fun | 14 => [5] | 16 => [14] | _ => []) (fun | 5 => some fun _ => new8 5 [] | 14 => some fun _ => new8 5 ([] ++ f.b) | 16 => some fun _ => new8 5 ([] ++ f.b ++ b) | _ => none) (by kernel_rfl) (by kernel_rfl) ?_ ?_
        · intro i' S' h' e v'
          match i', h' with
          | 5, h' => cases h'; exact new8_loc _ _ _ _
          | 14, h' => cases h'; exact new8_loc _ _ _ _
          | 16, h' => cases h'; exact new8_loc _ _ _ _
        simp only [List.take_succ_cons, List.take_zero, List.drop_succ_cons, List.drop_zero]
        (apply wpG_pure; (focus rfl); (focus (intro wg Bg hbg hBg hFg; go_simp; (try go_bits); (first | done | exact ⟨rfl, Below.refl _ _⟩ | rfl))); simp only [Act.put, List.setIfInBounds_toArray, List.set_cons_succ, List.set_cons_zero])
        (apply wpG_pure; (focus rfl); (focus (intro wg Bg hbg hBg hFg; go_simp; (try go_bits); (first | done | exact ⟨rfl, Below.refl _ _⟩ | rfl))); simp only [Act.put, List.setIfInBounds_toArray, List.set_cons_succ, List.set_cons_zero])
        (apply wpG_pure; (focus rfl); (focus (intro wg Bg hbg hBg hFg; go_simp; (try go_bits); (first | done | exact ⟨rfl, Below.refl _ _⟩ | rfl))); simp only [Act.put, List.setIfInBounds_toArray, List.set_cons_succ, List.set_cons_zero])
        (apply wpG_pure; (focus rfl); (focus (intro wg Bg hbg hBg hFg; have cW : _ = some _ := (hbg.cell (p := ⟨p, 0, none⟩) hp5).trans c0; go_simp; (try go_bits); (first | done | exact ⟨rfl, Below.refl _ _⟩ | rfl))); simp only [Act.put, List.setIfInBounds_toArray, List.set_cons_succ, List.set_cons_zero])
        (apply wpG_pure; (focus rfl); (focus (intro wg Bg hbg hBg hFg; go_simp; (try go_bits); (first | done | exact ⟨rfl, Below.refl _ _⟩ | rfl))); simp only [Act.put, List.setIfInBounds_toArray, List.set_cons_succ, List.set_cons_zero])
        (apply wpG_make; (focus rfl); (focus (intro wg Bg hbg hBg hFg; refine goesTo_lit (n := 0) (by go_simp) [] rfl (by decide) (by go_simp; first | done | rfl | exact ⟨rfl, rfl⟩))); intro va; simp only [Act.put, List.setIfInBounds_toArray, List.set_cons_succ, List.set_cons_zero])
        (apply wpG_pure; (focus rfl); (focus (intro wg Bg hbg hBg hFg; go_simp; (try go_bits); (first | done | exact ⟨rfl, Below.refl _ _⟩ | rfl))); simp only [Act.put, List.setIfInBounds_toArray, List.set_cons_succ, List.set_cons_zero])
        (apply wpG_pure; (focus rfl); (focus (intro wg Bg hbg hBg hFg; go_simp; (try go_bits); (first | done | exact ⟨rfl, Below.refl _ _⟩ | rfl))); simp only [Act.put, List.setIfInBounds_toArray, List.set_cons_succ, List.set_cons_zero])
        (apply wpG_pure; (focus rfl); (focus (intro wg Bg hbg hBg hFg; go_simp; (try go_bits); (first | done | exact ⟨rfl, Below.refl _ _⟩ | rfl))); simp only [Act.put, List.setIfInBounds_toArray, List.set_cons_succ, List.set_cons_zero])
        (apply wpG_pure; (focus rfl); (focus (intro wg Bg hbg hBg hFg; have cW : _ = some _ := (hbg.cell (p := ⟨p, 0, none⟩) hp5).trans c0; go_simp; (try go_bits); (first | done | exact ⟨rfl, Below.refl _ _⟩ | rfl))); simp only [Act.put, List.setIfInBounds_toArray, List.set_cons_succ, List.set_cons_zero])
        (apply wpG_pure; (focus rfl); (focus (intro wg Bg hbg hBg hFg; go_simp; (try go_bits); (first | done | exact ⟨rfl, Below.refl _ _⟩ | rfl))); simp only [Act.put, List.setIfInBounds_toArray, List.set_cons_succ, List.set_cons_zero])
        (apply wpG_pure; (focus rfl); (focus (intro wg Bg hbg hBg hFg; go_simp; (try go_bits); (first | done | exact ⟨rfl, Below.refl _ _⟩ | rfl))); simp only [Act.put, List.setIfInBounds_toArray, List.set_cons_succ, List.set_cons_zero])
        (apply wpG_pure; (focus rfl); (focus (intro wg Bg hbg hBg hFg; go_simp; (try go_bits); (first | done | exact ⟨rfl, Below.refl _ _⟩ | rfl))); simp only [Act.put, List.setIfInBounds_toArray, List.set_cons_succ, List.set_cons_zero])
        (apply wpG_pure; (focus rfl); (focus (intro wg Bg hbg hBg hFg; have cW : _ = some _ := (hbg.cell (p := ⟨g, j * 3 + 1, none⟩) hgl).trans c1; go_simp; (try go_bits); (first | done | exact ⟨rfl, Below.refl _ _⟩ | rfl))); simp only [Act.put, List.setIfInBounds_toArray, List.set_cons_succ, List.set_cons_zero])
        (apply wpG_make; (focus rfl); (focus (intro wg Bg hbg hBg hFg; have hN := hFg 5 (by decide +kernel); refine goesTo_app8w (by go_simp) _ _ rfl st8 (by with_unfolding_all (conv => lhs; whnf)) (id hN).1 (by with_unfolding_all (conv => lhs; whnf)) (Rd.src (hr.drew.below hbg) Try.underlying38) (by first | omega | (simp; omega)) (Nat.zero_le _) (fun g hg => ⟨5, by simp, (id hN).2 g hg⟩))); intro vb; simp only [Act.put, List.setIfInBounds_toArray, List.set_cons_succ, List.set_cons_zero])
        (apply wpG_pure; (focus rfl); (focus (intro wg Bg hbg hBg hFg; go_simp; (try go_bits); (first | done | exact ⟨rfl, Below.refl _ _⟩ | rfl))); simp only [Act.put, List.setIfInBounds_toArray, List.set_cons_succ, List.set_cons_zero])
        (apply wpG_make; (focus rfl); (focus (intro wg Bg hbg hBg hFg; have hN := hFg 14 (by decide +kernel); refine goesTo_app8w (by go_simp) _ _ rfl st8 (by with_unfolding_all (conv => lhs; whnf)) (id hN).1 (by with_unfolding_all (conv => lhs; whnf)) (Rd.src (hv4.drew.below hbg) Try.underlying38) (by first | omega | (simp; omega)) (Nat.zero_le _) (fun g hg => ⟨14, by simp, (id hN).2 g hg⟩))); intro vc; simp only [Act.put, List.setIfInBounds_toArray, List.set_cons_succ, List.set_cons_zero])
        refine wpG_end (fun wg Bg hbg hBg hFg => ?_)
        have hN : new8 5 ([] ++ f.b ++ b) vc (Bg 16) wg := hFg 16
        rw [List.nil_append] at hN
        obtain ⟨hN1, hN2⟩ := hN
        have hNo : ∀ k, vc.ownBlock = some k → W4.heap.size ≤ k ∧ k < wg.heap.size := fun k hk => ⟨hBg.lo _ _ (hN2 k hk), hBg.hi _ _ (hN2 k hk)⟩
        clear hFg hBg hN2
        have hbg' : Below W4.heap.size W4 wg := below_of_drew hbg
        obtain ⟨-, A7, c7, e7, -⟩ := ownsRow_rd hN1
        obtain ⟨n7, hn7⟩ : ∃ n7, (f.b ++ b).length = n7 := ⟨_, rfl⟩
        rw [hn7] at e7
        subst e7
        have h6 := h5.below hbg'
        have c2 : _ = some _ := (hbg'.cell (p := ⟨g, j * 3 + 1, none⟩) hgl).trans c1
        have hrw6 := h6.row
        rw [hpl5.out] at hrw6
        have f2 := hrw6.frozenAt (j * 3 + 1)
        have hset := h5.setB hu2 j (by have := hpl5.out; omega) hjn.out rfl hbg' hN1.rd hNo rfl
        clear hbg hn7
        go_wp2_with fail
        go_ret
        have hCS := (hC4.below_trans hbg').chg_trans (Chg.setCell wg ⟨g, j * 3 + 1, none⟩ (.slice A7 n7 c7)) (fun k hk => by have e9 : k = g := hk; rw [e9]; exact hM4 g hgM)
        have hzz : (wg.setCell ⟨g, j * 3 + 1, none⟩ (.slice A7 n7 c7)).heap.size = wg.heap.size := by simp [World.setCell]
        have hzg := hbg'.size
        refine ⟨rfl, ?_, hCS⟩
        rw [hfin.out]
        refine hset.mono (fun k hk => ?_) (fun k hk => ?_)
        · rcases hk with hk | hk
          · rcases hM4 k hk with h9 | h9
            · exact .inr ⟨h9, by have := h5.lt k hk; omega⟩
            · exact .inl h9
          · exact .inr ⟨by have := hC4.size; omega, hk.2⟩
        · rcases hk with hk | hk
          · have := hlt k hk; have := hC4.size; omega
          · exact hk.2
      | some f =>
        have hlk : lookF D1.fs s = some f := by rw [hpf.out]; exact hlk0
        have hu2 : upF D1.fs := by rw [hpf.out]; exact hup
        have hlen2 : D1.fs.length ≤ 1000000 := by rw [hpf.out]; exact hl
        have hus3 : usedF D1.fs ≤ 16777216 := by rw [hpf.out, hUU'.out]; omega
        have hfin := addF_some hup hlk0 b
        replace hfin : DF = { D1 with fs := modF D1.fs s (fun g => ⟨g.name, f.b ++ b, g.safe⟩) } := by rw [← hDF.out, hfin, ← hpf.out]
        replace hfin := Go.Lib.hid hfin
        have hM4 : ∀ k, M k → w.heap.size ≤ k ∨ M k := fun k hk => .inr hk
        clear hlk0
        generalize D1 = D2 at *
        obtain ⟨j, hj, hjf, hP⟩ := PosF.some hu2 hlk
        have q5 : ¬ (j : Int) < 0 := by omega
        have q6 : decide ((j : Int) < 0) = false := decide_eq_false q5
        go_wp2_with fail
        refine (refat_r p M D2 s (j : Int) w3 h3 hu2 (by omega) hs hP).mono ?_; rintro e w4 ⟨rfl, hb4⟩
        have h4' := h3.below hb4
        have hCc := hCb.below_trans hb4
        go_wp2_with fail
        refine (refat_r p M D2 s (j : Int) w4 h4' hu2 (by omega) hs hP).mono ?_; rintro e W4 ⟨rfl, hb6⟩
        have h4 := h4'.below hb6
        have hC4 := hCc.below_trans hb6
        clear h4' h3 hb6 hb4 hCc hCb hP q5 q6
        obtain ⟨vl, ps, h5⟩ := h4
        have hpl5 : ps.length = D2.fs.length := by rw [← h5.fs]; simp
        obtain ⟨A5, c5, e5, hA5⟩ := h5.open
        obtain ⟨g, e6, hgM, hgp, hcs⟩ := hA5 (by omega)
        subst e6
        subst e5
        have hgl := h5.lt g hgM
        have hp5 := h5.lt p h5.mp
        have c0 : _ = some _ := h5.blk.cell 0
        have c1 := (hcs j (by omega)).2.1
        have hgf : ps[j].1 = f := by rw [← hjf]; simp [← h5.fs]
        have hr := (h5.rd ps[j] (List.getElem_mem (by omega))).1
        rw [hgf] at hr
        obtain ⟨fv, hfv⟩ : ∃ fv, ps[j].2 = fv := ⟨_, rfl⟩
        rw [hfv] at hr c1
        obtain ⟨A6, c6, e6, -⟩ := hr.open
        rw [e6] at hr c1
        clear e6 hfv fv
        have hfb : f.b.length ≤ 16777216 := by have := used_look hlk; omega
        have q4 : (j : Int) < (D2.fs.length : Int) := by omega
        have hv4 := hv.chg hC4 hvM
        have hjn : ps[j].1.name = s := by rw [hgf]; exact (lookF_some hlk).2
        clear hcs hA5
        have hlk' := Go.Lib.hid hlk
        replace hgf := Go.Lib.hid hgf
        replace hjn := Go.Lib.hid hjn
        replace hjf := Go.Lib.hid hjf
        replace hpl5 := Go.Lib.hid hpl5
        clear hlk
        go_upto_region 10 with fail
        refine region_making 17 (fun | 14 => [5] | 16 => [14] | _ => []) (fun | 5 => some fun _ => new8 5 [] | 14 => some fun _ => new8 5 ([] ++ f.b) | 16 => some fun _ => new8 5 ([] ++ f.b ++ b) | _ => none) (by kernel_rfl) (by kernel_rfl) ?_ ?_
        · intro i' S' h' e v'
          match i', h' with
          | 5, h' => cases h'; exact new8_loc _ _ _ _
          | 14, h' => cases h'; exact new8_loc _ _ _ _
          | 16, h' => cases h'; exact new8_loc _ _ _ _
        simp only [List.take_succ_cons, List.take_zero, List.drop_succ_cons, List.drop_zero]
        (apply wpG_pure; (focus rfl); (focus (intro wg Bg hbg hBg hFg; go_simp; (try go_bits); (first | done | exact ⟨rfl, Below.refl _ _⟩ | rfl))); simp only [Act.put, List.setIfInBounds_toArray, List.set_cons_succ, List.set_cons_zero])
        (apply wpG_pure; (focus rfl); (focus (intro wg Bg hbg hBg hFg; go_simp; (try go_bits); (first | done | exact ⟨rfl, Below.refl _ _⟩ | rfl))); simp only [Act.put, List.setIfInBounds_toArray, List.set_cons_succ, List.set_cons_zero])
        (apply wpG_pure; (focus rfl); (focus (intro wg Bg hbg hBg hFg; go_simp; (try go_bits); (first | done | exact ⟨rfl, Below.refl _ _⟩ | rfl))); simp only [Act.put, List.setIfInBounds_toArray, List.set_cons_succ, List.set_cons_zero])
        (apply wpG_pure; (focus rfl); (focus (intro wg Bg hbg hBg hFg; have cW : _ = some _ := (hbg.cell (p := ⟨p, 0, none⟩) hp5).trans c0; go_simp; (try go_bits); (first | done | exact ⟨rfl, Below.refl _ _⟩ | rfl))); simp only [Act.put, List.setIfInBounds_toArray, List.set_cons_succ, List.set_cons_zero])
        (apply wpG_pure; (focus rfl); (focus (intro wg Bg hbg hBg hFg; go_simp; (try go_bits); (first | done | exact ⟨rfl, Below.refl _ _⟩ | rfl))); simp only [Act.put, List.setIfInBounds_toArray, List.set_cons_succ, List.set_cons_zero])
        (apply wpG_make; (focus rfl); (focus (intro wg Bg hbg hBg hFg; refine goesTo_lit (n := 0) (by go_simp) [] rfl (by decide) (by go_simp; first | done | rfl | exact ⟨rfl, rfl⟩))); intro va; simp only [Act.put, List.setIfInBounds_toArray, List.set_cons_succ, List.set_cons_zero])
        (apply wpG_pure; (focus rfl); (focus (intro wg Bg hbg hBg hFg; go_simp; (try go_bits); (first | done | exact ⟨rfl, Below.refl _ _⟩ | rfl))); simp only [Act.put, List.setIfInBounds_toArray, List.set_cons_succ, List.set_cons_zero])
        (apply wpG_pure; (focus rfl); (focus (intro wg Bg hbg hBg hFg; go_simp; (try go_bits); (first | done | exact ⟨rfl, Below.refl _ _⟩ | rfl))); simp only [Act.put, List.setIfInBounds_toArray, List.set_cons_succ, List.set_cons_zero])
        (apply wpG_pure; (focus rfl); (focus (intro wg Bg hbg hBg hFg; go_simp; (try go_bits); (first | done | exact ⟨rfl, Below.refl _ _⟩ | rfl))); simp only [Act.put, List.setIfInBounds_toArray, List.set_cons_succ, List.set_cons_zero])
        (apply wpG_pure; (focus rfl); (focus (intro wg Bg hbg hBg hFg; have cW : _ = some _ := (hbg.cell (p := ⟨p, 0, none⟩) hp5).trans c0; go_simp; (try go_bits); (first | done | exact ⟨rfl, Below.refl _ _⟩ | rfl))); simp only [Act.put, List.setIfInBounds_toArray, List.set_cons_succ, List.set_cons_zero])
        (apply wpG_pure; (focus rfl); (focus (intro wg Bg hbg hBg hFg; go_simp; (try go_bits); (first | done | exact ⟨rfl, Below.refl _ _⟩ | rfl))); simp only [Act.put, List.setIfInBounds_toArray, List.set_cons_succ, List.set_cons_zero])
        (apply wpG_pure; (focus rfl); (focus (intro wg Bg hbg hBg hFg; go_simp; (try go_bits); (first | done | exact ⟨rfl, Below.refl _ _⟩ | rfl))); simp only [Act.put, List.setIfInBounds_toArray, List.set_cons_succ, List.set_cons_zero])
        (apply wpG_pure; (focus rfl); (focus (intro wg Bg hbg hBg hFg; go_simp; (try go_bits); (first | done | exact ⟨rfl, Below.refl _ _⟩ | rfl))); simp only [Act.put, List.setIfInBounds_toArray, List.set_cons_succ, List.set_cons_zero])
        (apply wpG_pure; (focus rfl); (focus (intro wg Bg hbg hBg hFg; have cW : _ = some _ := (hbg.cell (p := ⟨g, j * 3 + 1, none⟩) hgl).trans c1; go_simp; (try go_bits); (first | done | exact ⟨rfl, Below.refl _ _⟩ | rfl))); simp only [Act.put, List.setIfInBounds_toArray, List.set_cons_succ, List.set_cons_zero])
        (apply wpG_make; (focus rfl); (focus (intro wg Bg hbg hBg hFg; have hN := hFg 5 (by decide +kernel); refine goesTo_app8w (by go_simp) _ _ rfl st8 (by with_unfolding_all (conv => lhs; whnf)) (id hN).1 (by with_unfolding_all (conv => lhs; whnf)) (Rd.src (hr.drew.below hbg) Try.underlying38) (by first | omega | (simp; omega)) (Nat.zero_le _) (fun g hg => ⟨5, by simp, (id hN).2 g hg⟩))); intro vb; simp only [Act.put, List.setIfInBounds_toArray, List.set_cons_succ, List.set_cons_zero])
        (apply wpG_pure; (focus rfl); (focus (intro wg Bg hbg hBg hFg; go_simp; (try go_bits); (first | done | exact ⟨rfl, Below.refl _ _⟩ | rfl))); simp only [Act.put, List.setIfInBounds_toArray, List.set_cons_succ, List.set_cons_zero])
        (apply wpG_make; (focus rfl); (focus (intro wg Bg hbg hBg hFg; have hN := hFg 14 (by decide +kernel); refine goesTo_app8w (by go_simp) _ _ rfl st8 (by with_unfolding_all (conv => lhs; whnf)) (id hN).1 (by with_unfolding_all (conv => lhs; whnf)) (Rd.src (hv4.drew.below hbg) Try.underlying38) (by first | omega | (simp; omega)) (Nat.zero_le _) (fun g hg => ⟨14, by simp, (id hN).2 g hg⟩))); intro vc; simp only [Act.put, List.setIfInBounds_toArray, List.set_cons_succ, List.set_cons_zero])
        refine wpG_end (fun wg Bg hbg hBg hFg => ?_)
        have hN : new8 5 ([] ++ f.b ++ b) vc (Bg 16) wg := hFg 16
        rw [List.nil_append] at hN
        obtain ⟨hN1, hN2⟩ := hN
        have hNo : ∀ k, vc.ownBlock = some k → W4.heap.size ≤ k ∧ k < wg.heap.size := fun k hk => ⟨hBg.lo _ _ (hN2 k hk), hBg.hi _ _ (hN2 k hk)⟩
        clear hFg hBg hN2
        have hbg' : Below W4.heap.size W4 wg := below_of_drew hbg
        obtain ⟨-, A7, c7, e7, -⟩ := ownsRow_rd hN1
        obtain ⟨n7, hn7⟩ : ∃ n7, (f.b ++ b).length = n7 := ⟨_, rfl⟩
        rw [hn7] at e7
        subst e7
        have h6 := h5.below hbg'
        have c2 : _ = some _ := (hbg'.cell (p := ⟨g, j * 3 + 1, none⟩) hgl).trans c1
        have hrw6 := h6.row
        rw [hpl5.out] at hrw6
        have f2 := hrw6.frozenAt (j * 3 + 1)
        have hset := h5.setB hu2 j (by have := hpl5.out; omega) hjn.out rfl hbg' hN1.rd hNo rfl
        clear hbg hn7
        go_wp2_with fail
        go_ret
        have hCS := (hC4.below_trans hbg').chg_trans (Chg.setCell wg ⟨g, j * 3 + 1, none⟩ (.slice A7 n7 c7)) (fun k hk => by have e9 : k = g := hk; rw [e9]; exact hM4 g hgM)
        have hzz : (wg.setCell ⟨g, j * 3 + 1, none⟩ (.slice A7 n7 c7)).heap.size = wg.heap.size := by simp [World.setCell]
        have hzg := hbg'.size
        refine ⟨rfl, ?_, hCS⟩
        rw [hfin.out]
        refine hset.mono (fun k hk => ?_) (fun k hk => ?_)
        · rcases hk with hk | hk
          · rcases hM4 k hk with h9 | h9
            · exact .inr ⟨h9, by have := h5.lt k hk; omega⟩
            · exact .inl h9
          · exact .inr ⟨by have := hC4.size; omega, hk.2⟩
        · rcases hk with hk | hk
          · have := hlt k hk; have := hC4.size; omega
          · exact hk.2
  · have hA : appendD D s b = (firstD D s false, D) := by unfold appendD; rw [if_pos hf]
    rw [hA]
    generalize firstD D s false = X at *
    have hx : (X != 0) = true := by simpa using hf
    clear hf hA hU ev
    go_enter Try.func12, Try.ntmps12
    go_wp2_with fail
    refine hF.mono ?_; rintro e w1 ⟨rfl, rfl⟩
    go_wp2_with fail
    go_ret
    exact ⟨rfl, same, Chg.refl _ _⟩
end Go.Proofs.Ytfnlcnjflloecaa
