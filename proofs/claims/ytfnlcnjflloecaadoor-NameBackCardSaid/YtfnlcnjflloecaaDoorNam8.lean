/- name.Parse. -/
import Derived.Test.YtfnlcnjflloecaaDoorNam7
set_option linter.unusedVariables false
set_option linter.unusedSimpArgs false
namespace Go.Proofs.YtfnlcnjflloecaaDoor
open Go.RowKit
def GivesJ (w : World) (I : Jid3 × Int) (e : Ending) (w' : World) : Prop := e = .returned (.tuple #[.agg (jCells I.1.1 I.1.2.1 I.1.2.2).toArray, .int .i64 I.2]) ∧ Below w.heap.size w w'
theorem parse_panic {w wi : World} {ps pe : Nat} {x : Int} {zs : List Value} {u : Value} (hps : w.heap.size ≤ ps) (hpe : w.heap.size ≤ pe) (hne : ps ≠ pe) (hS : Blk wi ps 23 zs) (h8 : zs.length = 3) (hE : Blk wi pe 25 [u])
    (hW : Below w.heap.size w wi) {I : Jid3 × Int} (hI : I = (noJ, x)) {tmps : Array Value} (h2 : tmps.getD 2 undef = .pointer (some ⟨ps, 0, none⟩)) (h3 : tmps.getD 3 undef = .pointer (some ⟨pe, 0, none⟩)) :
    bodyPostD Tryd.prog Tryd.f10 (GivesJ w I) (Exit.panic (gaveN x)) { tmps := tmps, defers := [{ target := .fn (.func 37) #[.pointer (some ⟨ps, 0, none⟩), .pointer (some ⟨pe, 0, none⟩)], args := #[] }] } wi := by
  subst hI
  refine leaves_cons (f := 37) (args := #[.pointer (some ⟨ps, 0, none⟩), .pointer (some ⟨pe, 0, none⟩)]) (by simp) (by simp [go_sem]) ?_
  refine (pcatch_c ps pe x wi zs [u] u hS h8 hE rfl hne).mono ?_
  rintro e u' w'' ⟨rfl, rfl, k1, k2, hc2⟩
  refine ⟨_, results_jid _ rfl _ _ _ _ _ _ h2 h3 k1 rfl k2, rfl, ?_⟩
  exact hW.trans (hc2.below hW.size (fun k hk => by rcases hk with rfl | rfl <;> assumption))
theorem parse_done {w wi : World} {ps pe : Nat} {l h r : List UInt8} (hS : Blk wi ps 23 (jCells l h r)) (hE : Blk wi pe 25 [.int .i64 0])
    (hW : Below w.heap.size w wi) {I : Jid3 × Int} (hI : I = ((l, h, r), 0)) {tmps : Array Value} (h2 : tmps.getD 2 undef = .pointer (some ⟨ps, 0, none⟩)) (h3 : tmps.getD 3 undef = .pointer (some ⟨pe, 0, none⟩)) :
    bodyPostD Tryd.prog Tryd.f10 (GivesJ w I) Exit.ret { tmps := tmps, defers := [{ target := .fn (.func 37) #[.pointer (some ⟨ps, 0, none⟩), .pointer (some ⟨pe, 0, none⟩)], args := #[] }] } wi := by
  subst hI
  refine leaves_cons (f := 37) (args := #[.pointer (some ⟨ps, 0, none⟩), .pointer (some ⟨pe, 0, none⟩)]) (by simp) (by simp [go_sem]) ?_
  refine (pcatch_idle _ _ wi).mono ?_
  rintro e u' w'' ⟨rfl, rfl, rfl⟩
  exact ⟨_, results_jid _ rfl _ _ _ _ _ _ h2 h3 hS rfl hE, rfl, hW⟩
theorem below_setn {w wi : World} {B : Nat} (h : Below B w wi) (q j : Nat) (u : Value) (hq : B ≤ q) (hB : B ≤ wi.heap.size) : Below B w (wi.setCell ⟨q, j, none⟩ u) :=
  h.trans ((Chg.setCell wi ⟨q, j, none⟩ u).below hB (fun k hk => by cases hk; exact hq))
theorem drewN_below (w : World) : ∀ n, Below w.heap.size w (w.drewN n)
  | 0 => Below.refl _ _
  | n + 1 => (drewN_below w n).drew
theorem cut_c (c : UInt8) (s : List UInt8) (w : World) (hl : s.length ≤ 1000000000) (hM : MaxL w) :
    Calls Tryd.prog 38 #[.string (strB s), .string ⟨#[c]⟩] w fun e w' => e = .returned (.tuple #[.string (strB (cutI c s).1), .string (strB (cutI c s).2.1), .bool (cutI c s).2.2]) ∧ Below w.heap.size w w' := by
  obtain ⟨m, hm⟩ := hM
  have h := Tryd.strings_Cut (strB s) ⟨#[c]⟩ m w (by rw [strB_size]; omega) hm
  have e1 : (strB s).data.toList = s := rfl
  have e2 : (⟨#[c]⟩ : ByteArray).data.toList = [c] := rfl
  rw [e1, e2, cut_cutI] at h
  refine h.mono ?_
  rintro e w' ⟨rfl, n, rfl⟩
  exact ⟨rfl, drewN_below w n⟩
theorem jcells_one (l h r : List UInt8) : ∀ u ∈ (jCells l h r).toArray.toList, u.oneCell' = true := by
  intro v hv
  simp [jCells] at hv
  rcases hv with rfl | rfl | rfl <;> rfl
theorem cutI_lens (c : UInt8) : ∀ s : List UInt8, (cutI c s).1.length ≤ s.length ∧ (cutI c s).2.1.length ≤ s.length
  | [] => by simp [cutI]
  | b :: r => by
    have ih := cutI_lens c r
    unfold cutI
    by_cases h : b = c
    · rw [if_pos h]; simp
    · rw [if_neg h]
      simp only [List.length_cons]
      omega
set_option maxRecDepth 100000 in
set_option maxHeartbeats 6400000 in
theorem nparse_c (s : List UInt8) (w : World) (hl : s.length ≤ 1000000000) (hT : Tabs w) (hM : MaxL w) : Calls Tryd.prog 10 #[.string (strB s)] w (GivesJ w (parseI s)) := by
  have hmf : ∀ (fn : Fn) (first cap : Array Value) (w : World), (Instr.makeFunc fn first cap).run Tryd.prog w = .ok (.func fn first cap) w := fun _ _ _ _ => rfl
  obtain ⟨w2, e2, hS, hE, hW⟩ : ∃ w2, w2 = (w.alloc (.cells #[.string ⟨#[]⟩, .string ⟨#[]⟩, .string ⟨#[]⟩] 23)).alloc (.cells #[.int .i64 0] 25) ∧
      Blk w2 w.heap.size 23 (jCells [] [] []) ∧ Blk w2 (w.heap.size + 1) 25 [.int .i64 0] ∧ Below w.heap.size w w2 := by
    have b1 := (Below.refl w.heap.size w).alloc (Nat.le_refl _) (.cells #[.string ⟨#[]⟩, .string ⟨#[]⟩, .string ⟨#[]⟩] 23)
    have k1 := Blk.new w 23 (jCells [] [] [])
    have z1 : (w.alloc (.cells #[.string ⟨#[]⟩, .string ⟨#[]⟩, .string ⟨#[]⟩] 23)).heap.size = w.heap.size + 1 := by simp
    have k1' : Blk (w.alloc (.cells #[.string ⟨#[]⟩, .string ⟨#[]⟩, .string ⟨#[]⟩] 23)) w.heap.size 23 (jCells [] [] []) := k1
    clear k1
    generalize w.alloc (.cells #[.string ⟨#[]⟩, .string ⟨#[]⟩, .string ⟨#[]⟩] 23) = w1 at *
    have b2 := (Below.refl w1.heap.size w1).alloc (Nat.le_refl _) (.cells #[.int .i64 0] 25)
    have k2 := Blk.new w1 25 [.int .i64 0]
    have k2' : Blk (w1.alloc (.cells #[.int .i64 0] 25)) w1.heap.size 25 [.int .i64 0] := k2
    clear k2
    rw [z1] at k2'
    exact ⟨_, rfl, k1'.below b2, k2', below_below b1 b2⟩
  have eL : ∀ args w, (callFunc 15 args).run Tryd.prog w = .ok (.enter 15 args) w := enters_of Tryd.func15 (by kernel_rfl) rfl
  have eH : ∀ args w, (callFunc 16 args).run Tryd.prog w = .ok (.enter 16 args) w := enters_of Tryd.func16 (by kernel_rfl) rfl
  have eR : ∀ args w, (callFunc 40 args).run Tryd.prog w = .ok (.enter 40 args) w := enters_of Tryd.func40 (by kernel_rfl) rfl
  have C47 := fun w1 (hb : Below w.heap.size w w1) => cut_c 47 s w1 hl (hM.below hb)
  have l47 := cutI_lens 47 s
  have hI : parseI s = (let c := cutI 47 s
    let d := cutI 64 c.1
    let l := if d.2.2 = true then localI d.1 else ([], 0)
    let h := hostI (if d.2.2 = true then d.2.1 else c.1)
    let r := if c.2.2 = true then resI c.2.1 else ([], 0)
    if l.2 ≠ 0 then (noJ, l.2) else if h.2 ≠ 0 then (noJ, h.2) else if r.2 ≠ 0 then (noJ, r.2) else ((l.1, h.1, r.1), 0)) := rfl
  simp only at hI
  generalize parseI s = I at *
  generalize cutI 47 s = c at *
  obtain ⟨bare, rs, has⟩ := c
  simp only at hI l47 C47
  have C64 := fun w1 (hb : Below w.heap.size w w1) => cut_c 64 bare w1 (by omega) (hM.below hb)
  have l64 := cutI_lens 64 bare
  generalize cutI 64 bare = d at *
  obtain ⟨us, ho, at_⟩ := d
  simp only at hI l64 C64
  have PL := fun w1 (hb : Below w.heap.size w w1) => local_c us w1 (by omega) (hT.below hb)
  have PR := fun w1 (hb : Below w.heap.size w w1) => resource_c rs w1 (by omega) (hT.below hb)
  have PH := fun hs w1 (hh : hs.length ≤ 1000000000) (hb : Below w.heap.size w w1) => host_c hs w1 hh (hT.below hb) (hM.below hb)
  have hps : w.heap.size ≤ w.heap.size := Nat.le_refl _
  have hpe : w.heap.size ≤ w.heap.size + 1 := by omega
  have n1 : w.heap.size ≠ w.heap.size + 1 := by omega
  replace hI := Go.Lib.hid hI
  go_enter_defers Tryd.func10, Tryd.ntmps10
  go_wp2_with fail
  rw [← e2]
  clear e2
  refine (C47 _ hW).mono ?_
  rintro e w3 ⟨rfl, hb3⟩
  replace hS := hS.below hb3
  replace hE := hE.below hb3
  replace hW := below_below hW hb3
  go_wp2_with fail
  refine (C64 _ hW).mono ?_
  rintro e w4 ⟨rfl, hb4⟩
  replace hS := hS.below hb4
  replace hE := hE.below hb4
  replace hW := below_below hW hb4
  clear C47 C64 hb3 hb4
  cases at_
  · simp only [Bool.false_eq_true, if_false] at hI
    replace hI := Go.Lib.hid (hI.out.trans (if_neg (by simp)))
    generalize hhh : hostI bare = hv at *
    obtain ⟨hv, he⟩ := hv
    simp only at hI
    have PHv := fun w1 hb => PH bare w1 (by omega) hb
    rw [hhh] at PHv
    by_cases hh0 : he = 0
    · subst hh0
      replace hI := Go.Lib.hid (hI.out.trans (if_neg (by simp)))
      go_wp2_with fail
      refine (nmust_ok _ eH bare hv _ (PHv _ hW)).mono ?_
      rintro e w6 ⟨rfl, hb6⟩
      replace hS := hS.below hb6
      replace hE := hE.below hb6
      replace hW := below_below hW hb6
      have s1 := hS.frozen 1
      have c1 : _ = some _ := hS.cell 1
      go_upto_region 8 with fail
      have hwl := hS.lt
      replace hE := hE.other (a := ⟨w.heap.size, 1, none⟩) (fun e => n1 e.symm) (.string (strB hv))
      replace hW := below_setn hW w.heap.size 1 (.string (strB hv)) (Nat.le_refl _) (by omega)
      replace hS : Blk (w6.setCell ⟨w.heap.size, 1, none⟩ (.string (strB hv))) w.heap.size 23 (jCells [] hv []) := hS.stored 1 (.string (strB hv))
      clear s1 c1 hwl
      generalize w6.setCell ⟨w.heap.size, 1, none⟩ (.string (strB hv)) = w7 at *
      cases has
      · simp only [Bool.false_eq_true, if_false] at hI
        replace hI := Go.Lib.hid (hI.out.trans (if_neg (by simp)))
        have h1c := jcells_one [] hv []
        have tz0 : True := trivial
        go_wp2_with (first
          | (have _t := tz0; (with_reducible refine G_load ?_; refine L_load_agg agJ (by with_unfolding_all (conv => lhs; whnf)) hS rfl ?_); clear tz0; have tz1 : True := trivial)
          | (have _t := tz1; (with_reducible refine G_store ?_; refine L_store_agg agJ (by with_unfolding_all (conv => lhs; whnf)) (by with_unfolding_all (conv => lhs; whnf)) hS rfl rfl h1c ?_); intro wz hkz hgz hsz; have hEz := hE.grown hgz (fun e => by simp at e); have e0 : _ = some _ := hEz.cell 0; have e1 := hEz.frozen 0; clear tz1; have tz2 : True := trivial))
        have hcz : Chg (fun k => k = w.heap.size) w7 wz := Chg.grown hgz (fun k hk => by cases hk; rfl)
        have hWz : Below w.heap.size w wz := hW.trans (hcz.below hW.size (fun k hk => by cases hk; exact hps))
        exact parse_done (Blk.other (a := ⟨w.heap.size + 1, 0, none⟩) (by simpa using hkz) n1 _) (hEz.stored 0 (.int .i64 0)) (below_setn hWz (w.heap.size + 1) 0 (.int .i64 0) hpe hWz.size) hI.out rfl rfl
      · simp only [if_true] at hI
        generalize hrr : resI rs = rr at *
        obtain ⟨rv, re⟩ := rr
        simp only at hI
        by_cases hr0 : re = 0
        · subst hr0
          replace hI := Go.Lib.hid (hI.out.trans (if_neg (by simp)))
          go_wp2_with fail
          refine (nmust_ok _ eR rs rv _ (PR _ hW)).mono ?_
          rintro e w8 ⟨rfl, hb8⟩
          replace hS := hS.below hb8
          replace hE := hE.below hb8
          replace hW := below_below hW hb8
          have s2 := hS.frozen 2
          have c2 : _ = some _ := hS.cell 2
          go_upto_region 10 with fail
          have hwl := hS.lt
          replace hE := hE.other (a := ⟨w.heap.size, 2, none⟩) (fun e => n1 e.symm) (.string (strB rv))
          replace hW := below_setn hW w.heap.size 2 (.string (strB rv)) (Nat.le_refl _) (by omega)
          replace hS : Blk (w8.setCell ⟨w.heap.size, 2, none⟩ (.string (strB rv))) w.heap.size 23 (jCells [] hv rv) := hS.stored 2 (.string (strB rv))
          clear s2 c2 hwl
          generalize w8.setCell ⟨w.heap.size, 2, none⟩ (.string (strB rv)) = w9 at *
          have h1c := jcells_one [] hv rv
          have tz0 : True := trivial
          go_wp2_with (first
            | (have _t := tz0; (with_reducible refine G_load ?_; refine L_load_agg agJ (by with_unfolding_all (conv => lhs; whnf)) hS rfl ?_); clear tz0; have tz1 : True := trivial)
            | (have _t := tz1; (with_reducible refine G_store ?_; refine L_store_agg agJ (by with_unfolding_all (conv => lhs; whnf)) (by with_unfolding_all (conv => lhs; whnf)) hS rfl rfl h1c ?_); intro wz hkz hgz hsz; have hEz := hE.grown hgz (fun e => by simp at e); have e0 : _ = some _ := hEz.cell 0; have e1 := hEz.frozen 0; clear tz1; have tz2 : True := trivial))
          have hcz : Chg (fun k => k = w.heap.size) w9 wz := Chg.grown hgz (fun k hk => by cases hk; rfl)
          have hWz : Below w.heap.size w wz := hW.trans (hcz.below hW.size (fun k hk => by cases hk; exact hps))
          exact parse_done (Blk.other (a := ⟨w.heap.size + 1, 0, none⟩) (by simpa using hkz) n1 _) (hEz.stored 0 (.int .i64 0)) (below_setn hWz (w.heap.size + 1) 0 (.int .i64 0) hpe hWz.size) hI.out rfl rfl
        · replace hI := Go.Lib.hid (hI.out.trans (if_pos hr0))
          go_wp2_with fail
          refine (nmust_bad _ eR rs rv re hr0 _ (PR _ hW)).mono ?_
          rintro e w8 ⟨rfl, hb8⟩
          go_wp2_with fail
          exact parse_panic hps hpe n1 (hS.below hb8) rfl (hE.below hb8) (below_below hW hb8) hI.out rfl rfl
    · replace hI := Go.Lib.hid (hI.out.trans (if_pos hh0))
      go_wp2_with fail
      refine (nmust_bad _ eH bare hv he hh0 _ (PHv _ hW)).mono ?_
      rintro e w6 ⟨rfl, hb6⟩
      go_wp2_with fail
      exact parse_panic hps hpe n1 (hS.below hb6) rfl (hE.below hb6) (below_below hW hb6) hI.out rfl rfl
  · simp only [if_true] at hI
    generalize hll : localI us = lv at *
    obtain ⟨lv, le⟩ := lv
    simp only at hI
    by_cases hl0 : le = 0
    · subst hl0
      replace hI := Go.Lib.hid (hI.out.trans (if_neg (by simp)))
      go_wp2_with fail
      refine (nmust_ok _ eL us lv _ (PL _ hW)).mono ?_
      rintro e w5 ⟨rfl, hb5⟩
      replace hS := hS.below hb5
      replace hE := hE.below hb5
      replace hW := below_below hW hb5
      have s0 := hS.frozen 0
      have c0 : _ = some _ := hS.cell 0
      go_upto_region 7 with fail
      have hwl := hS.lt
      replace hE := hE.other (a := ⟨w.heap.size, 0, none⟩) (fun e => n1 e.symm) (.string (strB lv))
      replace hW := below_setn hW w.heap.size 0 (.string (strB lv)) (Nat.le_refl _) (by omega)
      replace hS : Blk (w5.setCell ⟨w.heap.size, 0, none⟩ (.string (strB lv))) w.heap.size 23 (jCells lv [] []) := hS.stored 0 (.string (strB lv))
      clear s0 c0 hwl
      generalize w5.setCell ⟨w.heap.size, 0, none⟩ (.string (strB lv)) = w5' at *
      generalize hhh : hostI ho = hv at *
      obtain ⟨hv, he⟩ := hv
      simp only at hI
      have PHv := fun w1 hb => PH ho w1 (by omega) hb
      rw [hhh] at PHv
      by_cases hh0 : he = 0
      · subst hh0
        replace hI := Go.Lib.hid (hI.out.trans (if_neg (by simp)))
        go_wp2_with fail
        refine (nmust_ok _ eH ho hv _ (PHv _ hW)).mono ?_
        rintro e w6 ⟨rfl, hb6⟩
        replace hS := hS.below hb6
        replace hE := hE.below hb6
        replace hW := below_below hW hb6
        have s1 := hS.frozen 1
        have c1 : _ = some _ := hS.cell 1
        go_upto_region 8 with fail
        have hwl := hS.lt
        replace hE := hE.other (a := ⟨w.heap.size, 1, none⟩) (fun e => n1 e.symm) (.string (strB hv))
        replace hW := below_setn hW w.heap.size 1 (.string (strB hv)) (Nat.le_refl _) (by omega)
        replace hS : Blk (w6.setCell ⟨w.heap.size, 1, none⟩ (.string (strB hv))) w.heap.size 23 (jCells lv hv []) := hS.stored 1 (.string (strB hv))
        clear s1 c1 hwl
        generalize w6.setCell ⟨w.heap.size, 1, none⟩ (.string (strB hv)) = w7 at *
        cases has
        · simp only [Bool.false_eq_true, if_false] at hI
          replace hI := Go.Lib.hid (hI.out.trans (if_neg (by simp)))
          have h1c := jcells_one lv hv []
          have tz0 : True := trivial
          go_wp2_with (first
            | (have _t := tz0; (with_reducible refine G_load ?_; refine L_load_agg agJ (by with_unfolding_all (conv => lhs; whnf)) hS rfl ?_); clear tz0; have tz1 : True := trivial)
            | (have _t := tz1; (with_reducible refine G_store ?_; refine L_store_agg agJ (by with_unfolding_all (conv => lhs; whnf)) (by with_unfolding_all (conv => lhs; whnf)) hS rfl rfl h1c ?_); intro wz hkz hgz hsz; have hEz := hE.grown hgz (fun e => by simp at e); have e0 : _ = some _ := hEz.cell 0; have e1 := hEz.frozen 0; clear tz1; have tz2 : True := trivial))
          have hcz : Chg (fun k => k = w.heap.size) w7 wz := Chg.grown hgz (fun k hk => by cases hk; rfl)
          have hWz : Below w.heap.size w wz := hW.trans (hcz.below hW.size (fun k hk => by cases hk; exact hps))
          exact parse_done (Blk.other (a := ⟨w.heap.size + 1, 0, none⟩) (by simpa using hkz) n1 _) (hEz.stored 0 (.int .i64 0)) (below_setn hWz (w.heap.size + 1) 0 (.int .i64 0) hpe hWz.size) hI.out rfl rfl
        · simp only [if_true] at hI
          generalize hrr : resI rs = rr at *
          obtain ⟨rv, re⟩ := rr
          simp only at hI
          by_cases hr0 : re = 0
          · subst hr0
            replace hI := Go.Lib.hid (hI.out.trans (if_neg (by simp)))
            go_wp2_with fail
            refine (nmust_ok _ eR rs rv _ (PR _ hW)).mono ?_
            rintro e w8 ⟨rfl, hb8⟩
            replace hS := hS.below hb8
            replace hE := hE.below hb8
            replace hW := below_below hW hb8
            have s2 := hS.frozen 2
            have c2 : _ = some _ := hS.cell 2
            go_upto_region 10 with fail
            have hwl := hS.lt
            replace hE := hE.other (a := ⟨w.heap.size, 2, none⟩) (fun e => n1 e.symm) (.string (strB rv))
            replace hW := below_setn hW w.heap.size 2 (.string (strB rv)) (Nat.le_refl _) (by omega)
            replace hS : Blk (w8.setCell ⟨w.heap.size, 2, none⟩ (.string (strB rv))) w.heap.size 23 (jCells lv hv rv) := hS.stored 2 (.string (strB rv))
            clear s2 c2 hwl
            generalize w8.setCell ⟨w.heap.size, 2, none⟩ (.string (strB rv)) = w9 at *
            have h1c := jcells_one lv hv rv
            have tz0 : True := trivial
            go_wp2_with (first
              | (have _t := tz0; (with_reducible refine G_load ?_; refine L_load_agg agJ (by with_unfolding_all (conv => lhs; whnf)) hS rfl ?_); clear tz0; have tz1 : True := trivial)
              | (have _t := tz1; (with_reducible refine G_store ?_; refine L_store_agg agJ (by with_unfolding_all (conv => lhs; whnf)) (by with_unfolding_all (conv => lhs; whnf)) hS rfl rfl h1c ?_); intro wz hkz hgz hsz; have hEz := hE.grown hgz (fun e => by simp at e); have e0 : _ = some _ := hEz.cell 0; have e1 := hEz.frozen 0; clear tz1; have tz2 : True := trivial))
            have hcz : Chg (fun k => k = w.heap.size) w9 wz := Chg.grown hgz (fun k hk => by cases hk; rfl)
            have hWz : Below w.heap.size w wz := hW.trans (hcz.below hW.size (fun k hk => by cases hk; exact hps))
            exact parse_done (Blk.other (a := ⟨w.heap.size + 1, 0, none⟩) (by simpa using hkz) n1 _) (hEz.stored 0 (.int .i64 0)) (below_setn hWz (w.heap.size + 1) 0 (.int .i64 0) hpe hWz.size) hI.out rfl rfl
          · replace hI := Go.Lib.hid (hI.out.trans (if_pos hr0))
            go_wp2_with fail
            refine (nmust_bad _ eR rs rv re hr0 _ (PR _ hW)).mono ?_
            rintro e w8 ⟨rfl, hb8⟩
            go_wp2_with fail
            exact parse_panic hps hpe n1 (hS.below hb8) rfl (hE.below hb8) (below_below hW hb8) hI.out rfl rfl
      · replace hI := Go.Lib.hid (hI.out.trans (if_pos hh0))
        go_wp2_with fail
        refine (nmust_bad _ eH ho hv he hh0 _ (PHv _ hW)).mono ?_
        rintro e w6 ⟨rfl, hb6⟩
        go_wp2_with fail
        exact parse_panic hps hpe n1 (hS.below hb6) rfl (hE.below hb6) (below_below hW hb6) hI.out rfl rfl
    · replace hI := Go.Lib.hid (hI.out.trans (if_pos hl0))
      go_wp2_with fail
      refine (nmust_bad _ eL us lv le hl0 _ (PL _ hW)).mono ?_
      rintro e w5 ⟨rfl, hb5⟩
      go_wp2_with fail
      exact parse_panic hps hpe n1 (hS.below hb5) rfl (hE.below hb5) (below_below hW hb5) hI.out rfl rfl
end Go.Proofs.YtfnlcnjflloecaaDoor
