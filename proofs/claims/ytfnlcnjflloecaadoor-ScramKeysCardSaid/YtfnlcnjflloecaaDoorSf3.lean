/- scram.First, walked. -/
import Derived.Test.YtfnlcnjflloecaaDoorSf2
set_option linter.unusedVariables false
set_option linter.unusedSimpArgs false
set_option linter.unnecessarySimpa false
namespace Go.Proofs.YtfnlcnjflloecaaDoor
open Go.RowKit
abbrev Fir := (List UInt8 × List UInt8 × List UInt8 × List UInt8) × Int
def badFi (x : Int) : Fir := (([], [], [], []), x)
def hdrI (t : List UInt8) : List UInt8 := if Lib.hasPrefix t [121] = true then [121, 44, 44] else [110, 44, 44]
def firstI (t : List UInt8) : Fir :=
  if 1024 < t.length then badFi 5
  else if Lib.hasPrefix t (hdrI t) = false then badFi 2
  else if Lib.hasPrefix (Lib.trimPrefix t (hdrI t)) [110, 61] = false then badFi 2
  else if (cutI 44 (Lib.trimPrefix (Lib.trimPrefix t (hdrI t)) [110, 61])).2.2 = false then badFi 2
  else match plainI (cutI 44 (Lib.trimPrefix (Lib.trimPrefix t (hdrI t)) [110, 61])).1 with
    | none => badFi 2
    | some name =>
      if Lib.hasPrefix (cutI 44 (Lib.trimPrefix (Lib.trimPrefix t (hdrI t)) [110, 61])).2.1 [114, 61] = false then badFi 2
      else if nonceI (Lib.trimPrefix (cutI 44 (Lib.trimPrefix (Lib.trimPrefix t (hdrI t)) [110, 61])).2.1 [114, 61]) 128 = false then badFi 2
      else ((hdrI t, name, Lib.trimPrefix (cutI 44 (Lib.trimPrefix (Lib.trimPrefix t (hdrI t)) [110, 61])).2.1 [114, 61], Lib.trimPrefix t (hdrI t)), 0)
def GivesFi (w : World) (r : Fir) (e : Ending) (w' : World) : Prop := e = .returned (.tuple #[.agg (fiC r.1.1 r.1.2.1 r.1.2.2.1 r.1.2.2.2).toArray, .int .i64 r.2]) ∧ Below w.heap.size w w'
theorem fi_panic {w wi : World} {ps pe : Nat} {zs : List Value} {u : Value} {R : Fir} (hps : w.heap.size ≤ ps) (hpe : w.heap.size ≤ pe) (hne : ps ≠ pe) (hS : Blk wi ps 68 zs) (h8 : zs.length = 4) (hE : Blk wi pe 25 [u])
    (hW : Below w.heap.size w wi) (hR : R = badFi 2) {tmps : Array Value} (h2 : tmps.getD 2 undef = .pointer (some ⟨ps, 0, none⟩)) (h3 : tmps.getD 3 undef = .pointer (some ⟨pe, 0, none⟩)) :
    bodyPostD Tryd.prog Tryd.f86 (GivesFi w R) (Exit.panic chainSc) { tmps := tmps, defers := [{ target := .fn (.func 123) #[.pointer (some ⟨ps, 0, none⟩), .pointer (some ⟨pe, 0, none⟩)], args := #[] }] } wi := by
  subst hR
  refine leaves_cons (f := 123) (args := #[.pointer (some ⟨ps, 0, none⟩), .pointer (some ⟨pe, 0, none⟩)]) (by simp) (by simp [go_sem]) ?_
  refine (ficatch_c ps pe wi zs [u] u hS h8 hE rfl hne).mono ?_
  rintro e u' w'' ⟨rfl, rfl, k1, k2, hc2⟩
  refine ⟨_, results_agg agFi Tryd.underlying68 _ rfl _ _ _ _ _ _ h2 h3 k1 rfl k2, rfl, ?_⟩
  exact hW.trans (hc2.below hW.size (fun k hk => by rcases hk with rfl | rfl <;> assumption))
theorem fi_done {w wi : World} {ps pe : Nat} {a b c d : List UInt8} {x : Int} {R : Fir} (hS : Blk wi ps 68 (fiC a b c d)) (hE : Blk wi pe 25 [.int .i64 x])
    (hW : Below w.heap.size w wi) (hR : R = ((a, b, c, d), x)) {tmps : Array Value} (h2 : tmps.getD 2 undef = .pointer (some ⟨ps, 0, none⟩)) (h3 : tmps.getD 3 undef = .pointer (some ⟨pe, 0, none⟩)) :
    bodyPostD Tryd.prog Tryd.f86 (GivesFi w R) Exit.ret { tmps := tmps, defers := [{ target := .fn (.func 123) #[.pointer (some ⟨ps, 0, none⟩), .pointer (some ⟨pe, 0, none⟩)], args := #[] }] } wi := by
  subst hR
  refine leaves_cons (f := 123) (args := #[.pointer (some ⟨ps, 0, none⟩), .pointer (some ⟨pe, 0, none⟩)]) (by simp) (by simp [go_sem]) ?_
  refine (ficatch_idle _ _ wi).mono ?_
  rintro e u' w'' ⟨rfl, rfl, rfl⟩
  exact ⟨_, results_agg agFi Tryd.underlying68 _ rfl _ _ _ _ _ _ h2 h3 hS rfl hE, rfl, hW⟩
theorem trimP_len (s p : List UInt8) : (Lib.trimPrefix s p).length ≤ s.length := by unfold Lib.trimPrefix; split <;> simp
theorem zFi : (Tryd.prog.info? 68).map (·.zero) = some (some (.agg (fiC [] [] [] []).toArray)) := by kernel_rfl
theorem hasP_c (s p : List UInt8) (w : World) : Calls Tryd.prog 124 #[.string (strB s), .string (strB p)] w fun e w' => e = .returned (.bool (Lib.hasPrefix s p)) ∧ w = w' := by
  refine (Tryd.strings_HasPrefix (strB s) (strB p) w).mono ?_
  rintro e w' h
  exact ⟨h.1, h.2.symm⟩
theorem scbehind_c (s p : List UInt8) (w : World) : Calls Tryd.prog 125 #[.string (strB s), .string (strB p)] w fun e w' => ((Lib.hasPrefix s p = true ∧ e = .returned (.string (strB (Lib.trimPrefix s p)))) ∨ (Lib.hasPrefix s p = false ∧ e = .panicked chainSc)) ∧ w = w' := by
  cases h : Lib.hasPrefix s p
  · refine (behind_bad s p w h).mono ?_
    rintro e w' ⟨rfl, rfl⟩
    exact ⟨.inr ⟨rfl, rfl⟩, rfl⟩
  · refine (behind_ok s p w h).mono ?_
    rintro e w' ⟨rfl, rfl⟩
    exact ⟨.inl ⟨rfl, rfl⟩, rfl⟩
set_option maxRecDepth 100000 in
set_option maxHeartbeats 12800000 in
theorem first_c (t : List UInt8) (w : World) (ht : t.length ≤ 1000000000) (hT : Tabs w) (hM : MaxL w) : Calls Tryd.prog 86 #[.string (strB t)] w (GivesFi w (firstI t)) := by
  have hmf : ∀ (fn : Fn) (first cap : Array Value) (w : World), (Instr.makeFunc fn first cap).run Tryd.prog w = .ok (.func fn first cap) w := fun _ _ _ _ => rfl
  obtain ⟨R, hR⟩ : ∃ R, firstI t = R := ⟨_, rfl⟩
  rw [hR]
  have hsz := strB_size t
  unfold firstI at hR
  replace hR := Go.Lib.hid hR
  have zFi' := zFi
  have hps : w.heap.size ≤ w.heap.size := Nat.le_refl _
  have hpe : w.heap.size ≤ w.heap.size + 1 := by omega
  have n1 : w.heap.size ≠ w.heap.size + 1 := by omega
  go_enter_defers Tryd.func86, Tryd.ntmps86
  have ta0 : True := trivial
  go_upto_region 2 with (first
    | (have _t := ta0; (with_reducible refine G_alloc ?_; refine L_alloc zFi' ?_); intro w1 hS hb1 hs1; clear ta0; have ta1 : True := trivial))
  have hE : Blk (w1.alloc (.cells #[.int .i64 0] 25)) w1.heap.size 25 [.int .i64 0] := Blk.new w1 25 [.int .i64 0]
  have bE := (Below.refl w1.heap.size w1).alloc (Nat.le_refl _) (.cells #[.int .i64 0] 25)
  rw [hs1] at hE
  generalize w1.alloc (.cells #[.int .i64 0] 25) = w2 at *
  replace hS := hS.below bE
  have hW := below_below hb1 bE
  clear hb1 bE hs1 zFi'
  by_cases hlen : 1024 < t.length
  · have q1 : (1024 : Int) < ((strB t).size : Int) := by omega
    have hR2 := hR.out
    rw [if_pos hlen] at hR2
    have hz : Tryd.prog.built 68 [] = some #[.string ⟨#[]⟩, .string ⟨#[]⟩, .string ⟨#[]⟩, .string ⟨#[]⟩] := by kernel_rfl
    have one : ∀ u ∈ [Value.string ⟨#[]⟩, Value.string ⟨#[]⟩, Value.string ⟨#[]⟩, Value.string ⟨#[]⟩], u.oneCell' = true := by intro v hv; simp at hv; rcases hv with rfl | rfl | rfl | rfl <;> rfl
    generalize strB t = S at *
    have tb0 : True := trivial
    go_wp2_with (first
      | (have _t := tb0; (with_reducible refine G_store ?_; refine L_store_agg agFi (by with_unfolding_all (conv => lhs; whnf)) (by with_unfolding_all (conv => lhs; whnf)) hS rfl rfl one ?_); intro w3 hk3 hg3 hs3; replace hk3 : Blk w3 w.heap.size 68 (fiC [] [] [] []) := hk3; have he3 := hE.grown hg3 (by simp); have d0 : _ = some _ := he3.cell 0; have f0 := he3.frozen 0; have hW3 := hW.grown hg3 hW.size (by intro k hk; cases hk; exact Nat.le_refl _); clear tb0; have tb1 : True := trivial))
    exact fi_done (hk3.other (a := ⟨w.heap.size + 1, 0, none⟩) n1 _) (he3.stored 0 _) (below_setn hW3 (w.heap.size + 1) 0 _ hpe hW3.size) hR2.symm rfl rfl
  have q1 : ¬ (1024 : Int) < ((strB t).size : Int) := by omega
  have n2 : w.heap.size + 1 ≠ w.heap.size := by omega
  replace hR := Go.Lib.hid (hR.out.symm.trans (if_neg hlen)).symm
  have d1 : decide ((1024 : Int) < ((strB t).size : Int)) = false := decide_eq_false q1
  clear hsz
  have zS : fiC [] [] [] [] = [Value.string ⟨#[]⟩, Value.string ⟨#[]⟩, Value.string ⟨#[]⟩, Value.string ⟨#[]⟩] := rfl
  replace hS : Blk w2 w.heap.size 68 [Value.string ⟨#[]⟩, Value.string ⟨#[]⟩, Value.string ⟨#[]⟩, Value.string ⟨#[]⟩] := hS
  clear zS
  have c9 : _ = some _ := hS.cell 0
  have f9 := hS.frozen 0
  have hS2 : Blk (w2.setCell ⟨w.heap.size, 0, none⟩ (.string ⟨#[110, 44, 44]⟩)) w.heap.size 68 [Value.string ⟨#[110, 44, 44]⟩, Value.string ⟨#[]⟩, Value.string ⟨#[]⟩, Value.string ⟨#[]⟩] := hS.stored 0 (.string ⟨#[110, 44, 44]⟩)
  have hE2 := hE.other (a := ⟨w.heap.size, 0, none⟩) n2 (.string ⟨#[110, 44, 44]⟩)
  have hW2 := below_setn hW w.heap.size 0 (.string ⟨#[110, 44, 44]⟩) hps hW.size
  have HP := fun wx => hasP_c t [121] wx
  obtain ⟨HD, hHD⟩ : ∃ HD, hdrI t = HD := ⟨_, rfl⟩
  have hR1 := hR.out
  rw [hHD] at hR1
  have hh : HD = if Lib.hasPrefix t [121] = true then [121, 44, 44] else [110, 44, 44] := hHD.symm
  generalize Lib.hasPrefix t [121] = bY at *
  clear hR hHD
  replace hR := Go.Lib.hid hR1
  clear hR1
  obtain ⟨S, hSt⟩ : ∃ S, strB t = S := ⟨_, rfl⟩
  have BH := fun wx => scbehind_c t HD wx
  rw [hSt] at HP BH q1 d1 ⊢
  replace hSt := Go.Lib.hid hSt
  replace hh := Go.Lib.hid hh
  go_upto_region 5 with fail
  generalize w2.setCell ⟨w.heap.size, 0, none⟩ (.string ⟨#[110, 44, 44]⟩) = w3 at *
  clear c9 f9 hS hE hW
  go_upto_if 14 with (refine (HP _).mono ?_; rintro e w4 ⟨rfl, rfl⟩)
  clear HP
  go_cut [] from 15 (fun wx => Blk wx w.heap.size 68 [.string (strB HD), .string ⟨#[]⟩, .string ⟨#[]⟩, .string ⟨#[]⟩] ∧ Blk wx (w.heap.size + 1) 25 [.int .i64 0] ∧ Below w.heap.size w wx)
  case first =>
    cases bY
    · have e1 : HD = [110, 44, 44] := hh.out
      subst e1
      go_wp2_with fail
      go_meet
      exact ⟨hS2, hE2, hW2⟩
    · have e1 : HD = [121, 44, 44] := hh.out
      subst e1
      have c9 : _ = some _ := hS2.cell 0
      have f9 := hS2.frozen 0
      have hS3 : Blk (w3.setCell ⟨w.heap.size, 0, none⟩ (.string ⟨#[121, 44, 44]⟩)) w.heap.size 68 [Value.string ⟨#[121, 44, 44]⟩, Value.string ⟨#[]⟩, Value.string ⟨#[]⟩, Value.string ⟨#[]⟩] := hS2.stored 0 (.string ⟨#[121, 44, 44]⟩)
      have hE3 := hE2.other (a := ⟨w.heap.size, 0, none⟩) n2 (.string ⟨#[121, 44, 44]⟩)
      have hW3 := below_setn hW2 w.heap.size 0 (.string ⟨#[121, 44, 44]⟩) hps hW2.size
      go_wp2_with fail
      go_meet
      exact ⟨hS3, hE3, hW3⟩
  case rest =>
    obtain ⟨hS, hE, hW⟩ := hcut
    clear hS2 hE2 hW2 hh
    have hn4 : ∀ a b c d : Value, ([a, b, c, d] : List Value).length = 4 := fun _ _ _ _ => rfl
    have c0 : _ = some _ := hS.cell 0
    go_wp2_with fail
    refine (BH _).mono ?_
    rintro e w5 ⟨⟨hp, rfl⟩ | ⟨hp, rfl⟩, rfl⟩
    rotate_left
    · have hR2 := hR.out.symm.trans (if_pos hp)
      go_wp2_with fail
      exact fi_panic hps hpe n1 hS rfl hE hW rfl rfl rfl
    replace hR := Go.Lib.hid (hR.out.symm.trans (if_neg (by rw [hp]; decide))).symm
    clear BH
    have hbl : (Lib.trimPrefix t HD).length ≤ t.length := trimP_len t HD
    generalize Lib.trimPrefix t HD = bare at *
    have c3 : _ = some _ := hS.cell 3
    have f3 := hS.frozen 3
    have hS2 : Blk (wc.setCell ⟨w.heap.size, 3, none⟩ (.string (strB bare))) w.heap.size 68 [.string (strB HD), .string ⟨#[]⟩, .string ⟨#[]⟩, .string (strB bare)] := hS.stored 3 (.string (strB bare))
    have hE2 := hE.other (a := ⟨w.heap.size, 3, none⟩) n2 (.string (strB bare))
    have hW2 := below_setn hW w.heap.size 3 (.string (strB bare)) hps hW.size
    have BN := fun wx => scbehind_c bare [110, 61] wx
    generalize hBB : strB bare = BB at *
    replace hBB := Go.Lib.hid hBB
    go_upto_region 8 with fail
    generalize wc.setCell ⟨w.heap.size, 3, none⟩ (.string BB) = w6 at *
    clear c0 c3 f3 hS hE hW hp
    have c3 : _ = some _ := hS2.cell 3
    go_wp2_with fail
    refine (BN _).mono ?_
    rintro e w7 ⟨⟨hp, rfl⟩ | ⟨hp, rfl⟩, rfl⟩
    rotate_left
    · have hR2 := hR.out.symm.trans (if_pos hp)
      go_wp2_with fail
      exact fi_panic hps hpe n1 hS2 rfl hE2 hW2 rfl rfl rfl
    replace hR := Go.Lib.hid (hR.out.symm.trans (if_neg (by rw [hp]; decide))).symm
    clear BN
    have hrl : (Lib.trimPrefix bare [110, 61]).length ≤ bare.length := trimP_len bare [110, 61]
    generalize Lib.trimPrefix bare [110, 61] = rs at *
    have CU := fun wx hM => cut_c 44 rs wx (by omega) hM
    have hcl := cutI_len 44 rs
    generalize cutI 44 rs = C at *
    obtain ⟨us, r2, sm⟩ := C
    simp only at hcl CU
    have hR3 := hR.out
    simp only at hR3
    clear hR
    replace hR := Go.Lib.hid hR3
    clear hR3
    have PL := fun wx hT hM => plain_c us wx (by omega) hT hM
    have BR := fun wx => scbehind_c r2 [114, 61] wx
    generalize strB rs = SR at *
    generalize strB us = SU at *
    generalize strB r2 = SR2 at *
    go_wp2_with fail
    refine (CU _ (hM.below hW2)).mono ?_; rintro e w8 ⟨rfl, hb8⟩
    replace hS2 := hS2.below hb8
    replace hE2 := hE2.below hb8
    replace hW2 := below_below hW2 hb8
    clear CU c3 hb8
    cases sm
    · have hR2 := hR.out.symm.trans (if_pos rfl)
      go_wp2_with fail
      refine (scmust_bad _).mono ?_; rintro e w9 ⟨rfl, rfl⟩
      go_wp2_with fail
      exact fi_panic hps hpe n1 hS2 rfl hE2 hW2 rfl rfl rfl
    replace hR := Go.Lib.hid (hR.out.symm.trans (if_neg (by decide))).symm
    go_wp2_with fail
    refine (scmust_ok _).mono ?_; rintro e w9 ⟨rfl, rfl⟩
    go_wp2_with fail
    refine (PL _ (hT.below hW2) (hM.below hW2)).mono ?_; rintro e wa ⟨he, hba⟩
    replace hS2 := hS2.below hba
    replace hE2 := hE2.below hba
    replace hW2 := below_below hW2 hba
    clear PL hba
    generalize plainI us = PI at *
    cases PI with
    | none =>
      simp only at he
      subst he
      have hR2 := hR.out.symm
      go_wp2_with fail
      exact fi_panic hps hpe n1 hS2 rfl hE2 hW2 rfl rfl rfl
    | some nm =>
      simp only at he
      subst he
      have hR3 := hR.out
      simp only at hR3
      clear hR
      replace hR := Go.Lib.hid hR3
      clear hR3
      generalize hNM : strB nm = NM at *
      go_wp2_with fail
      refine (BR _).mono ?_
      rintro e wb ⟨⟨hp2, rfl⟩ | ⟨hp2, rfl⟩, rfl⟩
      rotate_left
      · have hR2 := hR.out.symm.trans (if_pos hp2)
        go_wp2_with fail
        exact fi_panic hps hpe n1 hS2 rfl hE2 hW2 rfl rfl rfl
      replace hR := Go.Lib.hid (hR.out.symm.trans (if_neg (by rw [hp2]; decide))).symm
      clear BR
      have hnl : (Lib.trimPrefix r2 [114, 61]).length ≤ r2.length := trimP_len r2 [114, 61]
      generalize Lib.trimPrefix r2 [114, 61] = nn at *
      have NC := fun wx => nonce_c nn 128 wx (by omega)
      generalize hNN : strB nn = NN at *
      have c1 : _ = some _ := hS2.cell 1
      have f1 := hS2.frozen 1
      have hS3 : Blk (wa.setCell ⟨w.heap.size, 1, none⟩ (.string NM)) w.heap.size 68 [.string (strB HD), .string NM, .string ⟨#[]⟩, .string BB] := hS2.stored 1 (.string NM)
      have hE3 := hE2.other (a := ⟨w.heap.size, 1, none⟩) n2 (.string NM)
      have hW3 := below_setn hW2 w.heap.size 1 (.string NM) hps hW2.size
      have c2 : _ = some _ := hS3.cell 2
      have f2 := hS3.frozen 2
      have hS4 : Blk ((wa.setCell ⟨w.heap.size, 1, none⟩ (.string NM)).setCell ⟨w.heap.size, 2, none⟩ (.string NN)) w.heap.size 68 [.string (strB HD), .string NM, .string NN, .string BB] := hS3.stored 2 (.string NN)
      have hE4 := hE3.other (a := ⟨w.heap.size, 2, none⟩) n2 (.string NN)
      have hW4 := below_setn hW3 w.heap.size 2 (.string NN) hps hW3.size
      go_upto_region 11 with fail
      generalize (wa.setCell ⟨w.heap.size, 1, none⟩ (.string NM)).setCell ⟨w.heap.size, 2, none⟩ (.string NN) = wd at *
      clear c1 f1 c2 f2 hS2 hE2 hW2 hS3 hE3 hW3
      have c2 : _ = some _ := hS4.cell 2
      go_wp2_with fail
      refine (NC _).mono ?_; rintro e we ⟨rfl, hbe⟩
      replace hS4 := hS4.below hbe
      replace hE4 := hE4.below hbe
      replace hW4 := below_below hW4 hbe
      clear NC c2 hbe
      cases hN : nonceI nn 128
      · have hR2 := hR.out.symm.trans (if_pos hN)
        go_wp2_with fail
        refine (scmust_bad _).mono ?_; rintro e w9 ⟨rfl, rfl⟩
        go_wp2_with fail
        exact fi_panic hps hpe n1 hS4 rfl hE4 hW4 rfl rfl rfl
      have hR2 := hR.out.symm.trans (if_neg (by rw [hN]; decide))
      clear hR
      have one : ∀ u ∈ [Value.string (strB HD), Value.string NM, Value.string NN, Value.string BB], u.oneCell' = true := by intro v hv; simp at hv; rcases hv with rfl | rfl | rfl | rfl <;> rfl
      go_wp2_with fail
      refine (scmust_ok _).mono ?_; rintro e w9 ⟨rfl, rfl⟩
      have tz0 : True := trivial
      go_wp2_with (first
        | (have _t := tz0; (with_reducible refine G_load ?_; refine L_load_agg agFi (by with_unfolding_all (conv => lhs; whnf)) hS4 rfl ?_); clear tz0; have tz1 : True := trivial)
        | (have _t := tz1; (with_reducible refine G_store ?_; refine L_store_agg agFi (by with_unfolding_all (conv => lhs; whnf)) (by with_unfolding_all (conv => lhs; whnf)) hS4 rfl rfl one ?_); intro wf hkf hgf hsf; have hef := hE4.grown hgf (by simp); have d0 : _ = some _ := hef.cell 0; have f0 := hef.frozen 0; have hWf := hW4.grown hgf hW4.size (by intro k hk; cases hk; exact Nat.le_refl _); clear tz1; have tz2 : True := trivial))
      have hkF : Blk wf w.heap.size 68 (fiC HD nm nn bare) := by
        unfold fiC
        rw [hBB.out, hNM, hNN]
        simpa using hkf
      exact fi_done (hkF.other (a := ⟨w.heap.size + 1, 0, none⟩) n1 _) (hef.stored 0 _) (below_setn hWf (w.heap.size + 1) 0 _ hpe hWf.size) rfl rfl rfl
end Go.Proofs.YtfnlcnjflloecaaDoor
