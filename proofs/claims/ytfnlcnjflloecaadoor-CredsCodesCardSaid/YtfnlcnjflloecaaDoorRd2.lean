/- creds.Read. -/
import Derived.Test.YtfnlcnjflloecaaDoorRd1
set_option linter.unusedVariables false
set_option linter.unusedSimpArgs false
set_option linter.unnecessarySimpa false
namespace Go.Proofs.YtfnlcnjflloecaaDoor
open Go.RowKit
theorem uintI_le (l : List UInt8) : (uintI l).2.1.length ≤ l.length := by unfold uintI; split <;> simp
theorem uintI_lt64 (l : List UInt8) : (uintI l).1 < 18446744073709551616 := by unfold uintI; split; exact numI_lt l; simp
theorem textI_le (l : List UInt8) (m : Nat) : (textI l m).1.length ≤ l.length ∧ (textI l m).2.1.length ≤ l.length := by
  unfold textI
  split
  · split
    · simp
    · split
      · simp
      · split
        · simp; omega
        · simp
  · simp
def readI (l : List UInt8) : RecI :=
  let t := textI l 64
  let n := uintI t.2.1
  let m := uintI (n.2.1.drop n.1)
  if t.2.2 ≠ 0 then badR 2 else if n.2.2 ≠ 0 ∨ 32 < n.1 ∨ n.2.1.length < n.1 then badR 2
  else if m.2.2 ≠ 0 ∨ 4096 < m.1 ∨ m.2.1.length ≠ 64 then badR 2
  else if rightB t.1 (n.2.1.take n.1) (m.1 : Int) = true then ⟨t.1, n.2.1.take n.1, (m.1 : Int), m.2.1.take 32, m.2.1.drop 32, 0⟩ else badR 2
theorem slice_run_hk {W : World} {v : Value} {l : List UInt8} (h : Rd W v l) (k : IntKind) (hi : Nat) (hh : hi ≤ l.length) : ∃ v', (∀ w, (Instr.sliceAt 37 v none (some (.int k (hi : Int))) none).run Tryd.prog w = .ok v' w) ∧ Rd W v' (l.take hi) ∧ v'.ownBlock = v.ownBlock := by
  obtain ⟨A, c, rfl, h1, _, _⟩ := h.open
  refine ⟨_, fun w => (run_sliced (w := w) st8 A l.length c 0 hi (Nat.zero_le _) hh h1 k k).2.1, ?_, sliced_block ..⟩
  have hp := h.piece 0 hi (Nat.zero_le _) hh
  simpa using hp
theorem slice_run_lk {W : World} {v : Value} {l : List UInt8} (h : Rd W v l) (k : IntKind) (lo : Nat) (hh : lo ≤ l.length) : ∃ v', (∀ w, (Instr.sliceAt 37 v (some (.int k (lo : Int))) none none).run Tryd.prog w = .ok v' w) ∧ Rd W v' (l.drop lo) ∧ v'.ownBlock = v.ownBlock := by
  obtain ⟨A, c, rfl, h1, _, _⟩ := h.open
  refine ⟨_, fun w => (run_sliced (w := w) st8 A l.length c lo l.length hh (Nat.le_refl _) h1 k k).2.2, ?_, sliced_block ..⟩
  have hp := h.piece lo l.length hh (Nat.le_refl _)
  simpa using hp
set_option maxRecDepth 100000 in
set_option maxHeartbeats 12800000 in
theorem cread_c (v : Value) (l : List UInt8) (w : World) (h : Rd w v l) (hl : l.length ≤ 90000) (hT : Tabs w) : Calls Tryd.prog 26 #[v] w (GivesR w (readI l)) := by
  have hmf : ∀ (fn : Fn) (first cap : Array Value) (w : World), (Instr.makeFunc fn first cap).run Tryd.prog w = .ok (.func fn first cap) w := fun _ _ _ _ => rfl
  have TX := fun w1 (hb : Below w.heap.size w w1) => octtext_c v l 64 w1 (h.below hb) (by omega) (by omega) (hT.below hb)
  have e64 : (64 : Int).toNat = 64 := rfl
  rw [e64] at TX
  have hI : readI l = (let t := textI l 64
    let n := uintI t.2.1
    let m := uintI (n.2.1.drop n.1)
    if t.2.2 ≠ 0 then badR 2 else if n.2.2 ≠ 0 ∨ 32 < n.1 ∨ n.2.1.length < n.1 then badR 2
    else if m.2.2 ≠ 0 ∨ 4096 < m.1 ∨ m.2.1.length ≠ 64 then badR 2
    else if rightB t.1 (n.2.1.take n.1) (m.1 : Int) = true then ⟨t.1, n.2.1.take n.1, (m.1 : Int), m.2.1.take 32, m.2.1.drop 32, 0⟩ else badR 2) := rfl
  have lt := textI_le l 64
  simp only at hI
  unfold GivesT at TX
  generalize readI l = I at *
  generalize textI l 64 = T at *
  obtain ⟨u, r1, e1⟩ := T
  simp only at hI lt TX
  have UX := fun v1 w1 h1 => uint_c v1 r1 w1 h1 (by omega)
  have ln := uintI_le r1
  have ln2 := uintI_lt64 r1
  unfold GivesU at UX
  generalize uintI r1 = N at *
  obtain ⟨n, r2, e2⟩ := N
  simp only at hI ln ln2 UX
  have UY := fun v1 w1 h1 => uint_c v1 (r2.drop n) w1 h1 (by simp; omega)
  have lm := uintI_le (r2.drop n)
  have lm2 := uintI_lt64 (r2.drop n)
  unfold GivesU at UY
  generalize uintI (r2.drop n) = M at *
  obtain ⟨m, r3, e3⟩ := M
  simp only [List.length_drop] at hI lm lm2 UY
  have zR' := zR
  have hps : w.heap.size ≤ w.heap.size := Nat.le_refl _
  have hpe : w.heap.size ≤ w.heap.size + 1 := by omega
  have n1 : w.heap.size ≠ w.heap.size + 1 := by omega
  have n2 : w.heap.size + 1 ≠ w.heap.size := by omega
  replace hI := Go.Lib.hid hI
  go_enter_defers Tryd.func26, Tryd.ntmps26
  have ta0 : True := trivial
  go_upto_region 2 with (first
    | (have _t := ta0; (with_reducible refine G_alloc ?_; refine L_alloc zR' ?_); intro w1 hS hb1 hs1; clear ta0; have ta1 : True := trivial))
  have hE : Blk (w1.alloc (.cells #[.int .i64 0] 25)) w1.heap.size 25 [.int .i64 0] := Blk.new w1 25 [.int .i64 0]
  have bE := (Below.refl w1.heap.size w1).alloc (Nat.le_refl _) (.cells #[.int .i64 0] 25)
  rw [hs1] at hE
  generalize w1.alloc (.cells #[.int .i64 0] 25) = w2 at *
  replace hS := hS.below bE
  have hW := below_below hb1 bE
  have nS : (recC [] (.slice none 0 0) 0 zB zB).length = 67 := rfl
  clear hb1 bE hs1 zR'
  go_wp2_with fail
  refine (TX _ hW).mono ?_
  rintro e w3 ⟨v1, rfl, ho1, hb3⟩
  have hlo : ∀ g, v1.ownBlock = some g → w.heap.size + 1 < g := fun g hg => by have h1 := ho1.base_le g hg; have h2 := hE.lt; omega
  replace hS := hS.below hb3
  replace hE := hE.below hb3
  replace hW := below_below hW hb3
  have s0 := hE.frozen 0
  have c0 : _ = some _ := hE.cell 0
  go_upto_region 3 with fail
  replace hS := hS.other (a := ⟨w.heap.size + 1, 0, none⟩) n1 (.int .i64 e1)
  replace hW := below_setn hW (w.heap.size + 1) 0 (.int .i64 e1) hpe hW.size
  have hoo := ho1.grown (grown_setCell w3 ⟨w.heap.size + 1, 0, none⟩ (.int .i64 e1)) (opt_apart (fun g hg e => by have h1 := hlo _ e; simp at hg; omega))
  replace hE : Blk (w3.setCell ⟨w.heap.size + 1, 0, none⟩ (.int .i64 e1)) (w.heap.size + 1) 25 [.int .i64 e1] := hE.stored 0 (.int .i64 e1)
  clear s0 c0 ho1 hb3
  generalize w3.setCell ⟨w.heap.size + 1, 0, none⟩ (.int .i64 e1) = w3x at *
  have c0 : _ = some _ := hE.cell 0
  by_cases k1 : e1 = 0
  rotate_left
  · have q1 : (e1 == 0) = false := by simpa using k1
    clear UX UY TX
    have hI2 := hI.out.trans (if_pos k1)
    replace hI2 := Go.Lib.hid hI2
    go_wp2_with fail
    refine (crmust_bad _).mono ?_
    rintro e w9 ⟨rfl, rfl⟩
    go_wp2_with fail
    exact cread_panic hps hpe n1 hS nS hE hW hI2.out rfl rfl
  subst k1
  replace hI := Go.Lib.hid (hI.out.trans (if_neg (by simp)))
  go_wp2_with fail
  refine (crmust_ok _).mono ?_
  rintro e w9 ⟨rfl, rfl⟩
  have hrd1 := hoo.rd
  clear hoo hlo c0 TX
  go_wp2_with fail
  refine (UX _ _ hrd1).mono ?_
  rintro e w4 ⟨v2, rfl, ho2, hb3⟩
  have hlo : ∀ g, v2.ownBlock = some g → w.heap.size + 1 < g := fun g hg => by have h1 := ho2.base_le g hg; have h2 := hE.lt; omega
  replace hS := hS.below hb3
  replace hE := hE.below hb3
  replace hW := below_below hW hb3
  have s0 := hE.frozen 0
  have c0 : _ = some _ := hE.cell 0
  go_upto_region 5 with fail
  replace hS := hS.other (a := ⟨w.heap.size + 1, 0, none⟩) n1 (.int .i64 e2)
  replace hW := below_setn hW (w.heap.size + 1) 0 (.int .i64 e2) hpe hW.size
  have hoo := ho2.grown (grown_setCell w4 ⟨w.heap.size + 1, 0, none⟩ (.int .i64 e2)) (opt_apart (fun g hg e => by have h1 := hlo _ e; simp at hg; omega))
  replace hE : Blk (w4.setCell ⟨w.heap.size + 1, 0, none⟩ (.int .i64 e2)) (w.heap.size + 1) 25 [.int .i64 e2] := hE.stored 0 (.int .i64 e2)
  clear s0 c0 ho2 hb3
  generalize w4.setCell ⟨w.heap.size + 1, 0, none⟩ (.int .i64 e2) = w4x at *
  have c0 : _ = some _ := hE.cell 0
  clear UX hrd1
  obtain ⟨A2, c2, rfl, _, _, _⟩ := hoo.rd.open
  by_cases k2 : e2 = 0
  rotate_left
  · have q1 : (e2 == 0) = false := by simpa using k2
    clear UY
    have hI2 := hI.out.trans (if_pos (.inl k2))
    replace hI2 := Go.Lib.hid hI2
    go_wp2_with fail
    refine (crmust_bad _).mono ?_
    rintro e w9 ⟨rfl, rfl⟩
    go_wp2_with fail
    exact cread_panic hps hpe n1 hS nS hE hW hI2.out rfl rfl
  subst k2
  by_cases k3 : 32 < n
  · have q1 : ¬ (n : Int) ≤ 32 := by omega
    have q2 : decide ((n : Int) ≤ 32) = false := decide_eq_false q1
    clear UY
    have hI2 := hI.out.trans (if_pos (.inr (.inl k3)))
    replace hI2 := Go.Lib.hid hI2
    go_wp2_with fail
    refine (crmust_bad _).mono ?_
    rintro e w9 ⟨rfl, rfl⟩
    go_wp2_with fail
    exact cread_panic hps hpe n1 hS nS hE hW hI2.out rfl rfl
  have q1 : (n : Int) ≤ 32 := by omega
  have q3 : (r2.length : Int) ≤ 90000 := by omega
  by_cases k4 : r2.length < n
  · have q2 : ¬ (n : Int) ≤ r2.length := by omega
    have q4 : decide ((n : Int) ≤ r2.length) = false := decide_eq_false q2
    clear UY
    have hI2 := hI.out.trans (if_pos (.inr (.inr k4)))
    replace hI2 := Go.Lib.hid hI2
    go_wp2_with fail
    refine (crmust_bad _).mono ?_
    rintro e w9 ⟨rfl, rfl⟩
    go_wp2_with fail
    exact cread_panic hps hpe n1 hS nS hE hW hI2.out rfl rfl
  have q2 : (n : Int) ≤ r2.length := by omega
  replace hI := Go.Lib.hid (hI.out.trans (if_neg (by rintro (h | h | h); exact absurd rfl h; exact k3 h; exact k4 h)))
  go_wp2_with fail
  refine (crmust_ok _).mono ?_
  rintro e w9 ⟨rfl, rfl⟩
  obtain ⟨v3, hr3, hd3, hw3⟩ := slice_run_hk hoo.rd .u64 n (by omega)
  obtain ⟨v5, hr5, hd5, hw5⟩ := slice_run_lk hoo.rd .u64 n (by omega)
  have hlo5 : ∀ g, v5.ownBlock = some g → w.heap.size + 1 < g := fun g hg => hlo g (by rw [← hw5]; exact hg)
  have CL := clone_c v3 (r2.take n) w4x hd3 (by simp; omega)
  clear c0 hlo hw3 hw5 hd3
  generalize hSL : r2.take n = sl at *
  have hsll : sl.length ≤ 32 := by rw [← hSL]; simp; omega
  replace hSL := Go.Lib.hid hSL
  go_wp2_with fail
  refine CL.mono ?_
  rintro e w5 ⟨v4, rfl, ho4, hb5⟩
  have hloho4 : ∀ g, v4.ownBlock = some g → w.heap.size + 1 < g := fun g hg => by have h1 := ho4.base_le g hg; have h2 := hE.lt; omega
  replace hS := hS.below hb5
  replace hE := hE.below hb5
  replace hW := below_below hW hb5
  replace hd5 := hd5.below hb5
  clear CL hb5 hoo hr3
  replace ho4 : Own8 w5 w.heap.size 5 v4 sl := ho4.rebase2 (fun g hg => by have := hloho4 g hg; omega)
  obtain ⟨A4, c4, rfl, _, _, _⟩ := ho4.rd.open
  have s0 := hS.frozen 0
  have c0 : _ = some _ := hS.cell 0
  have s1 := hS.frozen 1
  have c1 : _ = some _ := hS.cell 1
  go_upto_region 7 with fail
  have hS0 := hS.stored 0 (.string (strB u))
  rw [recC_set0] at hS0
  have hS1 := hS0.stored 1 (.slice A4 sl.length c4)
  rw [recC_set1] at hS1
  replace hE := (hE.other (a := ⟨w.heap.size, 0, none⟩) n2 (.string (strB u))).other (a := ⟨w.heap.size, 1, none⟩) n2 (.slice A4 sl.length c4)
  have hz0 := hW.size
  replace hW := below_setn (below_setn hW w.heap.size 0 (.string (strB u)) hps hW.size) w.heap.size 1 (.slice A4 sl.length c4) hps (by simpa using hz0)
  have hg0 := grown_setCell w5 ⟨w.heap.size, 0, none⟩ (.string (strB u))
  have hg1 := grown_setCell (w5.setCell ⟨w.heap.size, 0, none⟩ (.string (strB u))) ⟨w.heap.size, 1, none⟩ (.slice A4 sl.length c4)
  replace ho4 := (ho4.grown hg0 (opt_apart (fun g hg e => by have h1 := hloho4 _ e; simp at hg; omega))).grown hg1 (opt_apart (fun g hg e => by have h1 := hloho4 _ e; simp at hg; omega))
  replace hd5 := (hd5.grown hg0 (fun _ e => by have h1 : w.heap.size + 1 < w.heap.size := hlo5 _ e; omega)).grown hg1 (fun _ e => by have h1 : w.heap.size + 1 < w.heap.size := hlo5 _ e; omega)
  replace hS := hS1
  clear s0 s1 c0 c1 hS0 hS1 hg0 hg1 hz0
  generalize (w5.setCell ⟨w.heap.size, 0, none⟩ (.string (strB u))).setCell ⟨w.heap.size, 1, none⟩ (.slice A4 sl.length c4) = w5x at *
  have nS : (recC u (.slice A4 sl.length c4) 0 zB zB).length = 67 := recC_len rfl rfl
  go_wp2_with fail
  refine (UY _ _ hd5).mono ?_
  rintro e w6 ⟨v6, rfl, ho6, hb3⟩
  have hlo : ∀ g, v6.ownBlock = some g → w.heap.size + 1 < g := fun g hg => by have h1 := ho6.base_le g hg; have h2 := hE.lt; omega
  replace hS := hS.below hb3
  replace hE := hE.below hb3
  replace hW := below_below hW hb3
  replace ho4 := ho4.below hb3
  have s0 := hE.frozen 0
  have c0 : _ = some _ := hE.cell 0
  go_upto_region 8 with fail
  replace hS := hS.other (a := ⟨w.heap.size + 1, 0, none⟩) n1 (.int .i64 e3)
  replace hW := below_setn hW (w.heap.size + 1) 0 (.int .i64 e3) hpe hW.size
  have hoo := ho6.grown (grown_setCell w6 ⟨w.heap.size + 1, 0, none⟩ (.int .i64 e3)) (opt_apart (fun g hg e => by have h1 := hlo _ e; simp at hg; omega))
  replace ho4 := ho4.grown (grown_setCell w6 ⟨w.heap.size + 1, 0, none⟩ (.int .i64 e3)) (opt_apart (fun g hg e => by have h1 := hloho4 _ e; simp at hg; omega))
  replace hE : Blk (w6.setCell ⟨w.heap.size + 1, 0, none⟩ (.int .i64 e3)) (w.heap.size + 1) 25 [.int .i64 e3] := hE.stored 0 (.int .i64 e3)
  clear s0 c0 ho6 hb3
  generalize w6.setCell ⟨w.heap.size + 1, 0, none⟩ (.int .i64 e3) = w6x at *
  have c0 : _ = some _ := hE.cell 0
  clear UY hd5 hlo5 hr5
  obtain ⟨A6, c6, rfl, _, _, _⟩ := hoo.rd.open
  by_cases k5 : e3 = 0
  rotate_left
  · have q5 : (e3 == 0) = false := by simpa using k5
    have hI2 := hI.out.trans (if_pos (.inl k5))
    replace hI2 := Go.Lib.hid hI2
    go_wp2_with fail
    refine (crmust_bad _).mono ?_
    rintro e w9 ⟨rfl, rfl⟩
    go_wp2_with fail
    exact cread_panic hps hpe n1 hS nS hE hW hI2.out rfl rfl
  subst k5
  by_cases k6 : 4096 < m
  · have q5 : ¬ (m : Int) ≤ 4096 := by omega
    have q6 : decide ((m : Int) ≤ 4096) = false := decide_eq_false q5
    have hI2 := hI.out.trans (if_pos (.inr (.inl k6)))
    replace hI2 := Go.Lib.hid hI2
    go_wp2_with fail
    refine (crmust_bad _).mono ?_
    rintro e w9 ⟨rfl, rfl⟩
    go_wp2_with fail
    exact cread_panic hps hpe n1 hS nS hE hW hI2.out rfl rfl
  have q5 : (m : Int) ≤ 4096 := by omega
  have q6 : (0 : Int) ≤ (m : Int) := by omega
  by_cases k7 : r3.length ≠ 64
  · have q7 : ((r3.length : Int) == 64) = false := by rw [beq_eq_false_iff_ne]; omega
    have hI2 := hI.out.trans (if_pos (.inr (.inr k7)))
    replace hI2 := Go.Lib.hid hI2
    go_wp2_with fail
    refine (crmust_bad _).mono ?_
    rintro e w9 ⟨rfl, rfl⟩
    go_wp2_with fail
    exact cread_panic hps hpe n1 hS nS hE hW hI2.out rfl rfl
  have k7' : r3.length = 64 := by omega
  have q7 : ((r3.length : Int) == 64) = true := by rw [beq_iff_eq]; omega
  replace hI := Go.Lib.hid (hI.out.trans (if_neg (by rintro (h | h | h); exact absurd rfl h; exact k6 h; exact k7 h)))
  clear k7
  obtain ⟨va, hra, hda, hwa⟩ := slice_run_hk hoo.rd .i64 32 (by omega)
  obtain ⟨vb, hrb, hdb, hwb⟩ := slice_run_lk hoo.rd .i64 32 (by omega)
  have la : (r3.take 32).length = 32 := by simp; omega
  have lb : (r3.drop 32).length = 32 := by simp; omega
  obtain ⟨Aa, ca, rfl, ka1, ka2, h3a⟩ := hda.open
  obtain ⟨ba, oa, rfl, _⟩ := h3a (by omega)
  obtain ⟨Ab, cb, rfl, kb1, kb2, h3b⟩ := hdb.open
  obtain ⟨bb, ob, rfl, _⟩ := h3b (by omega)
  have lba : ba ≠ w.heap.size := by have := hlo ba (by rw [← hwa]; rfl); omega
  have lbb : bb ≠ w.heap.size := by have := hlo bb (by rw [← hwb]; rfl); omega
  generalize hRA : r3.take 32 = RA at *
  generalize hRB : r3.drop 32 = RB at *
  replace hRA := Go.Lib.hid hRA
  replace hRB := Go.Lib.hid hRB
  rw [la] at hra hda
  rw [lb] at hrb hdb
  have hra' : ∀ w, (Instr.sliceAt 37 (.slice A6 r3.length c6) none (some (.int .i64 32)) none).run Tryd.prog w = .ok (.slice (some ⟨ba, oa, none⟩) 32 ca) w := hra
  have hrb' : ∀ w, (Instr.sliceAt 37 (.slice A6 r3.length c6) (some (.int .i64 32)) none none).run Tryd.prog w = .ok (.slice (some ⟨bb, ob, none⟩) 32 cb) w := hrb
  clear hra hrb h3a h3b hwa hwb ka1 ka2 kb1 kb2
  have nRA := (bvs_length RA).trans la
  have nRB := (bvs_length RB).trans lb
  replace la := Go.Lib.hid la
  replace lb := Go.Lib.hid lb
  replace k7' := Go.Lib.hid k7'
  go_wp2_with fail
  refine (crmust_ok _).mono ?_
  rintro e w9 ⟨rfl, rfl⟩
  clear q7 c0
  go_wp2_with fail
  refine O.region_making 16 (fun | 11 => [100] | 13 => [11] | 15 => [13] | _ => []) (fun | 11 => some fun _ => oneB w.heap.size 42 (recC u (.slice A4 sl.length c4) (m : Int) zB zB) | 13 => some fun _ => oneB w.heap.size 42 (recC u (.slice A4 sl.length c4) (m : Int) RA zB) | 15 => some fun _ => oneB w.heap.size 42 (recC u (.slice A4 sl.length c4) (m : Int) RA RB) | _ => none) 11 100 (fun k => k = w.heap.size) (oneB w.heap.size 42 (recC u (.slice A4 sl.length c4) 0 zB zB) undef) (by kernel_rfl) (by kernel_rfl) ?_ ?_ ?_ ?_ ?_
  · intro i' S' h' e v'
    match i', h' with
    | 11, h' => cases h'; exact oneB_loc _ _ _ _ _ _
    | 13, h' => cases h'; exact oneB_loc _ _ _ _ _ _
    | 15, h' => cases h'; exact oneB_loc _ _ _ _ _ _
  · exact oneB_loc _ _ _ _ _ _
  · exact ⟨hS, rfl⟩
  · rintro k rfl
    exact hS.lt
  simp only [List.take_succ_cons, List.take_zero, List.drop_succ_cons, List.drop_zero]
  (apply O.wpG_pure; (focus rfl); (focus (intro wg Bg hbg hBg hFg; go_simp; (try go_bits); (first | done | exact ⟨rfl, Below.refl _ _⟩ | rfl))); simp only [Act.put, List.setIfInBounds_toArray, List.set_cons_succ, List.set_cons_zero])
  (apply O.wpG_pure; (focus rfl); (focus (intro wg Bg hbg hBg hFg; go_simp; (try go_bits); (first | done | exact ⟨rfl, Below.refl _ _⟩ | rfl))); simp only [Act.put, List.setIfInBounds_toArray, List.set_cons_succ, List.set_cons_zero])
  (apply O.wpG_pure; (focus rfl); (focus (intro wg Bg hbg hBg hFg; go_simp; (try go_bits); (first | done | exact ⟨rfl, Below.refl _ _⟩ | rfl))); simp only [Act.put, List.setIfInBounds_toArray, List.set_cons_succ, List.set_cons_zero])
  (apply O.wpG_pure; (focus rfl); (focus (intro wg Bg hbg hBg hFg; go_simp; (try go_bits); (first | done | exact ⟨rfl, Below.refl _ _⟩ | rfl))); simp only [Act.put, List.setIfInBounds_toArray, List.set_cons_succ, List.set_cons_zero])
  (apply O.wpG_pure; (focus rfl); (focus (intro wg Bg hbg hBg hFg; go_simp; (try go_bits); (first | done | exact ⟨rfl, Below.refl _ _⟩ | rfl))); simp only [Act.put, List.setIfInBounds_toArray, List.set_cons_succ, List.set_cons_zero])
  apply O.wpG_pure; (focus rfl); (focus (intro wg Bg hbg hBg hFg; have hrg := range_rd (hda.drew.chg hbg (fun _ e => by cases e; exact lba)); refine pureTo_load_mid (cs := bvs RA) ?_ ag32 ?_ hrg nRA; (focus go_simp); (focus (exact (by with_unfolding_all (conv => lhs; whnf)))))); simp only [Act.put, List.setIfInBounds_toArray, List.set_cons_succ, List.set_cons_zero]
  (apply O.wpG_pure; (focus rfl); (focus (intro wg Bg hbg hBg hFg; go_simp; (try go_bits); (first | done | exact ⟨rfl, Below.refl _ _⟩ | rfl))); simp only [Act.put, List.setIfInBounds_toArray, List.set_cons_succ, List.set_cons_zero])
  (apply O.wpG_pure; (focus rfl); (focus (intro wg Bg hbg hBg hFg; go_simp; (try go_bits); (first | done | exact ⟨rfl, Below.refl _ _⟩ | rfl))); simp only [Act.put, List.setIfInBounds_toArray, List.set_cons_succ, List.set_cons_zero])
  (apply O.wpG_pure; (focus rfl); (focus (intro wg Bg hbg hBg hFg; go_simp; (try go_bits); (first | done | exact ⟨rfl, Below.refl _ _⟩ | rfl))); simp only [Act.put, List.setIfInBounds_toArray, List.set_cons_succ, List.set_cons_zero])
  apply O.wpG_pure; (focus rfl); (focus (intro wg Bg hbg hBg hFg; have hrg := range_rd (hdb.drew.chg hbg (fun _ e => by cases e; exact lbb)); refine pureTo_load_mid (cs := bvs RB) ?_ ag32 ?_ hrg nRB; (focus go_simp); (focus (exact (by with_unfolding_all (conv => lhs; whnf)))))); simp only [Act.put, List.setIfInBounds_toArray, List.set_cons_succ, List.set_cons_zero]
  (apply O.wpG_pure; (focus rfl); (focus (intro wg Bg hbg hBg hFg; go_simp; (try go_bits); (first | done | exact ⟨rfl, Below.refl _ _⟩ | rfl))); simp only [Act.put, List.setIfInBounds_toArray, List.set_cons_succ, List.set_cons_zero])
  (apply O.wpG_make; (focus rfl); (focus (intro wg Bg hbg hBg hFg; have hS1 : oneB _ _ _ undef (Bg 100) wg := hFg 100 (by decide +kernel); have x1 : _ = some _ := hS1.1.cell 2; have x2 := hS1.1.frozen 2; exact goesTo_oneB hS1 (by go_simp) rfl (by with_unfolding_all (conv => lhs; whnf)) rfl (by simp [go_sem, x1, x2]) rfl (fun k hk => ⟨100, by simp, hk⟩))); intro vs1; simp only [Act.put, List.setIfInBounds_toArray, List.set_cons_succ, List.set_cons_zero])
  (apply O.wpG_pure; (focus rfl); (focus (intro wg Bg hbg hBg hFg; go_simp; (try go_bits); (first | done | exact ⟨rfl, Below.refl _ _⟩ | rfl))); simp only [Act.put, List.setIfInBounds_toArray, List.set_cons_succ, List.set_cons_zero])
  apply O.wpG_make; (focus rfl); (focus (intro wg Bg hbg hBg hFg; have hS1 : oneB w.heap.size 42 (recC u (.slice A4 sl.length c4) (m : Int) zB zB) vs1 (Bg 11) wg := hFg 11 (by decide +kernel); exact goesTo_rec3 hS1 (by go_simp) (by with_unfolding_all (conv => lhs; whnf)) (by with_unfolding_all (conv => lhs; whnf)) rfl la.out (fun k hk => ⟨11, by simp, hk⟩))); intro vs2; simp only [Act.put, List.setIfInBounds_toArray, List.set_cons_succ, List.set_cons_zero]
  (apply O.wpG_pure; (focus rfl); (focus (intro wg Bg hbg hBg hFg; go_simp; (try go_bits); (first | done | exact ⟨rfl, Below.refl _ _⟩ | rfl))); simp only [Act.put, List.setIfInBounds_toArray, List.set_cons_succ, List.set_cons_zero])
  apply O.wpG_make; (focus rfl); (focus (intro wg Bg hbg hBg hFg; have hS1 : oneB w.heap.size 42 (recC u (.slice A4 sl.length c4) (m : Int) RA zB) vs2 (Bg 13) wg := hFg 13 (by decide +kernel); exact goesTo_rec4 hS1 (by go_simp) (by with_unfolding_all (conv => lhs; whnf)) (by with_unfolding_all (conv => lhs; whnf)) la.out rfl lb.out (fun k hk => ⟨13, by simp, hk⟩))); intro vs3; simp only [Act.put, List.setIfInBounds_toArray, List.set_cons_succ, List.set_cons_zero]
  refine O.wpG_end (fun wg Bg hbg hBg hFg => ?_)
  have hR : oneB w.heap.size 42 (recC u (.slice A4 sl.length c4) (m : Int) RA RB) vs3 (Bg 15) wg := hFg 15
  replace hS := hR.1
  replace hE := hE.drew.chg hbg n2
  replace hW := hW.drew.trans (hbg.below hW.size (fun k hk => by subst hk; exact hps))
  replace ho4 := ho4.drew.chg hbg (fun g hg e => by have h1 := hloho4 g hg; omega)
  have nS : (recC u (.slice A4 sl.length c4) (m : Int) RA RB).length = 67 := recC_len la.out lb.out
  have oS := recC_one (u := u) (v := .slice A4 sl.length c4) (n := (m : Int)) (a := RA) (b := RB) (own_vcells ho4).2
  have RC := fun w1 hb1 => cright_c u (.slice A4 sl.length c4) sl (m : Int) RA RB w1 hb1 (by have := lt.1; omega)
  have RC2 := RC wg ho4.rd (hT.below hW)
  have hlo4 := hloho4
  clear hFg hBg hR hbg RC hda hdb hra' hrb' hoo hlo
  have tr0 : True := trivial
  go_wp2_with (first
    | (have _t := tr0; (with_reducible refine G_load ?_; refine L_load_agg agR (by with_unfolding_all (conv => lhs; whnf)) hS nS ?_); clear tr0; have tr1 : True := trivial))
  refine RC2.mono ?_
  rintro e w10 ⟨rfl, hb10⟩
  replace hS := hS.below hb10
  replace hE := hE.below hb10
  replace hW := below_below hW hb10
  replace ho4 := ho4.below hb10
  clear RC2 hb10
  cases hq : rightB u sl (m : Int)
  · have hI2 := hI.out.trans (if_neg (by rw [hq]; decide))
    replace hI2 := Go.Lib.hid hI2
    go_wp2_with fail
    refine (crmust_bad _).mono ?_
    rintro e w9 ⟨rfl, rfl⟩
    go_wp2_with fail
    exact cread_panic hps hpe n1 hS nS hE hW hI2.out rfl rfl
  have hI2 := hI.out.trans (if_pos hq)
  replace hI2 := Go.Lib.hid hI2
  go_wp2_with fail
  refine (crmust_ok _).mono ?_
  rintro e w9 ⟨rfl, rfl⟩
  have ts0 : True := trivial
  go_wp2_with (first
    | (have _t := ts0; (with_reducible refine G_load ?_; refine L_load_agg agR (by with_unfolding_all (conv => lhs; whnf)) hS nS ?_); clear ts0; have ts1 : True := trivial)
    | (have _t := ts1; (with_reducible refine G_store ?_; refine L_store_agg agR (by with_unfolding_all (conv => lhs; whnf)) (by with_unfolding_all (conv => lhs; whnf)) hS nS (by simpa using nS) (fun u hu => oS u (by simpa using hu)) ?_); intro wz hkz hgz hsz; have hEz := hE.grown hgz (by simp); have d0 : _ = some _ := hEz.cell 0; have f0 := hEz.frozen 0; clear ts1; have ts2 : True := trivial))
  have hgE := grown_setCell wz ⟨w.heap.size + 1, 0, none⟩ (.int .i64 0)
  replace hkz : Blk wz w.heap.size 42 (recC u (.slice A4 sl.length c4) (m : Int) RA RB) := by simpa using hkz
  have hb4 : ∀ g, (Value.slice A4 sl.length c4).ownBlock = some g → w.heap.size + 1 < g := hlo4
  refine cread_done (hkz.other (a := ⟨w.heap.size + 1, 0, none⟩) n1 _) (hEz.stored 0 _) la.out lb.out (below_setn (hW.trans ((Chg.grown hgz (M := fun k => k = w.heap.size) (fun k hk => by cases hk; rfl)).below hW.size (fun k hk => by subst hk; exact hps))) _ 0 _ hpe (Nat.le_trans hW.size hgz.size)) ((ho4.grown hgz (opt_apart (fun g hg e => by have h1 := hlo4 _ e; simp at hg; omega))).grown hgE (opt_apart (fun g hg e => by have h1 := hlo4 _ e; simp at hg; omega))) hI2.out rfl rfl

end Go.Proofs.YtfnlcnjflloecaaDoor
