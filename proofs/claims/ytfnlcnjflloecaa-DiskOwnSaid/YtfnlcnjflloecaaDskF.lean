/- DiskFuse: the walk. -/
import Derived.Test.YtfnlcnjflloecaaDskD
set_option linter.unusedVariables false
set_option linter.unusedSimpArgs false
set_option linter.unnecessarySimpa false
namespace Go.Proofs.Ytfnlcnjflloecaa
open Go.RowKit
/-- In w the slice v reads as these rows of bytes. -/
def RdL (w : World) (v : Value) (ls : List (List UInt8)) : Prop := ∃ vs : List Value, vs.length = ls.length ∧ RdW w 1 v ls.length vs ∧ ∀ (i : Nat) x l, vs[i]? = some x → ls[i]? = some l → Rd w x l
theorem RdL.cells {w : World} {v : Value} {ls : List (List UInt8)} (h : RdL w v ls) : ∃ A c, v = .slice A ls.length c ∧ ls.length ≤ c ∧ c ≤ maxLen ∧ (0 < ls.length → ∃ b off, A = some ⟨b, off, none⟩ ∧ b < w.heap.size ∧ ∀ j l, ls[j]? = some l → ∃ x, w.cell? ⟨b, off + j, none⟩ = some x ∧ Rd w x l) := by
  obtain ⟨vs, hv, ⟨hx, A, c, rfl, h1, h2, h3⟩, hr⟩ := h
  refine ⟨A, c, rfl, h1, h2, fun hn => ?_⟩
  obtain ⟨b, off, rfl, hc⟩ := h3 hn
  have hg : ∀ j l, ls[j]? = some l → ∃ x, w.cell? ⟨b, off + j, none⟩ = some x ∧ Rd w x l := fun j l hj => by
    have hjl := (List.getElem?_eq_some_iff.1 hj).1
    have hj2 : vs[j]? = some vs[j] := List.getElem?_eq_getElem (by omega)
    exact ⟨vs[j], hc j _ hj2, hr j _ l hj2 hj⟩
  obtain ⟨x, hx0, _⟩ := hg 0 ls[0] (by simp)
  exact ⟨b, off, rfl, World.block_lt_of_cell? w _ hx0, hg⟩
/-- The disk of a fuse's law behind i steps of n. -/
structure FuD (D : Dsk) (n i : Nat) : Prop where
  ok : DskOk D
  off : D.off = false
  left : D.left = (n : Int) - (i : Int)
  done : D.done = (i : Int)
  room : D.room = 100000
  used : usedF D.fs ≤ 100 * i
  nm : ∀ f ∈ D.fs, f.name = [102]
  le : i ≤ n
theorem FuD.start (n : Nat) (hn : n < 30) : FuD (fuseD (newD 100000) n).2 n 0 ∧ (fuseD (newD 100000) n).1 = 0 := by
  have e : fuseD (newD 100000) n = (0, { newD 100000 with left := (n : Int) }) := by unfold fuseD newD; rw [if_neg (by omega), if_neg (by simp)]
  have ok := (DskOk.new (room := 100000) (by omega) (by omega)).fuse (n : Int) (by omega)
  rw [e] at ok ⊢
  exact ⟨⟨ok, rfl, by simp, rfl, rfl, by simp [newD, usedF], (fun f hf => by cases hf), Nat.zero_le _⟩, rfl⟩
theorem right_f : rightD [102] = true := by decide
theorem FuD.none {D : Dsk} {n i : Nat} (h : FuD D n i) : syncD D [110, 111, 110, 101] = (7, D) := by
  have e : firstD D [110, 111, 110, 101] true = 7 := by
    unfold firstD
    rw [if_neg (by rw [h.off]; decide), if_neg (by decide), if_pos ⟨rfl, lookF_none.2 fun f hf => by rw [h.nm f hf]; decide⟩]
  unfold syncD
  rw [e]; rfl
theorem FuD.bad {D : Dsk} {n i : Nat} (h : FuD D n i) (b : List UInt8) : appendD D [65] b = (4, D) := by
  have e : firstD D [65] false = 4 := by
    unfold firstD
    rw [if_neg (by rw [h.off]; decide), if_pos (by decide)]
  unfold appendD
  rw [e]; rfl
theorem FuD.app {D : Dsk} {n i : Nat} (h : FuD D n i) (hi : i < 40) (b : List UInt8) (hb : b.length ≤ 100) : appendD D [102] b = powerD { D with fs := addF D.fs [102] b } := by
  have e : firstD D [102] false = 0 := by
    unfold firstD
    rw [if_neg (by rw [h.off]; decide), if_neg (by decide), if_neg (by simp)]
  unfold appendD
  rw [if_neg (by rw [e]; decide), if_neg (by rw [h.room]; have := h.used; omega)]
theorem FuD.next {D : Dsk} {n i : Nat} (h : FuD D n i) (hi : i < n) (h40 : i < 40) (b : List UInt8) (hb : b.length ≤ 100) : (appendD D [102] b).1 = 0 ∧ FuD (appendD D [102] b).2 n (i + 1) := by
  have ok := h.ok.append [102] b
  rw [h.app h40 b hb] at ok ⊢
  have hl := h.left
  have hp : powerD { D with fs := addF D.fs [102] b } = (0, { D with fs := addF D.fs [102] b, left := D.left - 1, done := D.done + 1 }) := by
    unfold powerD
    rw [if_neg (show ¬ D.left = 0 by omega)]
    simp only [if_pos (show 0 < D.left by omega)]
  rw [hp] at ok ⊢
  refine ⟨rfl, ok, h.off, by simp only; omega, by simp only; rw [h.done]; omega, h.room, ?_, ?_, by omega⟩
  · have := used_add h.ok.up [102] b
    have := h.used
    simp only
    omega
  · intro f hf
    rcases mem_add hf with ⟨h1, _⟩ | ⟨h1, _⟩
    · exact h.nm f h1
    · exact h1
theorem FuD.last {D : Dsk} {n i : Nat} (h : FuD D n i) (hi : ¬ i < n) (h40 : i < 40) (b : List UInt8) (hb : b.length ≤ 100) : (appendD D [102] b).1 = 13 ∧ (appendD D [102] b).2.off = true ∧ (appendD D [102] b).2.done = (n : Int) := by
  rw [h.app h40 b hb]
  have hl := h.left
  have hle := h.le
  have hp : powerD { D with fs := addF D.fs [102] b } = (13, { D with fs := addF D.fs [102] b, off := true }) := by
    unfold powerD
    rw [if_pos (show D.left = 0 by omega)]
  rw [hp]
  exact ⟨rfl, rfl, by simp only; rw [h.done]; omega⟩
theorem off_sync {D : Dsk} (h : D.off = true) (s : List UInt8) : syncD D s = (13, D) := by unfold syncD; rw [first_off h]; rfl
theorem off_read {D : Dsk} (h : D.off = true) (s : List UInt8) : readD D s = (13, []) := by unfold readD; rw [first_off h]; rfl
theorem off_fuse {D : Dsk} (h : D.off = true) : fuseD D 5 = (13, D) := by unfold fuseD; rw [if_neg (by omega), if_pos h]
theorem mod30 (s : Int) : ∃ n : Nat, n < 30 ∧ Int.tmod (Int.tmod s 30 + 30) 30 = (n : Int) := by
  have h1 := Int.tmod_lt_of_pos s (show (0 : Int) < 30 by omega)
  have h2 : -30 < Int.tmod s 30 := Int.lt_tmod_of_pos s (by omega)
  refine ⟨(Int.tmod (Int.tmod s 30 + 30) 30).toNat, ?_, ?_⟩
  · rw [Int.tmod_eq_emod_of_nonneg (by omega)]; omega
  · rw [Int.tmod_eq_emod_of_nonneg (by omega)]; omega
def FuRel (w : World) (p n : Nat) (v8 v9 : Value) (wr : World) : Prop := ∃ (i : Nat) (D : Dsk), v8 = .int .i64 (i : Int) ∧ v9 = .int .i64 (i : Int) ∧ i ≤ 40 ∧ FuD D n i ∧ DS w p D wr
set_option maxRecDepth 100000 in
set_option maxHeartbeats 12800000 in
theorem diskFuse_w (w : World) (s : Int) (hs : -9223372036854775808 ≤ s ∧ s ≤ 9223372036854775807) (v : Value) (ls : List (List UInt8)) (hv : RdL w v ls) :
    Calls Try.prog 5 #[.int .i64 s, v] w (Ok w) := by
  obtain ⟨A, c, ev, hc1, hc2, hc3⟩ := hv.cells
  subst ev
  obtain ⟨n, hn, hnm⟩ := mod30 s
  have b1 : -30 < Int.tmod s 30 := Int.lt_tmod_of_pos s (by omega)
  have b2 := Int.tmod_lt_of_pos s (show (0 : Int) < 30 by omega)
  generalize hs1 : Int.tmod s 30 = s1 at *
  have NW := new_good 100000 w (by omega) (by omega)
  obtain ⟨F0, F1⟩ := FuD.start n hn
  have hlen : (ls.length : Int) ≤ 9223372036854775807 := by unfold maxLen at hc2; omega
  go_enter Try.func5, Try.ntmps5
  go_wp2_with fail
  refine NW.mono ?_; rintro e w1 ⟨p, rfl, hd, hb1⟩
  have h1 : DS w p (newD 100000) w1 := ⟨_, hd, fun k hk => hk.1, hb1⟩
  go_upto_region 3 with fail
  have FU := fuse_ds h1 (n : Int)
  rw [F1] at FU
  generalize (fuseD (newD 100000) n).2 = D0 at *
  go_wp2_with fail
  refine FU.mono ?_; rintro e w2 ⟨rfl, h2⟩
  go_wp2_with fail
  refine (wakes10_c _).mono ?_; rintro e w3 ⟨rfl, hb3⟩
  replace h3 := h2.below hb3
  clear h1 h2 hb3 FU hd hb1 NW F1 b1 b2 hnm hs1
  go_wp2_with fail
  go_loopw [8, 9] (fun v8 v9 wr => FuRel w p n v8 v9 wr) (fun _ v9 _ => 40 - (intOf v9).toNat)
  case atStart => exact ⟨0, D0, rfl, rfl, by omega, F0, h3⟩
  case round =>
    clear F0 h3
    obtain ⟨i, D, rfl, rfl, hi, hF, hS⟩ := hrel
    have hle := hF.le
    have hdn := hF.done
    by_cases hlt : i < ls.length
    rotate_left
    · have q1 : ¬ (i : Int) < (ls.length : Int) := by omega
      have q2 : decide ((i : Int) < (ls.length : Int)) = false := decide_eq_false q1
      have ST := steps_ds hS
      rw [hdn] at ST
      clear hc3
      go_wp2_with fail
      refine ST.mono ?_; rintro e w4 ⟨rfl, rfl⟩
      go_wp2_with fail
      go_ret
      exact ⟨by simp, hS.bel⟩
    have q1 : (i : Int) < (ls.length : Int) := by omega
    have q2 : decide ((i : Int) < (ls.length : Int)) = true := decide_eq_true q1
    by_cases h40 : i < 40
    rotate_left
    · have q3 : ¬ (i : Int) < 40 := by omega
      have q4 : decide ((i : Int) < 40) = false := decide_eq_false q3
      have ST := steps_ds hS
      rw [hdn] at ST
      clear hc3
      go_wp2_with fail
      refine ST.mono ?_; rintro e w4 ⟨rfl, rfl⟩
      go_wp2_with fail
      go_ret
      exact ⟨by simp, hS.bel⟩
    have q3 : (i : Int) < 40 := by omega
    have q4 : decide ((i : Int) < 40) = true := decide_eq_true q3
    obtain ⟨b, off, eA, hbl, hcc⟩ := hc3 (by omega)
    obtain ⟨x, hx, hxr⟩ := hcc i ls[i] (by simp [hlt])
    subst eA
    have hbw := hS.bel
    have hx2 : wr.cell? ⟨b, off + i, none⟩ = some x := (hbw.cell hbl).trans hx
    have S0 := sync_ds hS hF.ok (by rw [hdn]; omega) [110, 111, 110, 101] (by decide)
    rw [hF.none] at S0
    generalize hL : ls[i] = L at *
    have hLl : (L.take 100).length ≤ 100 := by simp; omega
    clear hc3 hcc
    go_wp2_with fail
    refine S0.mono ?_; rintro e w4 ⟨rfl, h4⟩
    have hx4 : w4.cell? ⟨b, off + i, none⟩ = some x := (h4.bel.cell hbl).trans hx
    go_wp2_with fail
    refine (few10_c x L w4 (hxr.below h4.bel)).mono ?_; rintro e w5 ⟨u, rfl, ho5, hb5⟩
    have AB := append_ds h4 hF.ok (by rw [hdn]; omega) [65] (L.take 100) (by decide) hb5 ho5.rd (fun g hg => ⟨ho5.base_le g hg, ho5.lt g hg⟩)
    rw [hF.bad] at AB
    clear hx2 S0
    go_wp2_with fail
    refine AB.mono ?_; rintro e w6 ⟨rfl, h6⟩
    have hx6 : w6.cell? ⟨b, off + i, none⟩ = some x := (h6.bel.cell hbl).trans hx
    clear AB hx4 h4
    go_wp2_with fail
    refine (few10_c x L w6 (hxr.below h6.bel)).mono ?_; rintro e w7 ⟨u2, rfl, ho7, hb7⟩
    have AF := append_ds h6 hF.ok (by rw [hdn]; omega) [102] (L.take 100) (by decide) hb7 ho7.rd (fun g hg => ⟨ho7.base_le g hg, ho7.lt g hg⟩)
    by_cases hin : i < n
    · obtain ⟨e0, hF2⟩ := hF.next hin h40 (L.take 100) hLl
      rw [e0] at AF
      have q5 : (i : Int) < (n : Int) := by omega
      have q6 : decide ((i : Int) < (n : Int)) = true := decide_eq_true q5
      generalize (appendD D [102] (L.take 100)).2 = D2 at *
      clear hF
      go_wp2_with fail
      refine AF.mono ?_; rintro e w8 ⟨rfl, h8⟩
      go_wp2_with fail
      exact ⟨⟨i + 1, D2, by go_num, by go_num, by omega, hF2, h8⟩, by simp [intOf]; omega⟩
    · obtain ⟨e0, e1, e2⟩ := hF.last hin h40 (L.take 100) hLl
      have ok2 := hF.ok.append [102] (L.take 100)
      rw [e0] at AF
      have q5 : ¬ (i : Int) < (n : Int) := by omega
      have q6 : decide ((i : Int) < (n : Int)) = false := decide_eq_false q5
      generalize (appendD D [102] (L.take 100)).2 = D2 at *
      clear hF
      go_wp2_with fail
      refine AF.mono ?_; rintro e w8 ⟨rfl, h8⟩
      have R8 := read_ds h8 ok2 [102] (by decide)
      rw [off_read e1] at R8
      go_wp2_with fail
      refine R8.mono ?_; rintro e w9 ⟨u3, rfl, ho9, hb9⟩
      have h9 := h8.below hb9
      have S9 := sync_ds h9 ok2 (by rw [e2]; omega) [102] (by decide)
      rw [off_sync e1] at S9
      go_wp2_with fail
      refine S9.mono ?_; rintro e wA ⟨rfl, hA⟩
      have FA := fuse_ds hA 5
      rw [off_fuse e1] at FA
      go_wp2_with fail
      refine FA.mono ?_; rintro e wB ⟨rfl, hB⟩
      have SB := steps_ds hB
      rw [e2] at SB
      go_wp2_with fail
      refine SB.mono ?_; rintro e wC ⟨rfl, rfl⟩
      go_wp2_with fail
      go_ret
      exact ⟨by simp, hB.bel⟩
end Go.Proofs.Ytfnlcnjflloecaa
