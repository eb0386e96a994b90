/- The reference's Sha: it answers the same. -/
import Derived.Test.YtfnlcnjflloecaaDoorSha
/-! ### RefPad -/
set_option linter.unusedVariables false
set_option linter.unusedSimpArgs false
namespace Go.Proofs.YtfnlcnjflloecaaDoor
open Go.RowKit
def PZRel (w : World) (l : List UInt8) (v : Value) (wr : World) : Prop :=
  ∃ j : Nat, j ≤ zc l.length ∧ Own8 wr w.heap.size 5 v (l ++ [128] ++ List.replicate j 0) ∧ Below w.heap.size w wr
def PLRel (w : World) (l : List UInt8) (v s : Value) (wr : World) : Prop :=
  ∃ j : Nat, j ≤ 8 ∧ s = .int .i64 (7 - (j : Int)) ∧ Own8 wr w.heap.size 5 v (l ++ [128] ++ List.replicate (zc l.length) 0 ++ lenBs l.length j) ∧ Below w.heap.size w wr
set_option maxRecDepth 100000 in
set_option maxHeartbeats 1600000 in
theorem refpad_c (v : Value) (l : List UInt8) (w : World) (h : Rd w v l) (hl : l.length ≤ 1000000) :
    Calls Tryd.prog 118 #[v] w (Gives8 5 w (padI l)) := by
  have n0 : (0 : Int) ≤ l.length := by omega
  have n1 : (l.length : Int) ≤ 1000000 := by omega
  have hX : ((l.length : Int) * 8) % 18446744073709551616 = 8 * l.length := by omega
  have hba := (Below.refl w.heap.size w).alloc (Nat.le_refl _) (.cells #[] 5)
  have h1 := h.below hba
  have tok : True := trivial
  generalize hS : padI l = R
  go_enter Tryd.func118, Tryd.ntmps118
  go_wp2_with (first | (with_reducible refine G_len ?_; refine L8_len Tryd.underlying37 (by with_unfolding_all (conv => lhs; whnf)) (by assumption) ?_) | (have _t := tok; (at_builtin; refine wpList_app8 rfl _ _ rfl st8 (by with_unfolding_all (conv => lhs; whnf)) (Own8.empty w w.heap.size _ (Nat.le_refl _)) rfl (Rd.src h1 Tryd.underlying37) (by first | omega | (simp; omega)) (by first | (simp; done) | omega | (simp; omega)) ?_); intro v1 w1 ho1 hg1 hb1; have hs1 : w.heap.size + 1 ≤ w1.heap.size := (by simpa using hg1.size); clear tok) | ((at_builtin; refine wpList_app8 rfl _ _ rfl st8 (by with_unfolding_all (conv => lhs; whnf)) (Own8.below ho1 ((Below.refl _ _).alloc (Nat.le_refl _) _)) rfl (Rd.src (Rd.lit _ _ _ [128] rfl rfl (by omega) (by decide)) Tryd.underlying37) (by first | omega | (simp; omega)) (by first | (simp; done) | omega | (simp; omega)) ?_); intro v2 w2 ho2 hg2 hb2))
  have hw1 := app_step0 hba (Own8.empty w w.heap.size 5 (Nat.le_refl _)) (by omega) hg1
  have hw2 := app_step hw1.1 ho1 (by omega) hg2
  have hbw := hw2.1
  simp only [List.nil_append] at ho2
  have h0 := h
  clear h hw1 hw2 hg2 hb2 ho1 hg1 hb1 hba h1 hs1 _t
  go_loopw [3] (fun v wr => PZRel w l v wr) (fun v _ => l.length + 1 + zc l.length - slen v)
  case atStart => exact ⟨0, by omega, by simpa using ho2, hbw⟩
  case round =>
    clear ho2 hbw
    obtain ⟨j, hj, ho, hbr⟩ := hrel
    have hR := ho.rd
    have hln : (l ++ [128] ++ List.replicate j 0).length = l.length + 1 + j := by simp; omega
    have hzb : zc l.length < 64 := by unfold zc; omega
    have hbs := hbr.size
    by_cases hlt : j < zc l.length
    · have hne := zc_ne l.length j hlt
      have m1 : (((l.length + 1 + j : Nat) : Int) % 64 = 56) = False := by simp only [eq_iff_iff, iff_false]; omega
      go_wp2_with (first | ((with_reducible refine G_len ?_; refine L8_len Tryd.underlying37 (by with_unfolding_all (conv => lhs; whnf)) (by assumption) ?_); rw [hln]) | ((at_builtin; refine wpList_app8 rfl _ _ rfl st8 (by with_unfolding_all (conv => lhs; whnf)) (Own8.below ho ((Below.refl _ _).alloc (Nat.le_refl _) _)) rfl (Rd.src (Rd.lit _ _ _ [0] rfl rfl (by omega) (by decide)) Tryd.underlying37) (by first | omega | (simp; omega)) (by first | (simp; done) | omega | (simp; omega)) ?_); intro v3 w3 ho3 hg3 hb3))
      have hw := app_step hbr ho (by omega) hg3
      have e : l ++ [128] ++ List.replicate j 0 ++ [0] = l ++ [128] ++ List.replicate (j + 1) 0 := by rw [List.replicate_succ' (n := j)]; simp
      rw [e] at ho3
      refine ⟨⟨j + 1, by omega, ho3, hw.1⟩, ?_⟩
      show l.length + 1 + zc l.length - slen v3 < l.length + 1 + zc l.length - slen _
      rw [hR.slen, ho3.rd.slen]; simp; omega
    · obtain rfl : j = zc l.length := by omega
      have heq := zc_eq l.length
      generalize hM : l.length + 1 + zc l.length = M at *
      have m1 : ((M : Int) % 64 = 56) = True := by simp only [eq_iff_iff, iff_true]; omega
      have m2 : ((M : Int) % 64 != 56) = false := by simp [m1]
      have hlR := Rd.below h0 hbr
      go_wp2_with (first | ((with_reducible refine G_len ?_; refine L8_len Tryd.underlying37 (by with_unfolding_all (conv => lhs; whnf)) (by assumption) ?_); rw [hln]) | (with_reducible refine G_len ?_; refine L8_len Tryd.underlying37 (by with_unfolding_all (conv => lhs; whnf)) (by assumption) ?_))
      go_loopw [3, 5] (fun v s wr => PLRel w l v s wr) (fun _ s _ => (intOf s + 1).toNat)
      case atStart => exact ⟨0, by omega, rfl, by simpa [lenBs] using ho, hbr⟩
      case round =>
        clear ho hbr hR hlR
        obtain ⟨i, hi, rfl, ho, hbr⟩ := hrel
        have hbs := hbr.size
        by_cases hlt : i < 8
        · have p0 : (0 : Int) ≤ 7 - (i : Int) := by omega
          have p1 : (0 : Int) ≤ 8 * (7 - (i : Int)) := by omega
          have p2 : 8 * (7 - (i : Int)) ≤ 56 := by omega
          have p3 : (8 * (7 - (i : Int))).toNat = 56 - 8 * i := by omega
          have hlb : (lenBs l.length i).length = i := by simp [lenBs]
          have hB := Go.Lib.hid (lenB_int l.length i hl)
          go_wp2_with (first | ((at_builtin; refine wpList_app8 rfl _ _ rfl st8 (by with_unfolding_all (conv => lhs; whnf)) (Own8.below ho ((Below.refl _ _).alloc (Nat.le_refl _) _)) rfl (Rd.src (Rd.lit _ _ _ [lenB l.length i] (by rw [hB.out]; rfl) rfl (by omega) (by decide)) Tryd.underlying37) (by first | omega | (simp; omega)) (by first | (simp; done) | omega | (simp; omega)) ?_); intro v3 w3 ho3 hg3 hb3))
          have hw := app_step hbr ho (by omega) hg3
          rw [List.append_assoc, ← lenBs_succ] at ho3
          refine ⟨⟨i + 1, by omega, by go_num, ho3, hw.1⟩, ?_⟩
          show (intOf (.int .i64 _) + 1).toNat < (intOf (.int .i64 _) + 1).toNat
          simp only [intOf]; omega
        · obtain rfl : i = 8 := by omega
          have e : l ++ [128] ++ List.replicate (zc l.length) 0 ++ lenBs l.length 8 = padI l := rfl
          rw [e, hS] at ho
          have nz : ¬ (0 : Int) ≤ 7 - ((8 : Nat) : Int) := by decide
          clear m1 m2 heq
          go_wp2
          go_ret
          exact ⟨_, rfl, ho, hbr⟩
end Go.Proofs.YtfnlcnjflloecaaDoor
/-! ### RefSha -/
set_option linter.unusedVariables false
set_option linter.unusedSimpArgs false
namespace Go.Proofs.YtfnlcnjflloecaaDoor
open Go.RowKit
structure Fix (w : World) (g3 g4 : Nat) (v5 : Value) (p : List UInt8) (S : List Int) (wr : World) : Prop where
  k3 : Blk wr g3 157 (u32s S)
  k4 : Blk wr g4 162 (u32s kI)
  k2 : Blk wr w.heap.size 40 (bvs (List.replicate 32 0))
  rd : Rd wr v5 p
  bl : Below w.heap.size w wr
section
variable {w wr w' : World} {g3 g4 : Nat} {v5 : Value} {p : List UInt8} {S : List Int}
theorem Fix.below (h : Fix w g3 g4 v5 p S wr) (hb : Below wr.heap.size wr w') : Fix w g3 g4 v5 p S w' := ⟨h.k3.below hb, h.k4.below hb, h.k2.below hb, h.rd.below hb, below_below h.bl hb⟩
theorem Fix.drew (h : Fix w g3 g4 v5 p S wr) : Fix w g3 g4 v5 p S wr.drew := ⟨h.k3.drew, h.k4.drew, h.k2.drew, h.rd.drew, h.bl.drew⟩
theorem Fix.grown (h : Fix w g3 g4 v5 p S wr) {g : Nat} (hg : wr.grownBy w' (some g)) (n3 : g3 ≠ g) (n4 : g4 ≠ g) (n2 : w.heap.size < g) (n5 : ∀ k, v5.ownBlock = some k → k ≠ g) : Fix w g3 g4 v5 p S w' :=
  ⟨h.k3.grown hg (by simpa using n3), h.k4.grown hg (by simpa using n4), h.k2.grown hg (by simp; omega), h.rd.grown hg (fun _ e => n5 g e rfl), h.bl.grown hg h.bl.size (by intro k hk; cases hk; omega)⟩
theorem Fix.set (h : Fix w g3 g4 v5 p S wr) {g j : Nat} {u : Value} (n3 : g3 ≠ g) (n4 : g4 ≠ g) (n2 : w.heap.size < g) (n5 : ∀ k, v5.ownBlock = some k → k ≠ g) : Fix w g3 g4 v5 p S (wr.setCell ⟨g, j, none⟩ u) :=
  h.grown (grown_setCell wr ⟨g, j, none⟩ u) n3 n4 n2 n5
theorem Fix.set3 (h : Fix w g3 g4 v5 p S wr) (j : Nat) (x : Int) (n4 : g4 ≠ g3) (n2 : w.heap.size < g3) (n5 : ∀ k, v5.ownBlock = some k → k ≠ g3) : Fix w g3 g4 v5 p (S.set j x) (wr.setCell ⟨g3, j, none⟩ (.int .u32 x)) :=
  ⟨by rw [← u32s_set]; exact h.k3.stored j _, h.k4.other n4 _, h.k2.other (by show w.heap.size ≠ g3; omega) _, h.rd.grown (grown_setCell _ _ _) (fun _ e => n5 g3 e rfl), h.bl.setCell (by show w.heap.size ≤ g3; omega) _⟩
end
def OutR (w : World) (g3 g4 : Nat) (v5 : Value) (p : List UInt8) (i : Value) (wr : World) : Prop :=
  ∃ k : Nat, 64 * k ≤ p.length ∧ i = .int .i64 (64 * (k : Int)) ∧ Fix w g3 g4 v5 p (stI p k).l wr
def blk (p : List UInt8) (k : Nat) : List UInt8 := (p.drop (64 * k)).take 64
def WA (w : World) (g3 g4 : Nat) (v5 : Value) (p : List UInt8) (k g7 : Nat) (i : Value) (wr : World) : Prop :=
  ∃ t : Nat, t ≤ 16 ∧ i = .int .i64 t ∧ Blk wr g7 162 (u32s (wz (blk p k) t)) ∧ Fix w g3 g4 v5 p (stI p k).l wr
def WB (w : World) (g3 g4 : Nat) (v5 : Value) (p : List UInt8) (k g7 t : Nat) (i : Value) (wr : World) : Prop :=
  ∃ j : Nat, j ≤ 4 ∧ i = .int .i64 j ∧ Blk wr g7 162 (u32s ((wz (blk p k) t).set t (beI (blk p k) (4 * t) j))) ∧ Fix w g3 g4 v5 p (stI p k).l wr
def WC (w : World) (g3 g4 : Nat) (v5 : Value) (p : List UInt8) (k g7 : Nat) (i : Value) (wr : World) : Prop :=
  ∃ t : Nat, 16 ≤ t ∧ t ≤ 64 ∧ i = .int .i64 t ∧ Blk wr g7 162 (u32s (wz (blk p k) t)) ∧ Fix w g3 g4 v5 p (stI p k).l wr
def RC (w : World) (g3 g4 : Nat) (v5 : Value) (p : List UInt8) (s : S8) (ws : List Int) (g7 g13 : Nat) (i : Value) (wr : World) : Prop :=
  ∃ t : Nat, t ≤ 64 ∧ i = .int .i64 t ∧ Blk wr g7 162 (u32s ws) ∧ Blk wr g13 157 (u32s (rounds s ws t).l) ∧ Fix w g3 g4 v5 p s.l wr
def RD (w : World) (g4 : Nat) (v5 : Value) (p : List UInt8) (s r : S8) (g13 : Nat) (i : Value) (wr : World) : Prop :=
  ∃ j : Nat, j ≤ 8 ∧ i = .int .i64 j ∧ Blk wr g13 157 (u32s r.l) ∧ Fix w (w.heap.size + 1) g4 v5 p (addL s r j) wr
def RE (w : World) (g4 : Nat) (v5 : Value) (p : List UInt8) (s : S8) (g20 : Nat) (i : Value) (wr : World) : Prop :=
  ∃ j : Nat, j ≤ 32 ∧ i = .int .i64 j ∧ Blk wr g20 40 (bvs (outZ s j)) ∧ Fix w (w.heap.size + 1) g4 v5 p s.l wr
theorem bt_blk (p : List UInt8) (k j : Nat) (h : j < 64) : bt (blk p k) j = bt p (64 * k + j) := by
  unfold bt blk
  simp [List.getD_eq_getElem?_getD, List.getElem?_take, h]
set_option maxRecDepth 100000 in
set_option maxHeartbeats 4000000 in
theorem refsha_c (v : Value) (l : List UInt8) (w : World) (h : Rd w v l) (hl : l.length ≤ 1000000) :
    Calls Tryd.prog 79 #[v] w (GivesB w (shaI l)) := by
  generalize hS : shaI l = R
  unfold shaI at hS
  have PAD := fun w' hb => refpad_c v l w' (h.below (w' := w') hb) hl
  have hPm := padI_mod l
  have hPl := padI_le l
  have hPp : 0 < (padI l).length := by rw [padI_len]; omega
  generalize padI l = p at *
  have hI0 := Go.Lib.hid (show u32s hI = u32s (stI p 0).l from rfl)
  have n0 : (u32s hI).length = 8 := rfl
  have o0 := u32s_one hI
  have nK : (u32s kI).length = 64 := rfl
  have oK := u32s_one kI
  have HK := shaK_c
  unfold GivesW at HK
  unfold Gives8 at PAD
  go_enter Tryd.func79, Tryd.ntmps79
  go_wp2_with (first
    | ((with_reducible refine G_alloc ?_; refine L_alloc z32 ?_); intro wa hka hba hsa)
    | ((with_reducible refine G_alloc ?_; refine L_alloc z8 ?_); intro wb hkb hbb hsb)
    | (with_reducible refine G_build ?_; refine L_build (u32s hI).toArray (by kernel_rfl) ?_)
    | ((with_reducible refine G_store ?_; refine L_store_agg ag8 (by with_unfolding_all (conv => lhs; whnf)) (by with_unfolding_all (conv => lhs; whnf)) hkb rfl (by simpa using n0) (fun u hu => o0 u (by simpa using hu)) ?_); intro wc hkc hgc hsc; have hbc := (below_below hba hbb).grown hgc (below_below hba hbb).size (by intro k hk; cases hk; exact hba.size); have hk2 := (hka.below hbb).grown hgc (by rw [hsa]; simp))
    | (go_at_call 117; refine (HK _).mono ?_; rintro e wd ⟨rfl, hbd⟩; have hk3d := hkc.below hbd; have hk2d := hk2.below hbd; have hbd2 := below_below hbc hbd)
    | ((with_reducible refine G_alloc ?_; refine L_alloc z64 ?_); intro we hke hbe hse; have hk3e := hk3d.below hbe; have hk2e := hk2d.below hbe; have hbe2 := below_below hbd2 hbe)
    | ((with_reducible refine G_store ?_; refine L_store_agg ag64 (by with_unfolding_all (conv => lhs; whnf)) (by with_unfolding_all (conv => lhs; whnf)) hke rfl (by simpa using nK) (fun u hu => oK u (by simpa using hu)) ?_); intro wf hkf hgf hsf; have hbf := hbe2.grown hgf hbe2.size (by intro k hk; cases hk; exact hbd2.size); have hk2f := hk2e.grown hgf (by have := hk2d.lt; simp; omega); have hk3f := hk3e.grown hgf (by have := hk3d.lt; simp; omega))
    | (go_at_call 118; refine (PAD _ hbf).mono ?_; rintro e wg ⟨v5, rfl, ho5, hbg⟩))
  have hFx : Fix w wa.heap.size wd.heap.size v5 p (stI p 0).l wg := ⟨by rw [← hI0.out]; exact hk3f.below hbg, hkf.below hbg, hk2f.below hbg, ho5.rd, below_below hbf hbg⟩
  have lt34 : wa.heap.size < wd.heap.size := hk3d.lt
  have lt2 : w.heap.size < wa.heap.size := by omega
  rw [hsa] at hFx lt34 lt2
  have h5 : ∀ k, v5.ownBlock = some k → wd.heap.size < k := fun k e => by have := ho5.base_le k e; omega
  clear h hka hba hsa hkb hbb hsb hkc hgc hsc hbc hk2 hbd hk3d hk2d hbd2 hke hbe hse hk3e hk2e hbe2 hkf hgf hsf hbf hk2f hk3f ho5 hbg PAD HK n0 o0 nK oK hI0
  generalize wd.heap.size = g4 at *
  go_loopw [6] (fun i wr => OutR w (w.heap.size + 1) g4 v5 p i wr) (fun i _ => p.length - (intOf i).toNat)
  case atStart => exact ⟨0, by omega, rfl, hFx⟩
  case round =>
    clear hFx
    obtain ⟨k, hk, rfl, hF⟩ := hrel
    have hR := hF.rd
    have q0 : (0 : Int) ≤ 64 * (k : Int) := by omega
    have q1 : 64 * (k : Int) ≤ 1000100 := by omega
    by_cases hlt : 64 * (k : Int) < p.length
    · go_wp2_with (first | (with_reducible refine G_len ?_; refine L8_len Tryd.underlying37 (by with_unfolding_all (conv => lhs; whnf)) (by assumption) ?_) | ((with_reducible refine G_alloc ?_; refine L_alloc z64 ?_); intro wx hkx hbx hsx))
      have hFx := hF.below hbx
      have l3 := hF.k3.lt
      have l4 := hF.k4.lt
      have l5 : ∀ k, v5.ownBlock = some k → k ≠ wr.heap.size := fun k e => Nat.ne_of_lt (hF.rd.lt k e (by omega))
      clear hF hbx hsx hR
      generalize wr.heap.size = g7 at *
      have hz : u32s (List.replicate 64 0) = u32s (wz (blk p k) 0) := rfl
      rw [hz] at hkx
      clear hz
      go_loopw [8] (fun i wr => WA w (w.heap.size + 1) g4 v5 p k g7 i wr) (fun i _ => 16 - (intOf i).toNat)
      case atStart => exact ⟨0, by omega, rfl, hkx, hFx⟩
      case round =>
        clear hkx hFx
        obtain ⟨t, ht, rfl, hk7, hF⟩ := hrel
        by_cases hlt2 : t < 16
        · have d16 : decide ((t : Int) < 16) = true := by simp; omega
          go_wp2
          clear d16
          rw [← wz_set0 (blk p k) t (by omega)] at hk7
          go_loopw [9] (fun i wr => WB w (w.heap.size + 1) g4 v5 p k g7 t i wr) (fun i _ => 4 - (intOf i).toNat)
          case atStart => exact ⟨0, by omega, rfl, hk7, hF⟩
          case round =>
            clear hk7 hF
            obtain ⟨j, hj, rfl, hk7, hF⟩ := hrel
            by_cases hlt4 : j < 4
            · have hX := beI_u (blk p k) (4 * t) j
              obtain ⟨x0, x1⟩ := hX
              have hzl := wz_len (blk p k) t (by omega)
              have hcw : wr.cell? ⟨g7, t, none⟩ = some (.int .u32 (beI (blk p k) (4 * t) j)) := by
                rw [hk7.cell, u32s_get _ _ (by simp; omega)]
                simp [List.getD_eq_getElem?_getD, hzl, show t < 64 from by omega]
              have hfw := hk7.frozen t
              have hbp : bt (blk p k) (4 * t + j) = bt p (64 * k + 4 * t + j) := by rw [bt_blk _ _ _ (by omega), Nat.add_assoc]
              have y0 := bt_lo p (64 * k + 4 * t + j)
              have y1 := bt_hi p (64 * k + 4 * t + j)
              have hS1 := Go.Lib.hid (show beI (blk p k) (4 * t) (j + 1) = bits .or .u32 (beI (blk p k) (4 * t) j * 256 % 4294967296) (bt p (64 * k + 4 * t + j)) by rw [← hbp]; rfl)
              clear hbp
              have hRd := hF.rd.drew
              have i1 : (0 : Int) ≤ t := by omega
              have i2 : (t : Int) < 64 := by omega
              generalize hXX : beI (blk p k) (4 * t) j = X at *
              go_wp2
              (refine region_tail 17 (by kernel_rfl) (by kernel_rfl) ?_; simp only [List.take_succ_cons, List.take_zero, List.drop_succ_cons, List.drop_zero]; repeat (first | ((with_reducible refine GS_index ?_; refine S8_index st8 (i := 64 * k + 4 * t + j) (by with_unfolding_all (conv => lhs; whnf)) (by assumption) (by with_unfolding_all (conv => lhs; whnf)) (by omega) (by omega) ?_); intro b o hbo hcl; replace hcl : wr.cell? _ = _ := hcl) | (refine wpStill_step (fun K hK => ?_); go_simp; (try go_bits); refine hK _ ?_; clear hK K)); try refine wpStill_nil ?_)
              go_wp2
              refine ⟨⟨j + 1, by omega, by go_num, ?_, (hF.drew).set (by omega) (by omega) (by omega) l5⟩, by simp [intOf]; omega⟩
              have := hk7.drew.stored t (.int .u32 (beI (blk p k) (4 * t) (j + 1)))
              rw [u32s_set, ← hXX, List.set_set] at this
              rw [← hS1.out]; exact this
            · obtain rfl : j = 4 := by omega
              rw [wz_set16 (blk p k) t hlt2] at hk7
              go_wp2
              refine ⟨⟨t + 1, by omega, by go_num, hk7, hF⟩, by simp [intOf]; omega⟩
        · have hte := Go.Lib.hid (show t = 16 by omega)
          rw [hte.out] at hk7
          go_wp2
          go_loopw [10] (fun i wr => WC w (w.heap.size + 1) g4 v5 p k g7 i wr) (fun i _ => 64 - (intOf i).toNat)
          case atStart => exact ⟨16, by omega, by omega, rfl, hk7, hF⟩
          case round =>
            clear hk7 hF
            obtain ⟨u, hu, hu2, rfl, hk7, hF⟩ := hrel
            by_cases hlu : u < 64
            · have hx := getD_u (wz_u (blk p k) u) (u - 2)
              have hy := getD_u (wz_u (blk p k) u) (u - 15)
              have hzl := wz_len (blk p k) u (by omega)
              have c2 : wr.cell? ⟨g7, u - 2, none⟩ = some (.int .u32 ((wz (blk p k) u).getD (u - 2) 0)) := by rw [hk7.cell, u32s_get _ _ (by omega)]
              have c15 : wr.cell? ⟨g7, u - 15, none⟩ = some (.int .u32 ((wz (blk p k) u).getD (u - 15) 0)) := by rw [hk7.cell, u32s_get _ _ (by omega)]
              have e7 : (u32s (wz (blk p k) u))[u - 7]? = some (.int .u32 ((wz (blk p k) u).getD (u - 7) 0)) := u32s_get _ _ (by omega)
              have e16 : (u32s (wz (blk p k) u))[u - 16]? = some (.int .u32 ((wz (blk p k) u).getD (u - 16) 0)) := u32s_get _ _ (by omega)
              have et : (u32s (wz (blk p k) u))[u]? = some (.int .u32 ((wz (blk p k) u).getD u 0)) := u32s_get _ _ (by omega)
              have ⟨m7, n7⟩ := getD_u (wz_u (blk p k) u) (u - 7)
              have ⟨m16, n16⟩ := getD_u (wz_u (blk p k) u) (u - 16)
              have hS1 := Go.Lib.hid (show nextI (wl (blk p k) u) u = (bits .xor .u32 (bits .xor .u32 (rotI ((wz (blk p k) u).getD (u - 2) 0) 17) (rotI ((wz (blk p k) u).getD (u - 2) 0) 19)) ((wz (blk p k) u).getD (u - 2) 0 / 1024) + (wz (blk p k) u).getD (u - 7) 0 + bits .xor .u32 (bits .xor .u32 (rotI ((wz (blk p k) u).getD (u - 15) 0) 7) (rotI ((wz (blk p k) u).getD (u - 15) 0) 18)) ((wz (blk p k) u).getD (u - 15) 0 / 8) + (wz (blk p k) u).getD (u - 16) 0) % 4294967296 by
                rw [wz_get _ _ _ (by omega), wz_get _ _ _ (by omega), wz_get _ _ _ (by omega), wz_get _ _ _ (by omega)]; unfold nextI sig1 sig0; simp)
              have hset := Go.Lib.hid (wz_set (blk p k) u hlu)
              generalize (wz (blk p k) u).getD (u - 2) 0 = X2 at *
              generalize (wz (blk p k) u).getD (u - 15) 0 = X15 at *
              generalize (wz (blk p k) u).getD (u - 7) 0 = X7 at *
              generalize (wz (blk p k) u).getD (u - 16) 0 = X16 at *
              have i0 : (2 : Int) ≤ u := by omega
              have i1 : (0 : Int) ≤ (u : Int) - 2 := by omega
              have i2 : (u : Int) - 2 < 64 := by omega
              have i3 : ((u : Int) - 2).toNat = u - 2 := by omega
              have j0 : (15 : Int) ≤ u := by omega
              have j1 : (0 : Int) ≤ (u : Int) - 15 := by omega
              have j2 : (u : Int) - 15 < 64 := by omega
              have j3 : ((u : Int) - 15).toNat = u - 15 := by omega
              have k0 : (7 : Int) ≤ u := by omega
              have k1 : (0 : Int) ≤ (u : Int) - 7 := by omega
              have k2 : (u : Int) - 7 < 64 := by omega
              have k3 : ((u : Int) - 7).toNat = u - 7 := by omega
              have r0 : (16 : Int) ≤ u := by omega
              have r1 : (0 : Int) ≤ (u : Int) - 16 := by omega
              have r2 : (u : Int) - 16 < 64 := by omega
              have r3 : ((u : Int) - 16).toNat = u - 16 := by omega
              have s0 : (0 : Int) ≤ u := by omega
              have s1 : (u : Int) < 64 := by omega
              go_wp2
              refine region_making 29 (fun _ => []) (fun _ => none) (by kernel_rfl) (by kernel_rfl) ?_ ?_
              · intro i S h; cases h
              simp only [List.take_succ_cons, List.take_zero, List.drop_succ_cons, List.drop_zero]
              repeat (first | (apply wpG_pure; (focus rfl); (focus (intro wg Bg hbg hBg hFg; (have b7 := (hk7.drew.below hbg); have c7 : wg.cell? ⟨g7, u - 7, none⟩ = some (.int .u32 X7) := (b7.cell _).trans e7; have c16 : wg.cell? ⟨g7, u - 16, none⟩ = some (.int .u32 X16) := (b7.cell _).trans e16); go_simp; (try go_bits); (first | done | exact ⟨rfl, Below.refl _ _⟩ | rfl))); simp only [Act.put, List.setIfInBounds_toArray, List.set_cons_succ, List.set_cons_zero]) | (apply wpG_pure; (focus rfl); (focus (intro wg Bg hbg hBg hFg; go_simp; (try refine ⟨by kernel_rfl, ?_⟩); go_at_call 119; exact Calls.mono (ror_any _ _ _ (by assumption) (by omega) (by omega)) (fun e w' h => (by obtain ⟨rfl, hb⟩ := h; exact ⟨rfl, hb⟩)))); simp only [Act.put, List.setIfInBounds_toArray, List.set_cons_succ, List.set_cons_zero]))
              refine wpG_end (fun wg Bg hbg hBg hFg => ?_)
              have k7g := hk7.drew.below hbg
              have fxg := hF.drew.below hbg
              have ct : wg.cell? ⟨g7, u, none⟩ = some (.int .u32 ((wz (blk p k) u).getD u 0)) := (k7g.cell _).trans et
              have hfz := k7g.frozen u
              clear hFg hBg hbg hk7 hF
              go_wp2
              refine ⟨⟨u + 1, by omega, by omega, by go_num, ?_, fxg.set (by omega) (by omega) (by omega) l5⟩, by simp [intOf]; omega⟩
              have := k7g.stored u (.int .u32 (nextI (wl (blk p k) u) u))
              rw [u32s_set] at this
              have hst := hset.out
              rw [if_neg (by omega)] at hst
              rw [hst] at this
              rw [← hS1.out]; exact this
            · have hue := Go.Lib.hid (show u = 64 by omega)
              have he : wz (blk p k) 64 = wl (blk p k) 64 := by simp [wz]
              rw [hue.out, he] at hk7
              have hws := wl_len (blk p k) 64
              have huw := wl_u (blk p k) 64
              have hsok := stI_ok p k
              have hstk : stI p (k + 1) = (stI p k).add (rounds (stI p k) (wl (blk p k) 64) 64) := rfl
              have hstk := Go.Lib.hid hstk
              clear he
              generalize wl (blk p k) 64 = ws at *
              have n8 : (u32s (stI p k).l).length = 8 := rfl
              have o8 := u32s_one (stI p k).l
              have k3b := hF.k3
              generalize stI p k = s at *
              go_wp2_with (first | (with_reducible refine G_load ?_; refine L_load_agg ag8 (by with_unfolding_all (conv => lhs; whnf)) (by assumption) n8 ?_) | ((with_reducible refine G_alloc ?_; refine L_alloc z8 ?_); intro wx hkx hbx hsx; have f1 := hF.below hbx; have k71 := hk7.below hbx) | ((with_reducible refine G_store ?_; refine L_store_agg ag8 (by with_unfolding_all (conv => lhs; whnf)) (by with_unfolding_all (conv => lhs; whnf)) hkx rfl rfl (fun u hu => o8 u (by simpa using hu)) ?_); intro wy hky hgy hsy))
              have lk3 := hF.k3.lt
              have lk4 := hF.k4.lt
              have lk7 := hk7.lt
              have l13 : ∀ k, v5.ownBlock = some k → k ≠ wr.heap.size := fun k e => Nat.ne_of_lt (hF.rd.lt k e (by omega))
              have f2 := f1.grown hgy (by omega) (by omega) (by omega) l13
              have k72 := k71.grown hgy (by simp; omega)
              have k13 : Blk wy wr.heap.size 157 (u32s (rounds s ws 0).l) := (by simpa using hky : Blk wy wr.heap.size 157 (u32s s.l))
              clear hF hk7 k3b hkx hbx hsx f1 k71 hky hgy hsy o8 n8 hue
              generalize wr.heap.size = g13 at *
              go_loopw [14] (fun i wr => RC w (w.heap.size + 1) g4 v5 p s ws g7 g13 i wr) (fun i _ => 64 - (intOf i).toNat)
              case atStart => exact ⟨0, by omega, rfl, k72, k13, f2⟩
              case round =>
                clear k72 k13 f2
                obtain ⟨t, ht, rfl, hk7, hk13, hF⟩ := hrel
                by_cases hlt : t < 64
                · have hrs := rounds_ok hsok ws t
                  have hset : (rounds s ws t).step (kI.getD t 0) (ws.getD t 0) = rounds s ws (t + 1) := rfl
                  generalize rounds s ws t = r at *
                  have ue : U32 r.e := hrs.2.2.2.2.1
                  have ua : U32 r.a := hrs.1
                  obtain ⟨⟨p1, q1⟩, ⟨p2, q2⟩, ⟨p3, q3⟩, ⟨p4, q4⟩, ⟨p5, q5⟩, ⟨p6, q6⟩, ⟨p7, q7⟩, ⟨p8, q8⟩⟩ := hrs
                  have c0 : wr.cell? ⟨g13, 0, none⟩ = some (.int .u32 r.a) := hk13.cell 0
                  have c4 : wr.cell? ⟨g13, 4, none⟩ = some (.int .u32 r.e) := hk13.cell 4
                  have ek : (u32s kI)[t]? = some (.int .u32 (kI.getD t 0)) := u32s_get _ _ (by exact hlt)
                  have ew : (u32s ws)[t]? = some (.int .u32 (ws.getD t 0)) := u32s_get _ _ (by omega)
                  have ⟨pk, qk⟩ := getD_u kI_u t
                  have ⟨pw, qw⟩ := getD_u huw t
                  generalize kI.getD t 0 = kt at *
                  generalize ws.getD t 0 = wt at *
                  have i1 : (0 : Int) ≤ t := by omega
                  have i2 : (t : Int) < 64 := by omega
                  go_wp2
                  clear c0 c4
                  refine region_making 31 (fun _ => []) (fun _ => none) (by kernel_rfl) (by kernel_rfl) ?_ ?_
                  · intro i S h; cases h
                  simp only [List.take_succ_cons, List.take_zero, List.drop_succ_cons, List.drop_zero]
                  repeat (first | (apply wpG_pure; (focus rfl); (focus (intro wg Bg hbg hBg hFg; (have b7 := (hk13.drew.below hbg); have c7 : wg.cell? ⟨g13, 7, none⟩ = some (.int .u32 r.h) := b7.cell 7; have c5 : wg.cell? ⟨g13, 5, none⟩ = some (.int .u32 r.f) := b7.cell 5; have c6 : wg.cell? ⟨g13, 6, none⟩ = some (.int .u32 r.g) := b7.cell 6; have ck : wg.cell? ⟨g4, t, none⟩ = some (.int .u32 kt) := ((hF.drew.below hbg).k4.cell _).trans ek; have cw : wg.cell? ⟨g7, t, none⟩ = some (.int .u32 wt) := ((hk7.drew.below hbg).cell _).trans ew); go_simp; (try go_bits); (first | done | exact ⟨rfl, Below.refl _ _⟩ | rfl))); simp only [Act.put, List.setIfInBounds_toArray, List.set_cons_succ, List.set_cons_zero]) | (apply wpG_pure; (focus rfl); (focus (intro wg Bg hbg hBg hFg; go_simp; (try refine ⟨by kernel_rfl, ?_⟩); go_at_call 119; exact Calls.mono (ror_any _ _ _ (by assumption) (by omega) (by omega)) (fun e w' h => (by obtain ⟨rfl, hb⟩ := h; exact ⟨rfl, hb⟩)))); simp only [Act.put, List.setIfInBounds_toArray, List.set_cons_succ, List.set_cons_zero]))
                  refine wpG_end (fun wg Bg hbg hBg hFg => ?_)
                  have k7 := hk7.drew.below hbg
                  have k13 := hk13.drew.below hbg
                  have fx := hF.drew.below hbg
                  clear hFg hBg hbg hk7 hk13 hF ek ew
                  go_wp2
                  refine region_making 25 (fun _ => []) (fun _ => none) (by kernel_rfl) (by kernel_rfl) ?_ ?_
                  · intro i S h; cases h
                  simp only [List.take_succ_cons, List.take_zero, List.drop_succ_cons, List.drop_zero]
                  repeat (first | (apply wpG_pure; (focus rfl); (focus (intro wg Bg hbg hBg hFg; (have b7 := (k13.drew.below hbg); have c1 : wg.cell? ⟨g13, 1, none⟩ = some (.int .u32 r.b) := b7.cell 1; have c2 : wg.cell? ⟨g13, 2, none⟩ = some (.int .u32 r.c) := b7.cell 2); go_simp; (try go_bits); (first | done | exact ⟨rfl, Below.refl _ _⟩ | rfl))); simp only [Act.put, List.setIfInBounds_toArray, List.set_cons_succ, List.set_cons_zero]) | (apply wpG_pure; (focus rfl); (focus (intro wg Bg hbg hBg hFg; go_simp; (try refine ⟨by kernel_rfl, ?_⟩); go_at_call 119; exact Calls.mono (ror_any _ _ _ (by assumption) (by omega) (by omega)) (fun e w' h => (by obtain ⟨rfl, hb⟩ := h; exact ⟨rfl, hb⟩)))); simp only [Act.put, List.setIfInBounds_toArray, List.set_cons_succ, List.set_cons_zero]))
                  refine wpG_end (fun wh Bg hbg hBg hFg => ?_)
                  have hk7 := k7.drew.below hbg
                  have hk13 := k13.drew.below hbg
                  have hF := fx.drew.below hbg
                  clear hFg hBg hbg k7 k13 fx
                  rw [← sg1_eq, ← sg2_eq]
                  have ⟨pS1, qS1⟩ := sg1_u r.e r.f r.g r.h kt wt
                  have ⟨pS2, qS2⟩ := sg2_u r.a r.b r.c
                  have hst : r.step kt wt = r.turn (sg1 r.e r.f r.g r.h kt wt) (sg2 r.a r.b r.c) := rfl
                  generalize sg1 r.e r.f r.g r.h kt wt = T1 at *
                  generalize sg2 r.a r.b r.c = T2 at *
                  have c1 : wh.cell? ⟨g13, 1, none⟩ = some (.int .u32 r.b) := hk13.cell 1
                  have c2 : wh.cell? ⟨g13, 2, none⟩ = some (.int .u32 r.c) := hk13.cell 2
                  have c3 : wh.cell? ⟨g13, 3, none⟩ = some (.int .u32 r.d) := hk13.cell 3
                  have c5 : wh.cell? ⟨g13, 5, none⟩ = some (.int .u32 r.f) := hk13.cell 5
                  have c6 : wh.cell? ⟨g13, 6, none⟩ = some (.int .u32 r.g) := hk13.cell 6
                  go_wp2_with (first | (with_reducible refine G_build ?_; refine L_build (u32s (r.turn T1 T2).l).toArray (by kernel_rfl) ?_) | ((with_reducible refine G_store ?_; refine L_store_agg ag8 (by with_unfolding_all (conv => lhs; whnf)) (by with_unfolding_all (conv => lhs; whnf)) hk13 rfl rfl (fun u hu => u32s_one _ u (by simpa using hu)) ?_); intro wn hkn hgn hsn))
                  rw [← hst, hset] at hkn
                  exact ⟨⟨t + 1, by omega, by go_num, hk7.grown hgn (by simp; omega), by simpa using hkn, hF.grown hgn (by omega) (by omega) (by omega) l13⟩, by simp [intOf]; omega⟩
                · have hte := Go.Lib.hid (show t = 64 by omega)
                  rw [hte.out] at hk13
                  have hro := rounds_ok hsok ws 64
                  generalize rounds s ws 64 = r at *
                  clear hk7
                  go_wp2
                  go_loopw [19] (fun i wr => RD w g4 v5 p s r g13 i wr) (fun i _ => 8 - (intOf i).toNat)
                  case atStart => exact ⟨0, by omega, rfl, hk13, hF⟩
                  case round =>
                    clear hk13 hF
                    obtain ⟨j, hj, rfl, hk13, hF⟩ := hrel
                    by_cases hlj : j < 8
                    · have hlen := addL_len s r j hj
                      have ⟨pa, qa⟩ := getD_u (S8.u hsok) j
                      have ⟨pb, qb⟩ := getD_u (S8.u hro) j
                      have hset := Go.Lib.hid (addL_set s r j hlj)
                      have ca : wr.cell? ⟨w.heap.size + 1, j, none⟩ = some (.int .u32 (s.l.getD j 0)) := by rw [hF.k3.cell, u32s_get _ _ (by omega), addL_get _ _ _ hlj]
                      have cb : wr.cell? ⟨g13, j, none⟩ = some (.int .u32 (r.l.getD j 0)) := by rw [hk13.cell, u32s_get _ _ (by exact hlj)]
                      have hfz := hF.k3.frozen j
                      generalize s.l.getD j 0 = x at *
                      generalize r.l.getD j 0 = y at *
                      have i1 : (0 : Int) ≤ j := by omega
                      have i2 : (j : Int) < 8 := by omega
                      go_wp2
                      (refine region_tail 9 (by kernel_rfl) (by kernel_rfl) ?_; simp only [List.take_succ_cons, List.take_zero, List.drop_succ_cons, List.drop_zero]; repeat (refine wpStill_step (fun K hK => ?_); go_simp; (try go_bits); refine hK _ ?_; clear hK K); try refine wpStill_nil ?_)
                      go_wp2
                      have := hF.drew.set3 j ((x + y) % 4294967296) (by omega) (by omega) (fun k e => by have := h5 k e; omega)
                      rw [hset.out] at this
                      exact ⟨⟨j + 1, by omega, by go_num, hk13.drew.other (by show g13 ≠ w.heap.size + 1; omega) _, this⟩, by simp [intOf]; omega⟩
                    · have hje := Go.Lib.hid (show j = 8 by omega)
                      have hae : addL s r 8 = (s.add r).l := rfl
                      rw [hje.out, hae, ← hstk.out] at hF
                      clear hae
                      go_wp2
                      exact ⟨⟨k + 1, by omega, by go_num, hF⟩, by simp [intOf]; omega⟩
    · have hkk := Go.Lib.hid (show k = p.length / 64 by omega)
      rw [hkk.out] at hF
      have hsok := stI_ok p (p.length / 64)
      generalize stI p (p.length / 64) = s at *
      go_wp2_with (first | (with_reducible refine G_len ?_; refine L8_len Tryd.underlying37 (by with_unfolding_all (conv => lhs; whnf)) (by assumption) ?_) | ((with_reducible refine G_alloc ?_; refine L_alloc z32 ?_); intro wx hkx hbx hsx))
      have f1 := hF.below hbx
      have l3 := hF.k3.lt
      have l4 := hF.k4.lt
      have l5 : ∀ k, v5.ownBlock = some k → k ≠ wr.heap.size := fun k e => Nat.ne_of_lt (hF.rd.lt k e (by omega))
      clear hF hbx hsx hR
      generalize wr.heap.size = g20 at *
      go_loopw [21] (fun i wr => RE w g4 v5 p s g20 i wr) (fun i _ => 32 - (intOf i).toNat)
      case atStart => exact ⟨0, by omega, rfl, hkx, f1⟩
      case round =>
        clear hkx f1
        obtain ⟨j, hj, rfl, hk7, hF⟩ := hrel
        by_cases hlj : j < 32
        · have hx := getD_u (S8.u hsok) (j / 4)
          have hB := Go.Lib.hid (outB_int s j hx)
          have cx : wr.cell? ⟨w.heap.size + 1, j / 4, none⟩ = some (.int .u32 (s.l.getD (j / 4) 0)) := by rw [hF.k3.cell, u32s_get _ _ (by show j / 4 < 8; omega)]
          have hzl := outZ_len s j hj
          have cz : wr.cell? ⟨g20, j, none⟩ = some (.int .u8 (bt (outZ s j) j)) := by rw [hk7.cell, bvs_get _ _ (by omega)]
          have hfz := hk7.frozen j
          have hset := Go.Lib.hid (outZ_set s j hlj)
          obtain ⟨px, qx⟩ := hx
          generalize s.l.getD (j / 4) 0 = x at *
          have i1 : (0 : Int) ≤ (j : Int) / 4 := by omega
          have i2 : (j : Int) / 4 < 8 := by omega
          have i3 : ((j : Int) / 4).toNat = j / 4 := by omega
          have s1 : (0 : Int) ≤ 24 - 8 * ((j : Int) % 4) := by omega
          have s2 : (24 : Int) - 8 * ((j : Int) % 4) ≤ 24 := by omega
          have s3 : ((24 : Int) - 8 * ((j : Int) % 4)).toNat = 24 - j % 4 * 8 := by omega
          go_wp2
          refine ⟨⟨j + 1, by omega, by go_num, ?_, hF.set (by omega) (by omega) (by omega) l5⟩, by simp [intOf]; omega⟩
          have := hk7.stored j (bv (outB s j))
          rw [bvs_set, hset.out] at this
          rw [hB.out]; exact this
        · have hje := Go.Lib.hid (show j = 32 by omega)
          have hou : outZ s 32 = outS s 32 := by simp [outZ]
          rw [hje.out, hou] at hk7
          have nO : (bvs (outS s 32)).length = 32 := by rw [bvs_length, outS_len]
          have oO := bvs_one (outS s 32)
          have k2 := hF.k2
          generalize hO : bvs (outS s 32) = O at *
          go_wp2_with (first | (with_reducible refine G_load ?_; refine L_load_agg ag32 (by with_unfolding_all (conv => lhs; whnf)) (by assumption) nO ?_) | ((with_reducible refine G_store ?_; refine L_store_agg ag32 (by with_unfolding_all (conv => lhs; whnf)) (by with_unfolding_all (conv => lhs; whnf)) k2 rfl (by simpa using nO) (fun u hu => oO u (by simpa using hu)) ?_); intro wz hkz hgz hsz))
          exact ret_agg (cs := O) rfl ag32 rfl rfl (by simpa using hkz) nO ⟨by rw [← hS, hO], hF.bl.grown hgz hF.bl.size (by intro k hk; cases hk; omega)⟩
end Go.Proofs.YtfnlcnjflloecaaDoor
