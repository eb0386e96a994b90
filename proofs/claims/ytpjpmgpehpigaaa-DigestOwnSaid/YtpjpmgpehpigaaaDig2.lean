/- digest.words: the words of a block. -/
import Derived.Test.YtpjpmgpehpigaaaDig1
set_option linter.unusedVariables false
set_option linter.unusedSimpArgs false
namespace Go.Proofs.Ytpjpmgpehpigaaa
open Go.RowKit
/-- t words are made, the others are still 0. -/
def wz (b : List UInt8) (t : Nat) : List Int := wl b t ++ List.replicate (64 - t) 0
theorem wz_len (b : List UInt8) (t : Nat) (h : t ≤ 64) : (wz b t).length = 64 := by simp [wz, wl_len]; omega
theorem wz_u (b : List UInt8) (t : Nat) : ∀ x ∈ wz b t, U32 x := by
  intro x h
  simp only [wz, List.mem_append, List.mem_replicate] at h
  rcases h with h | ⟨_, rfl⟩
  · exact wl_u b t x h
  · unfold U32; omega
theorem wz_set (b : List UInt8) (t : Nat) (h : t < 64) : (wz b t).set t (if t < 16 then beI b (4 * t) 4 else nextI (wl b t) t) = wz b (t + 1) := by
  obtain ⟨m, hm⟩ : ∃ m, 64 - t = m + 1 := ⟨64 - t - 1, by omega⟩
  unfold wz
  rw [hm, show 64 - (t + 1) = m from by omega, List.replicate_succ, List.set_append_right _ _ (by rw [wl_len]; omega), wl_len]
  simp [wl]
theorem wz_set16 (b : List UInt8) (t : Nat) (h : t < 16) : (wz b t).set t (beI b (4 * t) 4) = wz b (t + 1) := by rw [← wz_set b t (by omega), if_pos h]
theorem wz_set0 (b : List UInt8) (t : Nat) (h : t < 64) : (wz b t).set t (beI b (4 * t) 0) = wz b t := by
  obtain ⟨m, hm⟩ : ∃ m, 64 - t = m + 1 := ⟨64 - t - 1, by omega⟩
  unfold wz
  rw [hm, List.replicate_succ, List.set_append_right _ _ (by rw [wl_len]; omega), wl_len]
  simp [beI]
theorem wz_get (b : List UInt8) (t j : Nat) (h : j < t) : (wz b t).getD j 0 = (wl b t).getD j 0 := by
  unfold wz
  rw [List.getD_eq_getElem?_getD, List.getElem?_append_left (by rw [wl_len]; exact h), ← List.getD_eq_getElem?_getD]
def WordsRel (w : World) (v : Value) (l : List UInt8) (g2 g3 : Nat) (i : Value) (wr : World) : Prop :=
  ∃ t : Nat, t ≤ 64 ∧ i = .int .i64 t ∧ Blk wr g3 66 (u32s (wz l t)) ∧ Blk wr g2 66 (u32s (List.replicate 64 0)) ∧ Rd wr v l ∧ Below w.heap.size w wr
def WordRel (w : World) (v v' : Value) (l : List UInt8) (g2 g3 t : Nat) (i : Value) (wr : World) : Prop :=
  ∃ j : Nat, j ≤ 4 ∧ i = .int .i64 j ∧ Blk wr g3 66 (u32s ((wz l t).set t (beI l (4 * t) j))) ∧ Blk wr g2 66 (u32s (List.replicate 64 0)) ∧ Rd wr v l ∧ Rd wr v' ((l.take (4 * t + 4)).drop (4 * t)) ∧ Below w.heap.size w wr
theorem bt_piece (l : List UInt8) (lo hi j : Nat) (h : lo + j < hi) : bt ((l.take hi).drop lo) j = bt l (lo + j) := by
  unfold bt
  simp [List.getD_eq_getElem?_getD, List.getElem?_take, h]
set_option maxRecDepth 100000 in
set_option maxHeartbeats 1600000 in
theorem words_c (v : Value) (l : List UInt8) (w : World) (h : Rd w v l) (hl : l.length = 64) :
    Calls Try.prog 49 #[v] w (GivesW w (wl l 64)) := by
  have HL := Go.Lib.hid hl
  have hl1 : l.length ≤ 64 := by omega
  have hl2 : 64 ≤ l.length := by omega
  clear hl
  go_enter Try.func49, Try.ntmps49
  have tok : True := trivial
  go_wp2_with (first | (have _t := tok; (with_reducible refine G_alloc ?_; refine L_alloc z64 ?_); intro wa1 hk1 hb1 hs1; clear tok) | ((with_reducible refine G_alloc ?_; refine L_alloc z64 ?_); intro wa hka hba hsa))
  have hk2 := hk1.below hba
  have hb2 := below_below hb1 hba
  have hz : u32s (List.replicate 64 0) = u32s (wz l 0) := rfl
  have h2 := h.below hb2
  have hvl := h.lt
  rw [hz] at hka
  rw [hs1] at hka
  clear hk1 hb1 hs1 hba hsa hz h
  go_loopw [9] (fun i wr => WordsRel w v l w.heap.size (w.heap.size + 1) i wr) (fun i _ => 64 - (intOf i).toNat)
  case atStart => exact ⟨0, by omega, rfl, hka, hk2, h2, hb2⟩
  case round =>
    clear hka hk2 h2 hb2
    obtain ⟨t, ht, rfl, hk3, hk2, hR, hbr⟩ := hrel
    by_cases hlt : t < 64
    · by_cases hlt2 : t < 16
      · have hmin : min (4 * t + 4) l.length - 4 * t = 4 := by omega
        go_wp2_with (first | ((with_reducible refine G_slice ?_; refine L8_slice_lh st8 (lo := 4 * t) (hi := 4 * t + 4) (by with_unfolding_all (conv => lhs; whnf)) (by assumption) (by with_unfolding_all (conv => lhs; whnf)) (by omega) (by with_unfolding_all (conv => lhs; whnf)) (by omega) (by omega) (by omega) ?_); intro v' hv' hvb) | (with_reducible refine G_len ?_; refine L8_len Try.underlying23 (by with_unfolding_all (conv => lhs; whnf)) (by assumption) ?_))
        rw [← wz_set0 l t hlt] at hk3
        go_loopw [22] (fun i wr => WordRel w v v' l w.heap.size (w.heap.size + 1) t i wr) (fun i _ => 4 - (intOf i).toNat)
        case atStart => exact ⟨0, by omega, rfl, hk3, hk2, hR, hv', hbr⟩
        case round =>
          clear hk3 hk2 hR hv' hbr
          obtain ⟨j, hj, rfl, hk3, hk2, hR, hv', hbr⟩ := hrel
          by_cases hlt4 : j < 4
          · have hlen : ((l.take (4 * t + 4)).drop (4 * t)).length = 4 := by simp; omega
            have hX := beI_u l (4 * t) j
            have hzl := wz_len l t (by omega)
            have hcw : wr.cell? ⟨w.heap.size + 1, t, none⟩ = some (.int .u32 (beI l (4 * t) j)) := by
              rw [hk3.cell, u32s_get _ _ (by simp; omega)]
              simp [List.getD_eq_getElem?_getD, hzl, hlt]
            have hfw := hk3.frozen t
            have hbp := bt_piece l (4 * t) (4 * t + 4) j (by omega)
            have q1 := bt_lo l (4 * t + j)
            have q2 := bt_hi l (4 * t + j)
            have hS := Go.Lib.hid (show beI l (4 * t) (j + 1) = bits .or .u32 (beI l (4 * t) j * 256 % 4294967296) (bt l (4 * t + j)) from rfl)
            clear hmin
            go_wp2_with (first | ((with_reducible refine G_index ?_; refine L8_index st8 (i := j) (by with_unfolding_all (conv => lhs; whnf)) (by assumption) (by with_unfolding_all (conv => lhs; whnf)) (by omega) (by omega) ?_); intro b o hbo hcl; rw [hbp] at hcl))
            refine ⟨⟨j + 1, by omega, by go_num, ?_, hk2.other (by show w.heap.size ≠ w.heap.size + 1; omega) _, ?_, ?_, ?_⟩, by simp [intOf]; omega⟩
            · have := hk3.stored t (.int .u32 (beI l (4 * t) (j + 1)))
              rw [u32s_set, List.set_set] at this
              rw [← hS.out]; exact this
            · exact hR.grown (grown_setCell _ _ _) fun hn e => absurd (hvl _ e hn) (by simp)
            · exact hv'.grown (grown_setCell _ _ _) fun hn e => absurd (hvl _ (by rw [← hvb]; exact e) (by omega)) (by simp)
            · exact hbr.setCell (by show w.heap.size ≤ w.heap.size + 1; omega) _
          · obtain rfl : j = 4 := by omega
            rw [wz_set16 l t hlt2] at hk3
            clear hmin
            go_wp2
            refine ⟨⟨t + 1, by omega, by go_num, hk3, hk2, hR, hbr⟩, by simp [intOf]; omega⟩
      · have hx := getD_u (wz_u l t) (t - 2)
        have hy := getD_u (wz_u l t) (t - 15)
        have hzl := wz_len l t (by omega)
        have c2 : wr.cell? ⟨w.heap.size + 1, t - 2, none⟩ = some (.int .u32 ((wz l t).getD (t - 2) 0)) := by rw [hk3.cell, u32s_get _ _ (by omega)]
        have c15 : wr.cell? ⟨w.heap.size + 1, t - 15, none⟩ = some (.int .u32 ((wz l t).getD (t - 15) 0)) := by rw [hk3.cell, u32s_get _ _ (by omega)]
        have c7 : wr.cell? ⟨w.heap.size + 1, t - 7, none⟩ = some (.int .u32 ((wz l t).getD (t - 7) 0)) := by rw [hk3.cell, u32s_get _ _ (by omega)]
        have c16 : wr.cell? ⟨w.heap.size + 1, t - 16, none⟩ = some (.int .u32 ((wz l t).getD (t - 16) 0)) := by rw [hk3.cell, u32s_get _ _ (by omega)]
        have hv7 := getD_u (wz_u l t) (t - 7)
        have hv16 := getD_u (wz_u l t) (t - 16)
        have ct : wr.cell? ⟨w.heap.size + 1, t, none⟩ = some (.int .u32 ((wz l t).getD t 0)) := by rw [hk3.cell, u32s_get _ _ (by omega)]
        have hS := Go.Lib.hid (show nextI (wl l t) t = (bits .xor .u32 (bits .xor .u32 (rotI ((wz l t).getD (t - 2) 0) 17) (rotI ((wz l t).getD (t - 2) 0) 19)) ((wz l t).getD (t - 2) 0 / 1024) + (wz l t).getD (t - 7) 0 + bits .xor .u32 (bits .xor .u32 (rotI ((wz l t).getD (t - 15) 0) 7) (rotI ((wz l t).getD (t - 15) 0) 18)) ((wz l t).getD (t - 15) 0 / 8) + (wz l t).getD (t - 16) 0) % 4294967296 by
          rw [wz_get _ _ _ (by omega), wz_get _ _ _ (by omega), wz_get _ _ _ (by omega), wz_get _ _ _ (by omega)]; unfold nextI sig1 sig0; simp)
        have hset := Go.Lib.hid (wz_set l t hlt)
        have hfw := hk3.frozen t
        generalize (wz l t).getD (t - 2) 0 = X2 at *
        generalize (wz l t).getD (t - 15) 0 = X15 at *
        generalize (wz l t).getD (t - 7) 0 = X7 at *
        generalize (wz l t).getD (t - 16) 0 = X16 at *
        have i0 : (2 : Int) ≤ t := by omega
        have i1 : (0 : Int) ≤ (t : Int) - 2 := by omega
        have i2 : (t : Int) - 2 < 64 := by omega
        have i3 : ((t : Int) - 2).toNat = t - 2 := by omega
        have j0 : (15 : Int) ≤ t := by omega
        have j1 : (0 : Int) ≤ (t : Int) - 15 := by omega
        have j2 : (t : Int) - 15 < 64 := by omega
        have j3 : ((t : Int) - 15).toNat = t - 15 := by omega
        have k0 : (7 : Int) ≤ t := by omega
        have k1 : (0 : Int) ≤ (t : Int) - 7 := by omega
        have k2 : (t : Int) - 7 < 64 := by omega
        have k3 : ((t : Int) - 7).toNat = t - 7 := by omega
        have l0 : (16 : Int) ≤ t := by omega
        have l1 : (0 : Int) ≤ (t : Int) - 16 := by omega
        have l2 : (t : Int) - 16 < 64 := by omega
        have l3 : ((t : Int) - 16).toNat = t - 16 := by omega
        go_wp2
        (refine region_still (by kernel_rfl) (by kernel_rfl) ?_; repeat (refine wpStill_step (fun K hK => ?_); go_simp; (try go_bits); refine hK _ ?_; clear hK K); try refine wpStill_nil ?_)
        go_wp2
        (refine region_tail 29 (by kernel_rfl) (by kernel_rfl) ?_; simp only [List.take_succ_cons, List.take_zero, List.drop_succ_cons, List.drop_zero]; repeat (first | (refine wpStill_step (fun K hK => ?_); go_simp; refine ⟨_, (by go_at_call 51; exact (Calls.mono (right_any _ _ _ (by assumption) (by omega) (by omega)) (fun e w' h => ⟨h.1, h.2.symm⟩))), hK _ ?_⟩; clear hK K) | (refine wpStill_step (fun K hK => ?_); go_simp; (try go_bits); refine hK _ ?_; clear hK K)); try refine wpStill_nil ?_)
        go_wp2
        refine ⟨⟨t + 1, by omega, by go_num, ?_, ?_, ?_, ?_⟩, by simp [intOf]; omega⟩
        · have := (hk3.drew.drew).stored t (.int .u32 (nextI (wl l t) t))
          rw [u32s_set] at this
          have hst := hset.out
          rw [if_neg hlt2] at hst
          rw [hst] at this
          rw [← hS.out]; exact this
        · exact hk2.drew.drew.other (by show w.heap.size ≠ w.heap.size + 1; omega) _
        · exact (hR.drew.drew).grown (grown_setCell _ _ _) fun hn e => absurd (hvl _ e hn) (by simp)
        · exact hbr.drew.drew.setCell (by show w.heap.size ≤ w.heap.size + 1; omega) _
    · have hte : t = 64 := by omega
      have he : wz l t = wl l 64 := by rw [hte]; simp [wz]
      rw [he] at hk3
      have hnl := wl_len l 64
      have hu := wl_u l 64
      generalize wl l 64 = ws at *
      have hnl2 : (u32s ws).toArray.size = 64 := by simp [u32s, hnl]
      have hnl3 : (u32s ws).length = 64 := by simp [u32s, hnl]
      go_wp2_with (first | (with_reducible refine G_load ?_; refine L_load_agg ag64 (by with_unfolding_all (conv => lhs; whnf)) (by assumption) hnl3 ?_) | ((with_reducible refine G_store ?_; refine L_store_agg ag64 (by with_unfolding_all (conv => lhs; whnf)) (by with_unfolding_all (conv => lhs; whnf)) (by assumption) (by simp [u32s]) hnl2 (fun u hu => u32s_one ws u (by simpa using hu)) ?_); intro wb hkb hgb hsb))
      exact ret_agg (cs := u32s ws) rfl ag64 rfl rfl (by simpa using hkb) hnl3 ⟨rfl, hbr.grown hgb (by have := hk2.lt; omega) (by intro k hk; cases hk; exact Nat.le_refl _)⟩
end Go.Proofs.Ytpjpmgpehpigaaa
