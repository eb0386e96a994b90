/- digest.mix: a block mixed into the state. -/
import Derived.Test.YtfnlcnjflloecaaDoorBase
import Derived.Test.YtfnlcnjflloecaaDoorArr
/-! ### DigPure -/
set_option linter.unusedVariables false
set_option linter.unusedSimpArgs false
namespace Go.Proofs.YtfnlcnjflloecaaDoor
open Go.RowKit
def U32 (x : Int) : Prop := 0 ≤ x ∧ x < 4294967296
def u32s (l : List Int) : List Value := l.map (.int .u32)
theorem u32s_length (l : List Int) : (u32s l).length = l.length := by simp [u32s]
theorem u32s_get (l : List Int) (j : Nat) (h : j < l.length) : (u32s l)[j]? = some (.int .u32 (l.getD j 0)) := by simp [u32s, List.getElem?_eq_getElem h, List.getD_eq_getElem?_getD]
theorem u32s_one (l : List Int) : ∀ u ∈ u32s l, u.oneCell' = true := by intro u hu; obtain ⟨b, _, rfl⟩ := List.mem_map.1 hu; rfl
theorem u32s_set (l : List Int) (j : Nat) (x : Int) : (u32s l).set j (.int .u32 x) = u32s (l.set j x) := by simp [u32s, List.map_set]
theorem bits_u32 (op : BinOp) (a b : Int) : U32 (bits op .u32 a b) := by
  have : ∀ n : Nat, U32 (IntKind.u32.wrap (n : Int)) := fun n => by rw [IntKind.wrap_u32']; unfold U32; omega
  unfold bits
  split <;> first | exact this _ | (unfold U32; omega)
/-- A word turned to the right. -/
def rotI (x : Int) (n : Nat) : Int := bits .or .u32 (x / 2 ^ n) (x * 2 ^ (32 - n) % 4294967296)
theorem rotI_u (x : Int) (n : Nat) : U32 (rotI x n) := bits_u32 ..
theorem bits_or_comm (k : IntKind) (a b : Int) : bits .or k a b = bits .or k b a := by
  unfold bits; simp [BitVec.or_comm]
theorem and31 (n : Nat) (hn : 1 ≤ n) (hn2 : n ≤ 31) : bits .and .u64 (IntKind.u64.wrap (-(n : Int))) 31 = 32 - (n : Int) := by
  rw [IntKind.wrap_u64, show (-(n : Int)) % 18446744073709551616 = ((18446744073709551616 - n : Nat) : Int) from by omega, show (31 : Int) = ((31 : Nat) : Int) from rfl, u64_and_nat _ _ (by omega) (by omega), nat_mask5]
  omega
def hI : List Int := [1779033703, 3144134277, 1013904242, 2773480762, 1359893119, 2600822924, 528734635, 1541459225]
def kI : List Int := [1116352408, 1899447441, 3049323471, 3921009573, 961987163, 1508970993, 2453635748, 2870763221, 3624381080, 310598401, 607225278, 1426881987, 1925078388, 2162078206, 2614888103, 3248222580, 3835390401, 4022224774, 264347078, 604807628, 770255983, 1249150122, 1555081692, 1996064986, 2554220882, 2821834349, 2952996808, 3210313671, 3336571891, 3584528711, 113926993, 338241895, 666307205, 773529912, 1294757372, 1396182291, 1695183700, 1986661051, 2177026350, 2456956037, 2730485921, 2820302411, 3259730800, 3345764771, 3516065817, 3600352804, 4094571909, 275423344, 430227734, 506948616, 659060556, 883997877, 958139571, 1322822218, 1537002063, 1747873779, 1955562222, 2024104815, 2227730452, 2361852424, 2428436474, 2756734187, 3204031479, 3329325298]
def sig1 (x : Int) : Int := bits .xor .u32 (bits .xor .u32 (rotI x 17) (rotI x 19)) (x / 1024)
def sig0 (x : Int) : Int := bits .xor .u32 (bits .xor .u32 (rotI x 7) (rotI x 18)) (x / 8)
def nextI (l : List Int) (t : Nat) : Int := (((sig1 (l.getD (t - 2) 0) + l.getD (t - 7) 0) % 4294967296 + sig0 (l.getD (t - 15) 0)) % 4294967296 + l.getD (t - 16) 0) % 4294967296
/-- A word out of bytes from place o on: so many of its four. -/
def beI (b : List UInt8) (o : Nat) : Nat → Int
  | 0 => 0
  | i + 1 => bits .or .u32 (beI b o i * 256 % 4294967296) (bt b (o + i))
def wl (b : List UInt8) : Nat → List Int
  | 0 => []
  | t + 1 => wl b t ++ [if t < 16 then beI b (4 * t) 4 else nextI (wl b t) t]
theorem wl_len (b : List UInt8) (t : Nat) : (wl b t).length = t := by
  induction t with
  | zero => rfl
  | succ t ih => simp [wl, ih]
theorem beI_u (b : List UInt8) (o i : Nat) : U32 (beI b o i) := by
  cases i with
  | zero => unfold beI U32; omega
  | succ i => exact bits_u32 ..
theorem mod_u (x : Int) : U32 (x % 4294967296) := by unfold U32; omega
theorem wl_u (b : List UInt8) (t : Nat) : ∀ x ∈ wl b t, U32 x := by
  induction t with
  | zero => intro x h; cases h
  | succ t ih =>
    intro x h
    simp only [wl, List.mem_append, List.mem_singleton] at h
    rcases h with h | rfl
    · exact ih x h
    · split
      · exact beI_u ..
      · exact mod_u ..
theorem getD_u {l : List Int} (h : ∀ x ∈ l, U32 x) (j : Nat) : U32 (l.getD j 0) := by
  rw [List.getD_eq_getElem?_getD]
  by_cases hj : j < l.length
  · rw [List.getElem?_eq_getElem hj]; exact h _ (List.getElem_mem hj)
  · rw [List.getElem?_eq_none (by omega)]; unfold U32; simp
end Go.Proofs.YtfnlcnjflloecaaDoor
/-! ### Dig1 -/
set_option linter.unusedVariables false
set_option linter.unusedSimpArgs false
namespace Go.Proofs.YtfnlcnjflloecaaDoor
open Go.RowKit
theorem ag32 : AggTy Tryd.prog 40 32 := ⟨⟨_, Tryd.underlying40, rfl⟩, by kernel_rfl⟩
theorem ag8 : AggTy Tryd.prog 157 8 := ⟨⟨_, Tryd.underlying157, rfl⟩, by kernel_rfl⟩
theorem ag64 : AggTy Tryd.prog 162 64 := ⟨⟨_, Tryd.underlying162, rfl⟩, by kernel_rfl⟩
theorem z32 : (Tryd.prog.info? 40).map (·.zero) = some (some (.agg (bvs (List.replicate 32 0)).toArray)) := by kernel_rfl
theorem z8 : (Tryd.prog.info? 157).map (·.zero) = some (some (.agg (u32s (List.replicate 8 0)).toArray)) := by kernel_rfl
theorem z64 : (Tryd.prog.info? 162).map (·.zero) = some (some (.agg (u32s (List.replicate 64 0)).toArray)) := by kernel_rfl
/-- What a call answers: words in an array. -/
def GivesW (w : World) (l : List Int) (e : Ending) (w' : World) : Prop := e = .returned (.agg (u32s l).toArray) ∧ Below w.heap.size w w'
def GivesB (w : World) (l : List UInt8) (e : Ending) (w' : World) : Prop := e = .returned (.agg (bvs l).toArray) ∧ Below w.heap.size w w'
set_option maxHeartbeats 400000 in
theorem right_c (x : Int) (n : Nat) (w : World) (h : U32 x) (hn : 1 ≤ n) (hn2 : n ≤ 31) :
    Calls Tryd.prog 142 #[.int .u32 x, .int .i64 n] w fun e w' => e = .returned (.int .u32 (rotI x n)) ∧ w = w' := by
  obtain ⟨h0, h1⟩ := h
  have ha := and31 n hn hn2
  have hs : (0 : Int) ≤ 32 - (n : Int) := by omega
  have hs2 : (32 : Int) - (n : Int) ≤ 31 := by omega
  have ht : ((32 : Int) - (n : Int)).toNat = 32 - n := by omega
  have ht2 : 32 - (32 - n) = n := by omega
  have hc := Go.Lib.hid (bits_or_comm .u32 (x / 2 ^ n) (x * 2 ^ (32 - n) % 4294967296))
  go_enter Tryd.func142, Tryd.ntmps142
  go_wp2
  go_ret
  exact ⟨by unfold rotI; rw [hc.out, ← ht2]; simp [ht2], rfl⟩
theorem right_any (x n : Int) (w : World) (h : U32 x) (hn : 1 ≤ n) (hn2 : n ≤ 31) :
    Calls Tryd.prog 142 #[.int .u32 x, .int .i64 n] w fun e w' => e = .returned (.int .u32 (rotI x n.toNat)) ∧ w = w' := by
  obtain ⟨m, rfl⟩ := Int.eq_ofNat_of_zero_le (show 0 ≤ n by omega)
  exact right_c x m w h (by omega) (by omega)
set_option maxHeartbeats 400000 in
theorem ror_c (x : Int) (n : Nat) (w : World) (h : U32 x) (hn : 1 ≤ n) (hn2 : n ≤ 31) :
    Calls Tryd.prog 119 #[.int .u32 x, .int .i64 n] w fun e w' => e = .returned (.int .u32 (rotI x n)) ∧ Below w.heap.size w w' := by
  obtain ⟨h0, h1⟩ := h
  go_enter Tryd.func119, Tryd.ntmps119
  go_wp2
  refine region_making 9 (fun _ => []) (fun _ => none) (by kernel_rfl) (by kernel_rfl) ?_ ?_
  · intro i S h; cases h
  simp only [List.take_succ_cons, List.take_zero, List.drop_succ_cons, List.drop_zero]
  repeat (apply wpG_pure; (focus rfl); (focus (intro wg Bg hbg hBg hFg; go_simp; (try go_bits); (first | done | exact ⟨rfl, Below.refl _ _⟩ | rfl))); simp only [Act.put, List.setIfInBounds_toArray, List.set_cons_succ, List.set_cons_zero])
  refine wpG_end (fun wg Bg hbg hBg hFg => ?_)
  go_wp2
  go_ret
  exact ⟨rfl, (Below.refl _ _).drew.trans hbg⟩
theorem ror_any (x n : Int) (w : World) (h : U32 x) (hn : 1 ≤ n) (hn2 : n ≤ 31) :
    Calls Tryd.prog 119 #[.int .u32 x, .int .i64 n] w fun e w' => e = .returned (.int .u32 (rotI x n.toNat)) ∧ Below w.heap.size w w' := by
  obtain ⟨m, rfl⟩ := Int.eq_ofNat_of_zero_le (show 0 ≤ n by omega)
  exact ror_c x m w h (by omega) (by omega)
theorem begin_c (w : World) : Calls Tryd.prog 113 #[] w (GivesW w hI) := by
  go_enter Tryd.func113, Tryd.ntmps113
  go_wp2
  refine ret_agg (cs := u32s hI) rfl ag8 rfl rfl (Blk.new w 157 (u32s hI)) rfl ⟨rfl, (Below.refl _ _).alloc (Nat.le_refl _) _⟩
set_option maxRecDepth 100000 in
theorem round_c (w : World) : Calls Tryd.prog 141 #[] w (GivesW w kI) := by
  go_enter Tryd.func141, Tryd.ntmps141
  go_wp2_with (first | ((with_reducible refine G_alloc ?_; refine L_alloc z64 ?_); intro wa hka hba hsa) | (with_reducible refine G_build ?_; refine L_build (u32s kI).toArray (by kernel_rfl) ?_) | ((with_reducible refine G_store ?_; refine L_store_agg ag64 (by with_unfolding_all (conv => lhs; whnf)) (by with_unfolding_all (conv => lhs; whnf)) (by assumption) rfl rfl (fun u hu => u32s_one kI u (by simpa using hu)) ?_); intro wb hkb hgb hsb))
  exact ret_agg (cs := u32s kI) rfl ag64 rfl rfl (by simpa using hkb) rfl ⟨rfl, hba.grown hgb hba.size (by intro k hk; cases hk; exact Nat.le_refl _)⟩
set_option maxRecDepth 100000 in
theorem shaK_c (w : World) : Calls Tryd.prog 117 #[] w (GivesW w kI) := by
  go_enter Tryd.func117, Tryd.ntmps117
  go_wp2_with (first | ((with_reducible refine G_alloc ?_; refine L_alloc z64 ?_); intro wa hka hba hsa) | (with_reducible refine G_build ?_; refine L_build (u32s kI).toArray (by kernel_rfl) ?_) | ((with_reducible refine G_store ?_; refine L_store_agg ag64 (by with_unfolding_all (conv => lhs; whnf)) (by with_unfolding_all (conv => lhs; whnf)) (by assumption) rfl rfl (fun u hu => u32s_one kI u (by simpa using hu)) ?_); intro wb hkb hgb hsb))
  exact ret_agg (cs := u32s kI) rfl ag64 rfl rfl (by simpa using hkb) rfl ⟨rfl, hba.grown hgb hba.size (by intro k hk; cases hk; exact Nat.le_refl _)⟩
end Go.Proofs.YtfnlcnjflloecaaDoor
/-! ### Dig2 -/
set_option linter.unusedVariables false
set_option linter.unusedSimpArgs false
namespace Go.Proofs.YtfnlcnjflloecaaDoor
open Go.RowKit
/-- t words are made, the others are still 0. -/
def wz (b : List UInt8) (t : Nat) : List Int := wl b t ++ List.replicate (64 - t) 0
theorem wz_len (b : List UInt8) (t : Nat) (h : t ≤ 64) : (wz b t).length = 64 := by simp [wz, wl_len]; omega
theorem wz_u (b : List UInt8) (t : Nat) : ∀ x ∈ wz b t, U32 x := by
  intro x h
  simp only [wz, List.mem_append, List.mem_replicate] at h
  rcases h with h | ⟨_, rfl⟩
  · exact wl_u b t x h
  · unfold U32; omega
theorem wz_set (b : List UInt8) (t : Nat) (h : t < 64) : (wz b t).set t (if t < 16 then beI b (4 * t) 4 else nextI (wl b t) t) = wz b (t + 1) := by
  obtain ⟨m, hm⟩ : ∃ m, 64 - t = m + 1 := ⟨64 - t - 1, by omega⟩
  unfold wz
  rw [hm, show 64 - (t + 1) = m from by omega, List.replicate_succ, List.set_append_right _ _ (by rw [wl_len]; omega), wl_len]
  simp [wl]
theorem wz_set16 (b : List UInt8) (t : Nat) (h : t < 16) : (wz b t).set t (beI b (4 * t) 4) = wz b (t + 1) := by rw [← wz_set b t (by omega), if_pos h]
theorem wz_set0 (b : List UInt8) (t : Nat) (h : t < 64) : (wz b t).set t (beI b (4 * t) 0) = wz b t := by
  obtain ⟨m, hm⟩ : ∃ m, 64 - t = m + 1 := ⟨64 - t - 1, by omega⟩
  unfold wz
  rw [hm, List.replicate_succ, List.set_append_right _ _ (by rw [wl_len]; omega), wl_len]
  simp [beI]
theorem wz_get (b : List UInt8) (t j : Nat) (h : j < t) : (wz b t).getD j 0 = (wl b t).getD j 0 := by
  unfold wz
  rw [List.getD_eq_getElem?_getD, List.getElem?_append_left (by rw [wl_len]; exact h), ← List.getD_eq_getElem?_getD]
def WordsRel (w : World) (v : Value) (l : List UInt8) (g2 g3 : Nat) (i : Value) (wr : World) : Prop :=
  ∃ t : Nat, t ≤ 64 ∧ i = .int .i64 t ∧ Blk wr g3 162 (u32s (wz l t)) ∧ Blk wr g2 162 (u32s (List.replicate 64 0)) ∧ Rd wr v l ∧ Below w.heap.size w wr
def WordRel (w : World) (v v' : Value) (l : List UInt8) (g2 g3 t : Nat) (i : Value) (wr : World) : Prop :=
  ∃ j : Nat, j ≤ 4 ∧ i = .int .i64 j ∧ Blk wr g3 162 (u32s ((wz l t).set t (beI l (4 * t) j))) ∧ Blk wr g2 162 (u32s (List.replicate 64 0)) ∧ Rd wr v l ∧ Rd wr v' ((l.take (4 * t + 4)).drop (4 * t)) ∧ Below w.heap.size w wr
theorem bt_piece (l : List UInt8) (lo hi j : Nat) (h : lo + j < hi) : bt ((l.take hi).drop lo) j = bt l (lo + j) := by
  unfold bt
  simp [List.getD_eq_getElem?_getD, List.getElem?_take, h]
set_option maxRecDepth 100000 in
set_option maxHeartbeats 1600000 in
theorem words_c (v : Value) (l : List UInt8) (w : World) (h : Rd w v l) (hl : l.length = 64) :
    Calls Tryd.prog 140 #[v] w (GivesW w (wl l 64)) := by
  have HL := Go.Lib.hid hl
  have hl1 : l.length ≤ 64 := by omega
  have hl2 : 64 ≤ l.length := by omega
  clear hl
  go_enter Tryd.func140, Tryd.ntmps140
  have tok : True := trivial
  go_wp2_with (first | (have _t := tok; (with_reducible refine G_alloc ?_; refine L_alloc z64 ?_); intro wa1 hk1 hb1 hs1; clear tok) | ((with_reducible refine G_alloc ?_; refine L_alloc z64 ?_); intro wa hka hba hsa))
  have hk2 := hk1.below hba
  have hb2 := below_below hb1 hba
  have hz : u32s (List.replicate 64 0) = u32s (wz l 0) := rfl
  have h2 := h.below hb2
  have hvl := h.lt
  rw [hz] at hka
  rw [hs1] at hka
  clear hk1 hb1 hs1 hba hsa hz h
  go_loopw [9] (fun i wr => WordsRel w v l w.heap.size (w.heap.size + 1) i wr) (fun i _ => 64 - (intOf i).toNat)
  case atStart => exact ⟨0, by omega, rfl, hka, hk2, h2, hb2⟩
  case round =>
    clear hka hk2 h2 hb2
    obtain ⟨t, ht, rfl, hk3, hk2, hR, hbr⟩ := hrel
    by_cases hlt : t < 64
    · by_cases hlt2 : t < 16
      · have hmin : min (4 * t + 4) l.length - 4 * t = 4 := by omega
        go_wp2_with (first | ((with_reducible refine G_slice ?_; refine L8_slice_lh st8 (lo := 4 * t) (hi := 4 * t + 4) (by with_unfolding_all (conv => lhs; whnf)) (by assumption) (by with_unfolding_all (conv => lhs; whnf)) (by omega) (by with_unfolding_all (conv => lhs; whnf)) (by omega) (by omega) (by omega) ?_); intro v' hv' hvb) | (with_reducible refine G_len ?_; refine L8_len Tryd.underlying37 (by with_unfolding_all (conv => lhs; whnf)) (by assumption) ?_))
        rw [← wz_set0 l t hlt] at hk3
        go_loopw [22] (fun i wr => WordRel w v v' l w.heap.size (w.heap.size + 1) t i wr) (fun i _ => 4 - (intOf i).toNat)
        case atStart => exact ⟨0, by omega, rfl, hk3, hk2, hR, hv', hbr⟩
        case round =>
          clear hk3 hk2 hR hv' hbr
          obtain ⟨j, hj, rfl, hk3, hk2, hR, hv', hbr⟩ := hrel
          by_cases hlt4 : j < 4
          · have hlen : ((l.take (4 * t + 4)).drop (4 * t)).length = 4 := by simp; omega
            have hX := beI_u l (4 * t) j
            have hzl := wz_len l t (by omega)
            have hcw : wr.cell? ⟨w.heap.size + 1, t, none⟩ = some (.int .u32 (beI l (4 * t) j)) := by
              rw [hk3.cell, u32s_get _ _ (by simp; omega)]
              simp [List.getD_eq_getElem?_getD, hzl, hlt]
            have hfw := hk3.frozen t
            have hbp := bt_piece l (4 * t) (4 * t + 4) j (by omega)
            have q1 := bt_lo l (4 * t + j)
            have q2 := bt_hi l (4 * t + j)
            have hS := Go.Lib.hid (show beI l (4 * t) (j + 1) = bits .or .u32 (beI l (4 * t) j * 256 % 4294967296) (bt l (4 * t + j)) from rfl)
            clear hmin
            go_wp2_with (first | ((with_reducible refine G_index ?_; refine L8_index st8 (i := j) (by with_unfolding_all (conv => lhs; whnf)) (by assumption) (by with_unfolding_all (conv => lhs; whnf)) (by omega) (by omega) ?_); intro b o hbo hcl; rw [hbp] at hcl))
            refine ⟨⟨j + 1, by omega, by go_num, ?_, hk2.other (by show w.heap.size ≠ w.heap.size + 1; omega) _, ?_, ?_, ?_⟩, by simp [intOf]; omega⟩
            · have := hk3.stored t (.int .u32 (beI l (4 * t) (j + 1)))
              rw [u32s_set, List.set_set] at this
              rw [← hS.out]; exact this
            · exact hR.grown (grown_setCell _ _ _) fun hn e => absurd (hvl _ e hn) (by simp)
            · exact hv'.grown (grown_setCell _ _ _) fun hn e => absurd (hvl _ (by rw [← hvb]; exact e) (by omega)) (by simp)
            · exact hbr.setCell (by show w.heap.size ≤ w.heap.size + 1; omega) _
          · obtain rfl : j = 4 := by omega
            rw [wz_set16 l t hlt2] at hk3
            clear hmin
            go_wp2
            refine ⟨⟨t + 1, by omega, by go_num, hk3, hk2, hR, hbr⟩, by simp [intOf]; omega⟩
      · have hx := getD_u (wz_u l t) (t - 2)
        have hy := getD_u (wz_u l t) (t - 15)
        have hzl := wz_len l t (by omega)
        have c2 : wr.cell? ⟨w.heap.size + 1, t - 2, none⟩ = some (.int .u32 ((wz l t).getD (t - 2) 0)) := by rw [hk3.cell, u32s_get _ _ (by omega)]
        have c15 : wr.cell? ⟨w.heap.size + 1, t - 15, none⟩ = some (.int .u32 ((wz l t).getD (t - 15) 0)) := by rw [hk3.cell, u32s_get _ _ (by omega)]
        have c7 : wr.cell? ⟨w.heap.size + 1, t - 7, none⟩ = some (.int .u32 ((wz l t).getD (t - 7) 0)) := by rw [hk3.cell, u32s_get _ _ (by omega)]
        have c16 : wr.cell? ⟨w.heap.size + 1, t - 16, none⟩ = some (.int .u32 ((wz l t).getD (t - 16) 0)) := by rw [hk3.cell, u32s_get _ _ (by omega)]
        have hv7 := getD_u (wz_u l t) (t - 7)
        have hv16 := getD_u (wz_u l t) (t - 16)
        have ct : wr.cell? ⟨w.heap.size + 1, t, none⟩ = some (.int .u32 ((wz l t).getD t 0)) := by rw [hk3.cell, u32s_get _ _ (by omega)]
        have hS := Go.Lib.hid (show nextI (wl l t) t = (bits .xor .u32 (bits .xor .u32 (rotI ((wz l t).getD (t - 2) 0) 17) (rotI ((wz l t).getD (t - 2) 0) 19)) ((wz l t).getD (t - 2) 0 / 1024) + (wz l t).getD (t - 7) 0 + bits .xor .u32 (bits .xor .u32 (rotI ((wz l t).getD (t - 15) 0) 7) (rotI ((wz l t).getD (t - 15) 0) 18)) ((wz l t).getD (t - 15) 0 / 8) + (wz l t).getD (t - 16) 0) % 4294967296 by
          rw [wz_get _ _ _ (by omega), wz_get _ _ _ (by omega), wz_get _ _ _ (by omega), wz_get _ _ _ (by omega)]; unfold nextI sig1 sig0; simp)
        have hset := Go.Lib.hid (wz_set l t hlt)
        have hfw := hk3.frozen t
        generalize (wz l t).getD (t - 2) 0 = X2 at *
        generalize (wz l t).getD (t - 15) 0 = X15 at *
        generalize (wz l t).getD (t - 7) 0 = X7 at *
        generalize (wz l t).getD (t - 16) 0 = X16 at *
        have i0 : (2 : Int) ≤ t := by omega
        have i1 : (0 : Int) ≤ (t : Int) - 2 := by omega
        have i2 : (t : Int) - 2 < 64 := by omega
        have i3 : ((t : Int) - 2).toNat = t - 2 := by omega
        have j0 : (15 : Int) ≤ t := by omega
        have j1 : (0 : Int) ≤ (t : Int) - 15 := by omega
        have j2 : (t : Int) - 15 < 64 := by omega
        have j3 : ((t : Int) - 15).toNat = t - 15 := by omega
        have k0 : (7 : Int) ≤ t := by omega
        have k1 : (0 : Int) ≤ (t : Int) - 7 := by omega
        have k2 : (t : Int) - 7 < 64 := by omega
        have k3 : ((t : Int) - 7).toNat = t - 7 := by omega
        have l0 : (16 : Int) ≤ t := by omega
        have l1 : (0 : Int) ≤ (t : Int) - 16 := by omega
        have l2 : (t : Int) - 16 < 64 := by omega
        have l3 : ((t : Int) - 16).toNat = t - 16 := by omega
        go_wp2
        (refine region_still (by kernel_rfl) (by kernel_rfl) ?_; repeat (refine wpStill_step (fun K hK => ?_); go_simp; (try go_bits); refine hK _ ?_; clear hK K); try refine wpStill_nil ?_)
        go_wp2
        (refine region_tail 29 (by kernel_rfl) (by kernel_rfl) ?_; simp only [List.take_succ_cons, List.take_zero, List.drop_succ_cons, List.drop_zero]; repeat (first | (refine wpStill_step (fun K hK => ?_); go_simp; refine ⟨_, (by go_at_call 142; exact (Calls.mono (right_any _ _ _ (by assumption) (by omega) (by omega)) (fun e w' h => ⟨h.1, h.2.symm⟩))), hK _ ?_⟩; clear hK K) | (refine wpStill_step (fun K hK => ?_); go_simp; (try go_bits); refine hK _ ?_; clear hK K)); try refine wpStill_nil ?_)
        go_wp2
        refine ⟨⟨t + 1, by omega, by go_num, ?_, ?_, ?_, ?_⟩, by simp [intOf]; omega⟩
        · have := (hk3.drew.drew).stored t (.int .u32 (nextI (wl l t) t))
          rw [u32s_set] at this
          have hst := hset.out
          rw [if_neg hlt2] at hst
          rw [hst] at this
          rw [← hS.out]; exact this
        · exact hk2.drew.drew.other (by show w.heap.size ≠ w.heap.size + 1; omega) _
        · exact (hR.drew.drew).grown (grown_setCell _ _ _) fun hn e => absurd (hvl _ e hn) (by simp)
        · exact hbr.drew.drew.setCell (by show w.heap.size ≤ w.heap.size + 1; omega) _
    · have hte : t = 64 := by omega
      have he : wz l t = wl l 64 := by rw [hte]; simp [wz]
      rw [he] at hk3
      have hnl := wl_len l 64
      have hu := wl_u l 64
      generalize wl l 64 = ws at *
      have hnl2 : (u32s ws).toArray.size = 64 := by simp [u32s, hnl]
      have hnl3 : (u32s ws).length = 64 := by simp [u32s, hnl]
      go_wp2_with (first | (with_reducible refine G_load ?_; refine L_load_agg ag64 (by with_unfolding_all (conv => lhs; whnf)) (by assumption) hnl3 ?_) | ((with_reducible refine G_store ?_; refine L_store_agg ag64 (by with_unfolding_all (conv => lhs; whnf)) (by with_unfolding_all (conv => lhs; whnf)) (by assumption) (by simp [u32s]) hnl2 (fun u hu => u32s_one ws u (by simpa using hu)) ?_); intro wb hkb hgb hsb))
      exact ret_agg (cs := u32s ws) rfl ag64 rfl rfl (by simpa using hkb) hnl3 ⟨rfl, hbr.grown hgb (by have := hk2.lt; omega) (by intro k hk; cases hk; exact Nat.le_refl _)⟩
end Go.Proofs.YtfnlcnjflloecaaDoor
/-! ### Dig3 -/
set_option linter.unusedVariables false
set_option linter.unusedSimpArgs false
namespace Go.Proofs.YtfnlcnjflloecaaDoor
open Go.RowKit
structure S8 where
  (a b c d e f g h : Int)
def S8.l (s : S8) : List Int := [s.a, s.b, s.c, s.d, s.e, s.f, s.g, s.h]
def S8.ok (s : S8) : Prop := U32 s.a ∧ U32 s.b ∧ U32 s.c ∧ U32 s.d ∧ U32 s.e ∧ U32 s.f ∧ U32 s.g ∧ U32 s.h
def sg1 (e f g h k w : Int) : Int := (h + bits .xor .u32 (bits .xor .u32 (rotI e 6) (rotI e 11)) (rotI e 25) + bits .xor .u32 (bits .and .u32 e f) (bits .and .u32 (bits .xor .u32 IntKind.u32.max e) g) + k + w) % 4294967296
def sg2 (a b c : Int) : Int := (bits .xor .u32 (bits .xor .u32 (rotI a 2) (rotI a 13)) (rotI a 22) + bits .xor .u32 (bits .xor .u32 (bits .and .u32 a b) (bits .and .u32 a c)) (bits .and .u32 b c)) % 4294967296
theorem sg1_eq (e f g h k w : Int) : sg1 e f g h k w = (h + bits .xor .u32 (bits .xor .u32 (rotI e 6) (rotI e 11)) (rotI e 25) + bits .xor .u32 (bits .and .u32 e f) (bits .and .u32 (bits .xor .u32 IntKind.u32.max e) g) + k + w) % 4294967296 := rfl
theorem sg2_eq (a b c : Int) : sg2 a b c = (bits .xor .u32 (bits .xor .u32 (rotI a 2) (rotI a 13)) (rotI a 22) + bits .xor .u32 (bits .xor .u32 (bits .and .u32 a b) (bits .and .u32 a c)) (bits .and .u32 b c)) % 4294967296 := rfl
theorem sg1_u (e f g h k w : Int) : U32 (sg1 e f g h k w) := mod_u _
theorem sg2_u (a b c : Int) : U32 (sg2 a b c) := mod_u _
def S8.turn (s : S8) (T1 T2 : Int) : S8 := ⟨(T1 + T2) % 4294967296, s.a, s.b, s.c, (s.d + T1) % 4294967296, s.e, s.f, s.g⟩
def S8.step (s : S8) (k w : Int) : S8 := s.turn (sg1 s.e s.f s.g s.h k w) (sg2 s.a s.b s.c)
def rounds (s : S8) (ws : List Int) : Nat → S8
  | 0 => s
  | t + 1 => (rounds s ws t).step (kI.getD t 0) (ws.getD t 0)
theorem S8.step_ok {s : S8} (h : s.ok) (k w : Int) : (s.step k w).ok := ⟨mod_u _, h.1, h.2.1, h.2.2.1, mod_u _, h.2.2.2.2.1, h.2.2.2.2.2.1, h.2.2.2.2.2.2.1⟩
theorem rounds_ok {s : S8} (h : s.ok) (ws : List Int) (t : Nat) : (rounds s ws t).ok := by
  induction t with
  | zero => exact h
  | succ t ih => exact S8.step_ok ih _ _
theorem kI_u : ∀ x ∈ kI, U32 x := by
  have : kI.all (fun x => decide (0 ≤ x ∧ x < 4294967296)) = true := by decide +kernel
  intro x h
  have := List.all_eq_true.1 this x h
  simpa [U32] using this
def S8.add (s r : S8) : S8 := ⟨(s.a + r.a) % 4294967296, (s.b + r.b) % 4294967296, (s.c + r.c) % 4294967296, (s.d + r.d) % 4294967296, (s.e + r.e) % 4294967296, (s.f + r.f) % 4294967296, (s.g + r.g) % 4294967296, (s.h + r.h) % 4294967296⟩
theorem S8.add_ok (s r : S8) : (s.add r).ok := ⟨mod_u _, mod_u _, mod_u _, mod_u _, mod_u _, mod_u _, mod_u _, mod_u _⟩
theorem S8.u {s : S8} (h : s.ok) : ∀ x ∈ s.l, U32 x := by
  intro x hx
  simp only [S8.l, List.mem_cons, List.not_mem_nil, or_false] at hx
  obtain ⟨h1, h2, h3, h4, h5, h6, h7, h8⟩ := h
  rcases hx with rfl | rfl | rfl | rfl | rfl | rfl | rfl | rfl <;> assumption
/-- The block's state is added to the old one, so many words of it. -/
def addL (s r : S8) (i : Nat) : List Int := ((s.add r).l).take i ++ (s.l).drop i
theorem addL_len (s r : S8) (i : Nat) (h : i ≤ 8) : (addL s r i).length = 8 := by
  have h1 : (s.add r).l.length = 8 := rfl
  have h2 : s.l.length = 8 := rfl
  simp [addL, h1, h2]; omega
theorem addL_get (s r : S8) (i : Nat) (h : i < 8) : (addL s r i).getD i 0 = s.l.getD i 0 := by
  match i, h with
  | 0, _ => rfl
  | 1, _ => rfl
  | 2, _ => rfl
  | 3, _ => rfl
  | 4, _ => rfl
  | 5, _ => rfl
  | 6, _ => rfl
  | 7, _ => rfl
theorem addL_set (s r : S8) (i : Nat) (h : i < 8) : (addL s r i).set i ((s.l.getD i 0 + r.l.getD i 0) % 4294967296) = addL s r (i + 1) := by
  match i, h with
  | 0, _ => rfl
  | 1, _ => rfl
  | 2, _ => rfl
  | 3, _ => rfl
  | 4, _ => rfl
  | 5, _ => rfl
  | 6, _ => rfl
  | 7, _ => rfl
def mixS (s : S8) (b : List UInt8) : S8 := s.add (rounds s (wl b 64) 64)
def AddRel (s r : S8) (w : World) (g7 : Nat) (i : Value) (wr : World) : Prop :=
  ∃ t : Nat, t ≤ 8 ∧ i = .int .i64 t ∧ Blk wr g7 157 (u32s r.l) ∧ Blk wr w.heap.size 157 (u32s (addL s r t)) ∧ Blk wr (w.heap.size + 1) 157 (u32s (List.replicate 8 0)) ∧ Below w.heap.size w wr
def MixRel (s : S8) (ws : List Int) (w : World) (g5 g6 g7 : Nat) (i : Value) (wr : World) : Prop :=
  ∃ t : Nat, t ≤ 64 ∧ i = .int .i64 t ∧ Blk wr g5 162 (u32s ws) ∧ Blk wr g6 162 (u32s kI) ∧ Blk wr g7 157 (u32s (rounds s ws t).l) ∧ Blk wr w.heap.size 157 (u32s s.l) ∧ Blk wr (w.heap.size + 1) 157 (u32s (List.replicate 8 0)) ∧ Below w.heap.size w wr
set_option maxRecDepth 100000 in
set_option maxHeartbeats 1600000 in
theorem mix_c (s : S8) (hs : s.ok) (v : Value) (l : List UInt8) (w : World) (h : Rd w v l) (hl : l.length = 64) :
    Calls Tryd.prog 114 #[.agg (u32s s.l).toArray, v] w (GivesW w (mixS s l).l) := by
  have n8 : (u32s s.l).length = 8 := rfl
  have one8 : ∀ u ∈ u32s s.l, u.oneCell' = true := u32s_one _
  have hws := wl_len l 64
  have huw := wl_u l 64
  have HW := fun w' hb => words_c v l w' (h.below (w' := w') hb) hl
  unfold mixS
  generalize wl l 64 = ws at *
  have nW : (u32s ws).length = 64 := by rw [u32s_length, hws]
  have nK : (u32s kI).length = 64 := rfl
  have oneW := u32s_one ws
  have oneK := u32s_one kI
  have HR := round_c
  unfold GivesW at HW HR
  generalize hsl : u32s s.l = S at *
  generalize hWl : u32s ws = W at *
  generalize hKl : u32s kI = K at *
  go_enter Tryd.func114, Tryd.ntmps114
  go_wp2_with (first | ((with_reducible refine G_alloc ?_; refine L_alloc z8 ?_); intro wa hka hba hsa) | ((with_reducible refine G_box ?_; refine L_box (by with_unfolding_all (conv => lhs; whnf)) ?_); intro wb hkb hbb hsb))
  have hk2 := hkb.below hba
  have hb2 := below_below hbb hba
  rw [hsb] at hka
  clear hkb hba hbb
  refine region_making 10 (fun | 7 => [4] | 8 => [5] | 9 => [6] | _ => []) (fun | 1 => some fun _ => isV (.agg W.toArray) | 2 => some fun _ => isV (.agg K.toArray) | 4 => some fun _ => newBlk 162 (u32s (List.replicate 64 0)) | 5 => some fun _ => newBlk 162 (u32s (List.replicate 64 0)) | 6 => some fun _ => newBlk 157 (u32s (List.replicate 8 0)) | 7 => some fun e => stBlk 162 W (e 5) | 8 => some fun e => stBlk 162 K (e 6) | 9 => some fun e => stBlk 157 S (e 7) | _ => none) (by kernel_rfl) (by kernel_rfl) ?_ ?_
  · intro i S' h e v'
    match i, h with
    | 1, h => cases h; exact isV_loc _ _ _
    | 2, h => cases h; exact isV_loc _ _ _
    | 4, h => cases h; exact newBlk_loc _ _ _ _
    | 5, h => cases h; exact newBlk_loc _ _ _ _
    | 6, h => cases h; exact newBlk_loc _ _ _ _
    | 7, h => cases h; exact stBlk_loc _ _ _ _ _
    | 8, h => cases h; exact stBlk_loc _ _ _ _ _
    | 9, h => cases h; exact stBlk_loc _ _ _ _ _
  simp only [List.take_succ_cons, List.take_zero, List.drop_succ_cons, List.drop_zero]
  (apply wpG_pure; (focus rfl); (focus (intro wg Bg hbg hBg hFg; go_simp; (try go_bits); (first | done | exact ⟨rfl, Below.refl _ _⟩ | rfl))); simp only [Act.put, List.setIfInBounds_toArray, List.set_cons_succ, List.set_cons_zero])
  (apply wpG_make; (focus rfl); (focus (intro wg Bg hbg hBg hFg; go_simp; go_at_call 140; exact Calls.mono (HW _ (below_below hb2.drew hbg)) (fun e w' h => ⟨_, h.1, Chg.of_below h.2, rfl⟩))); intro v1; simp only [Act.put, List.setIfInBounds_toArray, List.set_cons_succ, List.set_cons_zero])
  (apply wpG_make; (focus rfl); (focus (intro wg Bg hbg hBg hFg; go_simp; go_at_call 141; exact Calls.mono (HR _) (fun e w' h => ⟨_, h.1, Chg.of_below h.2, rfl⟩))); intro v2; simp only [Act.put, List.setIfInBounds_toArray, List.set_cons_succ, List.set_cons_zero])
  (apply wpG_pure; (focus rfl); (focus (intro wg Bg hbg hBg hFg; exact pureTo_load_agg ag8 (by with_unfolding_all (conv => lhs; whnf)) (hk2.drew.below hbg) n8)); simp only [Act.put, List.setIfInBounds_toArray, List.set_cons_succ, List.set_cons_zero])
  (apply wpG_make; (focus rfl); (focus (intro wg Bg hbg hBg hFg; exact goesTo_alloc z64)); intro v5; simp only [Act.put, List.setIfInBounds_toArray, List.set_cons_succ, List.set_cons_zero])
  (apply wpG_make; (focus rfl); (focus (intro wg Bg hbg hBg hFg; exact goesTo_alloc z64)); intro v6; simp only [Act.put, List.setIfInBounds_toArray, List.set_cons_succ, List.set_cons_zero])
  (apply wpG_make; (focus rfl); (focus (intro wg Bg hbg hBg hFg; exact goesTo_alloc z8)); intro v7; simp only [Act.put, List.setIfInBounds_toArray, List.set_cons_succ, List.set_cons_zero])
  (apply wpG_make; (focus rfl); (focus (intro wg Bg hbg hBg hFg; ((obtain ⟨g, rfl, hM, hgb⟩ : newBlk 162 (u32s (List.replicate 64 0)) v5 (Bg 4) wg := hFg 4 (by decide +kernel); have hM := (⟨4, by simp, hM⟩ : ∃ j ∈ [4], Bg j g)); (have e1 : v1 = .agg W.toArray := hFg 1 (by decide +kernel); subst e1)); exact goesTo_store_agg (cs' := (W).toArray) ag64 (by with_unfolding_all (conv => lhs; whnf)) rfl (by assumption) rfl (by simpa using nW) (fun u hu => oneW u (by simpa using hu)) (by assumption) (by kernel_rfl))); intro _; simp only [Act.put])
  (apply wpG_make; (focus rfl); (focus (intro wg Bg hbg hBg hFg; ((obtain ⟨g, rfl, hM, hgb⟩ : newBlk 162 (u32s (List.replicate 64 0)) v6 (Bg 5) wg := hFg 5 (by decide +kernel); have hM := (⟨5, by simp, hM⟩ : ∃ j ∈ [5], Bg j g)); (have e1 : v2 = .agg K.toArray := hFg 2 (by decide +kernel); subst e1)); exact goesTo_store_agg (cs' := (K).toArray) ag64 (by with_unfolding_all (conv => lhs; whnf)) rfl (by assumption) rfl (by simpa using nK) (fun u hu => oneK u (by simpa using hu)) (by assumption) (by kernel_rfl))); intro _; simp only [Act.put])
  (apply wpG_make; (focus rfl); (focus (intro wg Bg hbg hBg hFg; (obtain ⟨g, rfl, hM, hgb⟩ : newBlk 157 (u32s (List.replicate 8 0)) v7 (Bg 6) wg := hFg 6 (by decide +kernel); have hM := (⟨6, by simp, hM⟩ : ∃ j ∈ [6], Bg j g)); exact goesTo_store_agg (cs' := (S).toArray) ag8 (by with_unfolding_all (conv => lhs; whnf)) rfl (by assumption) rfl (by simpa using n8) (fun u hu => one8 u (by simpa using hu)) (by assumption) (by kernel_rfl))); intro _; simp only [Act.put])
  refine wpG_end (fun wg Bg hbg hBg hFg => ?_)
  obtain ⟨g5, e5, hB5, hk5⟩ : stBlk 162 W v5 undef (Bg 7) wg := hFg 7
  obtain ⟨g6, e6, hB6, hk6⟩ : stBlk 162 K v6 undef (Bg 8) wg := hFg 8
  obtain ⟨g7, e7, hB7, hk7⟩ : stBlk 157 S v7 undef (Bg 9) wg := hFg 9
  subst e5 e6 e7
  have hbw := below_below hb2.drew hbg
  have hk2w := hk2.drew.below hbg
  have hk4w := hka.drew.below hbg
  have lo5 : wa.heap.size ≤ g5 := hBg.lo _ _ hB5
  have lo6 : wa.heap.size ≤ g6 := hBg.lo _ _ hB6
  have lo7 : wa.heap.size ≤ g7 := hBg.lo _ _ hB7
  have d57 : g5 ≠ g7 := fun e => by subst e; have := hBg.apart _ _ _ hB5 hB7; omega
  have d67 : g6 ≠ g7 := fun e => by subst e; have := hBg.apart _ _ _ hB6 hB7; omega
  rw [hsa, hsb] at lo5 lo6 lo7
  clear hFg hBg hB5 hB6 hB7 hbg hk2 hka hb2 HW HR hsa hsb
  subst hsl hWl hKl
  clear h
  go_wp2
  go_loopw [18] (fun i wr => MixRel s ws w g5 g6 g7 i wr) (fun i _ => 64 - (intOf i).toNat)
  case atStart => exact ⟨0, by omega, rfl, hk5, hk6, hk7, hk2w, hk4w, hbw⟩
  case round =>
    clear hk5 hk6 hk7 hk2w hk4w hbw
    obtain ⟨t, ht, rfl, hk5, hk6, hk7, hk2, hk4, hbr⟩ := hrel
    by_cases hlt : t < 64
    · have hrs := rounds_ok hs ws t
      have hset : (rounds s ws t).step (kI.getD t 0) (ws.getD t 0) = rounds s ws (t + 1) := rfl
      generalize rounds s ws t = r at *
      have ue : U32 r.e := hrs.2.2.2.2.1
      have ua : U32 r.a := hrs.1
      obtain ⟨⟨p1, q1⟩, ⟨p2, q2⟩, ⟨p3, q3⟩, ⟨p4, q4⟩, ⟨p5, q5⟩, ⟨p6, q6⟩, ⟨p7, q7⟩, ⟨p8, q8⟩⟩ := hrs
      have c0 : wr.cell? ⟨g7, 0, none⟩ = some (.int .u32 r.a) := hk7.cell 0
      have c1 : wr.cell? ⟨g7, 1, none⟩ = some (.int .u32 r.b) := hk7.cell 1
      have c2 : wr.cell? ⟨g7, 2, none⟩ = some (.int .u32 r.c) := hk7.cell 2
      have c3 : wr.cell? ⟨g7, 3, none⟩ = some (.int .u32 r.d) := hk7.cell 3
      have c4 : wr.cell? ⟨g7, 4, none⟩ = some (.int .u32 r.e) := hk7.cell 4
      have c5 : wr.cell? ⟨g7, 5, none⟩ = some (.int .u32 r.f) := hk7.cell 5
      have c6 : wr.cell? ⟨g7, 6, none⟩ = some (.int .u32 r.g) := hk7.cell 6
      have c7 : wr.cell? ⟨g7, 7, none⟩ = some (.int .u32 r.h) := hk7.cell 7
      have ck : wr.cell? ⟨g6, t, none⟩ = some (.int .u32 (kI.getD t 0)) := by rw [hk6.cell, u32s_get _ _ (by exact hlt)]
      have cw : wr.cell? ⟨g5, t, none⟩ = some (.int .u32 (ws.getD t 0)) := by rw [hk5.cell, u32s_get _ _ (by omega)]
      have ⟨pk, qk⟩ := getD_u kI_u t
      have ⟨pw, qw⟩ := getD_u huw t
      generalize kI.getD t 0 = kt at *
      generalize ws.getD t 0 = wt at *
      go_wp2
      (refine region_still (by kernel_rfl) (by kernel_rfl) ?_; repeat (refine wpStill_step (fun K hK => ?_); go_simp; (try go_bits); refine hK _ ?_; clear hK K); try refine wpStill_nil ?_)
      go_wp2
      (refine region_still (by kernel_rfl) (by kernel_rfl) ?_; repeat (first | (refine wpStill_step (fun K hK => ?_); go_simp; refine ⟨_, (by go_at_call 142; exact (Calls.mono (right_any _ _ _ (by assumption) (by omega) (by omega)) (fun e w' h => ⟨h.1, h.2.symm⟩))), hK _ ?_⟩; clear hK K) | (refine wpStill_step (fun K hK => ?_); go_simp; (try go_bits); refine hK _ ?_; clear hK K)); try refine wpStill_nil ?_)
      go_wp2
      (refine region_still (by kernel_rfl) (by kernel_rfl) ?_; repeat (first | (refine wpStill_step (fun K hK => ?_); go_simp; refine ⟨_, (by go_at_call 142; exact (Calls.mono (right_any _ _ _ (by assumption) (by omega) (by omega)) (fun e w' h => ⟨h.1, h.2.symm⟩))), hK _ ?_⟩; clear hK K) | (refine wpStill_step (fun K hK => ?_); go_simp; (try go_bits); refine hK _ ?_; clear hK K)); try refine wpStill_nil ?_)
      rw [← sg1_eq, ← sg2_eq]
      have ⟨pS1, qS1⟩ := sg1_u r.e r.f r.g r.h kt wt
      have ⟨pS2, qS2⟩ := sg2_u r.a r.b r.c
      have hst : r.step kt wt = r.turn (sg1 r.e r.f r.g r.h kt wt) (sg2 r.a r.b r.c) := rfl
      generalize sg1 r.e r.f r.g r.h kt wt = T1 at *
      generalize sg2 r.a r.b r.c = T2 at *
      go_wp2_with (first | (with_reducible refine G_build ?_; refine L_build (u32s (r.turn T1 T2).l).toArray (by kernel_rfl) ?_) | ((with_reducible refine G_store ?_; refine L_store_agg ag8 (by with_unfolding_all (conv => lhs; whnf)) (by with_unfolding_all (conv => lhs; whnf)) (hk7.drew.drew.drew) rfl rfl (fun u hu => u32s_one _ u (by simpa using hu)) ?_); intro wn hkn hgn hsn))
      rw [← hst, hset] at hkn
      refine ⟨⟨t + 1, by omega, by go_num, hk5.drew.drew.drew.grown hgn (by simpa using d57), hk6.drew.drew.drew.grown hgn (by simpa using d67), by simpa using hkn, hk2.drew.drew.drew.grown hgn (by simp; omega), hk4.drew.drew.drew.grown hgn (by simp; omega), ?_⟩, by simp [intOf]; omega⟩
      exact hbr.drew.drew.drew.grown hgn hbr.drew.drew.drew.size (by intro k hk; cases hk; omega)
    · have hte := Go.Lib.hid (show t = 64 by omega)
      rw [hte.out] at hk7
      have hro := rounds_ok hs ws 64
      generalize rounds s ws 64 = r at *
      clear hk5 hk6
      go_wp2
      go_loopw [98] (fun i wr => AddRel s r w g7 i wr) (fun i _ => 8 - (intOf i).toNat)
      case atStart => exact ⟨0, by omega, rfl, hk7, hk2, hk4, hbr⟩
      case round =>
        clear hk7 hk2 hk4 hbr
        obtain ⟨i, hi, rfl, hk7, hk2, hk4, hbr⟩ := hrel
        by_cases hli : i < 8
        · have hlen := addL_len s r i hi
          have ⟨pa, qa⟩ := getD_u (S8.u hs) i
          have ⟨pb, qb⟩ := getD_u (S8.u hro) i
          have hset := Go.Lib.hid (addL_set s r i hli)
          have ca : wr.cell? ⟨w.heap.size, i, none⟩ = some (.int .u32 (s.l.getD i 0)) := by rw [hk2.cell, u32s_get _ _ (by omega), addL_get _ _ _ hli]
          have cb : wr.cell? ⟨g7, i, none⟩ = some (.int .u32 (r.l.getD i 0)) := by rw [hk7.cell, u32s_get _ _ (by exact hli)]
          have hfz := hk2.frozen i
          generalize s.l.getD i 0 = x at *
          generalize r.l.getD i 0 = y at *
          have i1 : (0 : Int) ≤ i := by omega
          have i2 : (i : Int) < 8 := by omega
          go_wp2
          (refine region_tail 8 (by kernel_rfl) (by kernel_rfl) ?_; simp only [List.take_succ_cons, List.take_zero, List.drop_succ_cons, List.drop_zero]; repeat (refine wpStill_step (fun K hK => ?_); go_simp; (try go_bits); refine hK _ ?_; clear hK K); try refine wpStill_nil ?_)
          go_wp2
          refine ⟨⟨i + 1, by omega, by go_num, hk7.drew.other (by show g7 ≠ w.heap.size; omega) _, ?_, hk4.drew.other (by show w.heap.size + 1 ≠ w.heap.size; omega) _, hbr.drew.setCell (by show w.heap.size ≤ w.heap.size; omega) _⟩, by simp [intOf]; omega⟩
          have := hk2.drew.stored i (.int .u32 ((x + y) % 4294967296))
          rw [u32s_set, hset.out] at this
          exact this
        · have hie : i = 8 := by omega
          have hae : addL s r i = (s.add r).l := by rw [hie]; rfl
          clear hie
          rw [hae] at hk2
          have n8' : (u32s (s.add r).l).length = 8 := rfl
          have o8' := u32s_one (s.add r).l
          generalize (s.add r).l = ws' at *
          go_wp2_with (first | (with_reducible refine G_load ?_; refine L_load_agg ag8 (by with_unfolding_all (conv => lhs; whnf)) (by assumption) n8' ?_) | ((with_reducible refine G_store ?_; refine L_store_agg ag8 (by with_unfolding_all (conv => lhs; whnf)) (by with_unfolding_all (conv => lhs; whnf)) hk4 rfl (by simpa using n8') (fun u hu => o8' u (by simpa using hu)) ?_); intro wz hkz hgz hsz))
          exact ret_agg (cs := u32s ws') rfl ag8 rfl rfl (by simpa using hkz) n8' ⟨rfl, hbr.grown hgz hbr.size (by intro k hk; cases hk; omega)⟩
end Go.Proofs.YtfnlcnjflloecaaDoor
