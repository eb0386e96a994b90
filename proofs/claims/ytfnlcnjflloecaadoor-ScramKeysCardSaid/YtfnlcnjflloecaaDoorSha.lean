/- digest.Sha: what it answers. -/
import Derived.Test.YtfnlcnjflloecaaDoorDig3
import Derived.Test.YtfnlcnjflloecaaDoorMore
/-! ### ShaPure -/
set_option linter.unusedVariables false
set_option linter.unusedSimpArgs false
namespace Go.Proofs.YtfnlcnjflloecaaDoor
open Go.RowKit
/-- How many zeros follow the mark. -/
def zc (n : Nat) : Nat := (119 - n % 64) % 64
/-- The length's j-th byte, of eight. -/
def lenB (n j : Nat) : UInt8 := UInt8.ofNat (8 * n / 2 ^ (56 - 8 * j) % 256)
def lenBs (n j : Nat) : List UInt8 := (List.range j).map (lenB n)
def padI (b : List UInt8) : List UInt8 := b ++ [128] ++ List.replicate (zc b.length) 0 ++ lenBs b.length 8
theorem padI_len (b : List UInt8) : (padI b).length = b.length + 9 + zc b.length := by simp [padI, lenBs]; omega
theorem padI_mod (b : List UInt8) : (padI b).length % 64 = 0 := by rw [padI_len]; unfold zc; omega
theorem padI_le (b : List UInt8) : (padI b).length ≤ b.length + 72 := by rw [padI_len]; unfold zc; omega
theorem lenBs_succ (n j : Nat) : lenBs n (j + 1) = lenBs n j ++ [lenB n j] := by simp [lenBs, List.range_succ]
theorem lenB_val (n j : Nat) (h : 8 * n < 18446744073709551616) : (lenB n j).toNat = 8 * n / 2 ^ (56 - 8 * j) % 256 := by
  unfold lenB; simp
def S0 : S8 := ⟨1779033703, 3144134277, 1013904242, 2773480762, 1359893119, 2600822924, 528734635, 1541459225⟩
theorem S0_ok : S0.ok := by unfold S8.ok S0 U32; simp
theorem S0_l : S0.l = hI := rfl
/-- The state after so many blocks. -/
def stI (p : List UInt8) : Nat → S8
  | 0 => S0
  | i + 1 => mixS (stI p i) ((p.drop (64 * i)).take 64)
theorem mixS_ok (s : S8) (b : List UInt8) : (mixS s b).ok := S8.add_ok _ _
theorem stI_ok (p : List UInt8) (i : Nat) : (stI p i).ok := by
  cases i with
  | zero => exact S0_ok
  | succ i => exact mixS_ok _ _
/-- The state's j-th byte. -/
def outB (s : S8) (j : Nat) : UInt8 := UInt8.ofNat ((s.l.getD (j / 4) 0).toNat / 2 ^ (24 - j % 4 * 8) % 256)
def outS (s : S8) (j : Nat) : List UInt8 := (List.range j).map (outB s)
theorem outS_len (s : S8) (j : Nat) : (outS s j).length = j := by simp [outS]
def outZ (s : S8) (j : Nat) : List UInt8 := outS s j ++ List.replicate (32 - j) 0
theorem outZ_len (s : S8) (j : Nat) (h : j ≤ 32) : (outZ s j).length = 32 := by simp [outZ, outS_len]; omega
theorem outZ_set (s : S8) (j : Nat) (h : j < 32) : (outZ s j).set j (outB s j) = outZ s (j + 1) := by
  obtain ⟨m, hm⟩ : ∃ m, 32 - j = m + 1 := ⟨32 - j - 1, by omega⟩
  unfold outZ
  rw [hm, show 32 - (j + 1) = m from by omega, List.replicate_succ, List.set_append_right _ _ (by rw [outS_len]; omega), outS_len]
  simp [outS, List.range_succ]
def shaI (b : List UInt8) : List UInt8 := outS (stI (padI b) ((padI b).length / 64)) 32
theorem shaI_len (b : List UInt8) : (shaI b).length = 32 := outS_len _ _
theorem shaI_Z (b : List UInt8) : outZ (stI (padI b) ((padI b).length / 64)) 32 = shaI b := by simp [outZ, shaI]
end Go.Proofs.YtfnlcnjflloecaaDoor
/-! ### Sha -/
set_option linter.unusedVariables false
set_option linter.unusedSimpArgs false
namespace Go.Proofs.YtfnlcnjflloecaaDoor
open Go.RowKit
theorem zc_ne (n j : Nat) (h : j < zc n) : (n + 1 + j) % 64 ≠ 56 := by unfold zc at h; omega
theorem zc_eq (n : Nat) : (n + 1 + zc n) % 64 = 56 := by unfold zc; omega
def LRel (w : World) (l : List UInt8) (v s : Value) (wr : World) : Prop :=
  ∃ j : Nat, j ≤ 8 ∧ s = .int .i64 (56 - 8 * (j : Int)) ∧ Own8 wr (w.heap.size + 1) 5 v (l ++ [128] ++ List.replicate (zc l.length) 0 ++ lenBs l.length j) ∧ Blk wr w.heap.size 40 (bvs (List.replicate 32 0)) ∧ Below w.heap.size w wr
theorem div_cast (a k : Nat) : ((a / 2 ^ k % 256 : Nat) : Int) = (a : Int) / 2 ^ k % 256 := by
  rw [Int.natCast_emod, Int.natCast_ediv, Int.natCast_pow]; rfl
theorem lenB_int (n i : Nat) (h : n ≤ 1000000) : (n : Int) * 8 / 2 ^ (56 - 8 * i) % 256 = ((lenB n i).toNat : Int) := by
  rw [lenB_val n i (by omega), div_cast, Int.natCast_mul, Int.mul_comm]
  rfl
theorem outB_int (s : S8) (j : Nat) (h : U32 (s.l.getD (j / 4) 0)) : s.l.getD (j / 4) 0 / 2 ^ (24 - j % 4 * 8) % 256 = ((outB s j).toNat : Int) := by
  unfold outB
  generalize s.l.getD (j / 4) 0 = x at *
  generalize 24 - j % 4 * 8 = k
  obtain ⟨n, rfl⟩ := Int.eq_ofNat_of_zero_le h.1
  have e : (UInt8.ofNat (n / 2 ^ k % 256)).toNat = n / 2 ^ k % 256 := by rw [UInt8.toNat_ofNat']; exact Nat.mod_mod _ _
  rw [Int.toNat_natCast, e, div_cast]
def SRel (w : World) (p : List UInt8) (g6 : Nat) (v : Value) (wr : World) : Prop :=
  ∃ i : Nat, 64 * i ≤ p.length ∧ Rd wr v (p.drop (64 * i)) ∧ (∀ k, v.ownBlock = some k → k ≠ g6) ∧ Blk wr g6 157 (u32s (stI p i).l) ∧ Blk wr w.heap.size 40 (bvs (List.replicate 32 0)) ∧ Below w.heap.size w wr
def ORel (w : World) (s : S8) (g6 g7 : Nat) (i : Value) (wr : World) : Prop :=
  ∃ j : Nat, j ≤ 32 ∧ i = .int .i64 j ∧ Blk wr g7 40 (bvs (outZ s j)) ∧ Blk wr g6 157 (u32s s.l) ∧ Blk wr w.heap.size 40 (bvs (List.replicate 32 0)) ∧ Below w.heap.size w wr
def ZRel (w : World) (l : List UInt8) (v : Value) (wr : World) : Prop :=
  ∃ j : Nat, j ≤ zc l.length ∧ Own8 wr (w.heap.size + 1) 5 v (l ++ [128] ++ List.replicate j 0) ∧ Blk wr w.heap.size 40 (bvs (List.replicate 32 0)) ∧ Below w.heap.size w wr
set_option maxRecDepth 100000 in
set_option maxHeartbeats 1600000 in
theorem sha_c (v : Value) (l : List UInt8) (w : World) (h : Rd w v l) (hl : l.length ≤ 1000000) :
    Calls Tryd.prog 75 #[v] w (GivesB w (shaI l)) := by
  have n0 : (0 : Int) ≤ l.length := by omega
  have n1 : (l.length : Int) ≤ 1000000 := by omega
  have hX : ((l.length : Int) * 8) % 18446744073709551616 = 8 * l.length := by omega
  have tok : True := trivial
  generalize hS : shaI l = R
  go_enter Tryd.func75, Tryd.ntmps75
  go_wp2_with (first | ((with_reducible refine G_alloc ?_; refine L_alloc z32 ?_); intro wa hka hba hsa; have h1 := h.below hba) | (with_reducible refine G_len ?_; refine L8_len Tryd.underlying37 (by with_unfolding_all (conv => lhs; whnf)) (by assumption) ?_) | (have _t := tok; (at_builtin; refine wpList_app8 rfl _ _ rfl st8 (by with_unfolding_all (conv => lhs; whnf)) (Own8.nil wa (w.heap.size + 1) _) rfl (Rd.src h1 Tryd.underlying37) (by first | omega | (simp; omega)) (by first | (simp; done) | omega | (simp; omega)) ?_); intro v1 w1 ho1 hg1 hb1; have hs1 := hg1.size; clear tok) | ((at_builtin; refine wpList_app8 rfl _ _ rfl st8 (by with_unfolding_all (conv => lhs; whnf)) (Own8.below ho1 ((Below.refl _ _).alloc (Nat.le_refl _) _)) rfl (Rd.src (Rd.lit _ _ _ [128] rfl rfl (by omega) (by decide)) Tryd.underlying37) (by first | omega | (simp; omega)) (by first | (simp; done) | omega | (simp; omega)) ?_); intro v2 w2 ho2 hg2 hb2))
  clear h
  simp only [List.nil_append] at ho2
  have hw1 := app_step0 hba (Own8.nil wa (w.heap.size + 1) 5) (by omega) hg1
  have hw2 := app_step hw1.1 ho1 (by omega) hg2
  have hbw := hw2.1
  have hk2 := hw2.2 _ _ _ (hw1.2 _ _ _ hka (by omega)) (by omega)
  clear hw1 hw2 hg2 hb2 ho1 hg1 hb1 hka hba h1 hs1 hsa _t
  go_loopw [4] (fun v wr => ZRel w l v wr) (fun v _ => l.length + 1 + zc l.length - slen v)
  case atStart => exact ⟨0, by omega, by simpa using ho2, hk2, hbw⟩
  case round =>
    clear ho2 hk2 hbw
    obtain ⟨j, hj, ho, hk2, hbr⟩ := hrel
    have hR := ho.rd
    have hln : (l ++ [128] ++ List.replicate j 0).length = l.length + 1 + j := by simp; omega
    have hzb : zc l.length < 64 := by unfold zc; omega
    have hbs := hbr.size
    by_cases hlt : j < zc l.length
    · have hne := zc_ne l.length j hlt
      have m1 : (((l.length + 1 + j : Nat) : Int) % 64 = 56) = False := by simp only [eq_iff_iff, iff_false]; omega
      go_wp2_with (first | ((with_reducible refine G_len ?_; refine L8_len Tryd.underlying37 (by with_unfolding_all (conv => lhs; whnf)) (by assumption) ?_); rw [hln]) | ((at_builtin; refine wpList_app8 rfl _ _ rfl st8 (by with_unfolding_all (conv => lhs; whnf)) (Own8.below ho ((Below.refl _ _).alloc (Nat.le_refl _) _)) rfl (Rd.src (Rd.lit _ _ _ [0] rfl rfl (by omega) (by decide)) Tryd.underlying37) (by first | omega | (simp; omega)) (by first | (simp; done) | omega | (simp; omega)) ?_); intro v3 w3 ho3 hg3 hb3))
      have hw := app_step hbr ho (by omega) hg3
      have e : l ++ [128] ++ List.replicate j 0 ++ [0] = l ++ [128] ++ List.replicate (j + 1) 0 := by rw [List.replicate_succ' (n := j)]; simp
      rw [e] at ho3
      refine ⟨⟨j + 1, by omega, ho3, hw.2 _ _ _ hk2 (by omega), hw.1⟩, ?_⟩
      show l.length + 1 + zc l.length - slen v3 < l.length + 1 + zc l.length - slen _
      rw [hR.slen, ho3.rd.slen]; simp; omega
    · obtain rfl : j = zc l.length := by omega
      have heq := zc_eq l.length
      generalize hM : l.length + 1 + zc l.length = M at *
      have m1 : ((M : Int) % 64 = 56) = True := by simp only [eq_iff_iff, iff_true]; omega
      have m2 : ((M : Int) % 64 != 56) = false := by simp [m1]
      go_wp2_with (first | ((with_reducible refine G_len ?_; refine L8_len Tryd.underlying37 (by with_unfolding_all (conv => lhs; whnf)) (by assumption) ?_); rw [hln]))
      go_loopw [4, 5] (fun v s wr => LRel w l v s wr) (fun _ s _ => (intOf s + 8).toNat)
      case atStart => exact ⟨0, by omega, rfl, by simpa [lenBs] using ho, hk2, hbr⟩
      case round =>
        clear ho hk2 hbr hR
        obtain ⟨i, hi, rfl, ho, hk2, hbr⟩ := hrel
        have hbs := hbr.size
        by_cases hlt : i < 8
        · have p0 : (0 : Int) ≤ 56 - 8 * (i : Int) := by omega
          have p1 : (56 : Int) - 8 * (i : Int) ≤ 56 := by omega
          have hlb : (lenBs l.length i).length = i := by simp [lenBs]
          have hB := Go.Lib.hid (lenB_int l.length i hl)
          go_wp2_with (first | ((at_builtin; refine wpList_app8 rfl _ _ rfl st8 (by with_unfolding_all (conv => lhs; whnf)) (Own8.below ho ((Below.refl _ _).alloc (Nat.le_refl _) _)) rfl (Rd.src (Rd.lit _ _ _ [lenB l.length i] (by rw [hB.out]; rfl) rfl (by omega) (by decide)) Tryd.underlying37) (by first | omega | (simp; omega)) (by first | (simp; done) | omega | (simp; omega)) ?_); intro v3 w3 ho3 hg3 hb3))
          have hw := app_step hbr ho (by omega) hg3
          rw [List.append_assoc, ← lenBs_succ] at ho3
          refine ⟨⟨i + 1, by omega, by go_num, ho3, hw.2 _ _ _ hk2 (by omega), hw.1⟩, ?_⟩
          show (intOf (.int .i64 _) + 8).toNat < (intOf (.int .i64 _) + 8).toNat
          simp only [intOf]; omega
        · obtain rfl : i = 8 := by omega
          have e : l ++ [128] ++ List.replicate (zc l.length) 0 ++ lenBs l.length 8 = padI l := rfl
          rw [e] at ho
          clear e
          unfold shaI at hS
          have hPm := padI_mod l
          have hPl := padI_le l
          have nz : ¬ (0 : Int) ≤ 56 - 8 * ((8 : Nat) : Int) := by decide
          generalize padI l = p at *
          have nhI : (u32s hI).length = 8 := rfl
          have ohI := u32s_one hI
          have hI0 : u32s hI = u32s (stI p 0).l := rfl
          have HB := begin_c
          unfold GivesW at HB
          rw [hI0] at HB nhI ohI
          clear hI0 hzb hln m1 m2 heq
          generalize hH : u32s (stI p 0).l = H at *
          go_wp2_with (first | (go_at_call 113; refine (HB _).mono ?_; rintro e wb ⟨rfl, hbb⟩; have ho1 := ho.below hbb; have hk2b := hk2.below hbb; have hbb2 := below_below hbr hbb) | ((with_reducible refine G_alloc ?_; refine L_alloc z8 ?_); intro wc hkc hbc hsc; have ho2 := ho1.below hbc; have hk2c := hk2b.below hbc; have hbc2 := below_below hbb2 hbc) | ((with_reducible refine G_store ?_; refine L_store_agg ag8 (by with_unfolding_all (conv => lhs; whnf)) (by with_unfolding_all (conv => lhs; whnf)) hkc rfl (by simpa using nhI) (fun u hu => ohI u (by simpa using hu)) ?_); intro wd hkd hgd hsd))
          have hk6 : Blk wd wb.heap.size 157 H := by simpa using hkd
          have hlg6 : w.heap.size < wb.heap.size := hk2b.lt
          have hk2d := hk2c.grown hgd (by simp; omega)
          have hRd := (ho2.grown hgd (.inr (fun e => by have := ho1.lt _ e; omega))).rd
          have hbd : Below w.heap.size w wd := hbc2.grown hgd hbc2.size (by intro k hk; cases hk; exact hbb2.size)
          have hvk := fun k e => Nat.ne_of_lt (ho1.lt k e)
          clear hkd hk2c hgd ho1 ho2 hbc2 hsd hsc hbc hbb2 hk2b hbb hk2 hbr ho HB ohI nhI
          subst hH
          generalize wb.heap.size = g6 at *
          go_loopw [4] (fun v wr => SRel w p g6 v wr) (fun v _ => slen v)
          case atStart => exact ⟨0, by omega, by simpa using hRd, hvk, hk6, hk2d, hbd⟩
          case round =>
            clear hk6 hk2d hRd hbd hvk
            obtain ⟨i, hi, hR, hvk, hk6, hk2, hbr⟩ := hrel
            have hbs := hbr.size
            have hln : (p.drop (64 * i)).length = p.length - 64 * i := by simp
            generalize hM : p.length - 64 * i = M at *
            by_cases hlt : 0 < M
            · have hM64 : 64 ≤ M := by omega
              have hsok := stI_ok p i
              have hst : stI p (i + 1) = mixS (stI p i) ((p.drop (64 * i)).take 64) := rfl
              have hlt64 : ((p.drop (64 * i)).take 64).length = 64 := by simp; omega
              have hdd : (p.drop (64 * i)).drop 64 = p.drop (64 * (i + 1)) := by rw [List.drop_drop]; rfl
              have MIX := fun v' w' (hv' : Rd w' v' ((p.drop (64 * i)).take 64)) => mix_c (stI p i) hsok v' _ w' hv' hlt64
              rw [← hst] at MIX
              unfold GivesW at MIX
              have n1 : (u32s (stI p i).l).length = 8 := rfl
              have n2 : (u32s (stI p (i + 1)).l).length = 8 := rfl
              have o2 := u32s_one (stI p (i + 1)).l
              generalize u32s (stI p i).l = A at *
              generalize hB : u32s (stI p (i + 1)).l = B at *
              go_wp2_with (first | ((with_reducible refine G_len ?_; refine L8_len Tryd.underlying37 (by with_unfolding_all (conv => lhs; whnf)) (by assumption) ?_); rw [hln]))
              refine region_making 4 (fun _ => []) (fun | 3 => some fun _ => isV (.agg B.toArray) | _ => none) (by kernel_rfl) (by kernel_rfl) ?_ ?_
              · intro i' S' h' e v'
                match i', h' with
                | 3, h' => cases h'; exact isV_loc _ _ _
              simp only [List.take_succ_cons, List.take_zero, List.drop_succ_cons, List.drop_zero]
              (apply wpG_pure; (focus rfl); (focus (intro wg Bg hbg hBg hFg; exact pureTo_load_agg ag8 (by with_unfolding_all (conv => lhs; whnf)) (hk6.drew.below hbg) n1)); simp only [Act.put, List.setIfInBounds_toArray, List.set_cons_succ, List.set_cons_zero])
              (apply wpG_pure; (focus rfl); (focus (intro wg Bg hbg hBg hFg; go_simp; (try go_bits); (first | done | exact ⟨rfl, Below.refl _ _⟩ | rfl))); simp only [Act.put, List.setIfInBounds_toArray, List.set_cons_succ, List.set_cons_zero])
              (refine wpG_slice8_h (hi := 64) rfl st8 (by with_unfolding_all (conv => lhs; whnf)) hR (by with_unfolding_all (conv => lhs; whnf)) (by omega) (by omega) ?_)
              intro v' hv' hvb
              simp only [Act.put, List.setIfInBounds_toArray, List.set_cons_succ, List.set_cons_zero]
              (apply wpG_make; (focus rfl); (focus (intro wg Bg hbg hBg hFg; go_simp; go_at_call 114; exact Calls.mono (MIX v' _ (hv'.drew.below hbg)) (fun e w' h => ⟨_, h.1, Chg.of_below h.2, rfl⟩))); intro vB; simp only [Act.put, List.setIfInBounds_toArray, List.set_cons_succ, List.set_cons_zero])
              refine wpG_end (fun wg Bg hbg hBg hFg => ?_)
              obtain rfl : vB = .agg B.toArray := hFg 3
              have hk6g := hk6.drew.below hbg
              have hk2g := hk2.drew.below hbg
              have hRg := hR.drew.below hbg
              have hbrg := below_below hbr.drew hbg
              clear hFg hBg hbg hv' hR hk6 hk2 hbr MIX
              go_wp2_with (first | ((with_reducible refine G_store ?_; refine L_store_agg ag8 (by with_unfolding_all (conv => lhs; whnf)) (by with_unfolding_all (conv => lhs; whnf)) hk6g n1 (by simpa using n2) (fun u hu => o2 u (by simpa using hu)) ?_); intro wd hkd hgd hsd; have hRd := hRg.grown hgd (fun _ e => hvk _ e rfl); clear hRg) | ((with_reducible refine G_slice ?_; refine L8_slice_l st8 (lo := 64) (by with_unfolding_all (conv => lhs; whnf)) (by assumption) (by with_unfolding_all (conv => lhs; whnf)) (by omega) (by omega) ?_); intro v3 hv3 hvb3))
              rw [hdd] at hv3
              refine ⟨⟨i + 1, by omega, hv3, fun k e => hvk k (by rw [← hvb3]; exact e), ?_, hk2g.grown hgd (by simp; omega), hbrg.grown hgd hbrg.size (by intro k hk; cases hk; omega)⟩, ?_⟩
              · rw [hB]; simpa using hkd
              · show slen v3 < slen _
                rw [hv3.slen, hRd.slen]; simp; omega
            · have hii := Go.Lib.hid (show i = p.length / 64 by omega)
              rw [hii.out] at hk6
              have hsok := stI_ok p (p.length / 64)
              generalize stI p (p.length / 64) = s at *
              go_wp2_with (first | ((with_reducible refine G_len ?_; refine L8_len Tryd.underlying37 (by with_unfolding_all (conv => lhs; whnf)) (by assumption) ?_); rw [hln]) | ((with_reducible refine G_alloc ?_; refine L_alloc z32 ?_); intro wc hkc hbc hsc))
              have hk6c := hk6.below hbc
              have hk2c := hk2.below hbc
              have hbc2 := below_below hbr hbc
              have hl2 := hk2.lt
              have hl6 := hk6.lt
              clear hbc hsc hR hvk hk6 hk2 hbr hln hbs hPm
              generalize hg7 : wr.heap.size = g7 at *
              go_loopw [45] (fun i wr => ORel w s g6 g7 i wr) (fun i _ => 32 - (intOf i).toNat)
              case atStart => exact ⟨0, by omega, rfl, hkc, hk6c, hk2c, hbc2⟩
              case round =>
                clear hkc hk6c hk2c hbc2
                obtain ⟨j, hj, rfl, hk7, hk6, hk2, hbr⟩ := hrel
                by_cases hlj : j < 32
                · have hx := getD_u (S8.u hsok) (j / 4)
                  have hB := Go.Lib.hid (outB_int s j hx)
                  have cx : wr.cell? ⟨g6, j / 4, none⟩ = some (.int .u32 (s.l.getD (j / 4) 0)) := by rw [hk6.cell, u32s_get _ _ (by show j / 4 < 8; omega)]
                  have hzl := outZ_len s j hj
                  have cz : wr.cell? ⟨g7, j, none⟩ = some (.int .u8 (bt (outZ s j) j)) := by rw [hk7.cell, bvs_get _ _ (by omega)]
                  have hfz := hk7.frozen j
                  have hset := Go.Lib.hid (outZ_set s j hlj)
                  obtain ⟨px, qx⟩ := hx
                  generalize s.l.getD (j / 4) 0 = x at *
                  have i1 : (0 : Int) ≤ (j : Int) / 4 := by omega
                  have i2 : (j : Int) / 4 < 8 := by omega
                  have i3 : ((j : Int) / 4).toNat = j / 4 := by omega
                  have s1 : (0 : Int) ≤ 24 - (j : Int) % 4 * 8 := by omega
                  have s2 : (24 : Int) - (j : Int) % 4 * 8 ≤ 24 := by omega
                  have s3 : ((24 : Int) - (j : Int) % 4 * 8).toNat = 24 - j % 4 * 8 := by omega
                  go_wp2
                  refine ⟨⟨j + 1, by omega, by go_num, ?_, hk6.other (by show g6 ≠ g7; omega) _, hk2.other (by show w.heap.size ≠ g7; omega) _, hbr.setCell (by show w.heap.size ≤ g7; omega) _⟩, by simp [intOf]; omega⟩
                  have := hk7.stored j (bv (outB s j))
                  rw [bvs_set, hset.out] at this
                  rw [hB.out]; exact this
                · have hje := Go.Lib.hid (show j = 32 by omega)
                  have hou : outZ s 32 = outS s 32 := by simp [outZ]
                  rw [hje.out, hou] at hk7
                  have nO : (bvs (outS s 32)).length = 32 := by rw [bvs_length, outS_len]
                  have oO := bvs_one (outS s 32)
                  generalize hO : bvs (outS s 32) = O at *
                  go_wp2_with (first | (with_reducible refine G_load ?_; refine L_load_agg ag32 (by with_unfolding_all (conv => lhs; whnf)) (by assumption) nO ?_) | ((with_reducible refine G_store ?_; refine L_store_agg ag32 (by with_unfolding_all (conv => lhs; whnf)) (by with_unfolding_all (conv => lhs; whnf)) hk2 rfl (by simpa using nO) (fun u hu => oO u (by simpa using hu)) ?_); intro wz hkz hgz hsz))
                  exact ret_agg (cs := O) rfl ag32 rfl rfl (by simpa using hkz) nO ⟨by rw [← hS, hO], hbr.grown hgz hbr.size (by intro k hk; cases hk; omega)⟩
end Go.Proofs.YtfnlcnjflloecaaDoor
