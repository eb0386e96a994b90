/- digest's and the reference's small functions: what they answer. -/
import Derived.Test.YtpjpmgpehpigaaaArr
import Derived.Test.YtpjpmgpehpigaaaDigPure
set_option linter.unusedVariables false
set_option linter.unusedSimpArgs false
namespace Go.Proofs.Ytpjpmgpehpigaaa
open Go.RowKit
theorem ag32 : AggTy Try.prog 33 32 := ⟨⟨_, Try.underlying33, rfl⟩, by kernel_rfl⟩
theorem ag8 : AggTy Try.prog 63 8 := ⟨⟨_, Try.underlying63, rfl⟩, by kernel_rfl⟩
theorem ag64 : AggTy Try.prog 66 64 := ⟨⟨_, Try.underlying66, rfl⟩, by kernel_rfl⟩
theorem z32 : (Try.prog.info? 33).map (·.zero) = some (some (.agg (bvs (List.replicate 32 0)).toArray)) := by kernel_rfl
theorem z8 : (Try.prog.info? 63).map (·.zero) = some (some (.agg (u32s (List.replicate 8 0)).toArray)) := by kernel_rfl
theorem z64 : (Try.prog.info? 66).map (·.zero) = some (some (.agg (u32s (List.replicate 64 0)).toArray)) := by kernel_rfl
/-- What a call answers: words in an array. -/
def GivesW (w : World) (l : List Int) (e : Ending) (w' : World) : Prop := e = .returned (.agg (u32s l).toArray) ∧ Below w.heap.size w w'
def GivesB (w : World) (l : List UInt8) (e : Ending) (w' : World) : Prop := e = .returned (.agg (bvs l).toArray) ∧ Below w.heap.size w w'
set_option maxHeartbeats 400000 in
theorem right_c (x : Int) (n : Nat) (w : World) (h : U32 x) (hn : 1 ≤ n) (hn2 : n ≤ 31) :
    Calls Try.prog 51 #[.int .u32 x, .int .i64 n] w fun e w' => e = .returned (.int .u32 (rotI x n)) ∧ w = w' := by
  obtain ⟨h0, h1⟩ := h
  have ha := and31 n hn hn2
  have hs : (0 : Int) ≤ 32 - (n : Int) := by omega
  have hs2 : (32 : Int) - (n : Int) ≤ 31 := by omega
  have ht : ((32 : Int) - (n : Int)).toNat = 32 - n := by omega
  have ht2 : 32 - (32 - n) = n := by omega
  have hc := Go.Lib.hid (bits_or_comm .u32 (x / 2 ^ n) (x * 2 ^ (32 - n) % 4294967296))
  go_enter Try.func51, Try.ntmps51
  go_wp2
  go_ret
  exact ⟨by unfold rotI; rw [hc.out, ← ht2]; simp [ht2], rfl⟩
theorem right_any (x n : Int) (w : World) (h : U32 x) (hn : 1 ≤ n) (hn2 : n ≤ 31) :
    Calls Try.prog 51 #[.int .u32 x, .int .i64 n] w fun e w' => e = .returned (.int .u32 (rotI x n.toNat)) ∧ w = w' := by
  obtain ⟨m, rfl⟩ := Int.eq_ofNat_of_zero_le (show 0 ≤ n by omega)
  exact right_c x m w h (by omega) (by omega)
set_option maxHeartbeats 400000 in
theorem ror_c (x : Int) (n : Nat) (w : World) (h : U32 x) (hn : 1 ≤ n) (hn2 : n ≤ 31) :
    Calls Try.prog 44 #[.int .u32 x, .int .i64 n] w fun e w' => e = .returned (.int .u32 (rotI x n)) ∧ Below w.heap.size w w' := by
  obtain ⟨h0, h1⟩ := h
  go_enter Try.func44, Try.ntmps44
  go_wp2
  refine region_making 9 (fun _ => []) (fun _ => none) (by kernel_rfl) (by kernel_rfl) ?_ ?_
  · intro i S h; cases h
  simp only [List.take_succ_cons, List.take_zero, List.drop_succ_cons, List.drop_zero]
  repeat (apply wpG_pure; (focus rfl); (focus (intro wg Bg hbg hBg hFg; go_simp; (try go_bits); (first | done | exact ⟨rfl, Below.refl _ _⟩ | rfl))); simp only [Act.put, List.setIfInBounds_toArray, List.set_cons_succ, List.set_cons_zero])
  refine wpG_end (fun wg Bg hbg hBg hFg => ?_)
  go_wp2
  go_ret
  exact ⟨rfl, (Below.refl _ _).drew.trans hbg⟩
theorem ror_any (x n : Int) (w : World) (h : U32 x) (hn : 1 ≤ n) (hn2 : n ≤ 31) :
    Calls Try.prog 44 #[.int .u32 x, .int .i64 n] w fun e w' => e = .returned (.int .u32 (rotI x n.toNat)) ∧ Below w.heap.size w w' := by
  obtain ⟨m, rfl⟩ := Int.eq_ofNat_of_zero_le (show 0 ≤ n by omega)
  exact ror_c x m w h (by omega) (by omega)
theorem begin_c (w : World) : Calls Try.prog 40 #[] w (GivesW w hI) := by
  go_enter Try.func40, Try.ntmps40
  go_wp2
  refine ret_agg (cs := u32s hI) rfl ag8 rfl rfl (Blk.new w 63 (u32s hI)) rfl ⟨rfl, (Below.refl _ _).alloc (Nat.le_refl _) _⟩
set_option maxRecDepth 100000 in
theorem round_c (w : World) : Calls Try.prog 50 #[] w (GivesW w kI) := by
  go_enter Try.func50, Try.ntmps50
  go_wp2_with (first | ((with_reducible refine G_alloc ?_; refine L_alloc z64 ?_); intro wa hka hba hsa) | (with_reducible refine G_build ?_; refine L_build (u32s kI).toArray (by kernel_rfl) ?_) | ((with_reducible refine G_store ?_; refine L_store_agg ag64 (by with_unfolding_all (conv => lhs; whnf)) (by with_unfolding_all (conv => lhs; whnf)) (by assumption) rfl rfl (fun u hu => u32s_one kI u (by simpa using hu)) ?_); intro wb hkb hgb hsb))
  exact ret_agg (cs := u32s kI) rfl ag64 rfl rfl (by simpa using hkb) rfl ⟨rfl, hba.grown hgb hba.size (by intro k hk; cases hk; exact Nat.le_refl _)⟩
set_option maxRecDepth 100000 in
theorem shaK_c (w : World) : Calls Try.prog 42 #[] w (GivesW w kI) := by
  go_enter Try.func42, Try.ntmps42
  go_wp2_with (first | ((with_reducible refine G_alloc ?_; refine L_alloc z64 ?_); intro wa hka hba hsa) | (with_reducible refine G_build ?_; refine L_build (u32s kI).toArray (by kernel_rfl) ?_) | ((with_reducible refine G_store ?_; refine L_store_agg ag64 (by with_unfolding_all (conv => lhs; whnf)) (by with_unfolding_all (conv => lhs; whnf)) (by assumption) rfl rfl (fun u hu => u32s_one kI u (by simpa using hu)) ?_); intro wb hkb hgb hsb))
  exact ret_agg (cs := u32s kI) rfl ag64 rfl rfl (by simpa using hkb) rfl ⟨rfl, hba.grown hgb hba.size (by intro k hk; cases hk; exact Nat.le_refl _)⟩
end Go.Proofs.Ytpjpmgpehpigaaa
