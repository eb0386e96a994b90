/- DigestHi. -/
import Derived.Test.YtpjpmgpehpigaaaDigHmac
import Derived.Test.YtpjpmgpehpigaaaHi
set_option linter.unusedVariables false
set_option linter.unusedSimpArgs false
namespace Go.Proofs.Ytpjpmgpehpigaaa
open Go.RowKit
theorem hiR_len (p s : List UInt8) (n : Int) : (hiR p s n).1.length = 32 := by
  unfold hiR
  split
  · rfl
  · exact hiS_len _ _ _
def IsI (w : World) (v : Value) (wx : World) : Prop := ∃ M : Int, v = .int .i64 M ∧ wx = w
set_option maxRecDepth 100000 in
set_option maxHeartbeats 1600000 in
theorem digestHi_w (w : World) (v : Value) (l : List UInt8) (h : Rd w v l) (v' : Value) (l' : List UInt8) (h' : Rd w v' l') (n : Int) (hn : -9223372036854775808 ≤ n ∧ n ≤ 9223372036854775807) :
    Calls Try.prog 11 #[v, v', .int .i64 n] w (Ok w) := by
  have F1 := few5_c v l w h
  have T1 := fun w1 (hb : Below w.heap.size w w1) => twin_c v' l' 100 w1 (h'.below hb) (by omega) (by omega)
  have hk : (l.take 1000).length ≤ 1000 := by simp; omega
  have hm : (l'.take 100).length ≤ 100 := by simp; omega
  rw [show (100 : Int).toNat = 100 from rfl] at T1
  have tk : (l.take 1000).take 1000 = l.take 1000 := by rw [List.take_take]; simp
  have tm : (l'.take 100).take 1000 = l'.take 100 := by rw [List.take_take]; simp
  generalize l.take 1000 = p at *
  generalize l'.take 100 = s at *
  have F2 := fun v1 w1 (hv : Rd w1 v1 p) => few5_c v1 p w1 hv
  have F3 := fun v1 w1 (hv : Rd w1 v1 s) => few5_c v1 s w1 hv
  rw [tk] at F2
  rw [tm] at F3
  clear tk tm h h'
  obtain ⟨n0, n1⟩ := hn
  go_enter Try.func11, Try.ntmps11
  generalize hB : decide (60 < n ∧ n ≤ 4096) = B
  go_upto_region 2 with fail
  go_cut [20] (fun v wx => v = .bool B ∧ wx = w)
  case first =>
    by_cases h60 : 60 < n
    · have hd : decide (n ≤ 4096) = B := by rw [← hB]; simp [h60]
      go_wp2_with fail
      all_goals go_meet
      exact ⟨rfl, rfl⟩
    · obtain rfl : B = false := by rw [← hB]; simp [h60]
      go_wp2_with fail
      all_goals go_meet
      exact ⟨rfl, rfl⟩
  case rest =>
  obtain ⟨rfl, rfl⟩ := hcut
  go_upto_if 20 with fail
  go_cut [7] (fun v wx => IsI wc v wx)
  case first =>
    cases B
    · go_wp2_with fail
      all_goals go_meet
      exact ⟨_, rfl, rfl⟩
    · have h60 : 60 < n ∧ n ≤ 4096 := of_decide_eq_true hB
      obtain ⟨h6, h4⟩ := h60
      go_wp2_with fail
      all_goals go_meet
      exact ⟨_, rfl, rfl⟩
  case rest =>
  obtain ⟨M, rfl, rfl⟩ := hcut
  clear hB n0 n1
  have HI := fun v1 v2 w1 h1 h2 => hi_c v1 v2 p s M w1 h1 h2 (by omega) (by omega)
  have HR := fun v1 v2 w1 h1 h2 => refhi_c v1 v2 p s M w1 h1 h2 (by omega) (by omega)
  have hrl := hiR_len p s M
  unfold GivesHi at HI HR
  generalize (hiR p s M).2 = E at *
  generalize (hiR p s M).1 = r at *
  have nR : (bvs r).length = 32 := by rw [bvs_length]; exact hrl
  have oR := bvs_one r
  have hE : ∀ w', (Op.equalIn 10000 33 (.agg (bvs r).toArray) (.agg (bvs r).toArray)).run Try.prog w' = .ok true w' := fun w' => by rw [eq32_run w' r r hrl hrl]; simp
  generalize hS : bvs r = S at *
  have c1 : True := trivial
  go_wp2_with (first
    | (have _t := c1; go_at_call 22; refine F1.mono ?_; rintro e w1 ⟨v1, rfl, ho1, hb1⟩; clear c1; have c2 : True := trivial)
    | (have _t := c2; go_at_call 28; refine (T1 _ hb1).mono ?_; rintro e w2 ⟨v2, rfl, ho2, hb2⟩; have hw2 := below_below hb1 hb2; have hr1 := ho1.rd.below hb2; have hr2 := ho2.rd; clear c2; have c3 : True := trivial)
    | (have _t := c3; go_at_call 22; refine (F2 _ _ hr1).mono ?_; rintro e w3 ⟨v3, rfl, ho3, hb3⟩; have hw3 := below_below hw2 hb3; clear c3; have c4 : True := trivial)
    | (have _t := c4; go_at_call 22; refine (F3 _ _ (hr2.below hb3)).mono ?_; rintro e w4 ⟨v4, rfl, ho4, hb4⟩; have hw4 := below_below hw3 hb4; clear c4; have c5 : True := trivial)
    | (have _t := c5; go_at_call 29; refine (HI _ _ _ (ho3.rd.below hb4) ho4.rd).mono ?_; rintro e w5 ⟨rfl, hb5⟩; have hw5 := below_below hw4 hb5; have hr15 := ((hr1.below hb3).below hb4).below hb5; have hr25 := ((hr2.below hb3).below hb4).below hb5; clear c5; have c6 : True := trivial)
    | (have _t := c6; (with_reducible refine G_alloc ?_; refine L_alloc z32 ?_); intro w6 hk6 hb6 hs6; clear hs6; have hw6 := below_below hw5 hb6; clear c6; have c7 : True := trivial)
    | (have _t := c7; (with_reducible refine G_store ?_; refine L_store_agg ag32 (by with_unfolding_all (conv => lhs; whnf)) (by with_unfolding_all (conv => lhs; whnf)) hk6 rfl (by simpa using nR) (fun u hu => oR u (by simpa using hu)) ?_); intro w7 hk7 hg7 hs7; replace hk7 : Blk w7 w5.heap.size 33 S := (by simpa using hk7); have hw7 := hw6.grown hg7 hw6.size (by intro k hk; cases hk; exact hw5.size); have hr17 := (hr15.below hb6).grown hg7 (fun hn e => by have := hr15.lt _ e hn; omega); have hr27 := (hr25.below hb6).grown hg7 (fun hn e => by have := hr25.lt _ e hn; omega); clear c7; have c8 : True := trivial)
    | (have _t := c8; go_at_call 30; refine (HR _ _ _ hr17 hr27).mono ?_; rintro e w8 ⟨rfl, hb8⟩; have hw8 := below_below hw7 hb8; have hk78 := hk7.below hb8; clear c8; have c9 : True := trivial)
    | (have _t := c9; (with_reducible refine G_alloc ?_; refine L_alloc z32 ?_); intro w9 hk9 hb9 hs9; clear hs9; have hw9 := below_below hw8 hb9; have hk79 := hk78.below hb9; clear c9; have d1 : True := trivial)
    | (have _t := d1; (with_reducible refine G_store ?_; refine L_store_agg ag32 (by with_unfolding_all (conv => lhs; whnf)) (by with_unfolding_all (conv => lhs; whnf)) hk9 rfl (by simpa using nR) (fun u hu => oR u (by simpa using hu)) ?_); intro wa hka hga hsa; replace hka : Blk wa w8.heap.size 33 S := (by simpa using hka); have hwa := hw9.grown hga hw9.size (by intro k hk; cases hk; exact hw8.size); have hk7a := hk79.grown hga (by simp; have := hk78.lt; omega); clear d1; have d2 : True := trivial)
    | (have _t := d2; (with_reducible refine G_load ?_; refine L_load_agg ag32 (by with_unfolding_all (conv => lhs; whnf)) hk7a nR ?_); clear d2; have d3 : True := trivial)
    | (have _t := d3; (with_reducible refine G_load ?_; refine L_load_agg ag32 (by with_unfolding_all (conv => lhs; whnf)) hka nR ?_); clear d3; have d4 : True := trivial)
    | (have _t := d4; go_at_call 24; refine (wakes5_c _).mono ?_; rintro e wb ⟨rfl, hbb⟩))
  trace_state
  go_ret
  exact ⟨rfl, below_below hwa hbb⟩
end Go.Proofs.Ytpjpmgpehpigaaa
