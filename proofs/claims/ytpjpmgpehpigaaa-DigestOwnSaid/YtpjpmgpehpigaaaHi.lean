/- Hi: derived keys, the program's and the reference's. -/
import Derived.Test.YtpjpmgpehpigaaaRefHmac
set_option linter.unusedVariables false
set_option linter.unusedSimpArgs false
namespace Go.Proofs.Ytpjpmgpehpigaaa
open Go.RowKit
def hiU (p s : List UInt8) : Nat → List UInt8
  | 0 => hmacI p (s ++ [0, 0, 0, 1])
  | j + 1 => hmacI p (hiU p s j)
def hiS (p s : List UInt8) : Nat → List UInt8
  | 0 => hiU p s 0
  | j + 1 => xorI (hiS p s j) (hiU p s (j + 1))
def hiR (p s : List UInt8) (n : Int) : List UInt8 × Int := if n < 1 ∨ 4096 < n then (List.replicate 32 0, 3) else (hiS p s (n.toNat - 1), 0)
theorem hiU_len (p s : List UInt8) (j : Nat) : (hiU p s j).length = 32 := by cases j <;> exact hmacI_len _ _
theorem hiS_len (p s : List UInt8) (j : Nat) : (hiS p s j).length = 32 := by
  induction j with
  | zero => exact hiU_len p s 0
  | succ j ih => exact xorI_len _ _ ih (hiU_len p s (j + 1))
def GivesHi (w : World) (r : List UInt8 × Int) (e : Ending) (w' : World) : Prop := e = .returned (.tuple #[.agg (bvs r.1).toArray, .int .i64 r.2]) ∧ Below w.heap.size w w'
theorem ret_agg2 {P : Program} {w : World} {fn : Func} {R : Ending → World → Prop} {a : Act} {p u : Tmp} {T T' : TypeId} {n g : Nat} {cs : List Value} {x : Value} (h : fn.results = #[.cell p T, .tmp u]) (AT : AggTy P T n) (hd : a.defers = []) (hp : a.tmps.getD p undef = .pointer (some ⟨g, 0, none⟩)) (hb : Blk w g T' cs) (hn : cs.length = n)
    (hu : a.tmps.getD u undef = x) (hR : R (.returned (.tuple #[.agg cs.toArray, x])) w) : bodyPost P fn R .ret a w := by
  obtain ⟨dd, h1, h2⟩ := AT.shape
  refine bodyPost_ret_by ?_ hd hR
  have := run_loadVar_row (P := P) w g T' T cs.toArray (0, 0) dd hb h1 (by cases dd <;> simp_all) (by rw [AT.size]; simp [hn])
  rw [results_cell_tmp h, hp, hu]
  simp [asAddr, this]
def HiRel (w : World) (U S : Nat → List UInt8) (N g8 g9 : Nat) (c : Int) (i : Value) (wr : World) : Prop :=
  ∃ j : Nat, ∃ I : Int, j ≤ N ∧ I = (j : Int) + c ∧ i = .int .i64 I ∧ Blk wr g8 33 (bvs (U j)) ∧ Blk wr g9 33 (bvs (S j)) ∧ Blk wr w.heap.size 33 (bvs (List.replicate 32 0)) ∧ Below w.heap.size w wr

set_option maxRecDepth 100000 in
set_option maxHeartbeats 1600000 in
theorem hi_c (v u : Value) (p s : List UInt8) (n : Int) (w : World) (h : Rd w v p) (hs : Rd w u s) (hp : p.length ≤ 1000000) (hsl : s.length ≤ 800000) :
    Calls Try.prog 29 #[v, u, .int .i64 n] w (GivesHi w (hiR p s n)) := by
  unfold GivesHi
  by_cases hbad : n < 1 ∨ 4096 < n
  · have hr : hiR p s n = (List.replicate 32 0, 3) := by unfold hiR; rw [if_pos hbad]
    rw [hr]
    have hz : Try.prog.built 33 [] = some (bvs (List.replicate 32 0)).toArray := by kernel_rfl
    have nZ : (bvs (List.replicate 32 0)).length = 32 := rfl
    have oZ := bvs_one (List.replicate 32 0)
    go_enter Try.func29, Try.ntmps29
    rcases hbad with hb | hb
    · have q1 : ¬ (1 : Int) ≤ n := by omega
      go_wp2_with (first | ((with_reducible refine G_alloc ?_; refine L_alloc z32 ?_); intro w1 hk1 hb1 hs1; clear hs1) | (with_reducible refine G_build ?_; refine L_build (bvs (List.replicate 32 0)).toArray (by kernel_rfl) ?_) | ((with_reducible refine G_store ?_; refine L_store_agg ag32 (by with_unfolding_all (conv => lhs; whnf)) (by with_unfolding_all (conv => lhs; whnf)) hk1 rfl (by simpa using nZ) (fun u hu => oZ u (by simpa using hu)) ?_); intro w2 hk2 hg2 hs2))
      exact ret_agg2 (cs := bvs (List.replicate 32 0)) rfl ag32 rfl rfl (by simpa using hk2) rfl rfl ⟨rfl, hb1.grown hg2 hb1.size (by intro k hk; cases hk; exact Nat.le_refl _)⟩
    · have q1 : (1 : Int) ≤ n := by omega
      have q2 : ¬ n < 1 := by omega
      go_wp2_with (first | ((with_reducible refine G_alloc ?_; refine L_alloc z32 ?_); intro w1 hk1 hb1 hs1; clear hs1) | (with_reducible refine G_build ?_; refine L_build (bvs (List.replicate 32 0)).toArray (by kernel_rfl) ?_) | ((with_reducible refine G_store ?_; refine L_store_agg ag32 (by with_unfolding_all (conv => lhs; whnf)) (by with_unfolding_all (conv => lhs; whnf)) hk1 rfl (by simpa using nZ) (fun u hu => oZ u (by simpa using hu)) ?_); intro w2 hk2 hg2 hs2))
      exact ret_agg2 (cs := bvs (List.replicate 32 0)) rfl ag32 rfl rfl (by simpa using hk2) rfl rfl ⟨rfl, hb1.grown hg2 hb1.size (by intro k hk; cases hk; exact Nat.le_refl _)⟩
  · have hr : hiR p s n = (hiS p s (n.toNat - 1), 0) := by unfold hiR; rw [if_neg hbad]
    rw [hr]
    obtain ⟨N, rfl⟩ : ∃ N : Nat, n = (N : Int) + 1 := ⟨(n - 1).toNat, by omega⟩
    have hN : (N : Int) ≤ 4095 := by omega
    rw [show ((N : Int) + 1).toNat - 1 = N by omega]
    have HM0 := fun v1 w1 h1 (h2 : Rd w1 v1 (s ++ [0, 0, 0, 1])) => hmac_c v v1 p (s ++ [0, 0, 0, 1]) w1 h1 h2 hp (by simp; omega)
    have hU0 : hmacI p (s ++ [0, 0, 0, 1]) = hiU p s 0 := rfl
    rw [hU0] at HM0
    have HMJ := fun j v1 w1 h1 (h2 : Rd w1 v1 (hiU p s j)) => hmac_c v v1 p (hiU p s j) w1 h1 h2 hp (by rw [hiU_len]; omega)
    have hUJ : ∀ j, hmacI p (hiU p s j) = hiU p s (j + 1) := fun j => rfl
    simp only [hUJ] at HMJ
    have HX := fun j w1 => xor_c (hiS p s j) (hiU p s (j + 1)) w1 (hiS_len p s j) (hiU_len p s (j + 1))
    have hXJ : ∀ j, xorI (hiS p s j) (hiU p s (j + 1)) = hiS p s (j + 1) := fun j => rfl
    simp only [hXJ] at HX
    have hS0 : hiS p s 0 = hiU p s 0 := rfl
    have lU := hiU_len p s
    have lS := hiS_len p s
    have nU := fun j => (bvs_length (hiU p s j)).trans (lU j)
    have nS := fun j => (bvs_length (hiS p s j)).trans (lS j)
    have oU := fun j => bvs_one (hiU p s j)
    have oS := fun j => bvs_one (hiS p s j)
    generalize hiU p s = U at *
    generalize hiS p s = S at *
    have q1 : ¬ ((N : Int) + 1 < 1) := by omega
    have q2 : ¬ (4096 < (N : Int) + 1) := by omega
    have q3 : (0 : Int) ≤ N := by omega
    unfold GivesB at HM0 HMJ HX
    go_enter Try.func29, Try.ntmps29
    have t1 : True := trivial
    go_wp2_with (first
      | (have _t := t1; (with_reducible refine G_alloc ?_; refine L_alloc z32 ?_); intro w1 hk1 hb1 hs1; clear hs1; clear t1; have hp1 := h.below hb1; have hs1 := hs.below hb1; have hz1 := hk1.lt; have t0 : True := trivial)
      | ((at_builtin; refine wpList_app8 rfl _ _ rfl st8 (by with_unfolding_all (conv => lhs; whnf)) (Own8.below ho2 ((Below.refl _ _).alloc (Nat.le_refl _) _)) rfl (Rd.src (Rd.lit _ _ _ [0, 0, 0, 1] rfl rfl (by omega) (by decide)) Try.underlying23) (by first | omega | (simp; omega)) (by first | (simp; done) | omega | (simp; omega)) ?_); intro v3 w3 ho3 hg3 hb3; have hw3 := app_step hw2.1 ho2 (Nat.le_succ _) hg3; have hk3 := hw3.2 _ _ _ hk2 (Nat.lt_succ_self _); have hp3 := h.below hw3.1)
      | (have _t := t0; (at_builtin; refine wpList_app8 rfl _ _ rfl st8 (by with_unfolding_all (conv => lhs; whnf)) (Own8.nil w1 (w.heap.size + 1) _) rfl (Rd.src hs1 Try.underlying23) (by first | omega | (simp; omega)) (by first | (simp; done) | omega | (simp; omega)) ?_); intro v2 w2 ho2 hg2 hb2; have hw2 := app_step0 hb1 (Own8.nil w1 (w.heap.size + 1) 5) (Nat.le_succ _) hg2; have hk2 := hw2.2 _ _ _ hk1 (Nat.lt_succ_self _); have hz2 := Nat.le_trans hz1 hg2.size; clear t0)
      | (go_at_call 26; refine (HM0 _ _ hp3 ho3.rd).mono ?_; rintro e w4 ⟨rfl, hb4⟩; have hw4 := below_below hw3.1 hb4; have hk4 := hk3.below hb4; have t2 : True := trivial)
      | ((with_reducible refine G_load ?_; refine L_load_agg ag32 (by with_unfolding_all (conv => lhs; whnf)) hk6 (nU 0) ?_))
      | ((with_reducible refine G_store ?_; refine L_store_agg ag32 (by with_unfolding_all (conv => lhs; whnf)) (by with_unfolding_all (conv => lhs; whnf)) hk7 rfl (by simpa using nU 0) (fun u hu => oU 0 u (by simpa using hu)) ?_); intro w8 hk8 hg8 hs8; clear hs8)
      | ((with_reducible refine G_store ?_; refine L_store_agg ag32 (by with_unfolding_all (conv => lhs; whnf)) (by with_unfolding_all (conv => lhs; whnf)) hk5 rfl (by simpa using nU 0) (fun u hu => oU 0 u (by simpa using hu)) ?_); intro w6 hk6 hg6 hs6; clear hs6; have hw6 := (below_below hw4 hb5).grown hg6 (below_below hw4 hb5).size (by intro k hk; cases hk; exact hw4.size); have hk46 := (hk4.below hb5).grown hg6 (by simp; have := hk4.lt; omega); replace hk6 : Blk w6 w4.heap.size _ (bvs (U 0)) := (by simpa using hk6))
      | (have _t := t2; (with_reducible refine G_alloc ?_; refine L_alloc z32 ?_); intro w5 hk5 hb5 hs5; clear hs5; clear t2; have t3 : True := trivial)
      | (have _t := t3; (with_reducible refine G_alloc ?_; refine L_alloc z32 ?_); intro w7 hk7 hb7 hs7; clear hs7; clear t3))
    have hw8 := (below_below hw6 hb7).grown hg8 (below_below hw6 hb7).size (by intro k hk; cases hk; exact hw6.size)
    have hlt := hk4.lt
    have hlt2 := hk6.lt
    have hk68 := (hk6.below hb7).grown hg8 (by simp; omega)
    have hk48 := (hk46.below hb7).grown hg8 (by simp; omega)
    replace hk8 : Blk w8 w6.heap.size 33 (bvs (S 0)) := by rw [hS0]; simpa using hk8
    generalize w6.heap.size = g9 at *
    generalize w4.heap.size = g8 at *
    clear hk1 hb1 hp1 hs1 ho2 hg2 hb2 hw2 hk2 ho3 hg3 hb3 hw3 hk3 hp3 hb4 hw4 hk4 hk5 hb5 hg6 hw6 hk46 hk6 hk7 hb7 hg8 HM0 hU0 hS0 hXJ hUJ hr hbad
    skip
    go_loopw [26] (fun i wr => HiRel w U S N g8 g9 0 i wr) (fun i _ => (N + 2 - intOf i).toNat)
    case atStart => exact ⟨0, _, by omega, rfl, rfl, hk68, hk8, hk48, hw8⟩
    case round =>
      clear hk68 hk8 hk48 hw8
      obtain ⟨j, I, hj, hI, rfl, hk8, hk9, hk4, hbr⟩ := hrel
      by_cases hjn : j < N
      · have hp1 := h.below hbr
        have hR8 := hk8.rd (by rw [lU]; omega) (lU j).symm (lU j).symm
        obtain rfl : I = (j : Int) := by omega
        clear hI
        have q4 : (j : Int) < N := by omega
        have c1 : True := trivial
        go_wp2_with (first
          | (have _t := c1; go_at_call 26; refine (HMJ j _ _ hp1 hR8).mono ?_; rintro e w4 ⟨rfl, hb4⟩; have hw4 := below_below hbr hb4; have hk8a := hk8.below hb4; have hk9a := hk9.below hb4; have hk4a := hk4.below hb4; clear c1; have c2 : True := trivial)
          | (have _t := c2; (with_reducible refine G_store ?_; refine L_store_agg ag32 (by with_unfolding_all (conv => lhs; whnf)) (by with_unfolding_all (conv => lhs; whnf)) hk8a (nU j) (by simpa using nU (j + 1)) (fun u hu => oU (j + 1) u (by simpa using hu)) ?_); intro w5 hk85 hg5 hs5; replace hk85 : Blk w5 g8 33 (bvs (U (j + 1))) := (by simpa using hk85); have hw5 := hw4.grown hg5 hw4.size (by intro k hk; cases hk; omega); have hk95 := hk9a.grown hg5 (by simp; omega); have hk45 := hk4a.grown hg5 (by simp; omega); clear hk8a hg5 hs5; clear c2; have c3 : True := trivial)
          | (have _t := c3; (with_reducible refine G_load ?_; refine L_load_agg ag32 (by with_unfolding_all (conv => lhs; whnf)) hk95 (nS j) ?_); clear c3; have c4 : True := trivial)
          | (have _t := c4; (with_reducible refine G_load ?_; refine L_load_agg ag32 (by with_unfolding_all (conv => lhs; whnf)) hk85 (nU (j + 1)) ?_); clear c4; have c5 : True := trivial)
          | (have _t := c5; go_at_call 31; refine (HX j _).mono ?_; rintro e w6 ⟨rfl, hb6⟩; have hw6 := below_below hw5 hb6; have hk8b := hk85.below hb6; have hk9b := hk95.below hb6; have hk4b := hk45.below hb6; clear c5; have c6 : True := trivial)
          | (have _t := c6; (with_reducible refine G_store ?_; refine L_store_agg ag32 (by with_unfolding_all (conv => lhs; whnf)) (by with_unfolding_all (conv => lhs; whnf)) hk9b (nS j) (by simpa using nS (j + 1)) (fun u hu => oS (j + 1) u (by simpa using hu)) ?_); intro w7 hk97 hg7 hs7))
        refine ⟨⟨j + 1, _, by omega, ?_, rfl, hk8b.grown hg7 (by simp; omega), by simpa using hk97, hk4b.grown hg7 (by simp; omega), hw6.grown hg7 hw6.size (by intro k hk; cases hk; omega)⟩, ?_⟩
        · omega
        · simp only [intOf]; omega
      · have hjN := Go.Lib.hid (show j = N by omega)
        rw [hjN.out] at hk9
        obtain rfl : I = (j : Int) := by omega
        clear hI
        have q4 : ¬ (j : Int) < N := by omega
        go_wp2_with (first
          | ((with_reducible refine G_load ?_; refine L_load_agg ag32 (by with_unfolding_all (conv => lhs; whnf)) hk9 (nS N) ?_))
          | ((with_reducible refine G_store ?_; refine L_store_agg ag32 (by with_unfolding_all (conv => lhs; whnf)) (by with_unfolding_all (conv => lhs; whnf)) hk4 rfl (by simpa using nS N) (fun u hu => oS N u (by simpa using hu)) ?_); intro wz hkz hgz hsz))
        exact ret_agg2 (cs := bvs (S N)) rfl ag32 rfl rfl (by simpa using hkz) (nS N) rfl ⟨rfl, hbr.grown hgz hbr.size (by intro k hk; cases hk; omega)⟩

set_option maxRecDepth 100000 in
set_option maxHeartbeats 1600000 in
theorem refhi_c (v u : Value) (p s : List UInt8) (n : Int) (w : World) (h : Rd w v p) (hs : Rd w u s) (hp : p.length ≤ 1000000) (hsl : s.length ≤ 800000) :
    Calls Try.prog 30 #[v, u, .int .i64 n] w (GivesHi w (hiR p s n)) := by
  unfold GivesHi
  by_cases hbad : n < 1 ∨ 4096 < n
  · have hr : hiR p s n = (List.replicate 32 0, 3) := by unfold hiR; rw [if_pos hbad]
    rw [hr]
    have hz : Try.prog.built 33 [] = some (bvs (List.replicate 32 0)).toArray := by kernel_rfl
    have nZ : (bvs (List.replicate 32 0)).length = 32 := rfl
    have oZ := bvs_one (List.replicate 32 0)
    go_enter Try.func30, Try.ntmps30
    rcases hbad with hb | hb
    · have q1 : ¬ (1 : Int) ≤ n := by omega
      go_wp2_with (first | ((with_reducible refine G_alloc ?_; refine L_alloc z32 ?_); intro w1 hk1 hb1 hs1; clear hs1) | (with_reducible refine G_build ?_; refine L_build (bvs (List.replicate 32 0)).toArray (by kernel_rfl) ?_) | ((with_reducible refine G_store ?_; refine L_store_agg ag32 (by with_unfolding_all (conv => lhs; whnf)) (by with_unfolding_all (conv => lhs; whnf)) hk1 rfl (by simpa using nZ) (fun u hu => oZ u (by simpa using hu)) ?_); intro w2 hk2 hg2 hs2))
      exact ret_agg2 (cs := bvs (List.replicate 32 0)) rfl ag32 rfl rfl (by simpa using hk2) rfl rfl ⟨rfl, hb1.grown hg2 hb1.size (by intro k hk; cases hk; exact Nat.le_refl _)⟩
    · have q1 : (1 : Int) ≤ n := by omega
      have q2 : ¬ n < 1 := by omega
      go_wp2_with (first | ((with_reducible refine G_alloc ?_; refine L_alloc z32 ?_); intro w1 hk1 hb1 hs1; clear hs1) | (with_reducible refine G_build ?_; refine L_build (bvs (List.replicate 32 0)).toArray (by kernel_rfl) ?_) | ((with_reducible refine G_store ?_; refine L_store_agg ag32 (by with_unfolding_all (conv => lhs; whnf)) (by with_unfolding_all (conv => lhs; whnf)) hk1 rfl (by simpa using nZ) (fun u hu => oZ u (by simpa using hu)) ?_); intro w2 hk2 hg2 hs2))
      exact ret_agg2 (cs := bvs (List.replicate 32 0)) rfl ag32 rfl rfl (by simpa using hk2) rfl rfl ⟨rfl, hb1.grown hg2 hb1.size (by intro k hk; cases hk; exact Nat.le_refl _)⟩
  · have hr : hiR p s n = (hiS p s (n.toNat - 1), 0) := by unfold hiR; rw [if_neg hbad]
    rw [hr]
    obtain ⟨N, rfl⟩ : ∃ N : Nat, n = (N : Int) + 1 := ⟨(n - 1).toNat, by omega⟩
    have hN : (N : Int) ≤ 4095 := by omega
    rw [show ((N : Int) + 1).toNat - 1 = N by omega]
    have HM0 := fun v1 w1 h1 (h2 : Rd w1 v1 (s ++ [0, 0, 0, 1])) => refhmac_c v v1 p (s ++ [0, 0, 0, 1]) w1 h1 h2 hp (by simp; omega)
    have hU0 : hmacI p (s ++ [0, 0, 0, 1]) = hiU p s 0 := rfl
    rw [hU0] at HM0
    have HMJ := fun j v1 w1 h1 (h2 : Rd w1 v1 (hiU p s j)) => refhmac_c v v1 p (hiU p s j) w1 h1 h2 hp (by rw [hiU_len]; omega)
    have hUJ : ∀ j, hmacI p (hiU p s j) = hiU p s (j + 1) := fun j => rfl
    simp only [hUJ] at HMJ
    have HX := fun j w1 => refxor_c (hiS p s j) (hiU p s (j + 1)) w1 (hiS_len p s j) (hiU_len p s (j + 1))
    have hXJ : ∀ j, xorI (hiS p s j) (hiU p s (j + 1)) = hiS p s (j + 1) := fun j => rfl
    simp only [hXJ] at HX
    have hS0 : hiS p s 0 = hiU p s 0 := rfl
    have lU := hiU_len p s
    have lS := hiS_len p s
    have nU := fun j => (bvs_length (hiU p s j)).trans (lU j)
    have nS := fun j => (bvs_length (hiS p s j)).trans (lS j)
    have oU := fun j => bvs_one (hiU p s j)
    have oS := fun j => bvs_one (hiS p s j)
    generalize hiU p s = U at *
    generalize hiS p s = S at *
    have q1 : ¬ ((N : Int) + 1 < 1) := by omega
    have q2 : ¬ (4096 < (N : Int) + 1) := by omega
    have q3 : (0 : Int) ≤ N := by omega
    unfold GivesB at HM0 HMJ HX
    go_enter Try.func30, Try.ntmps30
    have t1 : True := trivial
    go_wp2_with (first
      | (have _t := t1; (with_reducible refine G_alloc ?_; refine L_alloc z32 ?_); intro w1 hk1 hb1 hs1; clear hs1; clear t1; have hp1 := h.below hb1; have hs1 := hs.below hb1; have hz1 := hk1.lt; have hs1b := hs1.below ((Below.refl w1.heap.size w1).alloc (Nat.le_refl _) (.cells #[] 5)); have t0 : True := trivial)
      | ((at_builtin; refine wpList_app8 rfl _ _ rfl st8 (by with_unfolding_all (conv => lhs; whnf)) (Own8.below ho2 ((Below.refl _ _).alloc (Nat.le_refl _) _)) rfl (Rd.src (Rd.lit _ _ _ [0, 0, 0, 1] rfl rfl (by omega) (by decide)) Try.underlying23) (by first | omega | (simp; omega)) (by first | (simp; done) | omega | (simp; omega)) ?_); intro v3 w3 ho3 hg3 hb3; have hw3 := app_step hw2.1 ho2 (Nat.le_succ _) hg3; have hk3 := hw3.2 _ _ _ hk2 (Nat.lt_succ_self _); have hp3 := h.below hw3.1)
      | (have _t := t0; (at_builtin; refine wpList_app8 rfl _ _ rfl st8 (by with_unfolding_all (conv => lhs; whnf)) (Own8.empty w1 (w.heap.size + 1) _ hz1) rfl (Rd.src hs1b Try.underlying23) (by first | omega | (simp; omega)) (by first | (simp; done) | omega | (simp; omega)) ?_); intro v2 w2 ho2 hg2 hb2; have hw2 := app_step0 (below_below hb1 ((Below.refl w1.heap.size w1).alloc (Nat.le_refl _) (.cells #[] 5))) (Own8.empty w1 (w.heap.size + 1) 5 hz1) (Nat.le_succ _) hg2; have hk2 := hw2.2 _ _ _ (hk1.below ((Below.refl w1.heap.size w1).alloc (Nat.le_refl _) (.cells #[] 5))) (Nat.lt_succ_self _); have hz2 := Nat.le_trans hz1 (Nat.le_of_lt (size_app hg2)); clear t0)
      | (go_at_call 27; refine (HM0 _ _ hp3 ho3.rd).mono ?_; rintro e w4 ⟨rfl, hb4⟩; have hw4 := below_below hw3.1 hb4; have hk4 := hk3.below hb4; have t2 : True := trivial)
      | ((with_reducible refine G_load ?_; refine L_load_agg ag32 (by with_unfolding_all (conv => lhs; whnf)) hk6 (nU 0) ?_))
      | ((with_reducible refine G_store ?_; refine L_store_agg ag32 (by with_unfolding_all (conv => lhs; whnf)) (by with_unfolding_all (conv => lhs; whnf)) hk7 rfl (by simpa using nU 0) (fun u hu => oU 0 u (by simpa using hu)) ?_); intro w8 hk8 hg8 hs8; clear hs8)
      | ((with_reducible refine G_store ?_; refine L_store_agg ag32 (by with_unfolding_all (conv => lhs; whnf)) (by with_unfolding_all (conv => lhs; whnf)) hk5 rfl (by simpa using nU 0) (fun u hu => oU 0 u (by simpa using hu)) ?_); intro w6 hk6 hg6 hs6; clear hs6; have hw6 := (below_below hw4 hb5).grown hg6 (below_below hw4 hb5).size (by intro k hk; cases hk; exact hw4.size); have hk46 := (hk4.below hb5).grown hg6 (by simp; have := hk4.lt; omega); replace hk6 : Blk w6 w4.heap.size _ (bvs (U 0)) := (by simpa using hk6))
      | (have _t := t2; (with_reducible refine G_alloc ?_; refine L_alloc z32 ?_); intro w5 hk5 hb5 hs5; clear hs5; clear t2; have t3 : True := trivial)
      | (have _t := t3; (with_reducible refine G_alloc ?_; refine L_alloc z32 ?_); intro w7 hk7 hb7 hs7; clear hs7; clear t3))
    have hw8 := (below_below hw6 hb7).grown hg8 (below_below hw6 hb7).size (by intro k hk; cases hk; exact hw6.size)
    have hlt := hk4.lt
    have hlt2 := hk6.lt
    have hk68 := (hk6.below hb7).grown hg8 (by simp; omega)
    have hk48 := (hk46.below hb7).grown hg8 (by simp; omega)
    replace hk8 : Blk w8 w6.heap.size 33 (bvs (S 0)) := by rw [hS0]; simpa using hk8
    generalize w6.heap.size = g9 at *
    generalize w4.heap.size = g8 at *
    clear hk1 hb1 hp1 hs1 hs1b ho2 hg2 hb2 hw2 hk2 ho3 hg3 hb3 hw3 hk3 hp3 hb4 hw4 hk4 hk5 hb5 hg6 hw6 hk46 hk6 hk7 hb7 hg8 HM0 hU0 hS0 hXJ hUJ hr hbad
    skip
    go_loopw [10] (fun i wr => HiRel w U S N g8 g9 1 i wr) (fun i _ => (N + 2 - intOf i).toNat)
    case atStart => exact ⟨0, _, by omega, rfl, rfl, hk68, hk8, hk48, hw8⟩
    case round =>
      clear hk68 hk8 hk48 hw8
      obtain ⟨j, I, hj, hI, rfl, hk8, hk9, hk4, hbr⟩ := hrel
      by_cases hjn : j < N
      · have hp1 := h.below hbr
        have hR8 := hk8.rd (by rw [lU]; omega) (lU j).symm (lU j).symm
        have q4 : I < (N : Int) + 1 := by omega
        have q5 : 0 ≤ I := by omega
        have c1 : True := trivial
        go_wp2_with (first
          | (have _t := c1; go_at_call 27; refine (HMJ j _ _ hp1 hR8).mono ?_; rintro e w4 ⟨rfl, hb4⟩; have hw4 := below_below hbr hb4; have hk8a := hk8.below hb4; have hk9a := hk9.below hb4; have hk4a := hk4.below hb4; clear c1; have c2 : True := trivial)
          | (have _t := c2; (with_reducible refine G_store ?_; refine L_store_agg ag32 (by with_unfolding_all (conv => lhs; whnf)) (by with_unfolding_all (conv => lhs; whnf)) hk8a (nU j) (by simpa using nU (j + 1)) (fun u hu => oU (j + 1) u (by simpa using hu)) ?_); intro w5 hk85 hg5 hs5; replace hk85 : Blk w5 g8 33 (bvs (U (j + 1))) := (by simpa using hk85); have hw5 := hw4.grown hg5 hw4.size (by intro k hk; cases hk; omega); have hk95 := hk9a.grown hg5 (by simp; omega); have hk45 := hk4a.grown hg5 (by simp; omega); clear hk8a hg5 hs5; clear c2; have c3 : True := trivial)
          | (have _t := c3; (with_reducible refine G_load ?_; refine L_load_agg ag32 (by with_unfolding_all (conv => lhs; whnf)) hk95 (nS j) ?_); clear c3; have c4 : True := trivial)
          | (have _t := c4; (with_reducible refine G_load ?_; refine L_load_agg ag32 (by with_unfolding_all (conv => lhs; whnf)) hk85 (nU (j + 1)) ?_); clear c4; have c5 : True := trivial)
          | (have _t := c5; go_at_call 46; refine (HX j _).mono ?_; rintro e w6 ⟨rfl, hb6⟩; have hw6 := below_below hw5 hb6; have hk8b := hk85.below hb6; have hk9b := hk95.below hb6; have hk4b := hk45.below hb6; clear c5; have c6 : True := trivial)
          | (have _t := c6; (with_reducible refine G_store ?_; refine L_store_agg ag32 (by with_unfolding_all (conv => lhs; whnf)) (by with_unfolding_all (conv => lhs; whnf)) hk9b (nS j) (by simpa using nS (j + 1)) (fun u hu => oS (j + 1) u (by simpa using hu)) ?_); intro w7 hk97 hg7 hs7))
        refine ⟨⟨j + 1, _, by omega, ?_, rfl, hk8b.grown hg7 (by simp; omega), by simpa using hk97, hk4b.grown hg7 (by simp; omega), hw6.grown hg7 hw6.size (by intro k hk; cases hk; omega)⟩, ?_⟩
        · omega
        · simp only [intOf]; omega
      · have hjN := Go.Lib.hid (show j = N by omega)
        rw [hjN.out] at hk9
        have q4 : ¬ I < (N : Int) + 1 := by omega
        go_wp2_with (first
          | ((with_reducible refine G_load ?_; refine L_load_agg ag32 (by with_unfolding_all (conv => lhs; whnf)) hk9 (nS N) ?_))
          | ((with_reducible refine G_store ?_; refine L_store_agg ag32 (by with_unfolding_all (conv => lhs; whnf)) (by with_unfolding_all (conv => lhs; whnf)) hk4 rfl (by simpa using nS N) (fun u hu => oS N u (by simpa using hu)) ?_); intro wz hkz hgz hsz))
        exact ret_agg2 (cs := bvs (S N)) rfl ag32 rfl rfl (by simpa using hkz) (nS N) rfl ⟨rfl, hbr.grown hgz hbr.size (by intro k hk; cases hk; omega)⟩
end Go.Proofs.Ytpjpmgpehpigaaa
