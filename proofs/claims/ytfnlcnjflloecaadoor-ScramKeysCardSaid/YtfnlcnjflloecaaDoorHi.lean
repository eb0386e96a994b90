/- Hi: derived keys, the program's and the reference's. -/
import Derived.Test.YtfnlcnjflloecaaDoorHmac
import Derived.Test.YtfnlcnjflloecaaDoorRefSha
/-! ### RefHmac -/
set_option linter.unusedVariables false
set_option linter.unusedSimpArgs false
namespace Go.Proofs.YtfnlcnjflloecaaDoor
open Go.RowKit
def HK (w : World) (kb : List UInt8) (v : Value) (wx : World) : Prop := Own8 wx (w.heap.size + 1) 5 v kb ∧ Blk wx w.heap.size 40 (bvs (List.replicate 32 0)) ∧ Below w.heap.size w wx
def HZ (w : World) (kb : List UInt8) (v : Value) (wr : World) : Prop := ∃ j : Nat, kb.length + j ≤ 64 ∧ HK w (kb ++ List.replicate j 0) v wr
def HX (w : World) (B : Nat) (kk : List UInt8) (vk vi vo i : Value) (wr : World) : Prop :=
  ∃ j : Nat, j ≤ 64 ∧ i = .int .i64 j ∧ B ≤ wr.heap.size ∧ Own8 wr B 5 vi ((kk.take j).map (· ^^^ 0x36)) ∧ Own8 wr B 5 vo ((kk.take j).map (· ^^^ 0x5c)) ∧ (∀ g, vi.ownBlock = some g → vo.ownBlock ≠ some g) ∧
    Rd wr vk kk ∧ Blk wr w.heap.size 40 (bvs (List.replicate 32 0)) ∧ Below w.heap.size w wr
theorem take_xor (l : List UInt8) (x : UInt8) (j : Nat) (h : j < l.length) : (l.take (j + 1)).map (· ^^^ x) = (l.take j).map (· ^^^ x) ++ [l.getD j 0 ^^^ x] := by
  rw [List.take_add_one, List.map_append, List.getElem?_eq_getElem h]
  congr 1
  simp [List.getD_eq_getElem?_getD, h]
theorem over_zero (kb : List UInt8) (h : kb.length ≤ 64) : over (List.replicate 64 0) kb = kb ++ List.replicate (64 - kb.length) 0 := by
  unfold over
  rw [List.length_replicate, List.take_of_length_le h, List.drop_replicate]
set_option maxRecDepth 100000 in
set_option maxHeartbeats 1600000 in
theorem refhmac_c (v u : Value) (k m : List UInt8) (w : World) (h : Rd w v k) (hm : Rd w u m) (hk : k.length ≤ 1000000) (hml : m.length ≤ 900000) :
    Calls Tryd.prog 78 #[v, u] w (GivesB w (hmacI k m)) := by
  have S0 := fun v' w' hv' => refsha_c v' k w' hv' hk
  unfold GivesB at S0
  have nS : (bvs (shaI k)).length = 32 := by rw [bvs_length, shaI_len]
  have oS := bvs_one (shaI k)
  have hsl := shaI_len k
  have hb64 := keyB_len k
  generalize hR : hmacI k m = R
  have hR2 := hR
  unfold hmacI padX at hR
  go_enter Tryd.func78, Tryd.ntmps78
  have t1 : True := trivial
  go_upto_if 16 with (first
    | (have _t := t1; (with_reducible refine G_alloc ?_; refine L_alloc z32 ?_); intro wa hka hba hsa; have h1 := (h.below hba).below ((Below.refl wa.heap.size wa).alloc (Nat.le_refl _) (.cells #[] 5)); have hsz : w.heap.size + 1 ≤ wa.heap.size := (by omega); clear hsa; clear t1)
    | (with_reducible refine G_len ?_; refine L8_len Tryd.underlying37 (by with_unfolding_all (conv => lhs; whnf)) (by assumption) ?_)
    | ((at_builtin; refine wpList_app8 rfl _ _ rfl st8 (by with_unfolding_all (conv => lhs; whnf)) (Own8.empty wa (w.heap.size + 1) _ (by omega)) rfl (Rd.src h1 Tryd.underlying37) (by first | omega | (simp; omega)) (by first | (simp; done) | omega | (simp; omega)) ?_); intro v1 w1 ho1 hg1 hb1; have hR1 := ho1.rd))
  have hba1 := below_below hba ((Below.refl wa.heap.size wa).alloc (Nat.le_refl _) (.cells #[] 5))
  have hw1 := app_step0 hba1 (Own8.empty wa (w.heap.size + 1) 5 hsz) (by omega) hg1
  have hk1 := hw1.2 _ _ _ (hka.below ((Below.refl wa.heap.size wa).alloc (Nat.le_refl _) (.cells #[] 5))) (by omega)
  have hbw1 := hw1.1
  simp only [List.nil_append] at ho1 hR1 
  clear hba1 hw1 hg1 hb1 hka hba h1 hsz _t h
  go_cut [5] (fun v wx => HK w (keyB k) v wx)
  case first =>
    by_cases hlt : 64 < k.length
    · have hkb : keyB k = shaI k := by unfold keyB; rw [if_pos hlt]
      generalize shaI k = H at *
      go_wp2_with (first
        | (with_reducible refine G_len ?_; refine L8_len Tryd.underlying37 (by with_unfolding_all (conv => lhs; whnf)) (by assumption) ?_)
        | (go_at_call 79; refine (S0 _ _ hR1).mono ?_; rintro e wb ⟨rfl, hbb⟩; have hbb2 := below_below hbw1 hbb; have hkb1 := hk1.below hbb)
        | ((with_reducible refine G_alloc ?_; refine L_alloc z32 ?_); intro wc hkc hbc hsc; clear hsc)
        | ((with_reducible refine G_store ?_; refine L_store_agg ag32 (by with_unfolding_all (conv => lhs; whnf)) (by with_unfolding_all (conv => lhs; whnf)) hkc rfl (by simpa using nS) (fun u hu => oS u (by simpa using hu)) ?_); intro wd hkd hgd hsd; clear hsd; have hbd := (below_below hbb2 hbc).grown hgd (below_below hbb2 hbc).size (by intro k hk; cases hk; exact hbb2.size); have hkd1 := (hkb1.below hbc).grown hgd (by simp; have := hkb1.lt; omega); replace hkd : Blk wd wb.heap.size _ (bvs H) := (by simpa using hkd); have hRd := (hkd.rd (by omega) hsl.symm hsl.symm).below ((Below.refl wd.heap.size wd).alloc (Nat.le_refl _) (.cells #[] 5)); have hzd : w.heap.size + 1 ≤ wd.heap.size := (by have := hkd1.lt; omega))
        | ((at_builtin; refine wpList_app8 rfl _ _ rfl st8 (by with_unfolding_all (conv => lhs; whnf)) (Own8.empty wd (w.heap.size + 1) _ hzd) rfl (Rd.src hRd Tryd.underlying37) (by first | omega | (simp; omega)) (by first | (simp; done) | omega | (simp; omega)) ?_); intro v2 w2 ho2 hg2 hb2))
      all_goals go_meet
      have hba1 := below_below hbd ((Below.refl wd.heap.size wd).alloc (Nat.le_refl _) (.cells #[] 5))
      have hw2 := app_step0 hba1 (Own8.empty wd (w.heap.size + 1) 5 hzd) (by omega) hg2
      exact ⟨by rw [hkb]; simpa using ho2, hw2.2 _ _ _ (hkd1.below ((Below.refl wd.heap.size wd).alloc (Nat.le_refl _) (.cells #[] 5))) (by omega), hw2.1⟩
    · have hkb : keyB k = k := by unfold keyB; rw [if_neg hlt]
      go_wp2_with (first | (with_reducible refine G_len ?_; refine L8_len Tryd.underlying37 (by with_unfolding_all (conv => lhs; whnf)) (by assumption) ?_))
      all_goals go_meet
      exact ⟨by rw [hkb]; exact ho1, hk1, hbw1⟩
  case rest =>
  obtain ⟨ho, hk4, hbw⟩ := hcut
  clear S0 nS oS hsl ho1 hk1 hbw1 hR1
  have hov := over_zero (keyB k) hb64
  rw [hov] at hR
  generalize keyB k = kb at *
  go_wp2_with fail
  go_loopw [5] (fun v wr => HZ w kb v wr) (fun v _ => 64 - slen v)
  case atStart => exact ⟨0, by omega, by simpa using ho, hk4, hbw⟩
  case round =>
    clear ho hk4 hbw
    obtain ⟨j, hj, ho, hk4, hbr⟩ := hrel
    have hRd := ho.rd
    have hln : (kb ++ List.replicate j 0).length = kb.length + j := by simp
    have hbs := hk4.lt
    by_cases hlt : kb.length + j < 64
    · go_wp2_with (first | ((with_reducible refine G_len ?_; refine L8_len Tryd.underlying37 (by with_unfolding_all (conv => lhs; whnf)) (by assumption) ?_); rw [hln]) | ((at_builtin; refine wpList_app8 rfl _ _ rfl st8 (by with_unfolding_all (conv => lhs; whnf)) (Own8.below ho ((Below.refl _ _).alloc (Nat.le_refl _) _)) rfl (Rd.src (Rd.lit _ _ _ [0] rfl rfl (by omega) (by decide)) Tryd.underlying37) (by first | omega | (simp; omega)) (by first | (simp; done) | omega | (simp; omega)) ?_); intro v3 w3 ho3 hg3 hb3))
      have hw := app_step hbr ho (by omega) hg3
      have e : kb ++ List.replicate j 0 ++ [0] = kb ++ List.replicate (j + 1) 0 := by rw [List.replicate_succ' (n := j)]; simp
      rw [e] at ho3
      refine ⟨⟨j + 1, by omega, ho3, hw.2 _ _ _ hk4 (by omega), hw.1⟩, ?_⟩
      show 64 - slen v3 < 64 - slen _
      rw [hRd.slen, ho3.rd.slen]; simp; omega
    · obtain rfl : j = 64 - kb.length := by omega
      generalize hkk : kb ++ List.replicate (64 - kb.length) 0 = kk at *
      have hl64 : kk.length = 64 := by omega
      go_wp2_with (first | ((with_reducible refine G_len ?_; refine L8_len Tryd.underlying37 (by with_unfolding_all (conv => lhs; whnf)) (by assumption) ?_); rw [hln]))
      obtain ⟨gk, ck, huk, _, hgk⟩ := ho.open (by omega)
      have hu5 : u5.ownBlock = some gk := by rw [huk]; rfl
      clear huk hln hlt hj ho hov hkk hb64
      have hB := Nat.le_refl wr.heap.size
      have hmr := hm.below hbr
      generalize hBB : wr.heap.size = B at hbs hgk
      go_loopw [7, 8, 9] (fun vi vo i wr' => HX w B kk u5 vi vo i wr') (fun _ _ i _ => 64 - (intOf i).toNat)
      case atStart => exact ⟨0, by omega, rfl, by omega, by simpa using Own8.nil wr B _, by simpa using Own8.nil wr B _, (by intro g h; cases h), hRd, hk4, hbr⟩
      case round =>
        clear hRd hk4 hbr hB hmr
        obtain ⟨j, hj, rfl, hB, hoi, hoo, hne, hRk, hk4, hbr⟩ := hrel
        by_cases hlt : j < 64
        · have q1 := bt_lo kk j
          have q2 := bt_hi kk j
          have hX1 := Go.Lib.hid (show bits .xor .u8 (bt kk j) 54 = ((kk.getD j 0 ^^^ 0x36).toNat : Int) by unfold bt; exact xor8_u8 _ 0x36)
          have hX2 := Go.Lib.hid (show bits .xor .u8 (bt kk j) 92 = ((kk.getD j 0 ^^^ 0x5c).toNat : Int) by unfold bt; exact xor8_u8 _ 0x5c)
          have hT1 := Go.Lib.hid (take_xor kk 0x36 j (by omega))
          have hT2 := Go.Lib.hid (take_xor kk 0x5c j (by omega))
          have hl1 : ((kk.take j).map (· ^^^ (0x36 : UInt8))).length ≤ 64 := by simp; omega
          have hl2 : ((kk.take j).map (· ^^^ (0x5c : UInt8))).length ≤ 64 := by simp; omega
          generalize (kk.take j).map (· ^^^ (0x36 : UInt8)) = li at *
          generalize (kk.take j).map (· ^^^ (0x5c : UInt8)) = lo at *
          go_wp2_with (first
            | ((with_reducible refine G_index ?_; refine L8_index st8 (i := j) (by with_unfolding_all (conv => lhs; whnf)) (by assumption) (by with_unfolding_all (conv => lhs; whnf)) (by omega) (by omega) ?_); intro blk off hbo hcl)
            | ((at_builtin; refine wpList_app8 rfl _ _ rfl st8 (by with_unfolding_all (conv => lhs; whnf)) (Own8.below hoi ((Below.refl _ _).alloc (Nat.le_refl _) _)) rfl (Rd.src (Rd.lit _ _ _ [kk.getD j 0 ^^^ 0x36] (by rw [hX1.out]; rfl) rfl (by omega) (by decide)) Tryd.underlying37) (by first | omega | (simp; omega)) (by first | (simp; done) | omega | (simp; omega)) ?_); intro v3 w3 ho3 hg3 hb3;
                have hT := two_apart hoo hne hg3 hb3; have hB3 : B ≤ w3.heap.size := (Nat.le_trans hB (Nat.le_of_lt (size_app hg3)));
                have hRk3 := rd_app hRk hg3 (fun _ => ne_base hoi hu5 hgk))
            | ((at_builtin; refine wpList_app8 rfl _ _ rfl st8 (by with_unfolding_all (conv => lhs; whnf)) (Own8.below hT.1 ((Below.refl _ _).alloc (Nat.le_refl _) _)) rfl (Rd.src (Rd.lit _ _ _ [kk.getD j 0 ^^^ 0x5c] (by rw [hX2.out]; rfl) rfl (by omega) (by decide)) Tryd.underlying37) (by first | omega | (simp; omega)) (by first | (simp; done) | omega | (simp; omega)) ?_); intro v4 w4 ho4 hg4 hb4))
          have hwB : w.heap.size ≤ B := by omega
          have hw3 := app_step hbr hoi hwB hg3
          have hw4 := app_step hw3.1 hT.1 hwB hg4
          have hTT := two_apart (vi := u8) (vo := v3) ho3 (fun g h1 h2 => hT.2 g h2 h1) hg4 hb4
          refine ⟨⟨j + 1, by omega, by go_num, Nat.le_trans hB3 (Nat.le_of_lt (size_app hg4)), by rw [hT1.out]; exact hTT.1, by rw [hT2.out]; exact ho4, fun g h1 h2 => hTT.2 g h2 h1, rd_app hRk3 hg4 (fun _ => ne_base hT.1 hu5 hgk), hw4.2 _ _ _ (hw3.2 _ _ _ hk4 hbs) hbs, hw4.1⟩, by simp [intOf]; omega⟩
        · obtain rfl : j = 64 := by omega
          rw [List.take_of_length_le (by omega)] at hoi hoo
          have hmr := hm.below hbr
          have li : (kk.map (· ^^^ (0x36 : UInt8))).length = 64 := by simp; omega
          have lo : (kk.map (· ^^^ (0x5c : UInt8))).length = 64 := by simp; omega
          generalize kk.map (· ^^^ (0x36 : UInt8)) = X at *
          generalize kk.map (· ^^^ (0x5c : UInt8)) = Y at *
          have S1 := fun v' w' hv' => refsha_c v' (X ++ m) w' hv' (by simp; omega)
          have n1 := shaI_len (X ++ m)
          generalize shaI (X ++ m) = H at *
          have S2 := fun v' w' hv' => refsha_c v' (Y ++ H) w' hv' (by simp; omega)
          have n2 := shaI_len (Y ++ H)
          rw [hR] at S2 n2
          unfold GivesB at S1 S2
          have nH : (bvs H).length = 32 := by rw [bvs_length]; exact n1
          have oH := bvs_one H
          have nR : (bvs R).length = 32 := by rw [bvs_length]; exact n2
          have oR := bvs_one R
          have hwB : w.heap.size ≤ B := by omega
          clear hRk hu5 hgk hm hR
          go_wp2_with (first
            | ((at_builtin; refine wpList_app8 rfl _ _ rfl st8 (by with_unfolding_all (conv => lhs; whnf)) hoi rfl (Rd.src hmr Tryd.underlying37) (by first | omega | (simp; omega)) (by first | (simp; done) | omega | (simp; omega)) ?_); intro v3 w3 ho3 hg3 hb3; have hw3 := app_step0 hbr hoi hwB hg3; have hk3 := hw3.2 _ _ _ hk4 hbs; have hoo3 := hoo.grown hg3 (opt_apart hne); have hB3 := Nat.le_trans hB hg3.size)
            | (go_at_call 79; refine (S2 _ _ ho8.rd).mono ?_; rintro e w9 ⟨rfl, hb9⟩; have hw9 := below_below hw8.1 hb9; have hk9 := hk8.below hb9)
            | (go_at_call 79; refine (S1 _ _ ho3.rd).mono ?_; rintro e w5 ⟨rfl, hb5⟩; have hw5 := below_below hw3.1 hb5; have hk5 := hk3.below hb5; have hoo5 := hoo3.below hb5)
            | ((with_reducible refine G_alloc ?_; refine L_alloc z32 ?_); intro w6 hk6 hb6 hs6; clear hs6)
            | ((with_reducible refine G_store ?_; refine L_store_agg ag32 (by with_unfolding_all (conv => lhs; whnf)) (by with_unfolding_all (conv => lhs; whnf)) hk9 rfl (by simpa using nR) (fun u hu => oR u (by simpa using hu)) ?_); intro wz hkz hgz hsz)
            | ((with_reducible refine G_store ?_; refine L_store_agg ag32 (by with_unfolding_all (conv => lhs; whnf)) (by with_unfolding_all (conv => lhs; whnf)) hk6 rfl (by simpa using nH) (fun u hu => oH u (by simpa using hu)) ?_); intro w7 hk7 hg7 hs7; clear hs7; replace hk7 : Blk w7 w5.heap.size _ (bvs H) := (by simpa using hk7); have hb7 := (below_below hw5 hb6).grown hg7 (below_below hw5 hb6).size (by intro k hk; cases hk; exact hw5.size); have hk47 := (hk5.below hb6).grown hg7 (by simp; have := hk5.lt; omega); have hoo7 := (hoo5.below hb6).grown hg7 (.inr (fun e => by have := hoo5.lt _ e; omega)); have hR7 := hk7.rd (by omega) n1.symm n1.symm; have hB7 := hk7.lt; have hB5 := hb5.size)
            | ((at_builtin; refine wpList_app8 rfl _ _ rfl st8 (by with_unfolding_all (conv => lhs; whnf)) hoo7 rfl (Rd.src hR7 Tryd.underlying37) (by first | omega | (simp; omega)) (by first | (simp; done) | omega | (simp; omega)) ?_); intro v8 w8 ho8 hg8 hb8; have hw8 := app_step0 hb7 hoo7 hwB hg8; have hk8 := hw8.2 _ _ _ hk47 hbs))
          exact ret_agg (cs := bvs R) rfl ag32 rfl rfl (by simpa using hkz) nR ⟨rfl, hw9.grown hgz hw9.size (by intro k hk; cases hk; omega)⟩
end Go.Proofs.YtfnlcnjflloecaaDoor
/-! ### Hi -/
set_option linter.unusedVariables false
set_option linter.unusedSimpArgs false
namespace Go.Proofs.YtfnlcnjflloecaaDoor
open Go.RowKit
def hiU (p s : List UInt8) : Nat → List UInt8
  | 0 => hmacI p (s ++ [0, 0, 0, 1])
  | j + 1 => hmacI p (hiU p s j)
def hiS (p s : List UInt8) : Nat → List UInt8
  | 0 => hiU p s 0
  | j + 1 => xorI (hiS p s j) (hiU p s (j + 1))
def hiR (p s : List UInt8) (n : Int) : List UInt8 × Int := if n < 1 ∨ 4096 < n then (List.replicate 32 0, 3) else (hiS p s (n.toNat - 1), 0)
theorem hiU_len (p s : List UInt8) (j : Nat) : (hiU p s j).length = 32 := by cases j <;> exact hmacI_len _ _
theorem hiS_len (p s : List UInt8) (j : Nat) : (hiS p s j).length = 32 := by
  induction j with
  | zero => exact hiU_len p s 0
  | succ j ih => exact xorI_len _ _ ih (hiU_len p s (j + 1))
def GivesHi (w : World) (r : List UInt8 × Int) (e : Ending) (w' : World) : Prop := e = .returned (.tuple #[.agg (bvs r.1).toArray, .int .i64 r.2]) ∧ Below w.heap.size w w'
theorem ret_agg2 {P : Program} {w : World} {fn : Func} {R : Ending → World → Prop} {a : Act} {p u : Tmp} {T T' : TypeId} {n g : Nat} {cs : List Value} {x : Value} (h : fn.results = #[.cell p T, .tmp u]) (AT : AggTy P T n) (hd : a.defers = []) (hp : a.tmps.getD p undef = .pointer (some ⟨g, 0, none⟩)) (hb : Blk w g T' cs) (hn : cs.length = n)
    (hu : a.tmps.getD u undef = x) (hR : R (.returned (.tuple #[.agg cs.toArray, x])) w) : bodyPost P fn R .ret a w := by
  obtain ⟨dd, h1, h2⟩ := AT.shape
  refine bodyPost_ret_by ?_ hd hR
  have := run_loadVar_row (P := P) w g T' T cs.toArray (0, 0) dd hb h1 (by cases dd <;> simp_all) (by rw [AT.size]; simp [hn])
  rw [results_cell_tmp h, hp, hu]
  simp [asAddr, this]
def HiRel (w : World) (U S : Nat → List UInt8) (N g8 g9 : Nat) (c : Int) (i : Value) (wr : World) : Prop :=
  ∃ j : Nat, ∃ I : Int, j ≤ N ∧ I = (j : Int) + c ∧ i = .int .i64 I ∧ Blk wr g8 40 (bvs (U j)) ∧ Blk wr g9 40 (bvs (S j)) ∧ Blk wr w.heap.size 40 (bvs (List.replicate 32 0)) ∧ Below w.heap.size w wr

set_option maxRecDepth 100000 in
set_option maxHeartbeats 1600000 in
theorem hi_c (v u : Value) (p s : List UInt8) (n : Int) (w : World) (h : Rd w v p) (hs : Rd w u s) (hp : p.length ≤ 1000000) (hsl : s.length ≤ 800000) :
    Calls Tryd.prog 112 #[v, u, .int .i64 n] w (GivesHi w (hiR p s n)) := by
  unfold GivesHi
  by_cases hbad : n < 1 ∨ 4096 < n
  · have hr : hiR p s n = (List.replicate 32 0, 3) := by unfold hiR; rw [if_pos hbad]
    rw [hr]
    have hz : Tryd.prog.built 40 [] = some (bvs (List.replicate 32 0)).toArray := by kernel_rfl
    have nZ : (bvs (List.replicate 32 0)).length = 32 := rfl
    have oZ := bvs_one (List.replicate 32 0)
    go_enter Tryd.func112, Tryd.ntmps112
    rcases hbad with hb | hb
    · have q1 : ¬ (1 : Int) ≤ n := by omega
      go_wp2_with (first | ((with_reducible refine G_alloc ?_; refine L_alloc z32 ?_); intro w1 hk1 hb1 hs1; clear hs1) | (with_reducible refine G_build ?_; refine L_build (bvs (List.replicate 32 0)).toArray (by kernel_rfl) ?_) | ((with_reducible refine G_store ?_; refine L_store_agg ag32 (by with_unfolding_all (conv => lhs; whnf)) (by with_unfolding_all (conv => lhs; whnf)) hk1 rfl (by simpa using nZ) (fun u hu => oZ u (by simpa using hu)) ?_); intro w2 hk2 hg2 hs2))
      exact ret_agg2 (cs := bvs (List.replicate 32 0)) rfl ag32 rfl rfl (by simpa using hk2) rfl rfl ⟨rfl, hb1.grown hg2 hb1.size (by intro k hk; cases hk; exact Nat.le_refl _)⟩
    · have q1 : (1 : Int) ≤ n := by omega
      have q2 : ¬ n < 1 := by omega
      go_wp2_with (first | ((with_reducible refine G_alloc ?_; refine L_alloc z32 ?_); intro w1 hk1 hb1 hs1; clear hs1) | (with_reducible refine G_build ?_; refine L_build (bvs (List.replicate 32 0)).toArray (by kernel_rfl) ?_) | ((with_reducible refine G_store ?_; refine L_store_agg ag32 (by with_unfolding_all (conv => lhs; whnf)) (by with_unfolding_all (conv => lhs; whnf)) hk1 rfl (by simpa using nZ) (fun u hu => oZ u (by simpa using hu)) ?_); intro w2 hk2 hg2 hs2))
      exact ret_agg2 (cs := bvs (List.replicate 32 0)) rfl ag32 rfl rfl (by simpa using hk2) rfl rfl ⟨rfl, hb1.grown hg2 hb1.size (by intro k hk; cases hk; exact Nat.le_refl _)⟩
  · have hr : hiR p s n = (hiS p s (n.toNat - 1), 0) := by unfold hiR; rw [if_neg hbad]
    rw [hr]
    obtain ⟨N, rfl⟩ : ∃ N : Nat, n = (N : Int) + 1 := ⟨(n - 1).toNat, by omega⟩
    have hN : (N : Int) ≤ 4095 := by omega
    rw [show ((N : Int) + 1).toNat - 1 = N by omega]
    have HM0 := fun v1 w1 h1 (h2 : Rd w1 v1 (s ++ [0, 0, 0, 1])) => hmac_c v v1 p (s ++ [0, 0, 0, 1]) w1 h1 h2 hp (by simp; omega)
    have hU0 : hmacI p (s ++ [0, 0, 0, 1]) = hiU p s 0 := rfl
    rw [hU0] at HM0
    have HMJ := fun j v1 w1 h1 (h2 : Rd w1 v1 (hiU p s j)) => hmac_c v v1 p (hiU p s j) w1 h1 h2 hp (by rw [hiU_len]; omega)
    have hUJ : ∀ j, hmacI p (hiU p s j) = hiU p s (j + 1) := fun j => rfl
    simp only [hUJ] at HMJ
    have HX := fun j w1 => xor_c (hiS p s j) (hiU p s (j + 1)) w1 (hiS_len p s j) (hiU_len p s (j + 1))
    have hXJ : ∀ j, xorI (hiS p s j) (hiU p s (j + 1)) = hiS p s (j + 1) := fun j => rfl
    simp only [hXJ] at HX
    have hS0 : hiS p s 0 = hiU p s 0 := rfl
    have lU := hiU_len p s
    have lS := hiS_len p s
    have nU := fun j => (bvs_length (hiU p s j)).trans (lU j)
    have nS := fun j => (bvs_length (hiS p s j)).trans (lS j)
    have oU := fun j => bvs_one (hiU p s j)
    have oS := fun j => bvs_one (hiS p s j)
    generalize hiU p s = U at *
    generalize hiS p s = S at *
    have q1 : ¬ ((N : Int) + 1 < 1) := by omega
    have q2 : ¬ (4096 < (N : Int) + 1) := by omega
    have q3 : (0 : Int) ≤ N := by omega
    unfold GivesB at HM0 HMJ HX
    go_enter Tryd.func112, Tryd.ntmps112
    have t1 : True := trivial
    go_wp2_with (first
      | (have _t := t1; (with_reducible refine G_alloc ?_; refine L_alloc z32 ?_); intro w1 hk1 hb1 hs1; clear hs1; clear t1; have hp1 := h.below hb1; have hs1 := hs.below hb1; have hz1 := hk1.lt; have t0 : True := trivial)
      | ((at_builtin; refine wpList_app8 rfl _ _ rfl st8 (by with_unfolding_all (conv => lhs; whnf)) (Own8.below ho2 ((Below.refl _ _).alloc (Nat.le_refl _) _)) rfl (Rd.src (Rd.lit _ _ _ [0, 0, 0, 1] rfl rfl (by omega) (by decide)) Tryd.underlying37) (by first | omega | (simp; omega)) (by first | (simp; done) | omega | (simp; omega)) ?_); intro v3 w3 ho3 hg3 hb3; have hw3 := app_step hw2.1 ho2 (Nat.le_succ _) hg3; have hk3 := hw3.2 _ _ _ hk2 (Nat.lt_succ_self _); have hp3 := h.below hw3.1)
      | (have _t := t0; (at_builtin; refine wpList_app8 rfl _ _ rfl st8 (by with_unfolding_all (conv => lhs; whnf)) (Own8.nil w1 (w.heap.size + 1) _) rfl (Rd.src hs1 Tryd.underlying37) (by first | omega | (simp; omega)) (by first | (simp; done) | omega | (simp; omega)) ?_); intro v2 w2 ho2 hg2 hb2; have hw2 := app_step0 hb1 (Own8.nil w1 (w.heap.size + 1) 5) (Nat.le_succ _) hg2; have hk2 := hw2.2 _ _ _ hk1 (Nat.lt_succ_self _); have hz2 := Nat.le_trans hz1 hg2.size; clear t0)
      | (go_at_call 76; refine (HM0 _ _ hp3 ho3.rd).mono ?_; rintro e w4 ⟨rfl, hb4⟩; have hw4 := below_below hw3.1 hb4; have hk4 := hk3.below hb4; have t2 : True := trivial)
      | ((with_reducible refine G_load ?_; refine L_load_agg ag32 (by with_unfolding_all (conv => lhs; whnf)) hk6 (nU 0) ?_))
      | ((with_reducible refine G_store ?_; refine L_store_agg ag32 (by with_unfolding_all (conv => lhs; whnf)) (by with_unfolding_all (conv => lhs; whnf)) hk7 rfl (by simpa using nU 0) (fun u hu => oU 0 u (by simpa using hu)) ?_); intro w8 hk8 hg8 hs8; clear hs8)
      | ((with_reducible refine G_store ?_; refine L_store_agg ag32 (by with_unfolding_all (conv => lhs; whnf)) (by with_unfolding_all (conv => lhs; whnf)) hk5 rfl (by simpa using nU 0) (fun u hu => oU 0 u (by simpa using hu)) ?_); intro w6 hk6 hg6 hs6; clear hs6; have hw6 := (below_below hw4 hb5).grown hg6 (below_below hw4 hb5).size (by intro k hk; cases hk; exact hw4.size); have hk46 := (hk4.below hb5).grown hg6 (by simp; have := hk4.lt; omega); replace hk6 : Blk w6 w4.heap.size _ (bvs (U 0)) := (by simpa using hk6))
      | (have _t := t2; (with_reducible refine G_alloc ?_; refine L_alloc z32 ?_); intro w5 hk5 hb5 hs5; clear hs5; clear t2; have t3 : True := trivial)
      | (have _t := t3; (with_reducible refine G_alloc ?_; refine L_alloc z32 ?_); intro w7 hk7 hb7 hs7; clear hs7; clear t3))
    have hw8 := (below_below hw6 hb7).grown hg8 (below_below hw6 hb7).size (by intro k hk; cases hk; exact hw6.size)
    have hlt := hk4.lt
    have hlt2 := hk6.lt
    have hk68 := (hk6.below hb7).grown hg8 (by simp; omega)
    have hk48 := (hk46.below hb7).grown hg8 (by simp; omega)
    replace hk8 : Blk w8 w6.heap.size 40 (bvs (S 0)) := by rw [hS0]; simpa using hk8
    generalize w6.heap.size = g9 at *
    generalize w4.heap.size = g8 at *
    clear hk1 hb1 hp1 hs1 ho2 hg2 hb2 hw2 hk2 ho3 hg3 hb3 hw3 hk3 hp3 hb4 hw4 hk4 hk5 hb5 hg6 hw6 hk46 hk6 hk7 hb7 hg8 HM0 hU0 hS0 hXJ hUJ hr hbad
    skip
    go_loopw [26] (fun i wr => HiRel w U S N g8 g9 0 i wr) (fun i _ => (N + 2 - intOf i).toNat)
    case atStart => exact ⟨0, _, by omega, rfl, rfl, hk68, hk8, hk48, hw8⟩
    case round =>
      clear hk68 hk8 hk48 hw8
      obtain ⟨j, I, hj, hI, rfl, hk8, hk9, hk4, hbr⟩ := hrel
      by_cases hjn : j < N
      · have hp1 := h.below hbr
        have hR8 := hk8.rd (by rw [lU]; omega) (lU j).symm (lU j).symm
        obtain rfl : I = (j : Int) := by omega
        clear hI
        have q4 : (j : Int) < N := by omega
        have c1 : True := trivial
        go_wp2_with (first
          | (have _t := c1; go_at_call 76; refine (HMJ j _ _ hp1 hR8).mono ?_; rintro e w4 ⟨rfl, hb4⟩; have hw4 := below_below hbr hb4; have hk8a := hk8.below hb4; have hk9a := hk9.below hb4; have hk4a := hk4.below hb4; clear c1; have c2 : True := trivial)
          | (have _t := c2; (with_reducible refine G_store ?_; refine L_store_agg ag32 (by with_unfolding_all (conv => lhs; whnf)) (by with_unfolding_all (conv => lhs; whnf)) hk8a (nU j) (by simpa using nU (j + 1)) (fun u hu => oU (j + 1) u (by simpa using hu)) ?_); intro w5 hk85 hg5 hs5; replace hk85 : Blk w5 g8 40 (bvs (U (j + 1))) := (by simpa using hk85); have hw5 := hw4.grown hg5 hw4.size (by intro k hk; cases hk; omega); have hk95 := hk9a.grown hg5 (by simp; omega); have hk45 := hk4a.grown hg5 (by simp; omega); clear hk8a hg5 hs5; clear c2; have c3 : True := trivial)
          | (have _t := c3; (with_reducible refine G_load ?_; refine L_load_agg ag32 (by with_unfolding_all (conv => lhs; whnf)) hk95 (nS j) ?_); clear c3; have c4 : True := trivial)
          | (have _t := c4; (with_reducible refine G_load ?_; refine L_load_agg ag32 (by with_unfolding_all (conv => lhs; whnf)) hk85 (nU (j + 1)) ?_); clear c4; have c5 : True := trivial)
          | (have _t := c5; go_at_call 139; refine (HX j _).mono ?_; rintro e w6 ⟨rfl, hb6⟩; have hw6 := below_below hw5 hb6; have hk8b := hk85.below hb6; have hk9b := hk95.below hb6; have hk4b := hk45.below hb6; clear c5; have c6 : True := trivial)
          | (have _t := c6; (with_reducible refine G_store ?_; refine L_store_agg ag32 (by with_unfolding_all (conv => lhs; whnf)) (by with_unfolding_all (conv => lhs; whnf)) hk9b (nS j) (by simpa using nS (j + 1)) (fun u hu => oS (j + 1) u (by simpa using hu)) ?_); intro w7 hk97 hg7 hs7))
        refine ⟨⟨j + 1, _, by omega, ?_, rfl, hk8b.grown hg7 (by simp; omega), by simpa using hk97, hk4b.grown hg7 (by simp; omega), hw6.grown hg7 hw6.size (by intro k hk; cases hk; omega)⟩, ?_⟩
        · omega
        · simp only [intOf]; omega
      · have hjN := Go.Lib.hid (show j = N by omega)
        rw [hjN.out] at hk9
        obtain rfl : I = (j : Int) := by omega
        clear hI
        have q4 : ¬ (j : Int) < N := by omega
        go_wp2_with (first
          | ((with_reducible refine G_load ?_; refine L_load_agg ag32 (by with_unfolding_all (conv => lhs; whnf)) hk9 (nS N) ?_))
          | ((with_reducible refine G_store ?_; refine L_store_agg ag32 (by with_unfolding_all (conv => lhs; whnf)) (by with_unfolding_all (conv => lhs; whnf)) hk4 rfl (by simpa using nS N) (fun u hu => oS N u (by simpa using hu)) ?_); intro wz hkz hgz hsz))
        exact ret_agg2 (cs := bvs (S N)) rfl ag32 rfl rfl (by simpa using hkz) (nS N) rfl ⟨rfl, hbr.grown hgz hbr.size (by intro k hk; cases hk; omega)⟩

set_option maxRecDepth 100000 in
set_option maxHeartbeats 1600000 in
theorem refhi_c (v u : Value) (p s : List UInt8) (n : Int) (w : World) (h : Rd w v p) (hs : Rd w u s) (hp : p.length ≤ 1000000) (hsl : s.length ≤ 800000) :
    Calls Tryd.prog 77 #[v, u, .int .i64 n] w (GivesHi w (hiR p s n)) := by
  unfold GivesHi
  by_cases hbad : n < 1 ∨ 4096 < n
  · have hr : hiR p s n = (List.replicate 32 0, 3) := by unfold hiR; rw [if_pos hbad]
    rw [hr]
    have hz : Tryd.prog.built 40 [] = some (bvs (List.replicate 32 0)).toArray := by kernel_rfl
    have nZ : (bvs (List.replicate 32 0)).length = 32 := rfl
    have oZ := bvs_one (List.replicate 32 0)
    go_enter Tryd.func77, Tryd.ntmps77
    rcases hbad with hb | hb
    · have q1 : ¬ (1 : Int) ≤ n := by omega
      go_wp2_with (first | ((with_reducible refine G_alloc ?_; refine L_alloc z32 ?_); intro w1 hk1 hb1 hs1; clear hs1) | (with_reducible refine G_build ?_; refine L_build (bvs (List.replicate 32 0)).toArray (by kernel_rfl) ?_) | ((with_reducible refine G_store ?_; refine L_store_agg ag32 (by with_unfolding_all (conv => lhs; whnf)) (by with_unfolding_all (conv => lhs; whnf)) hk1 rfl (by simpa using nZ) (fun u hu => oZ u (by simpa using hu)) ?_); intro w2 hk2 hg2 hs2))
      exact ret_agg2 (cs := bvs (List.replicate 32 0)) rfl ag32 rfl rfl (by simpa using hk2) rfl rfl ⟨rfl, hb1.grown hg2 hb1.size (by intro k hk; cases hk; exact Nat.le_refl _)⟩
    · have q1 : (1 : Int) ≤ n := by omega
      have q2 : ¬ n < 1 := by omega
      go_wp2_with (first | ((with_reducible refine G_alloc ?_; refine L_alloc z32 ?_); intro w1 hk1 hb1 hs1; clear hs1) | (with_reducible refine G_build ?_; refine L_build (bvs (List.replicate 32 0)).toArray (by kernel_rfl) ?_) | ((with_reducible refine G_store ?_; refine L_store_agg ag32 (by with_unfolding_all (conv => lhs; whnf)) (by with_unfolding_all (conv => lhs; whnf)) hk1 rfl (by simpa using nZ) (fun u hu => oZ u (by simpa using hu)) ?_); intro w2 hk2 hg2 hs2))
      exact ret_agg2 (cs := bvs (List.replicate 32 0)) rfl ag32 rfl rfl (by simpa using hk2) rfl rfl ⟨rfl, hb1.grown hg2 hb1.size (by intro k hk; cases hk; exact Nat.le_refl _)⟩
  · have hr : hiR p s n = (hiS p s (n.toNat - 1), 0) := by unfold hiR; rw [if_neg hbad]
    rw [hr]
    obtain ⟨N, rfl⟩ : ∃ N : Nat, n = (N : Int) + 1 := ⟨(n - 1).toNat, by omega⟩
    have hN : (N : Int) ≤ 4095 := by omega
    rw [show ((N : Int) + 1).toNat - 1 = N by omega]
    have HM0 := fun v1 w1 h1 (h2 : Rd w1 v1 (s ++ [0, 0, 0, 1])) => refhmac_c v v1 p (s ++ [0, 0, 0, 1]) w1 h1 h2 hp (by simp; omega)
    have hU0 : hmacI p (s ++ [0, 0, 0, 1]) = hiU p s 0 := rfl
    rw [hU0] at HM0
    have HMJ := fun j v1 w1 h1 (h2 : Rd w1 v1 (hiU p s j)) => refhmac_c v v1 p (hiU p s j) w1 h1 h2 hp (by rw [hiU_len]; omega)
    have hUJ : ∀ j, hmacI p (hiU p s j) = hiU p s (j + 1) := fun j => rfl
    simp only [hUJ] at HMJ
    have HX := fun j w1 => refxor_c (hiS p s j) (hiU p s (j + 1)) w1 (hiS_len p s j) (hiU_len p s (j + 1))
    have hXJ : ∀ j, xorI (hiS p s j) (hiU p s (j + 1)) = hiS p s (j + 1) := fun j => rfl
    simp only [hXJ] at HX
    have hS0 : hiS p s 0 = hiU p s 0 := rfl
    have lU := hiU_len p s
    have lS := hiS_len p s
    have nU := fun j => (bvs_length (hiU p s j)).trans (lU j)
    have nS := fun j => (bvs_length (hiS p s j)).trans (lS j)
    have oU := fun j => bvs_one (hiU p s j)
    have oS := fun j => bvs_one (hiS p s j)
    generalize hiU p s = U at *
    generalize hiS p s = S at *
    have q1 : ¬ ((N : Int) + 1 < 1) := by omega
    have q2 : ¬ (4096 < (N : Int) + 1) := by omega
    have q3 : (0 : Int) ≤ N := by omega
    unfold GivesB at HM0 HMJ HX
    go_enter Tryd.func77, Tryd.ntmps77
    have t1 : True := trivial
    go_wp2_with (first
      | (have _t := t1; (with_reducible refine G_alloc ?_; refine L_alloc z32 ?_); intro w1 hk1 hb1 hs1; clear hs1; clear t1; have hp1 := h.below hb1; have hs1 := hs.below hb1; have hz1 := hk1.lt; have hs1b := hs1.below ((Below.refl w1.heap.size w1).alloc (Nat.le_refl _) (.cells #[] 5)); have t0 : True := trivial)
      | ((at_builtin; refine wpList_app8 rfl _ _ rfl st8 (by with_unfolding_all (conv => lhs; whnf)) (Own8.below ho2 ((Below.refl _ _).alloc (Nat.le_refl _) _)) rfl (Rd.src (Rd.lit _ _ _ [0, 0, 0, 1] rfl rfl (by omega) (by decide)) Tryd.underlying37) (by first | omega | (simp; omega)) (by first | (simp; done) | omega | (simp; omega)) ?_); intro v3 w3 ho3 hg3 hb3; have hw3 := app_step hw2.1 ho2 (Nat.le_succ _) hg3; have hk3 := hw3.2 _ _ _ hk2 (Nat.lt_succ_self _); have hp3 := h.below hw3.1)
      | (have _t := t0; (at_builtin; refine wpList_app8 rfl _ _ rfl st8 (by with_unfolding_all (conv => lhs; whnf)) (Own8.empty w1 (w.heap.size + 1) _ hz1) rfl (Rd.src hs1b Tryd.underlying37) (by first | omega | (simp; omega)) (by first | (simp; done) | omega | (simp; omega)) ?_); intro v2 w2 ho2 hg2 hb2; have hw2 := app_step0 (below_below hb1 ((Below.refl w1.heap.size w1).alloc (Nat.le_refl _) (.cells #[] 5))) (Own8.empty w1 (w.heap.size + 1) 5 hz1) (Nat.le_succ _) hg2; have hk2 := hw2.2 _ _ _ (hk1.below ((Below.refl w1.heap.size w1).alloc (Nat.le_refl _) (.cells #[] 5))) (Nat.lt_succ_self _); have hz2 := Nat.le_trans hz1 (Nat.le_of_lt (size_app hg2)); clear t0)
      | (go_at_call 78; refine (HM0 _ _ hp3 ho3.rd).mono ?_; rintro e w4 ⟨rfl, hb4⟩; have hw4 := below_below hw3.1 hb4; have hk4 := hk3.below hb4; have t2 : True := trivial)
      | ((with_reducible refine G_load ?_; refine L_load_agg ag32 (by with_unfolding_all (conv => lhs; whnf)) hk6 (nU 0) ?_))
      | ((with_reducible refine G_store ?_; refine L_store_agg ag32 (by with_unfolding_all (conv => lhs; whnf)) (by with_unfolding_all (conv => lhs; whnf)) hk7 rfl (by simpa using nU 0) (fun u hu => oU 0 u (by simpa using hu)) ?_); intro w8 hk8 hg8 hs8; clear hs8)
      | ((with_reducible refine G_store ?_; refine L_store_agg ag32 (by with_unfolding_all (conv => lhs; whnf)) (by with_unfolding_all (conv => lhs; whnf)) hk5 rfl (by simpa using nU 0) (fun u hu => oU 0 u (by simpa using hu)) ?_); intro w6 hk6 hg6 hs6; clear hs6; have hw6 := (below_below hw4 hb5).grown hg6 (below_below hw4 hb5).size (by intro k hk; cases hk; exact hw4.size); have hk46 := (hk4.below hb5).grown hg6 (by simp; have := hk4.lt; omega); replace hk6 : Blk w6 w4.heap.size _ (bvs (U 0)) := (by simpa using hk6))
      | (have _t := t2; (with_reducible refine G_alloc ?_; refine L_alloc z32 ?_); intro w5 hk5 hb5 hs5; clear hs5; clear t2; have t3 : True := trivial)
      | (have _t := t3; (with_reducible refine G_alloc ?_; refine L_alloc z32 ?_); intro w7 hk7 hb7 hs7; clear hs7; clear t3))
    have hw8 := (below_below hw6 hb7).grown hg8 (below_below hw6 hb7).size (by intro k hk; cases hk; exact hw6.size)
    have hlt := hk4.lt
    have hlt2 := hk6.lt
    have hk68 := (hk6.below hb7).grown hg8 (by simp; omega)
    have hk48 := (hk46.below hb7).grown hg8 (by simp; omega)
    replace hk8 : Blk w8 w6.heap.size 40 (bvs (S 0)) := by rw [hS0]; simpa using hk8
    generalize w6.heap.size = g9 at *
    generalize w4.heap.size = g8 at *
    clear hk1 hb1 hp1 hs1 hs1b ho2 hg2 hb2 hw2 hk2 ho3 hg3 hb3 hw3 hk3 hp3 hb4 hw4 hk4 hk5 hb5 hg6 hw6 hk46 hk6 hk7 hb7 hg8 HM0 hU0 hS0 hXJ hUJ hr hbad
    skip
    go_loopw [10] (fun i wr => HiRel w U S N g8 g9 1 i wr) (fun i _ => (N + 2 - intOf i).toNat)
    case atStart => exact ⟨0, _, by omega, rfl, rfl, hk68, hk8, hk48, hw8⟩
    case round =>
      clear hk68 hk8 hk48 hw8
      obtain ⟨j, I, hj, hI, rfl, hk8, hk9, hk4, hbr⟩ := hrel
      by_cases hjn : j < N
      · have hp1 := h.below hbr
        have hR8 := hk8.rd (by rw [lU]; omega) (lU j).symm (lU j).symm
        have q4 : I < (N : Int) + 1 := by omega
        have q5 : 0 ≤ I := by omega
        have c1 : True := trivial
        go_wp2_with (first
          | (have _t := c1; go_at_call 78; refine (HMJ j _ _ hp1 hR8).mono ?_; rintro e w4 ⟨rfl, hb4⟩; have hw4 := below_below hbr hb4; have hk8a := hk8.below hb4; have hk9a := hk9.below hb4; have hk4a := hk4.below hb4; clear c1; have c2 : True := trivial)
          | (have _t := c2; (with_reducible refine G_store ?_; refine L_store_agg ag32 (by with_unfolding_all (conv => lhs; whnf)) (by with_unfolding_all (conv => lhs; whnf)) hk8a (nU j) (by simpa using nU (j + 1)) (fun u hu => oU (j + 1) u (by simpa using hu)) ?_); intro w5 hk85 hg5 hs5; replace hk85 : Blk w5 g8 40 (bvs (U (j + 1))) := (by simpa using hk85); have hw5 := hw4.grown hg5 hw4.size (by intro k hk; cases hk; omega); have hk95 := hk9a.grown hg5 (by simp; omega); have hk45 := hk4a.grown hg5 (by simp; omega); clear hk8a hg5 hs5; clear c2; have c3 : True := trivial)
          | (have _t := c3; (with_reducible refine G_load ?_; refine L_load_agg ag32 (by with_unfolding_all (conv => lhs; whnf)) hk95 (nS j) ?_); clear c3; have c4 : True := trivial)
          | (have _t := c4; (with_reducible refine G_load ?_; refine L_load_agg ag32 (by with_unfolding_all (conv => lhs; whnf)) hk85 (nU (j + 1)) ?_); clear c4; have c5 : True := trivial)
          | (have _t := c5; go_at_call 116; refine (HX j _).mono ?_; rintro e w6 ⟨rfl, hb6⟩; have hw6 := below_below hw5 hb6; have hk8b := hk85.below hb6; have hk9b := hk95.below hb6; have hk4b := hk45.below hb6; clear c5; have c6 : True := trivial)
          | (have _t := c6; (with_reducible refine G_store ?_; refine L_store_agg ag32 (by with_unfolding_all (conv => lhs; whnf)) (by with_unfolding_all (conv => lhs; whnf)) hk9b (nS j) (by simpa using nS (j + 1)) (fun u hu => oS (j + 1) u (by simpa using hu)) ?_); intro w7 hk97 hg7 hs7))
        refine ⟨⟨j + 1, _, by omega, ?_, rfl, hk8b.grown hg7 (by simp; omega), by simpa using hk97, hk4b.grown hg7 (by simp; omega), hw6.grown hg7 hw6.size (by intro k hk; cases hk; omega)⟩, ?_⟩
        · omega
        · simp only [intOf]; omega
      · have hjN := Go.Lib.hid (show j = N by omega)
        rw [hjN.out] at hk9
        have q4 : ¬ I < (N : Int) + 1 := by omega
        go_wp2_with (first
          | ((with_reducible refine G_load ?_; refine L_load_agg ag32 (by with_unfolding_all (conv => lhs; whnf)) hk9 (nS N) ?_))
          | ((with_reducible refine G_store ?_; refine L_store_agg ag32 (by with_unfolding_all (conv => lhs; whnf)) (by with_unfolding_all (conv => lhs; whnf)) hk4 rfl (by simpa using nS N) (fun u hu => oS N u (by simpa using hu)) ?_); intro wz hkz hgz hsz))
        exact ret_agg2 (cs := bvs (S N)) rfl ag32 rfl rfl (by simpa using hkz) (nS N) rfl ⟨rfl, hbr.grown hgz hbr.size (by intro k hk; cases hk; omega)⟩
end Go.Proofs.YtfnlcnjflloecaaDoor
