/- The reference's HMAC: what it answers. -/
import Derived.Test.YtpjpmgpehpigaaaHmac
import Derived.Test.YtpjpmgpehpigaaaRefSha
set_option linter.unusedVariables false
set_option linter.unusedSimpArgs false
namespace Go.Proofs.Ytpjpmgpehpigaaa
open Go.RowKit
def HK (w : World) (kb : List UInt8) (v : Value) (wx : World) : Prop := Own8 wx (w.heap.size + 1) 5 v kb ∧ Blk wx w.heap.size 33 (bvs (List.replicate 32 0)) ∧ Below w.heap.size w wx
def HZ (w : World) (kb : List UInt8) (v : Value) (wr : World) : Prop := ∃ j : Nat, kb.length + j ≤ 64 ∧ HK w (kb ++ List.replicate j 0) v wr
def HX (w : World) (B : Nat) (kk : List UInt8) (vk vi vo i : Value) (wr : World) : Prop :=
  ∃ j : Nat, j ≤ 64 ∧ i = .int .i64 j ∧ B ≤ wr.heap.size ∧ Own8 wr B 5 vi ((kk.take j).map (· ^^^ 0x36)) ∧ Own8 wr B 5 vo ((kk.take j).map (· ^^^ 0x5c)) ∧ (∀ g, vi.ownBlock = some g → vo.ownBlock ≠ some g) ∧
    Rd wr vk kk ∧ Blk wr w.heap.size 33 (bvs (List.replicate 32 0)) ∧ Below w.heap.size w wr
theorem opt_apart {a b : Option Nat} (h : ∀ g, a = some g → b ≠ some g) : b = none ∨ b ≠ a := by
  cases b with
  | none => exact .inl rfl
  | some g => exact .inr fun e => h g e.symm rfl
theorem two_apart {w w3 : World} {B : Nat} {e : TypeId} {vi vo v3 : Value} {lo : List UInt8} {o1 : Obj} (hoo : Own8 w B e vo lo) (hne : ∀ g, vi.ownBlock = some g → vo.ownBlock ≠ some g)
    (hg3 : (w.alloc o1).grownBy w3 vi.ownBlock) (hb3 : v3.ownBlock = vi.ownBlock ∨ v3.ownBlock = some (w.alloc o1).heap.size) : Own8 w3 B e vo lo ∧ (∀ g, v3.ownBlock = some g → vo.ownBlock ≠ some g) := by
  have hA := (Below.refl w.heap.size w).alloc (Nat.le_refl _) o1
  refine ⟨(hoo.below hA).grown hg3 (opt_apart hne), fun g hg hv => ?_⟩
  rcases hb3 with hb | hb
  · exact hne g (by rw [← hb]; exact hg) hv
  · rw [hb] at hg; cases hg
    have := hoo.lt _ hv
    simp at this
    omega
theorem rd_app {w w3 : World} {o : Obj} {row : Option Nat} {v : Value} {l : List UInt8} (h : Rd w v l) (hg : (w.alloc o).grownBy w3 row) (hne : 0 < l.length → v.ownBlock ≠ row) : Rd w3 v l :=
  (h.below ((Below.refl w.heap.size w).alloc (Nat.le_refl _) o)).grown hg hne
theorem size_app {w w3 : World} {o : Obj} {row : Option Nat} (hg : (w.alloc o).grownBy w3 row) : w.heap.size < w3.heap.size := by
  have := hg.size; simp at this; omega
theorem ne_base {w : World} {B g : Nat} {e : TypeId} {u v : Value} {l : List UInt8} (ho : Own8 w B e v l) (hu : u.ownBlock = some g) (hg : g < B) : u.ownBlock ≠ v.ownBlock := fun e => by
  have := ho.base_le g (by rw [← e]; exact hu); omega
theorem take_xor (l : List UInt8) (x : UInt8) (j : Nat) (h : j < l.length) : (l.take (j + 1)).map (· ^^^ x) = (l.take j).map (· ^^^ x) ++ [l.getD j 0 ^^^ x] := by
  rw [List.take_add_one, List.map_append, List.getElem?_eq_getElem h]
  congr 1
  simp [List.getD_eq_getElem?_getD, h]
theorem over_zero (kb : List UInt8) (h : kb.length ≤ 64) : over (List.replicate 64 0) kb = kb ++ List.replicate (64 - kb.length) 0 := by
  unfold over
  rw [List.length_replicate, List.take_of_length_le h, List.drop_replicate]
set_option maxRecDepth 100000 in
set_option maxHeartbeats 1600000 in
theorem refhmac_c (v u : Value) (k m : List UInt8) (w : World) (h : Rd w v k) (hm : Rd w u m) (hk : k.length ≤ 1000000) (hml : m.length ≤ 900000) :
    Calls Try.prog 27 #[v, u] w (GivesB w (hmacI k m)) := by
  have S0 := fun v' w' hv' => refsha_c v' k w' hv' hk
  unfold GivesB at S0
  have nS : (bvs (shaI k)).length = 32 := by rw [bvs_length, shaI_len]
  have oS := bvs_one (shaI k)
  have hsl := shaI_len k
  have hb64 := keyB_len k
  generalize hR : hmacI k m = R
  have hR2 := hR
  unfold hmacI padX at hR
  go_enter Try.func27, Try.ntmps27
  have t1 : True := trivial
  go_upto_if 16 with (first
    | (have _t := t1; (with_reducible refine G_alloc ?_; refine L_alloc z32 ?_); intro wa hka hba hsa; have h1 := (h.below hba).below ((Below.refl wa.heap.size wa).alloc (Nat.le_refl _) (.cells #[] 5)); have hsz : w.heap.size + 1 ≤ wa.heap.size := (by omega); clear hsa; clear t1)
    | (with_reducible refine G_len ?_; refine L8_len Try.underlying23 (by with_unfolding_all (conv => lhs; whnf)) (by assumption) ?_)
    | ((at_builtin; refine wpList_app8 rfl _ _ rfl st8 (by with_unfolding_all (conv => lhs; whnf)) (Own8.empty wa (w.heap.size + 1) _ (by omega)) rfl (Rd.src h1 Try.underlying23) (by first | omega | (simp; omega)) (by first | (simp; done) | omega | (simp; omega)) ?_); intro v1 w1 ho1 hg1 hb1; have hR1 := ho1.rd))
  have hba1 := below_below hba ((Below.refl wa.heap.size wa).alloc (Nat.le_refl _) (.cells #[] 5))
  have hw1 := app_step0 hba1 (Own8.empty wa (w.heap.size + 1) 5 hsz) (by omega) hg1
  have hk1 := hw1.2 _ _ _ (hka.below ((Below.refl wa.heap.size wa).alloc (Nat.le_refl _) (.cells #[] 5))) (by omega)
  have hbw1 := hw1.1
  simp only [List.nil_append] at ho1 hR1 
  clear hba1 hw1 hg1 hb1 hka hba h1 hsz _t h
  go_cut [5] (fun v wx => HK w (keyB k) v wx)
  case first =>
    by_cases hlt : 64 < k.length
    · have hkb : keyB k = shaI k := by unfold keyB; rw [if_pos hlt]
      generalize shaI k = H at *
      go_wp2_with (first
        | (with_reducible refine G_len ?_; refine L8_len Try.underlying23 (by with_unfolding_all (conv => lhs; whnf)) (by assumption) ?_)
        | (go_at_call 23; refine (S0 _ _ hR1).mono ?_; rintro e wb ⟨rfl, hbb⟩; have hbb2 := below_below hbw1 hbb; have hkb1 := hk1.below hbb)
        | ((with_reducible refine G_alloc ?_; refine L_alloc z32 ?_); intro wc hkc hbc hsc; clear hsc)
        | ((with_reducible refine G_store ?_; refine L_store_agg ag32 (by with_unfolding_all (conv => lhs; whnf)) (by with_unfolding_all (conv => lhs; whnf)) hkc rfl (by simpa using nS) (fun u hu => oS u (by simpa using hu)) ?_); intro wd hkd hgd hsd; clear hsd; have hbd := (below_below hbb2 hbc).grown hgd (below_below hbb2 hbc).size (by intro k hk; cases hk; exact hbb2.size); have hkd1 := (hkb1.below hbc).grown hgd (by simp; have := hkb1.lt; omega); replace hkd : Blk wd wb.heap.size _ (bvs H) := (by simpa using hkd); have hRd := (hkd.rd (by omega) hsl.symm hsl.symm).below ((Below.refl wd.heap.size wd).alloc (Nat.le_refl _) (.cells #[] 5)); have hzd : w.heap.size + 1 ≤ wd.heap.size := (by have := hkd1.lt; omega))
        | ((at_builtin; refine wpList_app8 rfl _ _ rfl st8 (by with_unfolding_all (conv => lhs; whnf)) (Own8.empty wd (w.heap.size + 1) _ hzd) rfl (Rd.src hRd Try.underlying23) (by first | omega | (simp; omega)) (by first | (simp; done) | omega | (simp; omega)) ?_); intro v2 w2 ho2 hg2 hb2))
      all_goals go_meet
      have hba1 := below_below hbd ((Below.refl wd.heap.size wd).alloc (Nat.le_refl _) (.cells #[] 5))
      have hw2 := app_step0 hba1 (Own8.empty wd (w.heap.size + 1) 5 hzd) (by omega) hg2
      exact ⟨by rw [hkb]; simpa using ho2, hw2.2 _ _ _ (hkd1.below ((Below.refl wd.heap.size wd).alloc (Nat.le_refl _) (.cells #[] 5))) (by omega), hw2.1⟩
    · have hkb : keyB k = k := by unfold keyB; rw [if_neg hlt]
      go_wp2_with (first | (with_reducible refine G_len ?_; refine L8_len Try.underlying23 (by with_unfolding_all (conv => lhs; whnf)) (by assumption) ?_))
      all_goals go_meet
      exact ⟨by rw [hkb]; exact ho1, hk1, hbw1⟩
  case rest =>
  obtain ⟨ho, hk4, hbw⟩ := hcut
  clear S0 nS oS hsl ho1 hk1 hbw1 hR1
  have hov := over_zero (keyB k) hb64
  rw [hov] at hR
  generalize keyB k = kb at *
  go_wp2_with fail
  go_loopw [5] (fun v wr => HZ w kb v wr) (fun v _ => 64 - slen v)
  case atStart => exact ⟨0, by omega, by simpa using ho, hk4, hbw⟩
  case round =>
    clear ho hk4 hbw
    obtain ⟨j, hj, ho, hk4, hbr⟩ := hrel
    have hRd := ho.rd
    have hln : (kb ++ List.replicate j 0).length = kb.length + j := by simp
    have hbs := hk4.lt
    by_cases hlt : kb.length + j < 64
    · go_wp2_with (first | ((with_reducible refine G_len ?_; refine L8_len Try.underlying23 (by with_unfolding_all (conv => lhs; whnf)) (by assumption) ?_); rw [hln]) | ((at_builtin; refine wpList_app8 rfl _ _ rfl st8 (by with_unfolding_all (conv => lhs; whnf)) (Own8.below ho ((Below.refl _ _).alloc (Nat.le_refl _) _)) rfl (Rd.src (Rd.lit _ _ _ [0] rfl rfl (by omega) (by decide)) Try.underlying23) (by first | omega | (simp; omega)) (by first | (simp; done) | omega | (simp; omega)) ?_); intro v3 w3 ho3 hg3 hb3))
      have hw := app_step hbr ho (by omega) hg3
      have e : kb ++ List.replicate j 0 ++ [0] = kb ++ List.replicate (j + 1) 0 := by rw [List.replicate_succ' (n := j)]; simp
      rw [e] at ho3
      refine ⟨⟨j + 1, by omega, ho3, hw.2 _ _ _ hk4 (by omega), hw.1⟩, ?_⟩
      show 64 - slen v3 < 64 - slen _
      rw [hRd.slen, ho3.rd.slen]; simp; omega
    · obtain rfl : j = 64 - kb.length := by omega
      generalize hkk : kb ++ List.replicate (64 - kb.length) 0 = kk at *
      have hl64 : kk.length = 64 := by omega
      go_wp2_with (first | ((with_reducible refine G_len ?_; refine L8_len Try.underlying23 (by with_unfolding_all (conv => lhs; whnf)) (by assumption) ?_); rw [hln]))
      obtain ⟨gk, ck, huk, _, hgk⟩ := ho.open (by omega)
      have hu5 : u5.ownBlock = some gk := by rw [huk]; rfl
      clear huk hln hlt hj ho hov hkk hb64
      have hB := Nat.le_refl wr.heap.size
      have hmr := hm.below hbr
      generalize hBB : wr.heap.size = B at hbs hgk
      go_loopw [7, 8, 9] (fun vi vo i wr' => HX w B kk u5 vi vo i wr') (fun _ _ i _ => 64 - (intOf i).toNat)
      case atStart => exact ⟨0, by omega, rfl, by omega, by simpa using Own8.nil wr B _, by simpa using Own8.nil wr B _, (by intro g h; cases h), hRd, hk4, hbr⟩
      case round =>
        clear hRd hk4 hbr hB hmr
        obtain ⟨j, hj, rfl, hB, hoi, hoo, hne, hRk, hk4, hbr⟩ := hrel
        by_cases hlt : j < 64
        · have q1 := bt_lo kk j
          have q2 := bt_hi kk j
          have hX1 := Go.Lib.hid (show bits .xor .u8 (bt kk j) 54 = ((kk.getD j 0 ^^^ 0x36).toNat : Int) by unfold bt; exact xor8_u8 _ 0x36)
          have hX2 := Go.Lib.hid (show bits .xor .u8 (bt kk j) 92 = ((kk.getD j 0 ^^^ 0x5c).toNat : Int) by unfold bt; exact xor8_u8 _ 0x5c)
          have hT1 := Go.Lib.hid (take_xor kk 0x36 j (by omega))
          have hT2 := Go.Lib.hid (take_xor kk 0x5c j (by omega))
          have hl1 : ((kk.take j).map (· ^^^ (0x36 : UInt8))).length ≤ 64 := by simp; omega
          have hl2 : ((kk.take j).map (· ^^^ (0x5c : UInt8))).length ≤ 64 := by simp; omega
          generalize (kk.take j).map (· ^^^ (0x36 : UInt8)) = li at *
          generalize (kk.take j).map (· ^^^ (0x5c : UInt8)) = lo at *
          go_wp2_with (first
            | ((with_reducible refine G_index ?_; refine L8_index st8 (i := j) (by with_unfolding_all (conv => lhs; whnf)) (by assumption) (by with_unfolding_all (conv => lhs; whnf)) (by omega) (by omega) ?_); intro blk off hbo hcl)
            | ((at_builtin; refine wpList_app8 rfl _ _ rfl st8 (by with_unfolding_all (conv => lhs; whnf)) (Own8.below hoi ((Below.refl _ _).alloc (Nat.le_refl _) _)) rfl (Rd.src (Rd.lit _ _ _ [kk.getD j 0 ^^^ 0x36] (by rw [hX1.out]; rfl) rfl (by omega) (by decide)) Try.underlying23) (by first | omega | (simp; omega)) (by first | (simp; done) | omega | (simp; omega)) ?_); intro v3 w3 ho3 hg3 hb3;
                have hT := two_apart hoo hne hg3 hb3; have hB3 : B ≤ w3.heap.size := (Nat.le_trans hB (Nat.le_of_lt (size_app hg3)));
                have hRk3 := rd_app hRk hg3 (fun _ => ne_base hoi hu5 hgk))
            | ((at_builtin; refine wpList_app8 rfl _ _ rfl st8 (by with_unfolding_all (conv => lhs; whnf)) (Own8.below hT.1 ((Below.refl _ _).alloc (Nat.le_refl _) _)) rfl (Rd.src (Rd.lit _ _ _ [kk.getD j 0 ^^^ 0x5c] (by rw [hX2.out]; rfl) rfl (by omega) (by decide)) Try.underlying23) (by first | omega | (simp; omega)) (by first | (simp; done) | omega | (simp; omega)) ?_); intro v4 w4 ho4 hg4 hb4))
          have hwB : w.heap.size ≤ B := by omega
          have hw3 := app_step hbr hoi hwB hg3
          have hw4 := app_step hw3.1 hT.1 hwB hg4
          have hTT := two_apart (vi := u8) (vo := v3) ho3 (fun g h1 h2 => hT.2 g h2 h1) hg4 hb4
          refine ⟨⟨j + 1, by omega, by go_num, Nat.le_trans hB3 (Nat.le_of_lt (size_app hg4)), by rw [hT1.out]; exact hTT.1, by rw [hT2.out]; exact ho4, fun g h1 h2 => hTT.2 g h2 h1, rd_app hRk3 hg4 (fun _ => ne_base hT.1 hu5 hgk), hw4.2 _ _ _ (hw3.2 _ _ _ hk4 hbs) hbs, hw4.1⟩, by simp [intOf]; omega⟩
        · obtain rfl : j = 64 := by omega
          rw [List.take_of_length_le (by omega)] at hoi hoo
          have hmr := hm.below hbr
          have li : (kk.map (· ^^^ (0x36 : UInt8))).length = 64 := by simp; omega
          have lo : (kk.map (· ^^^ (0x5c : UInt8))).length = 64 := by simp; omega
          generalize kk.map (· ^^^ (0x36 : UInt8)) = X at *
          generalize kk.map (· ^^^ (0x5c : UInt8)) = Y at *
          have S1 := fun v' w' hv' => refsha_c v' (X ++ m) w' hv' (by simp; omega)
          have n1 := shaI_len (X ++ m)
          generalize shaI (X ++ m) = H at *
          have S2 := fun v' w' hv' => refsha_c v' (Y ++ H) w' hv' (by simp; omega)
          have n2 := shaI_len (Y ++ H)
          rw [hR] at S2 n2
          unfold GivesB at S1 S2
          have nH : (bvs H).length = 32 := by rw [bvs_length]; exact n1
          have oH := bvs_one H
          have nR : (bvs R).length = 32 := by rw [bvs_length]; exact n2
          have oR := bvs_one R
          have hwB : w.heap.size ≤ B := by omega
          clear hRk hu5 hgk hm hR
          go_wp2_with (first
            | ((at_builtin; refine wpList_app8 rfl _ _ rfl st8 (by with_unfolding_all (conv => lhs; whnf)) hoi rfl (Rd.src hmr Try.underlying23) (by first | omega | (simp; omega)) (by first | (simp; done) | omega | (simp; omega)) ?_); intro v3 w3 ho3 hg3 hb3; have hw3 := app_step0 hbr hoi hwB hg3; have hk3 := hw3.2 _ _ _ hk4 hbs; have hoo3 := hoo.grown hg3 (opt_apart hne); have hB3 := Nat.le_trans hB hg3.size)
            | (go_at_call 23; refine (S2 _ _ ho8.rd).mono ?_; rintro e w9 ⟨rfl, hb9⟩; have hw9 := below_below hw8.1 hb9; have hk9 := hk8.below hb9)
            | (go_at_call 23; refine (S1 _ _ ho3.rd).mono ?_; rintro e w5 ⟨rfl, hb5⟩; have hw5 := below_below hw3.1 hb5; have hk5 := hk3.below hb5; have hoo5 := hoo3.below hb5)
            | ((with_reducible refine G_alloc ?_; refine L_alloc z32 ?_); intro w6 hk6 hb6 hs6; clear hs6)
            | ((with_reducible refine G_store ?_; refine L_store_agg ag32 (by with_unfolding_all (conv => lhs; whnf)) (by with_unfolding_all (conv => lhs; whnf)) hk9 rfl (by simpa using nR) (fun u hu => oR u (by simpa using hu)) ?_); intro wz hkz hgz hsz)
            | ((with_reducible refine G_store ?_; refine L_store_agg ag32 (by with_unfolding_all (conv => lhs; whnf)) (by with_unfolding_all (conv => lhs; whnf)) hk6 rfl (by simpa using nH) (fun u hu => oH u (by simpa using hu)) ?_); intro w7 hk7 hg7 hs7; clear hs7; replace hk7 : Blk w7 w5.heap.size _ (bvs H) := (by simpa using hk7); have hb7 := (below_below hw5 hb6).grown hg7 (below_below hw5 hb6).size (by intro k hk; cases hk; exact hw5.size); have hk47 := (hk5.below hb6).grown hg7 (by simp; have := hk5.lt; omega); have hoo7 := (hoo5.below hb6).grown hg7 (.inr (fun e => by have := hoo5.lt _ e; omega)); have hR7 := hk7.rd (by omega) n1.symm n1.symm; have hB7 := hk7.lt; have hB5 := hb5.size)
            | ((at_builtin; refine wpList_app8 rfl _ _ rfl st8 (by with_unfolding_all (conv => lhs; whnf)) hoo7 rfl (Rd.src hR7 Try.underlying23) (by first | omega | (simp; omega)) (by first | (simp; done) | omega | (simp; omega)) ?_); intro v8 w8 ho8 hg8 hb8; have hw8 := app_step0 hb7 hoo7 hwB hg8; have hk8 := hw8.2 _ _ _ hk47 hbs))
          exact ret_agg (cs := bvs R) rfl ag32 rfl rfl (by simpa using hkz) nR ⟨rfl, hw9.grown hgz hw9.size (by intro k hk; cases hk; omega)⟩
end Go.Proofs.Ytpjpmgpehpigaaa
