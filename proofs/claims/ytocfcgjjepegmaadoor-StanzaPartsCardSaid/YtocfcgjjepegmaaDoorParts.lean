/- StanzaParts. -/
import Derived.Test.YtocfcgjjepegmaaDoorPartsP
import Derived.Test.YtocfcgjjepegmaaDoorStz4
import Derived.Deep.MidRow
set_option linter.unusedVariables false
set_option linter.unusedSimpArgs false
namespace Go.Proofs.YtocfcgjjepegmaaDoor
open Go.RowKit
theorem alloc_sz (w : World) (o : Obj) : (w.alloc o).heap.size = w.heap.size + 1 := by simp
def vlP (n : Nat) (u : Value) : Value := if n = 4 then u else .slice none 0 0
def allC (u : Value) : List Value := stzCells (stzP 0 0 0) (.slice none 0 0) ++ (stzCells (stzP 0 0 1) (.slice none 0 0) ++ (stzCells (stzP 0 0 2) (.slice none 0 0) ++ (stzCells (stzP 0 0 3) (.slice none 0 0) ++ (stzCells (stzP 0 0 4) u ++ (stzCells (stzP 0 0 5) (.slice none 0 0) ++ stzCells (stzP 0 0 6) (.slice none 0 0))))))
def WpRel (w : World) (G8 Gu : Nat) (i : Value) (wr : World) : Prop :=
  ∃ n : Nat, n ≤ 7 ∧ i = .int .i64 (n : Int) ∧ Blk wr G8 26 (allC (.slice (some ⟨Gu, 0, none⟩) 1 1)) ∧ RdT wr (.slice (some ⟨Gu, 0, none⟩) 1 1) [[]] ∧ Below w.heap.size w wr
theorem all_get (u : Value) (n : Nat) (hn : n < 7) (j : Nat) (v : Value) (h : (stzCells (stzP 0 0 n) (vlP n u))[j]? = some v) : (allC u)[8 * n + j]? = some v := by
  have hj : j < 8 := by have := (List.getElem?_eq_some_iff.1 h).1; simpa [stzCells] using this
  rcases (by omega : n = 0 ∨ n = 1 ∨ n = 2 ∨ n = 3 ∨ n = 4 ∨ n = 5 ∨ n = 6) with rfl | rfl | rfl | rfl | rfl | rfl | rfl <;>
    rcases (by omega : j = 0 ∨ j = 1 ∨ j = 2 ∨ j = 3 ∨ j = 4 ∨ j = 5 ∨ j = 6 ∨ j = 7) with rfl | rfl | rfl | rfl | rfl | rfl | rfl | rfl <;> exact h
def hasP (p : List UInt8) (n m : Nat) : Bool := decide (n = 0) || (p.take m).any (· == letB.getD n 0)
theorem u8_beq (c d : UInt8) : ((c.toNat : Int) == (d.toNat : Int)) = (c == d) := by
  by_cases h : c = d
  · subst h; simp
  · have h2 : ¬ c.toNat = d.toNat := fun e => h (UInt8.toNat_inj.1 e)
    rw [beq_eq_false_iff_ne.2 h, beq_eq_false_iff_ne]
    omega
theorem parts_len (K : Nat) (hK : K < 60) : (partsB K).length ≤ 100 := by
  have h : ∀ K : Fin 60, (partsB K.val).length ≤ 100 := by decide +kernel
  exact h ⟨K, hK⟩
theorem hasP_succ (p : List UInt8) (n m : Nat) (h : m < p.length) : hasP p n (m + 1) = (hasP p n m || p.getD m 0 == letB.getD n 0) := by
  unfold hasP
  rw [List.take_succ_eq_append_getElem h, List.any_append]
  simp [List.getD_eq_getElem?_getD, List.getElem?_eq_getElem h, Bool.or_assoc]
def WhRel (n : Nat) (p : List UInt8) (W : World) (has j : Value) (wr : World) : Prop :=
  ∃ m : Nat, m ≤ p.length ∧ j = .int .i64 (m : Int) ∧ has = .bool (hasP p n m) ∧ Below W.heap.size W wr
/-- The n-th stanza's parts. -/
theorem stzP_parts (n : Nat) (hn : n < 7) (A0 : Option Addr) : ∃ a b t l nn ff A nv, (∀ K idn : Nat, stzP K idn n = ⟨K, idn, a, b, t, l, nn, ff⟩) ∧ vlP n (.slice A0 1 1) = .slice A nv nv ∧
    (∀ W, RdT W (.slice A0 1 1) [[]] → RdT W (.slice A nv nv) l) ∧ (∀ K idn : Nat, idn < 18446744073709551616 → StzOk ⟨K, idn, a, b, t, l, nn, ff⟩) := by
  rcases (by omega : n = 0 ∨ n = 1 ∨ n = 2 ∨ n = 3 ∨ n = 4 ∨ n = 5 ∨ n = 6) with rfl | rfl | rfl | rfl | rfl | rfl | rfl
  · exact ⟨_, _, _, _, _, _, none, 0, fun _ _ => rfl, rfl, fun W _ => RdT.nil W, fun K idn h => ⟨by simp, by simp, by simp, by simp, by simp, h, by simp, by simp⟩⟩
  · exact ⟨_, _, _, _, _, _, none, 0, fun _ _ => rfl, rfl, fun W _ => RdT.nil W, fun K idn h => ⟨by simp, by simp, by simp, by simp, by simp, h, by simp, by simp⟩⟩
  · exact ⟨_, _, _, _, _, _, none, 0, fun _ _ => rfl, rfl, fun W _ => RdT.nil W, fun K idn h => ⟨by simp, by simp, by simp, by simp, by simp, h, by simp, by simp⟩⟩
  · exact ⟨_, _, _, _, _, _, none, 0, fun _ _ => rfl, rfl, fun W _ => RdT.nil W, fun K idn h => ⟨by simp, by simp, by simp, by simp, by simp, h, by simp, by simp⟩⟩
  · exact ⟨_, _, _, _, _, _, A0, 1, fun _ _ => rfl, rfl, fun W h => h, fun K idn h => ⟨by simp, by simp, by simp, by simp, by simp, h, by simp, by simp⟩⟩
  · exact ⟨_, _, _, _, _, _, none, 0, fun _ _ => rfl, rfl, fun W _ => RdT.nil W, fun K idn h => ⟨by simp, by simp, by simp, by simp, by simp, h, by simp, by simp⟩⟩
  · exact ⟨_, _, _, _, _, _, none, 0, fun _ _ => rfl, rfl, fun W _ => RdT.nil W, fun K idn h => ⟨by simp, by simp, by simp, by simp, by simp, h, by simp, by simp⟩⟩
set_option maxRecDepth 100000 in
set_option maxHeartbeats 6400000 in
theorem stanzaParts_w (w : World) (hT : Tabs w) (k : Int) (hk : -9223372036854775808 ≤ k ∧ k ≤ 9223372036854775807) (i : Int) (hi : 0 ≤ i ∧ i < 18446744073709551616) :
    Calls Tryd.prog 7 #[.int .i64 k, .int .u64 i] w (Ok w) := by
  obtain ⟨idn, rfl⟩ := Int.eq_ofNat_of_zero_le hi.1
  go_enter Tryd.func7, Tryd.ntmps7
  go_upto_region 2 with fail
  have hK0 : ∃ K : Nat, K < 60 ∧ (wrap64 (k.tmod 60 + 60)).tmod 60 = (K : Int) := by
    have h1 : -60 < k.tmod 60 := Int.lt_tmod_of_pos k (by omega)
    have h2 : k.tmod 60 < 60 := Int.tmod_lt_of_pos k (by omega)
    generalize k.tmod 60 = a at *
    have e : wrap64 (a + 60) = a + 60 := by unfold wrap64; omega
    rw [e, Int.tmod_eq_emod_of_nonneg (by omega)]
    exact ⟨((a + 60) % 60).toNat, by omega, by omega⟩
  obtain ⟨K, hK, hKe⟩ := hK0
  rw [hKe]
  generalize wrap64 (k.tmod 60 + 60) = kk at *
  generalize k.tmod 60 = km at *
  clear hKe
  go_upto_region 3 with fail
  change Code.wp Tryd.prog _ _ _ (w.alloc (.cells (svs tabL).toArray 9))
  have hk6 := Blk.new w 9 (svs tabL)
  have hbW := (Below.refl w.heap.size w).alloc (Nat.le_refl _) (.cells (svs tabL).toArray 9)
  generalize w.alloc (.cells (svs tabL).toArray 9) = W1 at *
  go_upto_region 4 with fail
  go_cut [27] from 20 (fun c wc => c = .bool (decide (0 < K ∧ K < 47)) ∧ wc = W1)
  case first =>
    by_cases h0 : 0 < K
    · have q1 : (0 : Int) < (K : Int) := by omega
      by_cases h1 : K < 47
      · have q2 : (K : Int) < 47 := by omega
        go_wp2_with fail
        go_meet
        case rel => exact ⟨congrArg Value.bool (decide_eq_true (p := 0 < K ∧ K < 47) ⟨h0, h1⟩).symm, rfl⟩
      · have q2 : ¬ (K : Int) < 47 := by omega
        have q3 : decide ((K : Int) < 47) = false := decide_eq_false q2
        go_wp2_with fail
        go_meet
        case rel => exact ⟨congrArg Value.bool (decide_eq_false (p := 0 < K ∧ K < 47) (fun h => h1 h.2)).symm, rfl⟩
    · obtain rfl : K = 0 := by omega
      go_wp2_with fail
      go_meet
      case rel => exact ⟨rfl, rfl⟩
  case rest =>
  obtain ⟨rfl, e1⟩ := hcut
  subst e1
  obtain ⟨W1, e2⟩ : ∃ W1, W1 = wc := ⟨_, rfl⟩
  subst e2
  go_upto_if 27 with fail
  go_cut [7] from 15 (fun s7 wc => s7 = .string (strB (partsB K)) ∧ wc = W1)
  case first =>
    by_cases hin : 0 < K ∧ K < 47
    · rw [decide_eq_true hin]
      have q1 : (0 : Int) ≤ (K : Int) := by omega
      have q2 : (K : Int) < 47 := by omega
      have hp : partsB K = tabL.getD K [] := by unfold partsB; rw [if_pos hin]
      have hlen : K < tabL.length := by show K < 47; omega
      have cK : W1.cell? ⟨w.heap.size, K, none⟩ = some (.string (strB (partsB K))) := by
        rw [hk6.cell K, svs_get tabL K hlen, hp]
        simp [List.getD_eq_getElem?_getD, List.getElem?_eq_getElem hlen]
      clear hp hlen hin
      go_wp2_with fail
      go_meet
      case rel => exact ⟨rfl, rfl⟩
    · rw [decide_eq_false hin]
      have hp : partsB K = [45] := by unfold partsB; rw [if_neg hin]
      clear hin
      go_wp2_with fail
      go_meet
      case rel => exact ⟨by rw [hp]; rfl, rfl⟩
  case rest =>
  obtain ⟨rfl, e1⟩ := hcut
  subst e1
  obtain ⟨W1, e2⟩ : ∃ W1, W1 = wc := ⟨_, rfl⟩
  subst e2
  go_upto_region 8 with fail
  change Code.wp Tryd.prog _ _ _ ((W1.alloc (.cells (svs [[]]).toArray 9)).alloc (.cells (allC (.slice (some ⟨W1.heap.size, 0, none⟩) 1 1)).toArray 26))
  have hz1 := alloc_sz W1 (.cells (svs [[]]).toArray 9)
  have hb1 := (Below.refl W1.heap.size W1).alloc (Nat.le_refl _) (.cells (svs [[]]).toArray 9)
  have hu : RdT (W1.alloc (.cells (svs [[]]).toArray 9)) (.slice (some ⟨W1.heap.size, 0, none⟩) 1 1) [[]] := rdT_one W1 (0, 0) []
  have hk8 := Blk.new (W1.alloc (.cells (svs [[]]).toArray 9)) 26 (allC (.slice (some ⟨W1.heap.size, 0, none⟩) 1 1))
  have hb2 := (Below.refl (W1.alloc (.cells (svs [[]]).toArray 9)).heap.size (W1.alloc (.cells (svs [[]]).toArray 9))).alloc (Nat.le_refl _) (.cells (allC (.slice (some ⟨W1.heap.size, 0, none⟩) 1 1)).toArray 26)
  rw [hz1] at hk8
  replace hu := hu.below hb2
  have hbX := below_below hbW (below_below hb1 hb2)
  generalize (W1.alloc (.cells (svs [[]]).toArray 9)).alloc (.cells (allC (.slice (some ⟨W1.heap.size, 0, none⟩) 1 1)).toArray 26) = W3 at *
  clear hb1 hb2 hz1 hbW hk6
  generalize W1.heap.size + 1 = G8 at *
  generalize W1.heap.size = Gu at *
  have hsf := fun (W : World) (a : Addr) (x : Nat) m => run_store Tryd.prog W a (.float .f64 x) m rfl
  have hpl := Go.Lib.hid (parts_len K hK)
  have hidn : idn < 18446744073709551616 := by omega
  have hCP := fun n (hn : n < 7) => check_p K n idn hK hn
  have hEP : ∀ n, errP K n = if partsB K = [45] then 3 else if hasP (partsB K) n (partsB K).length = true then 0 else 2 := fun _ => rfl
  replace hCP := Go.Lib.hid hCP
  replace hEP := Go.Lib.hid hEP
  generalize hP : partsB K = p at *
  clear hP
  go_wp2_with fail
  obtain ⟨LB, hLB⟩ : ∃ LB : ByteArray, LB = (⟨#[32, 65, 66, 84, 76, 78, 70]⟩ : ByteArray) := ⟨_, rfl⟩
  rw [← hLB]
  have hLz : LB.size = 7 := by rw [hLB]; rfl
  have hLg : ∀ n (h : n < LB.size), LB[n]'h = letB.getD n 0 := by
    subst hLB
    intro n h
    have h' : n < letB.length := h
    rw [List.getD_eq_getElem?_getD, List.getElem?_eq_getElem h']; rfl
  clear hLB
  replace hLz := Go.Lib.hid hLz
  replace hLg := Go.Lib.hid hLg
  go_loopw [10] (WpRel w G8 Gu) (fun i _ => 7 - (intOf i).toNat)
  case atStart => exact ⟨0, by omega, rfl, hk8, hu, hbX⟩
  clear hk8 hu hbX
  case round =>
    obtain ⟨n, hn, rfl, hk8, hu, hbX⟩ := hrel
    by_cases h7 : n < 7
    · have q1 : (n : Int) < 7 := by omega
      obtain ⟨a, b, t, l, nn, ff, A, nv, hsP, hvP, hlP, hoP⟩ := stzP_parts n h7 (some ⟨Gu, 0, none⟩)
      have hm0 : wr.rangeAt G8 (n * 8) (stzCells (stzP 0 0 n) (vlP n (.slice (some ⟨Gu, 0, none⟩) 1 1))) := fun j v hv => (hk8.cell (n * 8 + j)).trans (by rw [Nat.mul_comm]; exact all_get (.slice (some ⟨Gu, 0, none⟩) 1 1) n h7 j v hv)
      rw [hsP, hvP] at hm0
      have hm : wr.rangeAt G8 (n * 8) [.int .i64 0, .int .u64 0, .string (strB a), .string (strB b), .string (strB t), .slice A nv nv, .int .i64 nn, .float .f64 ff] := hm0
      clear hm0
      replace hlP := Go.Lib.hid hlP
      replace hoP := Go.Lib.hid (hoP K idn hidn)
      have hCn := Go.Lib.hid (hCP.out n h7)
      rw [hsP K idn] at hCn
      replace hvP := Go.Lib.hid hvP
      replace hsP := Go.Lib.hid hsP
      have a00 : True := trivial
      go_upto_region 12 with (first
        | (have _t := a00; (refine wpList_load_mid rfl 26 _ rfl G8 (n * 8) (by with_unfolding_all (conv => lhs; whnf)) [.int .i64 0, .int .u64 0, .string (strB a), .string (strB b), .string (strB t), .slice A nv nv, .int .i64 nn, .float .f64 ff] _ hm Tryd.underlying26 rfl (by rw [agS.size]; rfl) ?_); clear a00; have a01 : True := trivial))
      have hk11 := Blk.new wr 26 [.int .i64 0, .int .u64 0, .string (strB a), .string (strB b), .string (strB t), .slice A nv nv, .int .i64 nn, .float .f64 ff]
      have hbA := (Below.refl wr.heap.size wr).alloc (Nat.le_refl _) (.cells #[.int .i64 0, .int .u64 0, .string (strB a), .string (strB b), .string (strB t), .slice A nv nv, .int .i64 nn, .float .f64 ff] 26)
      have hbS := below_set (below_set hbA wr.heap.size 0 (.int .i64 (K : Int)) (Nat.le_refl _) hbA.size) wr.heap.size 1 (.int .u64 (idn : Int)) (Nat.le_refl _) (by have := hbA.size; simp [World.setCell])
      generalize wr.alloc (.cells #[.int .i64 0, .int .u64 0, .string (strB a), .string (strB b), .string (strB t), .slice A nv nv, .int .i64 nn, .float .f64 ff] 26) = W4 at *
      have hk11b := hk11.stored 0 (.int .i64 (K : Int))
      have hk7 : Blk ((W4.setCell ⟨wr.heap.size, 0, none⟩ (.int .i64 (K : Int))).setCell ⟨wr.heap.size, 1, none⟩ (.int .u64 (idn : Int))) wr.heap.size 26 (stzCells ⟨K, idn, a, b, t, l, nn, ff⟩ (.slice A nv nv)) := hk11b.stored 1 (.int .u64 (idn : Int))
      have d0 : _ = some _ := hk11.cell 0
      have z0 := hk11.frozen 0
      have d1 : _ = some _ := hk11b.cell 1
      have z1 := hk11b.frozen 1
      replace hk8 := hk8.below hbS
      replace hu := hu.below hbS
      have hlr : RdT _ (.slice A nv nv) l := hlP.out _ hu
      replace hbX := below_below hbX hbS
      clear hbS hbA hm
      generalize wr.heap.size = G11 at *
      go_upto_region 13 with fail
      clear d0 z0 d1 z1 hk11 hk11b
      generalize (W4.setCell ⟨G11, 0, none⟩ (.int .i64 (K : Int))).setCell ⟨G11, 1, none⟩ (.int .u64 (idn : Int)) = W5 at *
      go_wp2_with fail
      have h0 : ((n : Int) == 0) = hasP p n 0 := by
        unfold hasP
        rw [Bool.eq_iff_iff]
        simp
      rw [h0]
      clear h0
      go_loopw [12, 13] (WhRel n p W5) (fun _ j _ => p.length - (intOf j).toNat)
      case atStart => exact ⟨0, by omega, rfl, rfl, Below.refl _ _⟩
      case round =>
        obtain ⟨m, hmp, rfl, rfl, hbI⟩ := hrel
        obtain ⟨w6, e6⟩ : ∃ w6, w6 = wr := ⟨_, rfl⟩
        subst e6
        have hsz := strB_size p
        have hpl' := hpl.out
        have hgetS : ∀ k (hk : k < (strB p).size), ((strB p)[k]'hk) = p.getD k 0 := fun k hk => by
          rw [List.getD_eq_getElem?_getD, List.getElem?_eq_getElem (by omega)]; rfl
        by_cases hlt : m < p.length
        · have q2 : (m : Int) < p.length := by omega
          have hjS : m < (strB p).size := by omega
          have hcS : (strB p)[m]'hjS = p.getD m 0 := hgetS m hjS
          have hjL : n < LB.size := by rw [hLz.out]; exact h7
          have hcL := hLg.out n hjL
          have hsu := hasP_succ p n m hlt
          obtain ⟨c, hc⟩ : ∃ c, c = p.getD m 0 := ⟨_, rfl⟩
          obtain ⟨d, hd⟩ : ∃ d, d = letB.getD n 0 := ⟨_, rfl⟩
          rw [← hc] at hcS hsu
          rw [← hd] at hcL hsu
          have hub := u8_beq c d
          generalize hcd : (c == d) = cd at hsu hub
          clear hgetS hc hd
          replace hsu := Go.Lib.hid hsu
          generalize strB p = S at *
          go_upto_region 17 with fail
          have hend : ∀ wg, Below w6.drew.heap.size w6.drew wg → Below W5.heap.size W5 wg := fun wg h => hbI.drew.trans (h.mono hbI.size)
          cases hb : hasP p n m
          · rw [hb] at hsu
            refine (region_still (by kernel_rfl) (by kernel_rfl) ?_)
            iterate 11 (refine wpStill_step (fun K hK => ?_); go_simp; (try go_bits); refine hK _ ?_; clear hK K)
            refine wpStill_nil ?_
            have hbE := hend w6.drew (Below.refl _ _)
            go_wp2_with fail
            exact ⟨⟨m + 1, by omega, by go_num, by rw [hsu.out]; rfl, hbE⟩, by simp [intOf]; omega⟩
          · rw [hb] at hsu
            (refine region_making 11 (fun _ => []) (fun _ => none) (by kernel_rfl) (by kernel_rfl) ?_ ?_; (focus (intro i' S' h' e v'; cases h')); simp only [List.take_succ_cons, List.take_zero, List.drop_succ_cons, List.drop_zero])
            (apply wpG_pure; (focus rfl); (focus (intro wg Bg hbg hBg hFg; go_simp; (try go_bits); (first | done | exact ⟨rfl, Below.refl _ _⟩ | rfl))); simp only [Act.put, List.setIfInBounds_toArray, List.set_cons_succ, List.set_cons_zero])
            (apply wpG_pure; (focus rfl); (focus (intro wg Bg hbg hBg hFg; go_simp; (try go_bits); (first | done | exact ⟨rfl, Below.refl _ _⟩ | rfl))); simp only [Act.put, List.setIfInBounds_toArray, List.set_cons_succ, List.set_cons_zero])
            (apply wpG_pure; (focus rfl); (focus (intro wg Bg hbg hBg hFg; go_simp; (try go_bits); (first | done | exact ⟨rfl, Below.refl _ _⟩ | rfl))); simp only [Act.put, List.setIfInBounds_toArray, List.set_cons_succ, List.set_cons_zero])
            (apply wpG_pure; (focus rfl); (focus (intro wg Bg hbg hBg hFg; go_simp; (try go_bits); (first | done | exact ⟨rfl, Below.refl _ _⟩ | rfl))); simp only [Act.put, List.setIfInBounds_toArray, List.set_cons_succ, List.set_cons_zero])
            (apply wpG_pure; (focus rfl); (focus (intro wg Bg hbg hBg hFg; go_simp; (try go_bits); (first | done | exact ⟨rfl, Below.refl _ _⟩ | rfl))); simp only [Act.put, List.setIfInBounds_toArray, List.set_cons_succ, List.set_cons_zero])
            (apply wpG_pure; (focus rfl); (focus (intro wg Bg hbg hBg hFg; go_simp; (try go_bits); (first | done | exact ⟨rfl, Below.refl _ _⟩ | rfl))); simp only [Act.put, List.setIfInBounds_toArray, List.set_cons_succ, List.set_cons_zero])
            (apply wpG_pure; (focus rfl); (focus (intro wg Bg hbg hBg hFg; go_simp; (try go_bits); (first | done | exact ⟨rfl, Below.refl _ _⟩ | rfl))); simp only [Act.put, List.setIfInBounds_toArray, List.set_cons_succ, List.set_cons_zero])
            (apply wpG_pure; (focus rfl); (focus (intro wg Bg hbg hBg hFg; go_simp; (try go_bits); (first | done | exact ⟨rfl, Below.refl _ _⟩ | rfl))); simp only [Act.put, List.setIfInBounds_toArray, List.set_cons_succ, List.set_cons_zero])
            (apply wpG_pure; (focus rfl); (focus (intro wg Bg hbg hBg hFg; go_simp; (try go_bits); (first | done | exact ⟨rfl, Below.refl _ _⟩ | rfl))); simp only [Act.put, List.setIfInBounds_toArray, List.set_cons_succ, List.set_cons_zero])
            (apply wpG_pure; (focus rfl); (focus (intro wg Bg hbg hBg hFg; go_simp; (try go_bits); (first | done | exact ⟨rfl, Below.refl _ _⟩ | rfl))); simp only [Act.put, List.setIfInBounds_toArray, List.set_cons_succ, List.set_cons_zero])
            (apply wpG_pure; (focus rfl); (focus (intro wg Bg hbg hBg hFg; go_simp; (try go_bits); (first | done | exact ⟨rfl, Below.refl _ _⟩ | rfl))); simp only [Act.put, List.setIfInBounds_toArray, List.set_cons_succ, List.set_cons_zero])
            refine wpG_end (fun wg Bg hbg hBg hFg => ?_)
            have hbE := hend wg hbg
            clear hFg hBg
            go_wp2_with fail
            exact ⟨⟨m + 1, by omega, by go_num, by rw [hsu.out]; rfl, hbE⟩, by simp [intOf]; omega⟩
        · have q2 : ¬ (m : Int) < p.length := by omega
          obtain rfl : m = p.length := by omega
          have CK := check_c w6 (hT.below (below_below hbX hbI)) ⟨K, idn, a, b, t, l, nn, ff⟩ (.slice A nv nv) (hlr.below hbI) hoP.out
          rw [hCn.out, hEP.out n] at CK
          unfold stzV at CK
          simp only at CK
          have hk7' := hk7.below hbI
          replace hk8 := hk8.below hbI
          replace hu := hu.below hbI
          replace hbX := below_below hbX hbI
          have hsz45 : p ≠ [45] → ((strB p).toList == [45]) = false := fun h => by rw [strB_toList]; exact beq_eq_false_iff_ne.2 h
          clear hgetS hlr hk7 hbI
          by_cases hp : p = [45]
          · rw [if_pos hp] at CK
            have q45 : ((strB p).toList == [45]) = true := by rw [strB_toList, hp]; rfl
            clear hp hsz45
            generalize hasP p n p.length = HB at *
            have b00 : True := trivial
            go_upto_region 19 with (first
              | (have _t := b00; (with_reducible refine G_load ?_; refine L_load_agg agS (by with_unfolding_all (conv => lhs; whnf)) hk7' rfl ?_); clear b00; have b01 : True := trivial)
              | (have _t := b01; go_at_call 18; refine CK.mono ?_; rintro e w7 ⟨rfl, hb7⟩; clear b01; have b02 : True := trivial))
            go_wp2_with fail
            exact ⟨⟨n + 1, by omega, by go_num, hk8.below hb7, hu.below hb7, below_below hbX hb7⟩, by simp [intOf]; omega⟩
          · rw [if_neg hp] at CK
            have q45 := hsz45 hp
            clear hp hsz45
            cases hh : hasP p n p.length
            · rw [hh, if_neg (by simp)] at CK
              have b10 : True := trivial
              go_upto_region 19 with (first
                | (have _t := b10; (with_reducible refine G_load ?_; refine L_load_agg agS (by with_unfolding_all (conv => lhs; whnf)) hk7' rfl ?_); clear b10; have b11 : True := trivial)
                | (have _t := b11; go_at_call 18; refine CK.mono ?_; rintro e w7 ⟨rfl, hb7⟩; clear b11; have b12 : True := trivial))
              go_wp2_with fail
              exact ⟨⟨n + 1, by omega, by go_num, hk8.below hb7, hu.below hb7, below_below hbX hb7⟩, by simp [intOf]; omega⟩
            · rw [hh, if_pos rfl] at CK
              have b20 : True := trivial
              go_upto_region 19 with (first
                | (have _t := b20; (with_reducible refine G_load ?_; refine L_load_agg agS (by with_unfolding_all (conv => lhs; whnf)) hk7' rfl ?_); clear b20; have b21 : True := trivial)
                | (have _t := b21; go_at_call 18; refine CK.mono ?_; rintro e w7 ⟨rfl, hb7⟩; clear b21; have b22 : True := trivial))
              go_wp2_with fail
              exact ⟨⟨n + 1, by omega, by go_num, hk8.below hb7, hu.below hb7, below_below hbX hb7⟩, by simp [intOf]; omega⟩
    · have q1 : ¬ (n : Int) < 7 := by omega
      have z0 : True := trivial
      go_wp2_with (first
        | (have _t := z0; go_at_call 21; refine (wakes4_c _ (hT.below hbX)).mono ?_; rintro e w8 ⟨rfl, hb8⟩; clear z0; have z1 : True := trivial))
      go_ret
      exact ⟨rfl, below_below hbX hb8⟩
end Go.Proofs.YtocfcgjjepegmaaDoor
