/- CredsApart. -/
import Derived.Test.YtpjpmgpehpigaaaDoorW
set_option linter.unusedVariables false
set_option linter.unusedSimpArgs false
namespace Go.Proofs.Ytpjpmgpehpigaaa
open Go.RowKit
def RdS (w : World) (v : Value) (ss : List ByteArray) : Prop := ∃ A c, v = .slice A ss.length c ∧ ss.length ≤ c ∧ c ≤ maxLen ∧ (0 < ss.length → ∃ b off, A = some ⟨b, off, none⟩ ∧ ∀ j x, ss[j]? = some x → w.cell? ⟨b, off + j, none⟩ = some (.string x))
theorem RdS.below {w w' : World} {v : Value} {ss : List ByteArray} (h : RdS w v ss) (hb : Below w.heap.size w w') : RdS w' v ss := by
  obtain ⟨A, c, rfl, h1, h2, h3⟩ := h
  refine ⟨A, c, rfl, h1, h2, fun hn => ?_⟩
  obtain ⟨b, off, rfl, hc⟩ := h3 hn
  refine ⟨b, off, rfl, fun j x hx => ?_⟩
  have := hc j x hx
  rw [hb.cell (World.block_lt_of_cell? w _ this)]; exact this
theorem apart_m (n : Int) : ∃ M : Nat, M < 20 ∧ wrap64 ((wrap64 (n.tmod 20 + 20)).tmod 20 + 1) = (M : Int) + 1 := by
  have h1 := Int.lt_tmod_of_pos n (show (0 : Int) < 20 by omega)
  have h2 := Int.tmod_lt_of_pos n (show (0 : Int) < 20 by omega)
  generalize n.tmod 20 = t at *
  have e1 : wrap64 (t + 20) = t + 20 := by unfold wrap64; omega
  rw [e1, Int.tmod_eq_emod_of_nonneg (by omega)]
  refine ⟨((t + 20) % 20).toNat, by omega, ?_⟩
  unfold wrap64
  omega
theorem ask_free (f : ByteArray → Option (Int × Nat)) (s : ByteArray) (now : Nat) (hn : fnan now = false) (hk : (known f s).2 = ninf) : askI f s now = 0 := by
  unfold askI
  rw [hn, hk]
  have := ninf_least now hn
  rw [if_neg (by decide), if_neg (by omega)]
def ann : ByteArray := { data := #[97, 110, 110] }
def IsA (w : World) (v : Value) (wx : World) : Prop := ∃ M : Nat, M < 20 ∧ v = .int .i64 ((M : Int) + 1) ∧ w = wx
def ApSt (f : ByteArray → Option (Int × Nat)) (M j t s : Nat) : Prop := (∀ k, k ≠ ann → f k = none) ∧ (j < M + 1 → known f ann = ((j : Int), ninf)) ∧ (j = M + 1 → SumOk t s (known f ann).2)
def ApRel (w : World) (B p M t s : Nat) (v3 : Value) (ss : List ByteArray) (i : Value) (wr : World) : Prop :=
  ∃ (j : Nat) (f : ByteArray → Option (Int × Nat)), j ≤ M + 1 ∧ i = .int .i64 (j : Int) ∧ DoorAt wr B p ((M : Int) + 1) s f ∧ ApSt f M j t s ∧ RdS wr v3 ss ∧ Below w.heap.size w wr
set_option maxRecDepth 100000 in
set_option maxHeartbeats 3200000 in
theorem credsApart_c (w : World) (most : Int) (s t : Nat) (hs : s < 18446744073709551616) (ht : t < 18446744073709551616) (v3 : Value) (ss : List ByteArray) (hv : RdS w v3 ss) :
    Calls Try.prog 14 #[.agg #[.int .i64 most, .int .u64 (s : Int), .int .u64 (t : Int), v3]] w (Ok w) := by
  have D := fun w' n => f64frombits w' n
  obtain ⟨A3, cap3, rfl, hle, hcm, hcells⟩ := id hv
  have hsl : ss.length ≤ 9223372036854775807 := by unfold maxLen at hcm; omega
  go_enter Try.func14, Try.ntmps14
  have tok0 : True := trivial
  go_upto_region 2 with (first
    | (have _t := tok0; (with_reducible refine G_box ?_; refine L_box (by with_unfolding_all (conv => lhs; whnf)) ?_); intro w1 hk1 hb1 hs1; clear hs1; have c3 : _ = some (Value.slice A3 ss.length cap3) := hk1.cell 3; clear tok0; have tok1 : True := trivial))
  clear c3
  refine region_making 8 (fun _ => []) (fun _ => none) (by kernel_rfl) (by kernel_rfl) ?_ ?_
  · intro i S h; cases h
  simp only [List.take_succ_cons, List.take_zero, List.drop_succ_cons, List.drop_zero]
  (apply wpG_pure; (focus rfl); (focus (intro wg Bg hbg hBg hFg; go_simp; (try go_bits); (first | done | exact ⟨rfl, Below.refl _ _⟩ | rfl))); simp only [Act.put, List.setIfInBounds_toArray, List.set_cons_succ, List.set_cons_zero])
  (apply wpG_pure; (focus rfl); (focus (intro wg Bg hbg hBg hFg; have hc1 : _ = some (Value.int .u64 (s : Int)) := (hk1.drew.below hbg).cell 1; go_simp; (try go_bits); (first | done | exact ⟨rfl, Below.refl _ _⟩ | rfl))); simp only [Act.put, List.setIfInBounds_toArray, List.set_cons_succ, List.set_cons_zero])
  (apply wpG_pure; (focus rfl); (focus (intro wg Bg hbg hBg hFg; have hd := D wg (s : Int); go_simp; (try go_bits); (first | done | exact ⟨rfl, Below.refl _ _⟩ | rfl))); simp only [Act.put, List.setIfInBounds_toArray, List.set_cons_succ, List.set_cons_zero])
  (apply wpG_pure; (focus rfl); (focus (intro wg Bg hbg hBg hFg; go_simp; (try go_bits); (first | done | exact ⟨rfl, Below.refl _ _⟩ | rfl))); simp only [Act.put, List.setIfInBounds_toArray, List.set_cons_succ, List.set_cons_zero])
  (apply wpG_pure; (focus rfl); (focus (intro wg Bg hbg hBg hFg; have hc1 : _ = some (Value.int .u64 (t : Int)) := (hk1.drew.below hbg).cell 2; go_simp; (try go_bits); (first | done | exact ⟨rfl, Below.refl _ _⟩ | rfl))); simp only [Act.put, List.setIfInBounds_toArray, List.set_cons_succ, List.set_cons_zero])
  (apply wpG_pure; (focus rfl); (focus (intro wg Bg hbg hBg hFg; have hd := D wg (t : Int); go_simp; (try go_bits); (first | done | exact ⟨rfl, Below.refl _ _⟩ | rfl))); simp only [Act.put, List.setIfInBounds_toArray, List.set_cons_succ, List.set_cons_zero])
  (apply wpG_pure; (focus rfl); (focus (intro wg Bg hbg hBg hFg; go_simp; (try go_bits); (first | done | exact ⟨rfl, Below.refl _ _⟩ | rfl))); simp only [Act.put, List.setIfInBounds_toArray, List.set_cons_succ, List.set_cons_zero])
  (apply wpG_pure; (focus rfl); (focus (intro wg Bg hbg hBg hFg; go_simp; (try go_bits); (first | done | exact ⟨rfl, Below.refl _ _⟩ | rfl))); simp only [Act.put, List.setIfInBounds_toArray, List.set_cons_succ, List.set_cons_zero])
  refine wpG_end (fun w2 Bg hbg hBg hFg => ?_)
  have hk2 := hk1.drew.below hbg
  have hw2 := below_below hb1.drew hbg
  have hv2 := (hv.below hb1.drew).below hbg
  have c0 : _ = some (Value.int .i64 most) := hk2.cell 0
  clear hFg hBg hbg hb1 hk1
  go_upto_region 3 with fail
  go_cut [6] (fun v wx => IsA w2 v wx)
  case first =>
    obtain ⟨M, hM, hMe⟩ := apart_m most
    go_wp2_with fail
    all_goals go_meet
    exact ⟨M, hM, rfl, rfl⟩
  case rest =>
  obtain ⟨M, hM, rfl, rfl⟩ := hcut
  clear c0 hk2 D
  by_cases hg : fnan s = false ∧ 0 ≤ fkey s
  · have N := new_c w2 ((M : Int) + 1) s (by omega) hg
    cases hnt : fnan t
    · go_wp2_with (go_at_call 35; refine N.mono ?_; rintro e w3 ⟨p, rfl, hd, hb3⟩)
      have hw3 := below_below hw2 hb3
      have hv3 := hv2.below hb3
      clear N hcells hv2
      have hB := hw2.size
      go_loopw [9] (fun i wr => ApRel w w2.heap.size p M t s (.slice A3 ss.length cap3) ss i wr) (fun i _ => (40 - intOf i).toNat)
      case atStart => exact ⟨0, _, by omega, rfl, hd, ⟨fun _ _ => rfl, fun _ => rfl, fun h => by omega⟩, hv3, hw3⟩
      case round =>
        clear hd hb3 hw3 hv3
        obtain ⟨j, f, hj, rfl, hd, ⟨hf1, hf2, hf3⟩, hv3, hbr⟩ := hrel
        by_cases hjm : j < M + 1
        · have q1 : (j : Int) < (M : Int) + 1 := by omega
          have hkn := hf2 hjm
          have ha := ask_free f ann t hnt (by rw [hkn])
          have K1 := ask_c wr _ p _ s f ann t hd
          rw [ha] at K1
          have K2 := fun w4 (h4 : DoorAt w4 w2.heap.size p ((M : Int) + 1) s f) => fail_c w4 _ p _ s f ann t h4 ha (by rw [hkn]; exact ⟨by show (0 : Int) ≤ j; omega, by show (j : Int) ≤ 1000000; omega⟩)
          rw [hkn] at K2
          have tok0 : True := trivial
          go_upto_region 12 with (first
            | (have _t := tok0; go_at_call 37; refine K1.mono ?_; rintro e w4 ⟨rfl, hb4⟩; have hd4 := hd.below hb4; clear tok0; have tok1 : True := trivial)
            | (have _t := tok1; go_at_call 38; refine (K2 _ hd4).mono ?_; rintro e w5 ⟨rfl, hb5, u, hd5, hu1, hu2⟩; have hbr5 := (below_below hbr hb4).trans (hb5.mono hB); clear tok1; have tok2 : True := trivial))
          have hst : ApSt (fun k => if k = ann then some u else f k) M (j + 1) t s := by
            have e : known (fun k => if k = ann then some u else f k) ann = u := by unfold known; simp
            refine ⟨fun k hk => by simp [hk, hf1 k hk], fun hj => ?_, fun hj => ?_⟩
            · rw [e, hu2 (by show (j : Int) + 1 ≠ (M : Int) + 1; omega)]
              simp
            · rw [e]; exact (hu1 (by show (j : Int) + 1 = (M : Int) + 1; omega)).2
          have hf5 : ∀ k, k ≠ ann → (fun k => if k = ann then some u else f k) k = none := hst.1
          generalize (fun k => if k = ann then some u else f k) = f5 at *
          clear K1 K2 hu1 hu2 hd hd4 hb4 hb5 hbr hf1 hf2 hf3 hkn ha
          have hv5 := hv.below hbr5
          have done : ∀ w6, DoorAt w6 w2.heap.size p ((M : Int) + 1) s f5 → Below w.heap.size w w6 → ApRel w w2.heap.size p M t s (.slice A3 ss.length cap3) ss (.int .i64 ((j : Int) + 1)) w6 := fun w6 h1 h2 => ⟨j + 1, f5, by omega, by go_num, h1, hst, hv.below h2, h2⟩
          by_cases hjs : j < ss.length
          · have q2 : (j : Int) < ss.length := by omega
            have q3 : (0 : Int) ≤ j := by omega
            obtain ⟨A', c', e', _, _, hcl⟩ := id hv
            cases e'
            obtain ⟨b, off, rfl, hcl2⟩ := hcl (by omega)
            have hcell : ∀ w6, Below w.heap.size w w6 → w6.cell? ⟨b, off + j, none⟩ = some (.string ss[j]) := fun w6 h6 => by
              have := hcl2 j ss[j] (List.getElem?_eq_getElem hjs)
              rw [h6.cell (World.block_lt_of_cell? w _ this)]; exact this
            have cc5 := hcell _ hbr5
            generalize ss[j] = x at *
            by_cases hx : x = ann
            · subst hx
              have hx1 : ann.toList = [97, 110, 110] := by rw [ByteArray.toList_eq]; rfl
              go_wp2
              refine ⟨done _ hd5 hbr5, ?_⟩
              simp only [intOf]; omega
            · have hx1 : ¬ x.toList = [97, 110, 110] := fun h => hx (by
                apply ByteArray.ext
                rw [ByteArray.toList_eq] at h
                exact Array.toList_inj.1 h)
              have hx2 : (x.toList == [97, 110, 110]) = false := by simp [hx1]
              clear hx1
              have P := pass_none_c w5 _ p _ s f5 x hd5 (hf5 x hx)
              have tok0 : True := trivial
              go_wp2_with (first
                | (have _t := tok0; go_at_call 39; refine P.mono ?_; rintro e w6 ⟨rfl, hb6⟩; have hd6 := hd5.below hb6; have hbr6 := below_below hbr5 hb6; have cc6 := hcell _ hbr6; clear tok0; have tok1 : True := trivial)
                | (have _t := tok1; go_at_call 37; refine (ask_c _ _ _ _ _ _ _ _ hd6).mono ?_; rintro e w7 ⟨rfl, hb7⟩; have hd7 := hd6.below hb7; have hbr7 := below_below hbr6 hb7; clear tok1; have tok2 : True := trivial))
              refine ⟨done _ hd7 hbr7, ?_⟩
              simp only [intOf]; omega
          · have q2 : ¬ (j : Int) < ss.length := by omega
            go_wp2
            refine ⟨done _ hd5 hbr5, ?_⟩
            simp only [intOf]; omega
        · have q1 : ¬ (j : Int) < (M : Int) + 1 := by omega
          have hU := hf3 (by omega)
          have hbob : askI f { data := #[98, 111, 98] } t = 0 := ask_free f _ t hnt (by unfold known; rw [hf1 _ (by decide)]; rfl)
          go_upto_region 16 with ((with_reducible refine G_fadd ?_; refine L_fadd (by with_unfolding_all (conv => lhs; whnf)) (by with_unfolding_all (conv => lhs; whnf)) ?_); intro q w5 hw5 hq; have hd5 : DoorAt w5 w2.heap.size p ((M : Int) + 1) s f := (by rcases hw5 with rfl | rfl; exact hd; exact hd); have hbr5 : Below w.heap.size w w5 := (by rcases hw5 with rfl | rfl; exact hbr; exact hbr.drew))
          have flq := f_lt t q
          rw [hnt] at flq
          have hcs := hU.cases hq
          have KB := fun w6 (h6 : DoorAt w6 w2.heap.size p ((M : Int) + 1) s f) => ask_c w6 _ p _ s f { data := #[98, 111, 98] } t h6
          rw [hbob] at KB
          have KA := fun w6 (h6 : DoorAt w6 w2.heap.size p ((M : Int) + 1) s f) => ask_c w6 _ p _ s f { data := #[97, 110, 110] } t h6
          have KQ := fun w6 (h6 : DoorAt w6 w2.heap.size p ((M : Int) + 1) s f) => ask_c w6 _ p _ s f { data := #[97, 110, 110] } q h6
          change ∀ w6 (h6 : DoorAt w6 w2.heap.size p ((M : Int) + 1) s f), Calls _ _ _ w6 fun e w' => e = .returned (.int .i64 (askI f ann t)) ∧ _ at KA
          change ∀ w6 (h6 : DoorAt w6 w2.heap.size p ((M : Int) + 1) s f), Calls _ _ _ w6 fun e w' => e = .returned (.int .i64 (askI f ann q)) ∧ _ at KQ
          have haskq : fnan q = false → askI f ann q = 0 := fun hn => by
            rcases hcs with h | h
            · unfold askI; rw [h, hn, if_neg (by decide), if_neg (by omega)]
            · rw [h.2] at hn; cases hn
          clear hf1 hf2 hf3 hd hbr hv hv3 hle hcm hw5 hq hU
          cases hnq : fnan q
          · rw [hnq] at flq
            have hcs2 : (known f ann).2 = q := by
              rcases hcs with h | h
              · exact h
              · rw [h.2] at hnq; cases hnq
            by_cases hl : fkey t < fkey q
            · have hask : askI f ann t = 12 := by unfold askI; rw [hcs2, hnt, hnq, if_neg (by decide), if_pos ⟨rfl, hl⟩]
              have hlt : (!false && !false && decide (fkey t < fkey q)) = true := by simp [hl]
              rw [hlt] at flq
              have haq := haskq hnq
              rw [hask] at KA
              rw [haq] at KQ
              clear hcs hcs2 hlt haq haskq
              go_wp2_with fail
              refine (KA _ hd5).mono ?_
              rintro e w6 ⟨rfl, hb6⟩
              have hd6 := hd5.below hb6
              have hbr6 := below_below hbr5 hb6
              go_wp2_with fail
              refine (KB _ hd6).mono ?_
              rintro e w7 ⟨rfl, hb7⟩
              have hd7 := hd6.below hb7
              have hbr7 := below_below hbr6 hb7
              go_wp2_with fail
              refine (KQ _ hd7).mono ?_
              rintro e w8 ⟨rfl, hb8⟩
              have hd8 := hd7.below hb8
              have hbr8 := below_below hbr7 hb8
              go_wp2_with fail
              refine (wakes8_c _).mono ?_
              rintro e w9 ⟨rfl, hb9⟩
              have hbr9 := below_below hbr8 hb9
              go_wp2
              go_ret
              exact ⟨rfl, hbr9⟩
            · have hask : askI f ann t = 0 := by unfold askI; rw [hcs2, hnt, hnq, if_neg (by decide), if_neg (fun h => hl h.2)]
              have hlt : (!false && !false && decide (fkey t < fkey q)) = false := by simp [hl]
              rw [hlt] at flq
              have haq := haskq hnq
              rw [hask] at KA
              rw [haq] at KQ
              clear hcs hcs2 hlt haq haskq
              go_wp2_with fail
              refine (KA _ hd5).mono ?_
              rintro e w6 ⟨rfl, hb6⟩
              have hd6 := hd5.below hb6
              have hbr6 := below_below hbr5 hb6
              go_wp2_with fail
              refine (KB _ hd6).mono ?_
              rintro e w7 ⟨rfl, hb7⟩
              have hd7 := hd6.below hb7
              have hbr7 := below_below hbr6 hb7
              go_wp2_with fail
              refine (KQ _ hd7).mono ?_
              rintro e w8 ⟨rfl, hb8⟩
              have hd8 := hd7.below hb8
              have hbr8 := below_below hbr7 hb8
              go_wp2_with fail
              refine (wakes8_c _).mono ?_
              rintro e w9 ⟨rfl, hb9⟩
              have hbr9 := below_below hbr8 hb9
              go_wp2
              go_ret
              exact ⟨rfl, hbr9⟩
          · rw [hnq] at flq
            have hask : askI f ann t = 0 := by
              have hn2 : fnan (known f ann).2 = true := by
                rcases hcs with h | h
                · rw [h]; exact hnq
                · exact h.1
              unfold askI; rw [hnt, hn2, if_neg (by decide), if_neg (fun h => by cases h.1)]
            have hlt : (!false && !true && decide (fkey t < fkey q)) = false := by simp
            rw [hlt] at flq
            rw [hask] at KA
            clear hcs hlt KQ haskq
            go_wp2_with fail
            refine (KA _ hd5).mono ?_
            rintro e w6 ⟨rfl, hb6⟩
            have hd6 := hd5.below hb6
            have hbr6 := below_below hbr5 hb6
            go_wp2_with fail
            refine (KB _ hd6).mono ?_
            rintro e w7 ⟨rfl, hb7⟩
            have hd7 := hd6.below hb7
            have hbr7 := below_below hbr6 hb7
            go_wp2_with fail
            refine (wakes8_c _).mono ?_
            rintro e w9 ⟨rfl, hb9⟩
            have hbr9 := below_below hbr7 hb9
            go_wp2
            go_ret
            exact ⟨rfl, hbr9⟩
    · have tok0 : True := trivial
      go_wp2_with (first
        | (have _t := tok0; go_at_call 35; refine N.mono ?_; rintro e w3 ⟨p, rfl, hd, hb3⟩; clear tok0; have tok1 : True := trivial)
        | (have _t := tok1; go_at_call 36; refine (wakes8_c _).mono ?_; rintro e w4 ⟨rfl, hb4⟩; clear tok1; have tok2 : True := trivial))
      go_ret
      exact ⟨rfl, below_below (below_below hw2 hb3) hb4⟩
  · have N := new_bad_c w2 ((M : Int) + 1) s (by omega) hg
    have tok0 : True := trivial
    go_wp2_with (first
      | (have _t := tok0; go_at_call 35; refine N.mono ?_; rintro e w3 ⟨rfl, rfl⟩; clear tok0; have tok1 : True := trivial)
      | (have _t := tok1; go_at_call 36; refine (wakes8_c _).mono ?_; rintro e w4 ⟨rfl, hb4⟩; clear tok1; have tok2 : True := trivial))
    go_ret
    exact ⟨rfl, below_below hw2 hb4⟩
theorem credsApart_w (w : World) (most : Int) (hm : -9223372036854775808 ≤ most ∧ most ≤ 9223372036854775807) (s : Int) (hs : 0 ≤ s ∧ s < 18446744073709551616) (t : Int) (ht : 0 ≤ t ∧ t < 18446744073709551616) (v3 : Value) (ss : List ByteArray) (hv : RdS w v3 ss) :
    Calls Try.prog 14 #[.agg #[.int .i64 most, .int .u64 s, .int .u64 t, v3]] w (Ok w) := by
  obtain ⟨s, rfl⟩ := Int.eq_ofNat_of_zero_le hs.1
  obtain ⟨t, rfl⟩ := Int.eq_ofNat_of_zero_le ht.1
  exact credsApart_c w most s t (by omega) (by omega) v3 ss hv
end Go.Proofs.Ytpjpmgpehpigaaa
