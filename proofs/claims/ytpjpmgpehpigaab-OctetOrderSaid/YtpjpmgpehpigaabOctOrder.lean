/- OctetOrder. -/
import Derived.Test.YtpjpmgpehpigaabOct3
set_option linter.unusedVariables false
set_option linter.unusedSimpArgs false
namespace Go.Proofs.Ytpjpmgpehpigaab
open Go.RowKit
theorem cmpI_vals (a b : Int) : cmpI a b = -1 ∨ cmpI a b = 0 ∨ cmpI a b = 1 := by unfold cmpI; (repeat' split) <;> simp
theorem cmpI_neg (a b : Int) : cmpI b a = - cmpI a b := by unfold cmpI; (repeat' split) <;> omega
theorem cmpI_self (a : Int) : cmpI a a = 0 := by unfold cmpI; (repeat' split) <;> omega
theorem cmpI_trans (a b c : Int) (h1 : cmpI a b ≤ 0) (h2 : cmpI b c ≤ 0) : cmpI a c ≤ 0 := by unfold cmpI at *; (repeat' split) <;> (repeat' split at h1) <;> (repeat' split at h2) <;> omega
theorem ordI_lt (x y : Nat) (hx : x < 18446744073709551616) (hy : y < 18446744073709551616) (h : (!fnan x && !fnan y && decide (fkey x < fkey y)) = true) : ordI x y = -1 := by
  simp at h
  obtain ⟨⟨h1, h2⟩, h3⟩ := h
  rw [ordI_num x y hx hy h1 h2 (by omega)]
  unfold cmpI
  rw [if_pos h3]
theorem ordI_gt (x y : Nat) (hx : x < 18446744073709551616) (hy : y < 18446744073709551616) (h : (!fnan x && !fnan y && decide (fkey y < fkey x)) = true) : ordI x y = 1 := by
  simp at h
  obtain ⟨⟨h1, h2⟩, h3⟩ := h
  rw [ordI_num x y hx hy h1 h2 (by omega)]
  unfold cmpI
  rw [if_neg (by omega), if_pos h3]
set_option maxRecDepth 100000 in
set_option maxHeartbeats 1600000 in
theorem octetOrder_w (w : World) (a0 : Int) (b0 : 0 ≤ a0 ∧ a0 < 18446744073709551616) (a1 : Int) (b1 : 0 ≤ a1 ∧ a1 < 18446744073709551616) (a2 : Int) (b2 : 0 ≤ a2 ∧ a2 < 18446744073709551616) :
    Calls Try.prog 4 #[.int .u64 a0, .int .u64 a1, .int .u64 a2] w (Ok w) := by
  obtain ⟨x, rfl⟩ := Int.eq_ofNat_of_zero_le b0.1
  obtain ⟨y, rfl⟩ := Int.eq_ofNat_of_zero_le b1.1
  obtain ⟨z, rfl⟩ := Int.eq_ofNat_of_zero_le b2.1
  have hx : x < 18446744073709551616 := by omega
  have hy : y < 18446744073709551616 := by omega
  have hz : z < 18446744073709551616 := by omega
  have F := fun w' n => f64frombits w' n
  have O1 := fun w' => order_c x y w' hx hy
  have O2 := fun w' => reforder_c x y w' hx hy
  have O3 := fun w' => order_c y x w' hy hx
  have O4 := fun w' => order_c x x w' hx hx
  have O5 := fun w' => order_c y z w' hy hz
  have O6 := fun w' => order_c x z w' hx hz
  have L := ordI_lt x y hx hy
  have G := ordI_gt x y hx hy
  have fl := f_lt x y
  have fg := f_gt x y
  rw [show ordI y x = - ordI x y from cmpI_neg _ _] at O3
  rw [show ordI x x = 0 from cmpI_self _] at O4
  have T := cmpI_trans (okey x) (okey y) (okey z)
  have V := cmpI_vals (okey x) (okey y)
  change ordI x y = -1 ∨ ordI x y = 0 ∨ ordI x y = 1 at V
  change ordI x y ≤ 0 → ordI y z ≤ 0 → ordI x z ≤ 0 at T
  generalize ordI x y = o at *
  generalize ordI y z = p at *
  generalize ordI x z = q at *
  generalize (!fnan x && !fnan y && decide (fkey x < fkey y)) = B at *
  generalize (!fnan x && !fnan y && decide (fkey y < fkey x)) = C at *
  have W := wakes1_c w
  clear b0 b1 b2 hx hy hz
  rcases V with rfl | rfl | rfl
  · obtain rfl : C = false := by cases C with
      | false => rfl
      | true => exact absurd (G rfl) (by decide)
    have T2 := T (by decide)
    clear T L G
    simp only [Int.neg_neg] at O3
    go_enter Try.func4, Try.ntmps4
    by_cases hp : p ≤ 0
    · have hq := T2 hp
      have hq2 : ¬ 0 < q := by omega
      clear T2
      cases B
      · skip
        have c0 : True := trivial
        go_wp2_with (first
          | (have _t := c0; go_at_call 12; refine (O1 _).mono ?_; rintro e w' ⟨rfl, rfl⟩; clear c0; have c1 : True := trivial)
          | (have _t := c1; go_at_call 13; refine (O2 _).mono ?_; rintro e w' ⟨rfl, rfl⟩; clear c1; have c2 : True := trivial)
          | (have _t := c2; go_at_call 12; refine (O3 _).mono ?_; rintro e w' ⟨rfl, rfl⟩; clear c2; have c3 : True := trivial)
          | (have _t := c3; go_at_call 12; refine (O4 _).mono ?_; rintro e w' ⟨rfl, rfl⟩; clear c3; have c4 : True := trivial)
          | (have _t := c4; go_at_call 12; refine (O5 _).mono ?_; rintro e w' ⟨rfl, rfl⟩; clear c4; have c5 : True := trivial)
          | (have _t := c5; go_at_call 12; refine (O6 _).mono ?_; rintro e w' ⟨rfl, rfl⟩; clear c5; have c6 : True := trivial)
          | (have _t := c6; go_at_call 10; refine W.mono ?_; rintro e w'' ⟨rfl, hb⟩; clear c6; have c7 : True := trivial))
        go_ret
        exact ⟨rfl, hb⟩
      · skip
        have c0 : True := trivial
        go_wp2_with (first
          | (have _t := c0; go_at_call 12; refine (O1 _).mono ?_; rintro e w' ⟨rfl, rfl⟩; clear c0; have c1 : True := trivial)
          | (have _t := c1; go_at_call 13; refine (O2 _).mono ?_; rintro e w' ⟨rfl, rfl⟩; clear c1; have c2 : True := trivial)
          | (have _t := c2; go_at_call 12; refine (O3 _).mono ?_; rintro e w' ⟨rfl, rfl⟩; clear c2; have c3 : True := trivial)
          | (have _t := c3; go_at_call 12; refine (O4 _).mono ?_; rintro e w' ⟨rfl, rfl⟩; clear c3; have c4 : True := trivial)
          | (have _t := c4; go_at_call 12; refine (O5 _).mono ?_; rintro e w' ⟨rfl, rfl⟩; clear c4; have c5 : True := trivial)
          | (have _t := c5; go_at_call 12; refine (O6 _).mono ?_; rintro e w' ⟨rfl, rfl⟩; clear c5; have c6 : True := trivial)
          | (have _t := c6; go_at_call 10; refine W.mono ?_; rintro e w'' ⟨rfl, hb⟩; clear c6; have c7 : True := trivial))
        go_ret
        exact ⟨rfl, hb⟩
    · clear T2
      cases B
      · skip
        have c0 : True := trivial
        go_wp2_with (first
          | (have _t := c0; go_at_call 12; refine (O1 _).mono ?_; rintro e w' ⟨rfl, rfl⟩; clear c0; have c1 : True := trivial)
          | (have _t := c1; go_at_call 13; refine (O2 _).mono ?_; rintro e w' ⟨rfl, rfl⟩; clear c1; have c2 : True := trivial)
          | (have _t := c2; go_at_call 12; refine (O3 _).mono ?_; rintro e w' ⟨rfl, rfl⟩; clear c2; have c3 : True := trivial)
          | (have _t := c3; go_at_call 12; refine (O4 _).mono ?_; rintro e w' ⟨rfl, rfl⟩; clear c3; have c4 : True := trivial)
          | (have _t := c4; go_at_call 12; refine (O5 _).mono ?_; rintro e w' ⟨rfl, rfl⟩; clear c4; have c5 : True := trivial)
          | (have _t := c5; go_at_call 10; refine W.mono ?_; rintro e w'' ⟨rfl, hb⟩; clear c5; have c6 : True := trivial))
        go_ret
        exact ⟨rfl, hb⟩
      · skip
        have c0 : True := trivial
        go_wp2_with (first
          | (have _t := c0; go_at_call 12; refine (O1 _).mono ?_; rintro e w' ⟨rfl, rfl⟩; clear c0; have c1 : True := trivial)
          | (have _t := c1; go_at_call 13; refine (O2 _).mono ?_; rintro e w' ⟨rfl, rfl⟩; clear c1; have c2 : True := trivial)
          | (have _t := c2; go_at_call 12; refine (O3 _).mono ?_; rintro e w' ⟨rfl, rfl⟩; clear c2; have c3 : True := trivial)
          | (have _t := c3; go_at_call 12; refine (O4 _).mono ?_; rintro e w' ⟨rfl, rfl⟩; clear c3; have c4 : True := trivial)
          | (have _t := c4; go_at_call 12; refine (O5 _).mono ?_; rintro e w' ⟨rfl, rfl⟩; clear c4; have c5 : True := trivial)
          | (have _t := c5; go_at_call 10; refine W.mono ?_; rintro e w'' ⟨rfl, hb⟩; clear c5; have c6 : True := trivial))
        go_ret
        exact ⟨rfl, hb⟩
  · obtain rfl : C = false := by cases C with
      | false => rfl
      | true => exact absurd (G rfl) (by decide)
    obtain rfl : B = false := by cases B with
      | false => rfl
      | true => exact absurd (L rfl) (by decide)
    have T2 := T (by decide)
    clear T L G
    go_enter Try.func4, Try.ntmps4
    by_cases hp : p ≤ 0
    · have hq := T2 hp
      have hq2 : ¬ 0 < q := by omega
      clear T2
      have c0 : True := trivial
      go_wp2_with (first
        | (have _t := c0; go_at_call 12; refine (O1 _).mono ?_; rintro e w' ⟨rfl, rfl⟩; clear c0; have c1 : True := trivial)
        | (have _t := c1; go_at_call 13; refine (O2 _).mono ?_; rintro e w' ⟨rfl, rfl⟩; clear c1; have c2 : True := trivial)
        | (have _t := c2; go_at_call 12; refine (O3 _).mono ?_; rintro e w' ⟨rfl, rfl⟩; clear c2; have c3 : True := trivial)
        | (have _t := c3; go_at_call 12; refine (O4 _).mono ?_; rintro e w' ⟨rfl, rfl⟩; clear c3; have c4 : True := trivial)
        | (have _t := c4; go_at_call 12; refine (O5 _).mono ?_; rintro e w' ⟨rfl, rfl⟩; clear c4; have c5 : True := trivial)
        | (have _t := c5; go_at_call 12; refine (O6 _).mono ?_; rintro e w' ⟨rfl, rfl⟩; clear c5; have c6 : True := trivial)
        | (have _t := c6; go_at_call 10; refine W.mono ?_; rintro e w'' ⟨rfl, hb⟩; clear c6; have c7 : True := trivial))
      go_ret
      exact ⟨rfl, hb⟩
    · clear T2
      have c0 : True := trivial
      go_wp2_with (first
        | (have _t := c0; go_at_call 12; refine (O1 _).mono ?_; rintro e w' ⟨rfl, rfl⟩; clear c0; have c1 : True := trivial)
        | (have _t := c1; go_at_call 13; refine (O2 _).mono ?_; rintro e w' ⟨rfl, rfl⟩; clear c1; have c2 : True := trivial)
        | (have _t := c2; go_at_call 12; refine (O3 _).mono ?_; rintro e w' ⟨rfl, rfl⟩; clear c2; have c3 : True := trivial)
        | (have _t := c3; go_at_call 12; refine (O4 _).mono ?_; rintro e w' ⟨rfl, rfl⟩; clear c3; have c4 : True := trivial)
        | (have _t := c4; go_at_call 12; refine (O5 _).mono ?_; rintro e w' ⟨rfl, rfl⟩; clear c4; have c5 : True := trivial)
        | (have _t := c5; go_at_call 10; refine W.mono ?_; rintro e w'' ⟨rfl, hb⟩; clear c5; have c6 : True := trivial))
      go_ret
      exact ⟨rfl, hb⟩
  · obtain rfl : B = false := by cases B with
      | false => rfl
      | true => exact absurd (L rfl) (by decide)
    clear T L G
    go_enter Try.func4, Try.ntmps4
    cases C
    · skip
      have c0 : True := trivial
      go_wp2_with (first
        | (have _t := c0; go_at_call 12; refine (O1 _).mono ?_; rintro e w' ⟨rfl, rfl⟩; clear c0; have c1 : True := trivial)
        | (have _t := c1; go_at_call 13; refine (O2 _).mono ?_; rintro e w' ⟨rfl, rfl⟩; clear c1; have c2 : True := trivial)
        | (have _t := c2; go_at_call 12; refine (O3 _).mono ?_; rintro e w' ⟨rfl, rfl⟩; clear c2; have c3 : True := trivial)
        | (have _t := c3; go_at_call 12; refine (O4 _).mono ?_; rintro e w' ⟨rfl, rfl⟩; clear c3; have c4 : True := trivial)
        | (have _t := c4; go_at_call 10; refine W.mono ?_; rintro e w'' ⟨rfl, hb⟩; clear c4; have c5 : True := trivial))
      go_ret
      exact ⟨rfl, hb⟩
    · skip
      have c0 : True := trivial
      go_wp2_with (first
        | (have _t := c0; go_at_call 12; refine (O1 _).mono ?_; rintro e w' ⟨rfl, rfl⟩; clear c0; have c1 : True := trivial)
        | (have _t := c1; go_at_call 13; refine (O2 _).mono ?_; rintro e w' ⟨rfl, rfl⟩; clear c1; have c2 : True := trivial)
        | (have _t := c2; go_at_call 12; refine (O3 _).mono ?_; rintro e w' ⟨rfl, rfl⟩; clear c2; have c3 : True := trivial)
        | (have _t := c3; go_at_call 12; refine (O4 _).mono ?_; rintro e w' ⟨rfl, rfl⟩; clear c3; have c4 : True := trivial)
        | (have _t := c4; go_at_call 10; refine W.mono ?_; rintro e w'' ⟨rfl, hb⟩; clear c4; have c5 : True := trivial))
      go_ret
      exact ⟨rfl, hb⟩
end Go.Proofs.Ytpjpmgpehpigaab
