/- octet.Uint; the octet laws' helpers: few, wakes. -/
import Derived.Test.YtfnlcnjflloecaaDoorOct2
import Derived.Test.YtfnlcnjflloecaaDoorFlo
set_option linter.unusedVariables false
set_option linter.unusedSimpArgs false
namespace Go.Proofs.YtfnlcnjflloecaaDoor
open Go.RowKit
theorem numG_at (l : List UInt8) : ∀ i n, (numG l i n).2.1 ≤ i + l.length := by
  induction l with
  | nil => intro i n; simp [numG]
  | cons c r ih =>
    intro i n
    unfold numG
    split
    · simp
    · split
      · split
        · simp
        · simp
      · have := ih (i + 1) (n + c.toNat % 128 * 2 ^ (7 * i))
        simp only [List.length_cons]; omega
theorem numI_at (l : List UInt8) : (numI l).2.1 ≤ l.length := by have := numG_at l 0 0; unfold numI; omega
def uintI (l : List UInt8) : Nat × List UInt8 × Int := if (numI l).2.2 = 0 then ((numI l).1, l.drop (numI l).2.1, 0) else (0, [], (numI l).2.2)
def GivesU (w : World) (r : Nat × List UInt8 × Int) (e : Ending) (w' : World) : Prop := ∃ v, e = .returned (.tuple #[.int .u64 (r.1 : Int), v, .int .i64 r.2.2]) ∧ Own8 w' w.heap.size 5 v r.2.1 ∧ Below w.heap.size w w'
theorem uint_c (v : Value) (l : List UInt8) (w : World) (h : Rd w v l) (hl : l.length ≤ 10000000) : Calls Tryd.prog 71 #[v] w (GivesU w (uintI l)) := by
  have N := number_c v l w h
  have ha := numI_at l
  unfold uintI
  unfold GivesN at N
  unfold GivesU
  generalize (numI l).1 = n at *
  generalize (numI l).2.1 = a at *
  generalize (numI l).2.2 = r at *
  go_enter Tryd.func71, Tryd.ntmps71
  by_cases hr : r = 0
  · rw [if_pos hr]
    subst hr
    have c0 : True := trivial
    go_wp2_with (first
      | (have _t := c0; go_at_call 109; refine N.mono ?_; rintro e w1 ⟨rfl, hb1⟩; have h1 := h.below hb1; clear c0; have c1 : True := trivial)
      | (have _t := c1; (with_reducible refine G_slice ?_; refine L8_slice_l st8 (lo := a) (by with_unfolding_all (conv => lhs; whnf)) (by assumption) (by with_unfolding_all (conv => lhs; whnf)) (by omega) (by omega) ?_); intro vs hvs hvb; clear c1; have c2 : True := trivial)
      | (have _t := c2; go_at_call 111; refine (rest_c _ _ _ hvs (by simp; omega)).mono ?_; rintro e w2 ⟨v2, rfl, ho2, hb2⟩; clear c2; have c3 : True := trivial))
    go_ret3
    exact ⟨_, rfl, ho2.mono hb1.size, below_below hb1 hb2⟩
  · rw [if_neg hr]
    have c0 : True := trivial
    go_wp2_with (first
      | (have _t := c0; go_at_call 109; refine N.mono ?_; rintro e w1 ⟨rfl, hb1⟩; clear c0; have c1 : True := trivial))
    go_ret3
    exact ⟨_, rfl, Own8.nil _ _ _, hb1⟩
theorem str_toList (l : List UInt8) : (strB l).toList = l := by rw [ByteArray.toList_eq]; rfl
theorem uint_ex : uintI [172, 2, 9] = (300, [9], 0) := by decide +kernel
theorem form_ex : formU 300 = [172, 2] := by rw [formU_ge (by omega), formU_lt (by omega)]; rfl
theorem ord_ex : ordI 4607182418800017408 4611686018427387904 = -1 := by decide +kernel
end Go.Proofs.YtfnlcnjflloecaaDoor
