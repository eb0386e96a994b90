/- roostlaw07's rounds, few, cut; an argument that is a struct of six one-cell fields, opened. -/
import Derived.Test.YtfnlcnjflloecaaDoorSch
import Derived.Test.YtfnlcnjflloecaaDoorMk3
import Derived.Lib.SmallJoins
set_option linter.unusedVariables false
set_option linter.unusedSimpArgs false
set_option linter.unnecessarySimpa false
namespace Go.Proofs.YtfnlcnjflloecaaDoor
open Go.RowKit
theorem few7_c (v : Value) (l : List UInt8) (w : World) (h : Rd w v l) : Calls Tryd.prog 31 #[v] w (Gives8 5 w (l.take 60)) := by
  have P := fun w1 (hb : Below w.heap.size w w1) => twin_c v l 60 w1 (h.below hb) (by omega) (by omega)
  have e : (60 : Int).toNat = 60 := rfl
  rw [e] at P
  go_enter Tryd.func31, Tryd.ntmps31
  go_wp2_with (go_at_call 18; refine (P _ (Below.refl _ _)).mono ?_; rintro e w1 ⟨v1, rfl, ho1, hb1⟩)
  go_ret
  exact ⟨_, rfl, ho1, hb1⟩
theorem cut7_c (u : List UInt8) (w : World) (hu : u.length ≤ 9223372036854775807) : Calls Tryd.prog 34 #[.string (strB u)] w fun e w' => e = .returned (.string (strB (u.take 1100))) ∧ w = w' := by
  have P := text_c u 1100 w hu (by omega)
  generalize strB (u.take 1100) = R at *
  generalize strB u = U at *
  go_enter Tryd.func34, Tryd.ntmps34
  go_wp2_with (go_at_call 9; refine P.mono ?_; rintro e w1 ⟨rfl, rfl⟩)
  go_ret
  exact ⟨rfl, rfl⟩
def roundsI (n : Int) : Int := if 12 < n ∧ n ≤ 4096 then n % 12 + 1 else n
theorem roundsI_ok (n : Int) : roundsI n ≤ 99 ∨ 4096 < roundsI n := by unfold roundsI; split <;> omega
theorem rounds_c (n : Int) (w : World) (hn : -9223372036854775808 ≤ n ∧ n ≤ 9223372036854775807) : Calls Tryd.prog 29 #[.int .i64 n] w fun e w' => e = .returned (.int .i64 (roundsI n)) ∧ w = w' := by
  rcases (by omega : ¬ 12 < n ∨ (12 < n ∧ ¬ n ≤ 4096) ∨ (12 < n ∧ n ≤ 4096)) with c1 | ⟨c1, c2⟩ | ⟨c1, c2⟩
  · have hr : roundsI n = n := by unfold roundsI; rw [if_neg (by omega)]
    rw [hr]
    have d1 : decide (12 < n) = false := decide_eq_false c1
    clear hr
    go_enter Tryd.func29, Tryd.ntmps29
    go_wp2_with fail
    go_ret
    exact ⟨rfl, rfl⟩
  · have hr : roundsI n = n := by unfold roundsI; rw [if_neg (by omega)]
    rw [hr]
    have d1 : decide (12 < n) = true := decide_eq_true c1
    have d2 : decide (n ≤ 4096) = false := decide_eq_false c2
    clear hr
    go_enter Tryd.func29, Tryd.ntmps29
    go_wp2_with fail
    go_ret
    exact ⟨rfl, rfl⟩
  · have hr : roundsI n = n % 12 + 1 := by unfold roundsI; rw [if_pos ⟨c1, c2⟩]
    rw [hr]
    have d1 : decide (12 < n) = true := decide_eq_true c1
    have d2 : decide (n ≤ 4096) = true := decide_eq_true c2
    have hq : Int.tmod n 12 = n % 12 := Int.tmod_eq_emod_of_nonneg (by omega)
    have q1 : 0 ≤ n % 12 := by omega
    have q2 : n % 12 < 12 := by omega
    clear hr
    generalize n % 12 = r at *
    go_enter Tryd.func29, Tryd.ntmps29
    go_wp2_with fail
    go_ret
    exact ⟨rfl, rfl⟩
end Go.Proofs.YtfnlcnjflloecaaDoor
namespace Go.Proofs.YtfnlcnjflloecaaDoor
open Go Go.ChangeShapes Go.WideShapes Go.RowKit Go.Deep Go.WideElems Go.Maps Go.Joins
theorem array6 {α : Type} {cs : Array α} (h : cs.size = 6) : ∃ c0 c1 c2 c3 c4 c5, cs = #[c0, c1, c2, c3, c4, c5] := by
  obtain ⟨l⟩ := cs
  match l, h with
  | [c0, c1, c2, c3, c4, c5], _ => exact ⟨c0, c1, c2, c3, c4, c5, rfl⟩
section
variable {H : Type} {enc : TypeId × Value → H} {P : Program} {w : World} {base : Nat} {spare : Nat → Bool} {held : Bool}
theorem open_agg6 {r : Reach} {b0 : Nat} {t : TypeId} {f0 f1 f2 f3 f4 f5 : Field} {v : Value} {d : DataW H} {p : List MemPlace} (hs : P.underlying t = some (.struct #[f0, f1, f2, f3, f4, f5])) (hone : oneCellFields P #[f0, f1, f2, f3, f4, f5] = true) (hC : P.cellsOf t = 6)
    (hv : Value.okWide P w r b0 t v) (h : DataW.Trod enc P w base spare held t v d p) :
    ∃ (v0 v1 v2 v3 v4 v5 : Value) (y0 y1 y2 y3 y4 y5 : DataW H × List MemPlace) (n : Nat), v = .agg #[v0, v1, v2, v3, v4, v5] ∧
      DataW.trod enc P w base spare held n f0.type [v0] = some y0 ∧ DataW.trod enc P w base spare held n f1.type [v1] = some y1 ∧ DataW.trod enc P w base spare held n f2.type [v2] = some y2 ∧ DataW.trod enc P w base spare held n f3.type [v3] = some y3 ∧ DataW.trod enc P w base spare held n f4.type [v4] = some y4 ∧ DataW.trod enc P w base spare held n f5.type [v5] = some y5 := by
  obtain ⟨cs, rfl, hsz⟩ := okWide_struct hs hv
  obtain ⟨c0, c1, c2, c3, c4, c5, rfl⟩ := array6 (hsz.trans hC)
  obtain ⟨fuel, hf⟩ := h
  obtain ⟨xs, n, _, _, hl, hlen, hx⟩ := DataW.trod_struct hs hf
  obtain ⟨o0, k0⟩ := hone_of hone 0 f0 rfl
  obtain ⟨o1, k1⟩ := hone_of hone 1 f1 rfl
  obtain ⟨o2, k2⟩ := hone_of hone 2 f2 rfl
  obtain ⟨o3, k3⟩ := hone_of hone 3 f3 rfl
  obtain ⟨o4, k4⟩ := hone_of hone 4 f4 rfl
  obtain ⟨o5, k5⟩ := hone_of hone 5 f5 rfl
  match xs, hlen with
  | [y0, y1, y2, y3, y4, y5], _ =>
    exact ⟨c0, c1, c2, c3, c4, c5, y0, y1, y2, y3, y4, y5, n, rfl, by simpa [Value.cells, o0, k0] using hx 0 f0 rfl, by simpa [Value.cells, o1, k1] using hx 1 f1 rfl, by simpa [Value.cells, o2, k2] using hx 2 f2 rfl, by simpa [Value.cells, o3, k3] using hx 3 f3 rfl, by simpa [Value.cells, o4, k4] using hx 4 f4 rfl, by simpa [Value.cells, o5, k5] using hx 5 f5 rfl⟩
end
end Go.Proofs.YtfnlcnjflloecaaDoor
