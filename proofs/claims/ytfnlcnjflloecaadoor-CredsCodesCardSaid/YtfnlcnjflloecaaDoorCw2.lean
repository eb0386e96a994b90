/- creds.right and the reference's Right. -/
import Derived.Test.YtfnlcnjflloecaaDoorCw1
set_option linter.unusedVariables false
set_option linter.unusedSimpArgs false
set_option linter.unnecessarySimpa false
namespace Go.Proofs.YtfnlcnjflloecaaDoor
open Go.RowKit
theorem rightB_cases (u s : List UInt8) (n : Int) :
    ((localI u).2 ≠ 0 ∧ rightB u s n = false) ∨
    ((localI u).2 = 0 ∧ (localI u).1 ≠ u ∧ rightB u s n = false) ∨
    ((localI u).2 = 0 ∧ (localI u).1 = u ∧ saltB s = false ∧ rightB u s n = false) ∨
    ((localI u).2 = 0 ∧ (localI u).1 = u ∧ saltB s = true ∧ ¬ 1 ≤ n ∧ rightB u s n = false) ∨
    ((localI u).2 = 0 ∧ (localI u).1 = u ∧ saltB s = true ∧ 1 ≤ n ∧ ¬ n ≤ 4096 ∧ rightB u s n = false) ∨
    ((localI u).2 = 0 ∧ (localI u).1 = u ∧ saltB s = true ∧ 1 ≤ n ∧ n ≤ 4096 ∧ rightB u s n = true) := by
  unfold rightB
  obtain ⟨a, e⟩ := localI u
  simp only [Prod.mk.injEq]
  by_cases h1 : e = 0
  · by_cases h2 : a = u
    · cases hs : saltB s
      · simp [h1, h2]
      · by_cases h3 : 1 ≤ n
        · by_cases h4 : n ≤ 4096
          · simp [h1, h2, h3, h4]
          · simp [h1, h2, h3, h4]
        · simp [h1, h2, h3]
    · simp [h1, h2]
  · simp [h1]
theorem str_beq_ne {a b : List UInt8} (h : a ≠ b) : ((strB a).toList == (strB b).toList) = false := by rw [strB_beq]; exact decide_eq_false h
set_option maxRecDepth 100000 in
set_option maxHeartbeats 3200000 in
theorem cright_c (u : List UInt8) (vs : Value) (s : List UInt8) (n : Int) (A B : List UInt8) (w : World) (hs : Rd w vs s) (hu : u.length ≤ 100000) (hT : Tabs w) :
    Calls Tryd.prog 62 #[.agg (recC u vs n A B).toArray] w fun e w' => e = .returned (.bool (rightB u s n)) ∧ Below w.heap.size w w' := by
  have LC := fun w1 (hb : Below w.heap.size w w1) => local_c u w1 (by omega) (hT.below hb)
  have SC := fun w1 (hb : Below w.heap.size w w1) => salted_c vs s w1 (hs.below hb)
  have hc := rightB_cases u s n
  have c0 : (recC u vs n A B)[0]? = some (.string (strB u)) := rfl
  have c1 : (recC u vs n A B)[1]? = some vs := rfl
  have c2 : (recC u vs n A B)[2]? = some (.int .i64 n) := rfl
  have q0 := str_self u
  have qn := fun a (h : a ≠ u) => str_beq_ne h
  generalize recC u vs n A B = R at *
  generalize rightB u s n = T at *
  generalize hL : localI u = L at *
  obtain ⟨l1, l2⟩ := L
  unfold GivesSE at LC
  simp only at LC hc
  generalize saltB s = sb at *
  rcases hc with ⟨h1, rfl⟩ | ⟨rfl, h2, rfl⟩ | ⟨rfl, rfl, rfl, rfl⟩ | ⟨rfl, rfl, rfl, h4, rfl⟩ | ⟨rfl, rfl, rfl, h4, h5, rfl⟩ | ⟨rfl, rfl, rfl, h4, h5, rfl⟩
  · have q1 : (l2 == 0) = false := by simpa using h1
    clear qn hL h1 q0 SC
    generalize strB u = U at *
    go_enter Tryd.func62, Tryd.ntmps62
    have ta0 : True := trivial
    go_wp2_with (first
      | (have _t := ta0; (with_reducible refine G_box ?_; refine L_box (by with_unfolding_all (conv => lhs; whnf)) ?_); intro w1 hk1 hb1 hs1; have d0 := (hk1.cell 0).trans c0; clear ta0; have ta1 : True := trivial)
      | (have _t := ta1; go_at_call 15; refine (LC _ hb1).mono ?_; rintro e w2 ⟨rfl, hb2⟩; replace hb1 := below_below hb1 hb2; clear ta1; have ta2 : True := trivial))
    go_ret
    exact ⟨rfl, hb1⟩
  · have q1 := qn _ h2
    clear qn hL h2 q0 SC
    generalize strB u = U at *
    go_enter Tryd.func62, Tryd.ntmps62
    have tb0 : True := trivial
    go_wp2_with (first
      | (have _t := tb0; (with_reducible refine G_box ?_; refine L_box (by with_unfolding_all (conv => lhs; whnf)) ?_); intro w1 hk1 hb1 hs1; replace hk1 : Blk w1 w.heap.size 42 R := hk1; have d0 := (hk1.cell 0).trans c0; clear tb0; have tb1 : True := trivial)
      | (have _t := tb1; go_at_call 15; refine (LC _ hb1).mono ?_; rintro e w2 ⟨rfl, hb2⟩; replace hb1 := below_below hb1 hb2; replace hk1 := hk1.below hb2; have d0 := (hk1.cell 0).trans c0; clear tb1; have tb2 : True := trivial))
    go_ret
    exact ⟨rfl, hb1⟩
  · clear qn hL
    generalize strB l1 = U at *
    go_enter Tryd.func62, Tryd.ntmps62
    have tc0 : True := trivial
    go_wp2_with (first
      | (have _t := tc0; (with_reducible refine G_box ?_; refine L_box (by with_unfolding_all (conv => lhs; whnf)) ?_); intro w1 hk1 hb1 hs1; replace hk1 : Blk w1 w.heap.size 42 R := hk1; have d0 := (hk1.cell 0).trans c0; clear tc0; have tc1 : True := trivial)
      | (have _t := tc1; go_at_call 15; refine (LC _ hb1).mono ?_; rintro e w2 ⟨rfl, hb2⟩; replace hb1 := below_below hb1 hb2; replace hk1 := hk1.below hb2; have d0 := (hk1.cell 0).trans c0; have d1 := (hk1.cell 1).trans c1; clear tc1; have tc2 : True := trivial)
      | (have _t := tc2; go_at_call 56; refine (SC _ hb1).mono ?_; rintro e w3 ⟨rfl, rfl⟩; clear tc2; have tc3 : True := trivial))
    go_ret
    exact ⟨rfl, hb1⟩
  · clear qn hL
    have h4' : decide (1 ≤ n) = false := decide_eq_false h4
    generalize strB l1 = U at *
    go_enter Tryd.func62, Tryd.ntmps62
    have td0 : True := trivial
    go_wp2_with (first
      | (have _t := td0; (with_reducible refine G_box ?_; refine L_box (by with_unfolding_all (conv => lhs; whnf)) ?_); intro w1 hk1 hb1 hs1; replace hk1 : Blk w1 w.heap.size 42 R := hk1; have d0 := (hk1.cell 0).trans c0; clear td0; have td1 : True := trivial)
      | (have _t := td1; go_at_call 15; refine (LC _ hb1).mono ?_; rintro e w2 ⟨rfl, hb2⟩; replace hb1 := below_below hb1 hb2; replace hk1 := hk1.below hb2; have d0 := (hk1.cell 0).trans c0; have d1 := (hk1.cell 1).trans c1; have d2 := (hk1.cell 2).trans c2; clear td1; have td2 : True := trivial)
      | (have _t := td2; go_at_call 56; refine (SC _ hb1).mono ?_; rintro e w3 ⟨rfl, rfl⟩; clear td2; have td3 : True := trivial))
    go_ret
    exact ⟨rfl, hb1⟩
  all_goals
    first
      | have h5' : decide (n ≤ 4096) = false := decide_eq_false h5
      | have h5' : decide (n ≤ 4096) = true := decide_eq_true h5
    clear qn hL
    generalize strB l1 = U at *
    go_enter Tryd.func62, Tryd.ntmps62
    have te0 : True := trivial
    go_wp2_with (first
      | (have _t := te0; (with_reducible refine G_box ?_; refine L_box (by with_unfolding_all (conv => lhs; whnf)) ?_); intro w1 hk1 hb1 hs1; replace hk1 : Blk w1 w.heap.size 42 R := hk1; have d0 := (hk1.cell 0).trans c0; clear te0; have te1 : True := trivial)
      | (have _t := te1; go_at_call 15; refine (LC _ hb1).mono ?_; rintro e w2 ⟨rfl, hb2⟩; replace hb1 := below_below hb1 hb2; replace hk1 := hk1.below hb2; have d0 := (hk1.cell 0).trans c0; have d1 := (hk1.cell 1).trans c1; have d2 := (hk1.cell 2).trans c2; clear te1; have te2 : True := trivial)
      | (have _t := te2; go_at_call 56; refine (SC _ hb1).mono ?_; rintro e w3 ⟨rfl, rfl⟩; clear te2; have te3 : True := trivial))
    go_ret
    exact ⟨rfl, hb1⟩
set_option maxRecDepth 100000 in
set_option maxHeartbeats 3200000 in
theorem refcright_c (u : List UInt8) (vs : Value) (s : List UInt8) (n : Int) (A B : List UInt8) (w : World) (hs : Rd w vs s) (hu : u.length ≤ 100000) (hT : Tabs w) :
    Calls Tryd.prog 24 #[.agg (recC u vs n A B).toArray] w fun e w' => e = .returned (.bool (rightB u s n)) ∧ Below w.heap.size w w' := by
  have LC := fun w1 (hb : Below w.heap.size w w1) => reflocal_c u w1 (by omega)
  have hc := rightB_cases u s n
  have c0 : (recC u vs n A B)[0]? = some (.string (strB u)) := rfl
  have c1 : (recC u vs n A B)[1]? = some vs := rfl
  have c2 : (recC u vs n A B)[2]? = some (.int .i64 n) := rfl
  have q0 := str_self u
  have qn := fun a (h : a ≠ u) => str_beq_ne h
  generalize recC u vs n A B = R at *
  generalize rightB u s n = T at *
  generalize hL : localI u = L at *
  obtain ⟨l1, l2⟩ := L
  unfold GivesSE at LC
  simp only at LC hc
  have hsl : s.length ≤ 9223372036854775807 := hs.len_le
  obtain ⟨AA, cc, rfl, _, _, _⟩ := hs.open
  have hsb : (saltB s = true ↔ 1 ≤ s.length ∧ s.length ≤ 32) := by unfold saltB; simp
  generalize saltB s = sb at *
  clear hs
  rcases hc with ⟨h1, rfl⟩ | ⟨rfl, h2, rfl⟩ | ⟨rfl, rfl, rfl, rfl⟩ | ⟨rfl, rfl, rfl, h4, rfl⟩ | ⟨rfl, rfl, rfl, h4, h5, rfl⟩ | ⟨rfl, rfl, rfl, h4, h5, rfl⟩
  · have q1 : (l2 == 0) = false := by simpa using h1
    clear hsb qn hL h1 q0
    generalize strB u = U at *
    go_enter Tryd.func24, Tryd.ntmps24
    have ta0 : True := trivial
    go_wp2_with (first
      | (have _t := ta0; (with_reducible refine G_box ?_; refine L_box (by with_unfolding_all (conv => lhs; whnf)) ?_); intro w1 hk1 hb1 hs1; have d0 := (hk1.cell 0).trans c0; clear ta0; have ta1 : True := trivial)
      | (have _t := ta1; go_at_call 42; refine (LC _ hb1).mono ?_; rintro e w2 ⟨rfl, hb2⟩; replace hb1 := below_below hb1 hb2; clear ta1; have ta2 : True := trivial))
    go_ret
    exact ⟨rfl, hb1⟩
  · have q1 := qn _ h2
    clear hsb qn hL h2 q0
    generalize strB u = U at *
    go_enter Tryd.func24, Tryd.ntmps24
    have tb0 : True := trivial
    go_wp2_with (first
      | (have _t := tb0; (with_reducible refine G_box ?_; refine L_box (by with_unfolding_all (conv => lhs; whnf)) ?_); intro w1 hk1 hb1 hs1; replace hk1 : Blk w1 w.heap.size 42 R := hk1; have d0 := (hk1.cell 0).trans c0; clear tb0; have tb1 : True := trivial)
      | (have _t := tb1; go_at_call 42; refine (LC _ hb1).mono ?_; rintro e w2 ⟨rfl, hb2⟩; replace hb1 := below_below hb1 hb2; replace hk1 := hk1.below hb2; have d0 := (hk1.cell 0).trans c0; clear tb1; have tb2 : True := trivial))
    go_ret
    exact ⟨rfl, hb1⟩
  · clear qn hL
    generalize strB l1 = U at *
    by_cases k1 : 1 ≤ s.length
    · have k2 : ¬ s.length ≤ 32 := fun h => by have := hsb.2 ⟨k1, h⟩; cases this
      have q3 : (1 : Int) ≤ s.length := by omega
      have q4 : ¬ (s.length : Int) ≤ 32 := by omega
      have q4' : decide ((s.length : Int) ≤ 32) = false := decide_eq_false q4
      clear hsb
      go_enter Tryd.func24, Tryd.ntmps24
      have tca0 : True := trivial
      go_wp2_with (first
        | (have _t := tca0; (with_reducible refine G_box ?_; refine L_box (by with_unfolding_all (conv => lhs; whnf)) ?_); intro w1 hk1 hb1 hs1; replace hk1 : Blk w1 w.heap.size 42 R := hk1; have d0 := (hk1.cell 0).trans c0; clear tca0; have tca1 : True := trivial)
        | (have _t := tca1; go_at_call 42; refine (LC _ hb1).mono ?_; rintro e w2 ⟨rfl, hb2⟩; replace hb1 := below_below hb1 hb2; replace hk1 := hk1.below hb2; have d0 := (hk1.cell 0).trans c0; have d1 := (hk1.cell 1).trans c1; clear tca1; have tca2 : True := trivial))
      go_ret
      exact ⟨rfl, hb1⟩
    · have q3 : ¬ (1 : Int) ≤ s.length := by omega
      have q3' : decide ((1 : Int) ≤ (s.length : Int)) = false := decide_eq_false q3
      clear hsb
      go_enter Tryd.func24, Tryd.ntmps24
      have tcb0 : True := trivial
      go_wp2_with (first
        | (have _t := tcb0; (with_reducible refine G_box ?_; refine L_box (by with_unfolding_all (conv => lhs; whnf)) ?_); intro w1 hk1 hb1 hs1; replace hk1 : Blk w1 w.heap.size 42 R := hk1; have d0 := (hk1.cell 0).trans c0; clear tcb0; have tcb1 : True := trivial)
        | (have _t := tcb1; go_at_call 42; refine (LC _ hb1).mono ?_; rintro e w2 ⟨rfl, hb2⟩; replace hb1 := below_below hb1 hb2; replace hk1 := hk1.below hb2; have d0 := (hk1.cell 0).trans c0; have d1 := (hk1.cell 1).trans c1; clear tcb1; have tcb2 : True := trivial))
      go_ret
      exact ⟨rfl, hb1⟩
  · clear qn hL
    have q3 : (1 : Int) ≤ s.length := by have := hsb.1 rfl; omega
    have q4 : (s.length : Int) ≤ 32 := by have := hsb.1 rfl; omega
    clear hsb
    have h4' : decide (1 ≤ n) = false := decide_eq_false h4
    generalize strB l1 = U at *
    go_enter Tryd.func24, Tryd.ntmps24
    have td0 : True := trivial
    go_wp2_with (first
      | (have _t := td0; (with_reducible refine G_box ?_; refine L_box (by with_unfolding_all (conv => lhs; whnf)) ?_); intro w1 hk1 hb1 hs1; replace hk1 : Blk w1 w.heap.size 42 R := hk1; have d0 := (hk1.cell 0).trans c0; clear td0; have td1 : True := trivial)
      | (have _t := td1; go_at_call 42; refine (LC _ hb1).mono ?_; rintro e w2 ⟨rfl, hb2⟩; replace hb1 := below_below hb1 hb2; replace hk1 := hk1.below hb2; have d0 := (hk1.cell 0).trans c0; have d1 := (hk1.cell 1).trans c1; have d2 := (hk1.cell 2).trans c2; clear td1; have td2 : True := trivial))
    go_ret
    exact ⟨rfl, hb1⟩
  all_goals
    first
      | have h5' : decide (n ≤ 4096) = false := decide_eq_false h5
      | have h5' : decide (n ≤ 4096) = true := decide_eq_true h5
    clear qn hL
    have q3 : (1 : Int) ≤ s.length := by have := hsb.1 rfl; omega
    have q4 : (s.length : Int) ≤ 32 := by have := hsb.1 rfl; omega
    clear hsb
    generalize strB l1 = U at *
    go_enter Tryd.func24, Tryd.ntmps24
    have te0 : True := trivial
    go_wp2_with (first
      | (have _t := te0; (with_reducible refine G_box ?_; refine L_box (by with_unfolding_all (conv => lhs; whnf)) ?_); intro w1 hk1 hb1 hs1; replace hk1 : Blk w1 w.heap.size 42 R := hk1; have d0 := (hk1.cell 0).trans c0; clear te0; have te1 : True := trivial)
      | (have _t := te1; go_at_call 42; refine (LC _ hb1).mono ?_; rintro e w2 ⟨rfl, hb2⟩; replace hb1 := below_below hb1 hb2; replace hk1 := hk1.below hb2; have d0 := (hk1.cell 0).trans c0; have d1 := (hk1.cell 1).trans c1; have d2 := (hk1.cell 2).trans c2; clear te1; have te2 : True := trivial))
    go_ret
    exact ⟨rfl, hb1⟩
end Go.Proofs.YtfnlcnjflloecaaDoor
