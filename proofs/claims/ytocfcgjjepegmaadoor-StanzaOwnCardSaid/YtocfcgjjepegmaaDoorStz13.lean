/- roostref04.list. -/
import Derived.Test.YtocfcgjjepegmaaDoorStz8
import Derived.Test.YtocfcgjjepegmaaDoorStz2
import Derived.Test.YtocfcgjjepegmaaDoorStz3
import Derived.Test.YtocfcgjjepegmaaDoorOct8
set_option linter.unusedVariables false
set_option linter.unusedSimpArgs false
namespace Go.Proofs.YtocfcgjjepegmaaDoor
open Go.RowKit
def GivesLs (w : World) (r : List (List UInt8) × List UInt8 × Int) (e : Ending) (w' : World) : Prop :=
  ∃ u v, e = .returned (.tuple #[u, v, .int .i64 r.2.2]) ∧ OwnT w' w.heap.size u r.1 ∧ Rd w' v r.2.1 ∧ (∀ g, v.ownBlock = some g → w.heap.size ≤ g) ∧ Below w.heap.size w w'
def LfRel (w : World) (n : Nat) (T : List (List UInt8) × List UInt8 × Int) (b out i : Value) (wr : World) : Prop :=
  ∃ (j : Nat) (acc : List (List UInt8)) (bl : List UInt8), j ≤ n ∧ i = .int .u64 (j : Int) ∧ acc.length = j ∧ OwnT wr w.heap.size out acc ∧ Rd wr b bl ∧ (∀ g, b.ownBlock = some g → g < wr.heap.size ∧ w.heap.size ≤ g ∧ out.ownBlock ≠ some g) ∧ bl.length ≤ 10000000 ∧ textsI (n - j) acc bl = T ∧ Below w.heap.size w wr
set_option maxRecDepth 100000 in
set_option maxHeartbeats 1600000 in
theorem reflist_c (v : Value) (l : List UInt8) (w : World) (h : Rd w v l) (hl : l.length ≤ 10000000) :
    Calls Tryd.prog 80 #[v] w (GivesLs w (listI l)) := by
  have U := refuint_c v l w h hl
  have hI : listI l = if (uintI l).2.2 = 0 then
    if 64 < (uintI l).1 then ([], [], 5) else if (uintI l).1 = 0 then ([], [], 2) else textsI (uintI l).1 [] (uintI l).2.1
  else ([], [], (uintI l).2.2) := rfl
  have hr := uintI_rest l
  generalize listI l = I at *
  generalize uintI l = r at *
  obtain ⟨n, l1, e1⟩ := r
  unfold GivesU at U
  simp only at U hI hr
  by_cases he : e1 = 0
  · subst he
    rw [if_pos rfl] at hI
    by_cases h64 : 64 < n
    · rw [if_pos h64] at hI
      subst hI
      have q : (64 : Int) < n := by omega
      go_enter Tryd.func80, Tryd.ntmps80
      have c0 : True := trivial
      go_wp2_with (first
        | (have _t := c0; go_at_call 78; refine U.mono ?_; rintro e w1 ⟨v1, rfl, ho1, hb1⟩; clear c0; have c1 : True := trivial))
      go_ret3
      exact ⟨_, _, rfl, OwnT.nil _ _, Rd.nil _, by simp [Value.ownBlock], hb1⟩
    rw [if_neg h64] at hI
    have q : ¬ (64 : Int) < n := by omega
    by_cases h0 : n = 0
    · subst h0
      rw [if_pos rfl] at hI
      subst hI
      clear q h64 hr
      go_enter Tryd.func80, Tryd.ntmps80
      have c0 : True := trivial
      go_wp2_with (first
        | (have _t := c0; go_at_call 78; refine U.mono ?_; rintro e w1 ⟨v1, rfl, ho1, hb1⟩; clear c0; have c1 : True := trivial))
      go_ret3
      exact ⟨_, _, rfl, OwnT.nil _ _, Rd.nil _, by simp [Value.ownBlock], hb1⟩
    rw [if_neg h0] at hI
    have q2 : ((n : Int) == 0) = false := by simpa using h0
    have q3 : ¬ (n : Int) = 0 := by omega
    obtain ⟨T, hT0⟩ : ∃ T, T = textsI n [] l1 := ⟨_, rfl⟩
    rw [← hT0] at hI
    subst hI
    replace hT0 := Go.Lib.hid hT0
    go_enter Tryd.func80, Tryd.ntmps80
    have c0 : True := trivial
    go_wp2_with (first
      | (have _t := c0; go_at_call 78; refine U.mono ?_; rintro e w1 ⟨v1, rfl, ho1, hb1⟩; clear c0; have c1 : True := trivial))
    go_loopw [0, 7, 8] (LfRel w n I) (fun _ _ i _ => n - (intOf i).toNat)
    case atStart => exact ⟨0, [], l1, by omega, rfl, rfl, OwnT.nil _ _, ho1.rd, fun g hg => ⟨ho1.lt g hg, ho1.base_le g hg, by simp [Value.ownBlock]⟩, by omega, hT0.out.symm, hb1⟩
    clear hT0 hr U ho1 hb1 q2 q3
    case round =>
      obtain ⟨j, acc, b, hj, rfl, hja, ho, k2, k3, hbl, hI, hbw⟩ := hrel
      by_cases hlt : j < n
      · have q3 : (j : Int) < n := by omega
        have TX := reftext_c _ b 1024 wr k2 hbl (by omega)
        rw [show (1024 : Int).toNat = 1024 from rfl] at TX
        have hrest := textI_rest b 1024
        obtain ⟨m, hm⟩ : ∃ m, n - j = m + 1 := ⟨n - j - 1, by omega⟩
        have hm2 : n - (j + 1) = m := by omega
        rw [hm] at hI
        unfold textsI at hI
        generalize textI b 1024 = r2 at *
        obtain ⟨s, l2, e2⟩ := r2
        unfold GivesT at TX
        simp only at TX hI hrest
        have hI2 := Go.Lib.hid hI
        clear hI
        by_cases he2 : e2 = 0
        · subst he2
          replace hI2 := hI2.out
          rw [if_pos rfl] at hI2
          replace hI2 := Go.Lib.hid hI2
          replace hm2 := Go.Lib.hid hm2
          replace hja := Go.Lib.hid hja
          clear k2
          have d0 : True := trivial
          go_wp2_with (first
            | (have _t := d0; go_at_call 79; refine TX.mono ?_; rintro e w2 ⟨v2, rfl, hv2, hb2⟩; have ho2 := ho.below hb2; have hz2 := hb2.size; have hzw := hbw.size; clear d0; have d1 : True := trivial)
            | (have _t := d1; at_builtin; refine wpList_appT rfl _ _ rfl (by with_unfolding_all (conv => lhs; whnf)) (ho2.below ((Below.refl _ _).alloc (Nat.le_refl _) _)) (by with_unfolding_all (conv => lhs; whnf)) (rdT_one _ _ s) (by have := hja.out; simp; omega) (by simp; omega) ?_; intro v3 w3 ho3 hg3 hb3; clear d1; have d2 : True := trivial))
          have hBl := (Below.refl w2.heap.size w2).alloc (Nat.le_refl _) (.cells #[.string (strB s)] 9)
          have hlow := grown_low (B := w.heap.size) ho2 hg3 (Nat.le_refl _) (by omega)
          have hne : ∀ g, v2.ownBlock = some g → u7.ownBlock ≠ some g := fun g hg e => by have := hv2.base_le g hg; have := ho.lt g e; omega
          refine ⟨⟨j + 1, acc ++ [s], l2, by omega, by go_num, by simp [hja.out], ho3, (hv2.rd.below hBl).grown hg3 (fun _ e => ?_), fun g hg => ⟨?_, by have := hv2.base_le g hg; omega, fun e => ?_⟩, by omega, by rw [hm2.out]; exact hI2.out, ?_⟩, by simp [intOf]; omega⟩
          · have hp0 : 0 < l2.length := by assumption
            obtain ⟨A', c', rfl, _, _, hA'⟩ := hv2.rd.open
            obtain ⟨b', o', rfl, _⟩ := hA' hp0
            exact hne b' rfl (by rw [← e]; rfl)
          · have := hv2.lt g hg
            have h2 := hBl.size
            have h3 := hg3.size
            omega
          · have hlt2 := hv2.lt g hg
            rcases hb3 with h | h
            · exact hne g hg (by rw [← h]; exact e)
            · rw [e] at h
              have : some g = some (w2.heap.size + 1) := by simpa using h
              cases this
              omega
          · exact (hbw.trans (hb2.mono hbw.size)).trans hlow
        · have he2b : (e2 != 0) = true := by simpa using he2
          replace hI2 := hI2.out
          rw [if_neg he2] at hI2
          subst hI2
          have d0 : True := trivial
          go_wp2_with (first
            | (have _t := d0; go_at_call 79; refine TX.mono ?_; rintro e w2 ⟨v2, rfl, hv2, hb2⟩; clear d0; have d1 : True := trivial))
          go_ret3
          exact ⟨_, _, rfl, OwnT.nil _ _, Rd.nil _, by simp [Value.ownBlock], hbw.trans (hb2.mono hbw.size)⟩
      · obtain rfl : j = n := by omega
        have q3 : ¬ (j : Int) < j := by omega
        rw [Nat.sub_self] at hI
        have hI2 : I = (acc, b, 0) := hI.symm
        subst hI2
        go_wp2_with fail
        go_ret3
        exact ⟨_, _, rfl, ho, k2, fun g hg => (k3 g hg).2.1, hbw⟩
  · rw [if_neg he] at hI
    subst hI
    have heb : (e1 != 0) = true := by simpa using he
    go_enter Tryd.func80, Tryd.ntmps80
    have c0 : True := trivial
    go_wp2_with (first
      | (have _t := c0; go_at_call 78; refine U.mono ?_; rintro e w1 ⟨v1, rfl, ho1, hb1⟩; clear c0; have c1 : True := trivial))
    go_ret3
    exact ⟨_, _, rfl, OwnT.nil _ _, Rd.nil _, by simp [Value.ownBlock], hb1⟩
end Go.Proofs.YtocfcgjjepegmaaDoor
