/- octet.Text. -/
import Derived.Test.YtfnlcnjflloecaaDoorOct5
import Derived.Test.YtfnlcnjflloecaaDoorOct6
import Derived.Test.YtfnlcnjflloecaaDoorValid
/-! ### Oct7 -/
set_option linter.unusedVariables false
set_option linter.unusedSimpArgs false
namespace Go.Proofs.YtfnlcnjflloecaaDoor
open Go.RowKit
theorem stepR (m i : Nat) (c : UInt8) (hm : m < 2 ^ (7 * i)) (hi : i ≤ 9) (h9 : i = 9 → c.toNat ≤ 1) :
    bits .or .u64 (m : Int) (IntKind.u64.wrap (((c.toNat : Int) % 128) * 2 ^ (7 * i))) = ((m + c.toNat % 128 * 2 ^ (7 * i) : Nat) : Int) := by
  have h := (stepN m i c hm hi h9).1
  rw [andNot128, wraps64 ((c.toNat % 128 : Nat) : Int) (by omega) (by omega)] at h
  rw [← h]
  congr 1
set_option maxRecDepth 100000 in
set_option maxHeartbeats 1600000 in
theorem refuint_c (v : Value) (l : List UInt8) (w : World) (h : Rd w v l) (hl : l.length ≤ 10000000) : Calls Tryd.prog 73 #[v] w (GivesU w (uintI l)) := by
  have hI : uintI l = if (numI l).2.2 = 0 then ((numI l).1, l.drop (numI l).2.1, 0) else (0, [], (numI l).2.2) := rfl
  generalize uintI l = I at *
  replace hI := Go.Lib.hid hI
  go_enter Tryd.func73, Tryd.ntmps73
  go_wp2_with fail
  go_loopw [5, 6] (fun n a wr => NuRel w l n a wr) (fun _ a _ => l.length - (intOf a).toNat)
  case atStart => exact ⟨0, 0, by omega, by omega, by decide, rfl, rfl, rfl, rfl⟩
  case round =>
    obtain ⟨i, m, hi, hi9, hm, rfl, rfl, he, rfl⟩ := hrel
    by_cases hlt : i < l.length
    · have hd : l.drop i = l[i] :: l.drop (i + 1) := List.drop_eq_getElem_cons hlt
      have hb : bt l i = (l[i].toNat : Int) := bt_get l i hlt
      rw [hd] at he
      unfold numG at he
      generalize l[i] = c at *
      have hc := c.toNat_lt
      have q1 : (i : Int) < l.length := by omega
      have q10 : ((i : Int) == 10) = false := by simp; omega
      have c0 : (0 : Int) ≤ (c.toNat : Int) := by omega
      have c1 : (c.toNat : Int) < 256 := by omega
      by_cases hbad : i = 9 ∧ 1 < c.toNat
      · rw [if_pos hbad] at he
        have q2 : ((i : Int) == 9) = true := by simp [hbad.1]
        have q3 : (1 : Int) < c.toNat := by omega
        replace hbad := Go.Lib.hid hbad
        have e1 : I = (0, [], 3) := by rw [hI.out, ← he]; rfl
        replace he := Go.Lib.hid he
        go_wp2_with (first | (with_reducible refine G_len ?_; refine L8_len Tryd.underlying37 (by with_unfolding_all (conv => lhs; whnf)) (by assumption) ?_) | ((with_reducible refine G_index ?_; refine L8_index st8 (i := i) (by with_unfolding_all (conv => lhs; whnf)) (by assumption) (by with_unfolding_all (conv => lhs; whnf)) (by omega) (by omega) ?_); intro b o hbo hcl; rw [hb] at hcl))
        go_ret3
        exact ⟨_, by first | rfl | (rw [e1]; rfl), by first | exact Own8.nil _ _ _ | (rw [e1]; exact Own8.nil _ _ _), Below.refl _ _⟩
      · rw [if_neg hbad] at he
        have hS := stepR m i c hm hi9 (fun e => by
          by_cases h1 : 1 < c.toNat
          · exact absurd ⟨e, h1⟩ hbad
          · omega)
        have hT := stepN m i c hm hi9 (fun e => by
          by_cases h1 : 1 < c.toNat
          · exact absurd ⟨e, h1⟩ hbad
          · omega)
        have hS1 := Go.Lib.hid hS
        have hS2 := Go.Lib.hid hT.2
        clear hS hT
        have q9 : ((i : Int) == 9) = decide (i = 9) := by by_cases e : i = 9 <;> simp [e]; omega
        have q93 : i = 9 → ¬ (1 : Int) < c.toNat := fun e h => hbad ⟨e, by omega⟩
        by_cases h128 : c.toNat < 128
        · rw [if_pos h128] at he
          have q6 : (c.toNat : Int) < 128 := by omega
          by_cases hc0 : c.toNat = 0 ∧ 0 < i
          · rw [if_pos hc0] at he
            have q7 : ((c.toNat : Int) == 0) = true := by simp [hc0.1]
            have q8 : (0 : Int) < i := by omega
            have q8' : 0 < i := hc0.2
            by_cases h9 : i = 9
            · have q2 : ((i : Int) == 9) = true := by simp [h9]
              have q3 := q93 h9
              clear q9 q93
              replace h9 := Go.Lib.hid h9
              replace hc0 := Go.Lib.hid hc0
              have e1 : I = (0, [], 2) := by rw [hI.out, ← he]; rfl
              replace he := Go.Lib.hid he
              replace h128 := Go.Lib.hid h128
              go_wp2_with (first | (with_reducible refine G_len ?_; refine L8_len Tryd.underlying37 (by with_unfolding_all (conv => lhs; whnf)) (by assumption) ?_) | ((with_reducible refine G_index ?_; refine L8_index st8 (i := i) (by with_unfolding_all (conv => lhs; whnf)) (by assumption) (by with_unfolding_all (conv => lhs; whnf)) (by omega) (by omega) ?_); intro b o hbo hcl; rw [hb] at hcl))
              go_ret3
              exact ⟨_, by first | rfl | (rw [e1]; rfl), by first | exact Own8.nil _ _ _ | (rw [e1]; exact Own8.nil _ _ _), Below.refl _ _⟩
            · have q2 : ((i : Int) == 9) = false := by simp; omega
              clear q9 q93
              replace hc0 := Go.Lib.hid hc0
              have e1 : I = (0, [], 2) := by rw [hI.out, ← he]; rfl
              replace he := Go.Lib.hid he
              replace h128 := Go.Lib.hid h128
              go_wp2_with (first | (with_reducible refine G_len ?_; refine L8_len Tryd.underlying37 (by with_unfolding_all (conv => lhs; whnf)) (by assumption) ?_) | ((with_reducible refine G_index ?_; refine L8_index st8 (i := i) (by with_unfolding_all (conv => lhs; whnf)) (by assumption) (by with_unfolding_all (conv => lhs; whnf)) (by omega) (by omega) ?_); intro b o hbo hcl; rw [hb] at hcl))
              go_ret3
              exact ⟨_, by first | rfl | (rw [e1]; rfl), by first | exact Own8.nil _ _ _ | (rw [e1]; exact Own8.nil _ _ _), Below.refl _ _⟩
          · rw [if_neg hc0] at he
            by_cases hz : c.toNat = 0
            · have q7 : ((c.toNat : Int) == 0) = true := by simp [hz]
              have q8 : ¬ (0 : Int) < i := fun h => hc0 ⟨hz, by omega⟩
              have q8' : ¬ 0 < i := fun h => hc0 ⟨hz, h⟩
              have q2 : ((i : Int) == 9) = false := by simp; omega
              clear q9 q93
              replace hz := Go.Lib.hid hz
              replace hc0 := Go.Lib.hid hc0
              replace he := Go.Lib.hid he
              have hdl : (l.drop (i + 1)).length = l.length - (i + 1) := by simp
              replace h128 := Go.Lib.hid h128
              have tok0 : True := trivial
              go_wp2_with (first
                | ((with_reducible refine G_len ?_; refine L8_len Tryd.underlying37 (by with_unfolding_all (conv => lhs; whnf)) (by assumption) ?_))
                | (have _t := tok0; (with_reducible refine G_index ?_; refine L8_index st8 (i := i) (by with_unfolding_all (conv => lhs; whnf)) (by assumption) (by with_unfolding_all (conv => lhs; whnf)) (by omega) (by omega) ?_); intro b o hbo hcl; rw [hb] at hcl; clear tok0; have tok1 : True := trivial)
                | (have _t := tok1; (with_reducible refine G_slice ?_; refine L8_slice_l st8 (lo := (i + 1)) (by with_unfolding_all (conv => lhs; whnf)) (by assumption) (by with_unfolding_all (conv => lhs; whnf)) (by omega) (by omega) ?_); intro v9 r9 _; clear tok1; have tok2 : True := trivial)
                | (have _t := tok2; (at_builtin; refine wpList_cp8 rfl _ _ rfl st8 Tryd.underlying37 rfl rfl r9 (by omega) ?_); intro v10 w10 o10 g10; clear tok2; have tok3 : True := trivial))
              go_ret3
              have e1 : I = (m + c.toNat % 128 * 2 ^ (7 * i), l.drop (i + 1), 0) := by rw [hI.out, ← he.out]; rfl
              exact ⟨_, by rw [e1]; simp only [← hS1.out]; first | rfl | simp, by rw [e1]; exact o10, g10⟩
            · have q7 : ((c.toNat : Int) == 0) = false := by simp; omega
              clear hc0
              by_cases h9 : i = 9
              · have q2 : ((i : Int) == 9) = true := by simp [h9]
                have q3 := q93 h9
                clear q9 q93
                replace h9 := Go.Lib.hid h9
                replace he := Go.Lib.hid he
                have hdl : (l.drop (i + 1)).length = l.length - (i + 1) := by simp
                replace h128 := Go.Lib.hid h128
                have tok0 : True := trivial
                go_wp2_with (first
                  | ((with_reducible refine G_len ?_; refine L8_len Tryd.underlying37 (by with_unfolding_all (conv => lhs; whnf)) (by assumption) ?_))
                  | (have _t := tok0; (with_reducible refine G_index ?_; refine L8_index st8 (i := i) (by with_unfolding_all (conv => lhs; whnf)) (by assumption) (by with_unfolding_all (conv => lhs; whnf)) (by omega) (by omega) ?_); intro b o hbo hcl; rw [hb] at hcl; clear tok0; have tok1 : True := trivial)
                  | (have _t := tok1; (with_reducible refine G_slice ?_; refine L8_slice_l st8 (lo := (i + 1)) (by with_unfolding_all (conv => lhs; whnf)) (by assumption) (by with_unfolding_all (conv => lhs; whnf)) (by omega) (by omega) ?_); intro v9 r9 _; clear tok1; have tok2 : True := trivial)
                  | (have _t := tok2; (at_builtin; refine wpList_cp8 rfl _ _ rfl st8 Tryd.underlying37 rfl rfl r9 (by omega) ?_); intro v10 w10 o10 g10; clear tok2; have tok3 : True := trivial))
                go_ret3
                have e1 : I = (m + c.toNat % 128 * 2 ^ (7 * i), l.drop (i + 1), 0) := by rw [hI.out, ← he.out]; rfl
                exact ⟨_, by rw [e1]; simp only [← hS1.out]; first | rfl | simp, by rw [e1]; exact o10, g10⟩
              · have q2 : ((i : Int) == 9) = false := by simp; omega
                clear q9 q93
                replace he := Go.Lib.hid he
                have hdl : (l.drop (i + 1)).length = l.length - (i + 1) := by simp
                replace h128 := Go.Lib.hid h128
                have tok0 : True := trivial
                go_wp2_with (first
                  | ((with_reducible refine G_len ?_; refine L8_len Tryd.underlying37 (by with_unfolding_all (conv => lhs; whnf)) (by assumption) ?_))
                  | (have _t := tok0; (with_reducible refine G_index ?_; refine L8_index st8 (i := i) (by with_unfolding_all (conv => lhs; whnf)) (by assumption) (by with_unfolding_all (conv => lhs; whnf)) (by omega) (by omega) ?_); intro b o hbo hcl; rw [hb] at hcl; clear tok0; have tok1 : True := trivial)
                  | (have _t := tok1; (with_reducible refine G_slice ?_; refine L8_slice_l st8 (lo := (i + 1)) (by with_unfolding_all (conv => lhs; whnf)) (by assumption) (by with_unfolding_all (conv => lhs; whnf)) (by omega) (by omega) ?_); intro v9 r9 _; clear tok1; have tok2 : True := trivial)
                  | (have _t := tok2; (at_builtin; refine wpList_cp8 rfl _ _ rfl st8 Tryd.underlying37 rfl rfl r9 (by omega) ?_); intro v10 w10 o10 g10; clear tok2; have tok3 : True := trivial))
                go_ret3
                have e1 : I = (m + c.toNat % 128 * 2 ^ (7 * i), l.drop (i + 1), 0) := by rw [hI.out, ← he.out]; rfl
                exact ⟨_, by rw [e1]; simp only [← hS1.out]; first | rfl | simp, by rw [e1]; exact o10, g10⟩
        · rw [if_neg h128] at he
          have q6 : ¬ (c.toNat : Int) < 128 := by omega
          have h9 : ¬ i = 9 := fun e => by have := q93 e; omega
          have q2 : ((i : Int) == 9) = false := by simp; omega
          clear q9 q93
          replace he := Go.Lib.hid he
          go_wp2_with (first | (with_reducible refine G_len ?_; refine L8_len Tryd.underlying37 (by with_unfolding_all (conv => lhs; whnf)) (by assumption) ?_) | ((with_reducible refine G_index ?_; refine L8_index st8 (i := i) (by with_unfolding_all (conv => lhs; whnf)) (by assumption) (by with_unfolding_all (conv => lhs; whnf)) (by omega) (by omega) ?_); intro b o hbo hcl; rw [hb] at hcl))
          exact ⟨⟨i + 1, _, by omega, by omega, hS2.out.1, by rw [hS1.out], by go_num, he.out, rfl⟩, by simp only [intOf]; omega⟩
    · have q1 : ¬ (i : Int) < l.length := by omega
      obtain rfl : i = l.length := by omega
      have he2 : numI l = (0, 0, 2) := by rw [← he, List.drop_length]; rfl
      have e1 : I = (0, [], 2) := by rw [hI.out, he2]; rfl
      clear he he2
      go_wp2_with (first | (with_reducible refine G_len ?_; refine L8_len Tryd.underlying37 (by with_unfolding_all (conv => lhs; whnf)) (by assumption) ?_))
      go_ret3
      exact ⟨_, by first | rfl | (rw [e1]; rfl), by first | exact Own8.nil _ _ _ | (rw [e1]; exact Own8.nil _ _ _), Below.refl _ _⟩
def RfR (w : World) (l : List UInt8) (n i : Value) (wr : World) : Prop := ∃ j : Nat, j ≤ 8 ∧ n = .int .u64 (beN (l.take j) : Int) ∧ i = .int .i64 (j : Int) ∧ wr = w
end Go.Proofs.YtfnlcnjflloecaaDoor
/-! ### Oct8a -/
set_option linter.unusedVariables false
set_option linter.unusedSimpArgs false
namespace Go.Proofs.YtfnlcnjflloecaaDoor
open Go.RowKit
def textI (l : List UInt8) (most : Nat) : List UInt8 × List UInt8 × Int :=
  if (numI l).2.2 = 0 then
    if most < (numI l).1 then ([], [], 5)
    else if l.length - (numI l).2.1 < (numI l).1 then ([], [], 2)
    else if Lib.validD ((l.drop (numI l).2.1).take (numI l).1) = true then ((l.drop (numI l).2.1).take (numI l).1, l.drop ((numI l).2.1 + (numI l).1), 0) else ([], [], 4)
  else ([], [], (numI l).2.2)
def GivesT (w : World) (r : List UInt8 × List UInt8 × Int) (e : Ending) (w' : World) : Prop := ∃ v, e = .returned (.tuple #[.string (strB r.1), v, .int .i64 r.2.2]) ∧ Own8 w' w.heap.size 5 v r.2.1 ∧ Below w.heap.size w w'
theorem slice_run_lh {W : World} {v : Value} {l : List UInt8} (h : Rd W v l) (lo hi : Nat) (hl : lo ≤ hi) (hh : hi ≤ l.length) : ∃ v', (∀ w, (Instr.sliceAt 37 v (some (.int .i64 (lo : Int))) (some (.int .i64 (hi : Int))) none).run Tryd.prog w = .ok v' w) ∧ Rd W v' ((l.take hi).drop lo) ∧ v'.ownBlock = v.ownBlock := by
  obtain ⟨A, c, rfl, h1, _, _⟩ := h.open
  exact ⟨_, fun w => (run_sliced (w := w) st8 A l.length c lo hi hl hh h1 .i64 .i64).1, h.piece lo hi hl hh, sliced_block ..⟩
set_option maxRecDepth 100000 in
set_option maxHeartbeats 1600000 in
theorem reftext_c (v : Value) (l : List UInt8) (most : Int) (w : World) (h : Rd w v l) (hl : l.length ≤ 10000000) (hm : -9223372036854775808 ≤ most ∧ most ≤ 9223372036854775807) :
    Calls Tryd.prog 72 #[v, .int .i64 most] w (GivesT w (textI l most.toNat)) := by
  have U := refuint_c v l w h hl
  have hn := numI_lt l
  have ha := numI_at l
  have hI : textI l most.toNat = if (numI l).2.2 = 0 then
    if most.toNat < (numI l).1 then ([], [], 5)
    else if l.length - (numI l).2.1 < (numI l).1 then ([], [], 2)
    else if Lib.validD ((l.drop (numI l).2.1).take (numI l).1) = true then ((l.drop (numI l).2.1).take (numI l).1, l.drop ((numI l).2.1 + (numI l).1), 0) else ([], [], 4)
  else ([], [], (numI l).2.2) := rfl
  unfold uintI at U
  unfold GivesU at U
  generalize textI l most.toNat = I at *
  generalize (numI l).1 = n at *
  generalize (numI l).2.1 = a at *
  generalize (numI l).2.2 = r at *
  have hdl : (l.drop a).length = l.length - a := by simp
  have hdd : l.drop (a + n) = (l.drop a).drop n := by rw [List.drop_drop]
  rw [hdd] at hI
  generalize l.drop a = d at *
  clear hdd
  rw [← hdl] at hI
  have hdl2 : d.length ≤ 10000000 := by omega
  clear hdl ha h hl
  obtain ⟨M, hM⟩ : ∃ M, most.toNat = M := ⟨_, rfl⟩
  rw [hM] at hI
  replace hI := Go.Lib.hid hI
  go_enter Tryd.func72, Tryd.ntmps72
  by_cases hr : r = 0
  · rw [if_pos hr] at U
    subst hr
    replace hI := hI.out
    rw [if_pos rfl] at hI
    replace hI := Go.Lib.hid hI
    by_cases hneg : most < 0
    · have q1 : most < 0 := hneg
      obtain rfl : M = 0 := by omega
      clear hM hm
      by_cases hA : 0 < n
      · have qA : (0 : Int) < (n : Int) := by omega
        have e1 : I = ([], [], 5) := by rw [hI.out, if_pos hA]
        clear hI
        have c0 : True := trivial
        go_wp2_with (first
          | (have _t := c0; go_at_call 73; refine U.mono ?_; rintro e w1 ⟨v1, rfl, ho1, hb1⟩; clear c0; have c1 : True := trivial))
        go_ret3
        exact ⟨_, by first | rfl | (rw [e1]; rfl), by first | exact Own8.nil _ _ _ | (rw [e1]; exact Own8.nil _ _ _), hb1⟩
      have qA : ¬ (0 : Int) < (n : Int) := by omega
      by_cases hB : d.length < n
      · have qB : (d.length : Int) < (n : Int) := by omega
        have e1 : I = ([], [], 2) := by rw [hI.out, if_neg hA, if_pos hB]
        clear hI
        have c0 : True := trivial
        go_wp2_with (first
          | (have _t := c0; go_at_call 73; refine U.mono ?_; rintro e w1 ⟨v1, rfl, ho1, hb1⟩; have r1 := ho1.rd; clear c0; have c1 : True := trivial)
          | (have _t := c1; (with_reducible refine G_len ?_; refine L8_len Tryd.underlying37 (by with_unfolding_all (conv => lhs; whnf)) (by assumption) ?_); clear c1; have c2 : True := trivial))
        go_ret3
        exact ⟨_, by first | rfl | (rw [e1]; rfl), by first | exact Own8.nil _ _ _ | (rw [e1]; exact Own8.nil _ _ _), hb1⟩
      have qB : ¬ (d.length : Int) < (n : Int) := by omega
      have hI2 : I = if Lib.validD (d.take n) = true then (d.take n, d.drop n, 0) else ([], [], 4) := by rw [hI.out, if_neg hA, if_neg hB]
      clear hI
      have hdn : (d.drop n).length = d.length - n := by simp
      have RV := fun w => refvalid_c (d.take n) w (by simp; omega)
      obtain ⟨S, hS⟩ : ∃ S, strB (d.take n) = S := ⟨_, rfl⟩
      rw [hS] at RV
      by_cases hV : Lib.validD (d.take n) = true
      · rw [hV] at RV
        have e1 : I = (d.take n, d.drop n, 0) := by rw [hI2, if_pos hV]
        clear hI2
        have c0 : True := trivial
        go_wp2_with (first
          | (have _t := c0; go_at_call 73; refine U.mono ?_; rintro e w1 ⟨v1, rfl, ho1, hb1⟩; have r1 := ho1.rd; clear c0; have c1 : True := trivial)
          | (have _t := c1; (with_reducible refine G_len ?_; refine L8_len Tryd.underlying37 (by with_unfolding_all (conv => lhs; whnf)) (by assumption) ?_); clear c1; have c2 : True := trivial)
          | (have _t := c2; (with_reducible refine G_slice ?_; refine L8_slice_h st8 (hi := n) (by with_unfolding_all (conv => lhs; whnf)) (by assumption) (by with_unfolding_all (conv => lhs; whnf)) (by omega) (by omega) ?_); intro v2 r2 _; have hc2 := convert_str r2; rw [hS] at hc2; clear c2; have c3 : True := trivial))
        refine (RV _).mono ?_
        rintro e w' ⟨rfl, rfl⟩
        have c0 : True := trivial
        go_wp2_with (first
          | (have _t := c0; clear r2; (with_reducible refine G_slice ?_; refine L8_slice_l st8 (lo := n) (by with_unfolding_all (conv => lhs; whnf)) (by assumption) (by with_unfolding_all (conv => lhs; whnf)) (by omega) (by omega) ?_); intro v3 r3 _; clear c0; have c1 : True := trivial)
          | (have _t := c1; (at_builtin; refine wpList_cp8 rfl _ _ rfl st8 Tryd.underlying37 rfl rfl r3 (by omega) ?_); intro v4 w4 o4 g4; clear c1; have c2 : True := trivial))
        go_ret3
        exact ⟨_, by first | rfl | (rw [e1, ← hS]; rfl) | (rw [e1]; simp only [hS]; rfl), by first | exact o4.mono hb1.size | (rw [e1]; exact o4.mono hb1.size), below_below hb1 g4⟩
      · have hV' : Lib.validD (d.take n) = false := by simpa using hV
        rw [hV'] at RV
        have e1 : I = ([], [], 4) := by rw [hI2, if_neg hV]
        clear hI2
        have c0 : True := trivial
        go_wp2_with (first
          | (have _t := c0; go_at_call 73; refine U.mono ?_; rintro e w1 ⟨v1, rfl, ho1, hb1⟩; have r1 := ho1.rd; clear c0; have c1 : True := trivial)
          | (have _t := c1; (with_reducible refine G_len ?_; refine L8_len Tryd.underlying37 (by with_unfolding_all (conv => lhs; whnf)) (by assumption) ?_); clear c1; have c2 : True := trivial)
          | (have _t := c2; (with_reducible refine G_slice ?_; refine L8_slice_h st8 (hi := n) (by with_unfolding_all (conv => lhs; whnf)) (by assumption) (by with_unfolding_all (conv => lhs; whnf)) (by omega) (by omega) ?_); intro v2 r2 _; have hc2 := convert_str r2; rw [hS] at hc2; clear c2; have c3 : True := trivial))
        refine (RV _).mono ?_
        rintro e w' ⟨rfl, rfl⟩
        go_wp2_with fail
        go_ret3
        exact ⟨_, by first | rfl | (rw [e1]; rfl), by first | exact Own8.nil _ _ _ | (rw [e1]; exact Own8.nil _ _ _), hb1⟩
    · have q1 : ¬ most < 0 := hneg
      obtain rfl : most = (M : Int) := by omega
      have hM2 : M ≤ 9223372036854775807 := by omega
      clear hM hm
      by_cases hA : M < n
      · have qA : (M : Int) < (n : Int) := by omega
        have e1 : I = ([], [], 5) := by rw [hI.out, if_pos hA]
        clear hI
        have c0 : True := trivial
        go_wp2_with (first
          | (have _t := c0; go_at_call 73; refine U.mono ?_; rintro e w1 ⟨v1, rfl, ho1, hb1⟩; clear c0; have c1 : True := trivial))
        go_ret3
        exact ⟨_, by first | rfl | (rw [e1]; rfl), by first | exact Own8.nil _ _ _ | (rw [e1]; exact Own8.nil _ _ _), hb1⟩
      have qA : ¬ (M : Int) < (n : Int) := by omega
      by_cases hB : d.length < n
      · have qB : (d.length : Int) < (n : Int) := by omega
        have e1 : I = ([], [], 2) := by rw [hI.out, if_neg hA, if_pos hB]
        clear hI
        have c0 : True := trivial
        go_wp2_with (first
          | (have _t := c0; go_at_call 73; refine U.mono ?_; rintro e w1 ⟨v1, rfl, ho1, hb1⟩; have r1 := ho1.rd; clear c0; have c1 : True := trivial)
          | (have _t := c1; (with_reducible refine G_len ?_; refine L8_len Tryd.underlying37 (by with_unfolding_all (conv => lhs; whnf)) (by assumption) ?_); clear c1; have c2 : True := trivial))
        go_ret3
        exact ⟨_, by first | rfl | (rw [e1]; rfl), by first | exact Own8.nil _ _ _ | (rw [e1]; exact Own8.nil _ _ _), hb1⟩
      have qB : ¬ (d.length : Int) < (n : Int) := by omega
      have hI2 : I = if Lib.validD (d.take n) = true then (d.take n, d.drop n, 0) else ([], [], 4) := by rw [hI.out, if_neg hA, if_neg hB]
      clear hI
      have hdn : (d.drop n).length = d.length - n := by simp
      have RV := fun w => refvalid_c (d.take n) w (by simp; omega)
      obtain ⟨S, hS⟩ : ∃ S, strB (d.take n) = S := ⟨_, rfl⟩
      rw [hS] at RV
      by_cases hV : Lib.validD (d.take n) = true
      · rw [hV] at RV
        have e1 : I = (d.take n, d.drop n, 0) := by rw [hI2, if_pos hV]
        clear hI2
        have c0 : True := trivial
        go_wp2_with (first
          | (have _t := c0; go_at_call 73; refine U.mono ?_; rintro e w1 ⟨v1, rfl, ho1, hb1⟩; have r1 := ho1.rd; clear c0; have c1 : True := trivial)
          | (have _t := c1; (with_reducible refine G_len ?_; refine L8_len Tryd.underlying37 (by with_unfolding_all (conv => lhs; whnf)) (by assumption) ?_); clear c1; have c2 : True := trivial)
          | (have _t := c2; (with_reducible refine G_slice ?_; refine L8_slice_h st8 (hi := n) (by with_unfolding_all (conv => lhs; whnf)) (by assumption) (by with_unfolding_all (conv => lhs; whnf)) (by omega) (by omega) ?_); intro v2 r2 _; have hc2 := convert_str r2; rw [hS] at hc2; clear c2; have c3 : True := trivial))
        refine (RV _).mono ?_
        rintro e w' ⟨rfl, rfl⟩
        have c0 : True := trivial
        go_wp2_with (first
          | (have _t := c0; clear r2; (with_reducible refine G_slice ?_; refine L8_slice_l st8 (lo := n) (by with_unfolding_all (conv => lhs; whnf)) (by assumption) (by with_unfolding_all (conv => lhs; whnf)) (by omega) (by omega) ?_); intro v3 r3 _; clear c0; have c1 : True := trivial)
          | (have _t := c1; (at_builtin; refine wpList_cp8 rfl _ _ rfl st8 Tryd.underlying37 rfl rfl r3 (by omega) ?_); intro v4 w4 o4 g4; clear c1; have c2 : True := trivial))
        go_ret3
        exact ⟨_, by first | rfl | (rw [e1, ← hS]; rfl) | (rw [e1]; simp only [hS]; rfl), by first | exact o4.mono hb1.size | (rw [e1]; exact o4.mono hb1.size), below_below hb1 g4⟩
      · have hV' : Lib.validD (d.take n) = false := by simpa using hV
        rw [hV'] at RV
        have e1 : I = ([], [], 4) := by rw [hI2, if_neg hV]
        clear hI2
        have c0 : True := trivial
        go_wp2_with (first
          | (have _t := c0; go_at_call 73; refine U.mono ?_; rintro e w1 ⟨v1, rfl, ho1, hb1⟩; have r1 := ho1.rd; clear c0; have c1 : True := trivial)
          | (have _t := c1; (with_reducible refine G_len ?_; refine L8_len Tryd.underlying37 (by with_unfolding_all (conv => lhs; whnf)) (by assumption) ?_); clear c1; have c2 : True := trivial)
          | (have _t := c2; (with_reducible refine G_slice ?_; refine L8_slice_h st8 (hi := n) (by with_unfolding_all (conv => lhs; whnf)) (by assumption) (by with_unfolding_all (conv => lhs; whnf)) (by omega) (by omega) ?_); intro v2 r2 _; have hc2 := convert_str r2; rw [hS] at hc2; clear c2; have c3 : True := trivial))
        refine (RV _).mono ?_
        rintro e w' ⟨rfl, rfl⟩
        go_wp2_with fail
        go_ret3
        exact ⟨_, by first | rfl | (rw [e1]; rfl), by first | exact Own8.nil _ _ _ | (rw [e1]; exact Own8.nil _ _ _), hb1⟩
  · rw [if_neg hr] at U
    have e1 : I = ([], [], r) := by rw [hI.out, if_neg hr]
    have c0 : True := trivial
    go_wp2_with (first
      | (have _t := c0; go_at_call 73; refine U.mono ?_; rintro e w1 ⟨v1, rfl, ho1, hb1⟩; clear c0; have c1 : True := trivial))
    go_ret3
    exact ⟨_, by first | rfl | (rw [e1]; rfl), by first | exact Own8.nil _ _ _ | (rw [e1]; exact Own8.nil _ _ _), hb1⟩
end Go.Proofs.YtfnlcnjflloecaaDoor
/-! ### Oct8 -/
set_option linter.unusedVariables false
set_option linter.unusedSimpArgs false
namespace Go.Proofs.YtfnlcnjflloecaaDoor
open Go.RowKit
set_option maxRecDepth 100000 in
set_option maxHeartbeats 3200000 in
theorem octtext_c (v : Value) (l : List UInt8) (most : Int) (w : World) (h : Rd w v l) (hl : l.length ≤ 10000000) (hm : -9223372036854775808 ≤ most ∧ most ≤ 9223372036854775807) (hT : Tabs w) :
    Calls Tryd.prog 69 #[v, .int .i64 most] w (GivesT w (textI l most.toNat)) := by
  have N := number_c v l w h
  have hn := numI_lt l
  have ha := numI_at l
  have hI : textI l most.toNat = if (numI l).2.2 = 0 then
    if most.toNat < (numI l).1 then ([], [], 5)
    else if l.length - (numI l).2.1 < (numI l).1 then ([], [], 2)
    else if Lib.validD ((l.drop (numI l).2.1).take (numI l).1) = true then ((l.drop (numI l).2.1).take (numI l).1, l.drop ((numI l).2.1 + (numI l).1), 0) else ([], [], 4)
  else ([], [], (numI l).2.2) := rfl
  unfold GivesN at N
  generalize textI l most.toNat = I at *
  generalize (numI l).1 = n at *
  generalize (numI l).2.1 = a at *
  generalize (numI l).2.2 = r at *
  obtain ⟨M, hM⟩ : ∃ M, most.toNat = M := ⟨_, rfl⟩
  rw [hM] at hI
  have hmx : max most 0 = (M : Int) := by omega
  have hM2 : M ≤ 9223372036854775807 := by omega
  replace hI := Go.Lib.hid hI
  clear hM
  go_enter Tryd.func69, Tryd.ntmps69
  by_cases hr : r = 0
  · subst hr
    replace hI := hI.out
    rw [if_pos rfl] at hI
    replace hI := Go.Lib.hid hI
    by_cases hneg : most < 0
    · have q1 : most < 0 := hneg
      obtain rfl : M = 0 := by omega
      clear hmx hm
      by_cases hA : 0 < n
      · have qA : (0 : Int) < (n : Int) := by omega
        have e1 : I = ([], [], 5) := by rw [hI.out, if_pos hA]
        clear hI
        have c0 : True := trivial
        go_wp2_with (first
          | (have _t := c0; go_at_call 109; refine N.mono ?_; rintro e w1 ⟨rfl, hb1⟩; clear c0; have c1 : True := trivial))
        go_ret3
        exact ⟨_, by first | rfl | (rw [e1]; rfl), by first | exact Own8.nil _ _ _ | (rw [e1]; exact Own8.nil _ _ _), hb1⟩
      have qA : ¬ (0 : Int) < (n : Int) := by omega
      have la : a ≤ l.length := ha
      have qla : (a : Int) ≤ (l.length : Int) := by omega
      have hsub : (l.length : Int) - (a : Int) = ((l.length - a : Nat) : Int) := by omega
      by_cases hB : l.length - a < n
      · have qB : ((l.length - a : Nat) : Int) < (n : Int) := by omega
        have e1 : I = ([], [], 2) := by rw [hI.out, if_neg hA, if_pos hB]
        clear hI
        generalize l.length - a = D at *
        have hD : D ≤ 10000000 := by omega
        have c0 : True := trivial
        go_wp2_with (first
          | (have _t := c0; go_at_call 109; refine N.mono ?_; rintro e w1 ⟨rfl, hb1⟩; have r1 := h.below hb1; clear c0; have c1 : True := trivial)
          | (have _t := c1; (with_reducible refine G_len ?_; refine L8_len Tryd.underlying37 (by with_unfolding_all (conv => lhs; whnf)) (by assumption) ?_); clear c1; have c2 : True := trivial))
        all_goals go_ret3
        all_goals exact ⟨_, by first | rfl | (rw [e1]; rfl), by first | exact Own8.nil _ _ _ | (rw [e1]; exact Own8.nil _ _ _), hb1⟩
      have hI2 : I = if Lib.validD ((l.drop a).take n) = true then ((l.drop a).take n, l.drop (a + n), 0) else ([], [], 4) := by rw [hI.out, if_neg hA, if_neg hB]
      clear hI
      obtain ⟨E, hE⟩ : ∃ E, a + n = E := ⟨_, rfl⟩
      have hEI : (a : Int) + (n : Int) = (E : Int) := by omega
      have hEl : E ≤ l.length := by omega
      have hnE : (n : Int) ≤ 10000000 := by omega
      obtain ⟨v1, hv1, r1, _⟩ := slice_run_lh h a E (by omega) hEl
      obtain ⟨v2, hv2, r2, _⟩ := slice_run_l h E hEl
      have hde : (l.take E).drop a = (l.drop a).take n := by rw [List.drop_take, show E - a = n by omega]
      rw [hde] at r1
      rw [hE] at hI2
      have hdl2 : (l.drop E).length = l.length - E := by simp
      generalize (l.drop a).take n = s at *
      have qB : ¬ ((l.length - a : Nat) : Int) < (n : Int) := by omega
      generalize l.length - a = D at *
      have hD : D ≤ 10000000 := by omega
      replace hE := Go.Lib.hid hE
      by_cases hV : Lib.validD s = true
      · have e1 : I = (s, l.drop E, 0) := by rw [hI2, if_pos hV]
        clear hI2
        have c0 : True := trivial
        go_upto_region 11 with (first
          | (have _t := c0; go_at_call 109; refine N.mono ?_; rintro e w1 ⟨rfl, hb1⟩; have r3 := h.below hb1; clear c0; have c1 : True := trivial)
          | (have _t := c1; (with_reducible refine G_len ?_; refine L8_len Tryd.underlying37 (by with_unfolding_all (conv => lhs; whnf)) (by assumption) ?_); clear c1; have c2 : True := trivial)
          | (have _t := c2; go_at_call 110; refine (valid_c v1 s _ (r1.below hb1) (hT.below hb1)).mono ?_; rintro e w2 ⟨rfl, hb2⟩; rw [hV]; have hb := below_below hb1 hb2; clear c2; have c3 : True := trivial))
        have g1 := r1.below hb
        have g2 := r2.below hb
        refine region_making 12 (fun _ => []) (fun | 8 => some fun _ => new8 5 (l.drop E) | _ => none) (by kernel_rfl) (by kernel_rfl) ?_ ?_
        · intro i' S' h' e v'
          match i', h' with
          | 8, h' => cases h'; exact new8_loc _ _ _ _
        simp only [List.take_succ_cons, List.take_zero, List.drop_succ_cons, List.drop_zero]
        (apply wpG_pure; (focus rfl); (focus (intro wg Bg hbg hBg hFg; go_simp; (try go_bits); (first | done | exact ⟨rfl, Below.refl _ _⟩ | rfl))); simp only [Act.put, List.setIfInBounds_toArray, List.set_cons_succ, List.set_cons_zero])
        (apply wpG_pure; (focus rfl); (focus (intro wg Bg hbg hBg hFg; go_simp; (try go_bits); (first | done | exact ⟨rfl, Below.refl _ _⟩ | rfl))); simp only [Act.put, List.setIfInBounds_toArray, List.set_cons_succ, List.set_cons_zero])
        (apply wpG_pure; (focus rfl); (focus (intro wg Bg hbg hBg hFg; go_simp; (try go_bits); (first | done | exact ⟨rfl, Below.refl _ _⟩ | rfl))); simp only [Act.put, List.setIfInBounds_toArray, List.set_cons_succ, List.set_cons_zero])
        (apply wpG_pure; (focus rfl); (focus (intro wg Bg hbg hBg hFg; go_simp; (try go_bits); (first | done | exact ⟨rfl, Below.refl _ _⟩ | rfl))); simp only [Act.put, List.setIfInBounds_toArray, List.set_cons_succ, List.set_cons_zero])
        (apply wpG_pure; (focus rfl); (focus (intro wg Bg hbg hBg hFg; have hc := convert_str (g1.drew.below hbg); go_simp; (try go_bits); (first | done | exact ⟨rfl, Below.refl _ _⟩ | rfl))); simp only [Act.put, List.setIfInBounds_toArray, List.set_cons_succ, List.set_cons_zero])
        (apply wpG_pure; (focus rfl); (focus (intro wg Bg hbg hBg hFg; go_simp; (try go_bits); (first | done | exact ⟨rfl, Below.refl _ _⟩ | rfl))); simp only [Act.put, List.setIfInBounds_toArray, List.set_cons_succ, List.set_cons_zero])
        (apply wpG_pure; (focus rfl); (focus (intro wg Bg hbg hBg hFg; go_simp; (try go_bits); (first | done | exact ⟨rfl, Below.refl _ _⟩ | rfl))); simp only [Act.put, List.setIfInBounds_toArray, List.set_cons_succ, List.set_cons_zero])
        (apply wpG_pure; (focus rfl); (focus (intro wg Bg hbg hBg hFg; go_simp; (try go_bits); (first | done | exact ⟨rfl, Below.refl _ _⟩ | rfl))); simp only [Act.put, List.setIfInBounds_toArray, List.set_cons_succ, List.set_cons_zero])
        (apply wpG_make; (focus rfl); (focus (intro wg Bg hbg hBg hFg; go_simp; go_at_call 111; exact Calls.mono (rest_c _ _ _ (g2.drew.below hbg) (by omega)) (fun e w' h => (by obtain ⟨u, rfl, ho, hb⟩ := h; exact ⟨u, rfl, Chg.of_below hb, ⟨ho.mono (Nat.zero_le _), fun g hg => (by first | exact .inr ⟨ho.base_le g hg, ho.lt g hg⟩ | exact ⟨ho.base_le g hg, ho.lt g hg⟩)⟩⟩)))); intro a8; simp only [Act.put, List.setIfInBounds_toArray, List.set_cons_succ, List.set_cons_zero])
        repeat (apply wpG_pure; (focus rfl); (focus (intro wg Bg hbg hBg hFg; go_simp; (try go_bits); (first | done | exact ⟨rfl, Below.refl _ _⟩ | rfl))); simp only [Act.put, List.setIfInBounds_toArray, List.set_cons_succ, List.set_cons_zero])
        refine wpG_end (fun wg Bg hbg hBg hFg => ?_)
        have hN : new8 5 (l.drop E) a8 (Bg 8) wg := hFg 8
        have hlo := hBg.lo 8
        clear hFg
        go_wp2_with fail
        go_ret3
        have hbb := hb.size
        exact ⟨_, by first | rfl | (rw [e1]; rfl), by first | exact hN.1.rebase2 (fun g hg => Nat.le_trans hbb (hlo g (hN.2 g hg))) | (rw [e1]; exact hN.1.rebase2 (fun g hg => Nat.le_trans hbb (hlo g (hN.2 g hg)))), below_below hb.drew hbg⟩
      · have hV' : Lib.validD s = false := by simpa using hV
        have e1 : I = ([], [], 4) := by rw [hI2, if_neg hV]
        clear hI2
        have c0 : True := trivial
        go_wp2_with (first
          | (have _t := c0; go_at_call 109; refine N.mono ?_; rintro e w1 ⟨rfl, hb1⟩; have r3 := h.below hb1; clear c0; have c1 : True := trivial)
          | (have _t := c1; (with_reducible refine G_len ?_; refine L8_len Tryd.underlying37 (by with_unfolding_all (conv => lhs; whnf)) (by assumption) ?_); clear c1; have c2 : True := trivial)
          | (have _t := c2; go_at_call 110; refine (valid_c v1 s _ (r1.below hb1) (hT.below hb1)).mono ?_; rintro e w2 ⟨rfl, hb2⟩; rw [hV']; have hb := below_below hb1 hb2; clear c2; have c3 : True := trivial))
        go_ret3
        exact ⟨_, by first | rfl | (rw [e1]; rfl), by first | exact Own8.nil _ _ _ | (rw [e1]; exact Own8.nil _ _ _), hb⟩
    · have q1 : ¬ most < 0 := hneg
      obtain rfl : most = (M : Int) := by omega
      have q11 : ¬ (M : Int) < 0 := by omega
      clear hmx hm
      by_cases hA : M < n
      · have qA : (M : Int) < (n : Int) := by omega
        have e1 : I = ([], [], 5) := by rw [hI.out, if_pos hA]
        clear hI
        have c0 : True := trivial
        go_wp2_with (first
          | (have _t := c0; go_at_call 109; refine N.mono ?_; rintro e w1 ⟨rfl, hb1⟩; clear c0; have c1 : True := trivial))
        go_ret3
        exact ⟨_, by first | rfl | (rw [e1]; rfl), by first | exact Own8.nil _ _ _ | (rw [e1]; exact Own8.nil _ _ _), hb1⟩
      have qA : ¬ (M : Int) < (n : Int) := by omega
      have la : a ≤ l.length := ha
      have qla : (a : Int) ≤ (l.length : Int) := by omega
      have hsub : (l.length : Int) - (a : Int) = ((l.length - a : Nat) : Int) := by omega
      by_cases hB : l.length - a < n
      · have qB : ((l.length - a : Nat) : Int) < (n : Int) := by omega
        have e1 : I = ([], [], 2) := by rw [hI.out, if_neg hA, if_pos hB]
        clear hI
        generalize l.length - a = D at *
        have hD : D ≤ 10000000 := by omega
        have c0 : True := trivial
        go_wp2_with (first
          | (have _t := c0; go_at_call 109; refine N.mono ?_; rintro e w1 ⟨rfl, hb1⟩; have r1 := h.below hb1; clear c0; have c1 : True := trivial)
          | (have _t := c1; (with_reducible refine G_len ?_; refine L8_len Tryd.underlying37 (by with_unfolding_all (conv => lhs; whnf)) (by assumption) ?_); clear c1; have c2 : True := trivial))
        all_goals go_ret3
        all_goals exact ⟨_, by first | rfl | (rw [e1]; rfl), by first | exact Own8.nil _ _ _ | (rw [e1]; exact Own8.nil _ _ _), hb1⟩
      have hI2 : I = if Lib.validD ((l.drop a).take n) = true then ((l.drop a).take n, l.drop (a + n), 0) else ([], [], 4) := by rw [hI.out, if_neg hA, if_neg hB]
      clear hI
      obtain ⟨E, hE⟩ : ∃ E, a + n = E := ⟨_, rfl⟩
      have hEI : (a : Int) + (n : Int) = (E : Int) := by omega
      have hEl : E ≤ l.length := by omega
      have hnE : (n : Int) ≤ 10000000 := by omega
      obtain ⟨v1, hv1, r1, _⟩ := slice_run_lh h a E (by omega) hEl
      obtain ⟨v2, hv2, r2, _⟩ := slice_run_l h E hEl
      have hde : (l.take E).drop a = (l.drop a).take n := by rw [List.drop_take, show E - a = n by omega]
      rw [hde] at r1
      rw [hE] at hI2
      have hdl2 : (l.drop E).length = l.length - E := by simp
      generalize (l.drop a).take n = s at *
      have qB : ¬ ((l.length - a : Nat) : Int) < (n : Int) := by omega
      generalize l.length - a = D at *
      have hD : D ≤ 10000000 := by omega
      replace hE := Go.Lib.hid hE
      by_cases hV : Lib.validD s = true
      · have e1 : I = (s, l.drop E, 0) := by rw [hI2, if_pos hV]
        clear hI2
        have c0 : True := trivial
        go_upto_region 11 with (first
          | (have _t := c0; go_at_call 109; refine N.mono ?_; rintro e w1 ⟨rfl, hb1⟩; have r3 := h.below hb1; clear c0; have c1 : True := trivial)
          | (have _t := c1; (with_reducible refine G_len ?_; refine L8_len Tryd.underlying37 (by with_unfolding_all (conv => lhs; whnf)) (by assumption) ?_); clear c1; have c2 : True := trivial)
          | (have _t := c2; go_at_call 110; refine (valid_c v1 s _ (r1.below hb1) (hT.below hb1)).mono ?_; rintro e w2 ⟨rfl, hb2⟩; rw [hV]; have hb := below_below hb1 hb2; clear c2; have c3 : True := trivial))
        have g1 := r1.below hb
        have g2 := r2.below hb
        refine region_making 12 (fun _ => []) (fun | 8 => some fun _ => new8 5 (l.drop E) | _ => none) (by kernel_rfl) (by kernel_rfl) ?_ ?_
        · intro i' S' h' e v'
          match i', h' with
          | 8, h' => cases h'; exact new8_loc _ _ _ _
        simp only [List.take_succ_cons, List.take_zero, List.drop_succ_cons, List.drop_zero]
        (apply wpG_pure; (focus rfl); (focus (intro wg Bg hbg hBg hFg; go_simp; (try go_bits); (first | done | exact ⟨rfl, Below.refl _ _⟩ | rfl))); simp only [Act.put, List.setIfInBounds_toArray, List.set_cons_succ, List.set_cons_zero])
        (apply wpG_pure; (focus rfl); (focus (intro wg Bg hbg hBg hFg; go_simp; (try go_bits); (first | done | exact ⟨rfl, Below.refl _ _⟩ | rfl))); simp only [Act.put, List.setIfInBounds_toArray, List.set_cons_succ, List.set_cons_zero])
        (apply wpG_pure; (focus rfl); (focus (intro wg Bg hbg hBg hFg; go_simp; (try go_bits); (first | done | exact ⟨rfl, Below.refl _ _⟩ | rfl))); simp only [Act.put, List.setIfInBounds_toArray, List.set_cons_succ, List.set_cons_zero])
        (apply wpG_pure; (focus rfl); (focus (intro wg Bg hbg hBg hFg; go_simp; (try go_bits); (first | done | exact ⟨rfl, Below.refl _ _⟩ | rfl))); simp only [Act.put, List.setIfInBounds_toArray, List.set_cons_succ, List.set_cons_zero])
        (apply wpG_pure; (focus rfl); (focus (intro wg Bg hbg hBg hFg; have hc := convert_str (g1.drew.below hbg); go_simp; (try go_bits); (first | done | exact ⟨rfl, Below.refl _ _⟩ | rfl))); simp only [Act.put, List.setIfInBounds_toArray, List.set_cons_succ, List.set_cons_zero])
        (apply wpG_pure; (focus rfl); (focus (intro wg Bg hbg hBg hFg; go_simp; (try go_bits); (first | done | exact ⟨rfl, Below.refl _ _⟩ | rfl))); simp only [Act.put, List.setIfInBounds_toArray, List.set_cons_succ, List.set_cons_zero])
        (apply wpG_pure; (focus rfl); (focus (intro wg Bg hbg hBg hFg; go_simp; (try go_bits); (first | done | exact ⟨rfl, Below.refl _ _⟩ | rfl))); simp only [Act.put, List.setIfInBounds_toArray, List.set_cons_succ, List.set_cons_zero])
        (apply wpG_pure; (focus rfl); (focus (intro wg Bg hbg hBg hFg; go_simp; (try go_bits); (first | done | exact ⟨rfl, Below.refl _ _⟩ | rfl))); simp only [Act.put, List.setIfInBounds_toArray, List.set_cons_succ, List.set_cons_zero])
        (apply wpG_make; (focus rfl); (focus (intro wg Bg hbg hBg hFg; go_simp; go_at_call 111; exact Calls.mono (rest_c _ _ _ (g2.drew.below hbg) (by omega)) (fun e w' h => (by obtain ⟨u, rfl, ho, hb⟩ := h; exact ⟨u, rfl, Chg.of_below hb, ⟨ho.mono (Nat.zero_le _), fun g hg => (by first | exact .inr ⟨ho.base_le g hg, ho.lt g hg⟩ | exact ⟨ho.base_le g hg, ho.lt g hg⟩)⟩⟩)))); intro a8; simp only [Act.put, List.setIfInBounds_toArray, List.set_cons_succ, List.set_cons_zero])
        repeat (apply wpG_pure; (focus rfl); (focus (intro wg Bg hbg hBg hFg; go_simp; (try go_bits); (first | done | exact ⟨rfl, Below.refl _ _⟩ | rfl))); simp only [Act.put, List.setIfInBounds_toArray, List.set_cons_succ, List.set_cons_zero])
        refine wpG_end (fun wg Bg hbg hBg hFg => ?_)
        have hN : new8 5 (l.drop E) a8 (Bg 8) wg := hFg 8
        have hlo := hBg.lo 8
        clear hFg
        go_wp2_with fail
        go_ret3
        have hbb := hb.size
        exact ⟨_, by first | rfl | (rw [e1]; rfl), by first | exact hN.1.rebase2 (fun g hg => Nat.le_trans hbb (hlo g (hN.2 g hg))) | (rw [e1]; exact hN.1.rebase2 (fun g hg => Nat.le_trans hbb (hlo g (hN.2 g hg)))), below_below hb.drew hbg⟩
      · have hV' : Lib.validD s = false := by simpa using hV
        have e1 : I = ([], [], 4) := by rw [hI2, if_neg hV]
        clear hI2
        have c0 : True := trivial
        go_wp2_with (first
          | (have _t := c0; go_at_call 109; refine N.mono ?_; rintro e w1 ⟨rfl, hb1⟩; have r3 := h.below hb1; clear c0; have c1 : True := trivial)
          | (have _t := c1; (with_reducible refine G_len ?_; refine L8_len Tryd.underlying37 (by with_unfolding_all (conv => lhs; whnf)) (by assumption) ?_); clear c1; have c2 : True := trivial)
          | (have _t := c2; go_at_call 110; refine (valid_c v1 s _ (r1.below hb1) (hT.below hb1)).mono ?_; rintro e w2 ⟨rfl, hb2⟩; rw [hV']; have hb := below_below hb1 hb2; clear c2; have c3 : True := trivial))
        go_ret3
        exact ⟨_, by first | rfl | (rw [e1]; rfl), by first | exact Own8.nil _ _ _ | (rw [e1]; exact Own8.nil _ _ _), hb⟩
  · have e1 : I = ([], [], r) := by rw [hI.out, if_neg hr]
    have qr : ¬ r = 0 := hr
    have c0 : True := trivial
    go_wp2_with (first
      | (have _t := c0; go_at_call 109; refine N.mono ?_; rintro e w1 ⟨rfl, hb1⟩; clear c0; have c1 : True := trivial))
    go_ret3
    exact ⟨_, by first | rfl | (rw [e1]; rfl), by first | exact Own8.nil _ _ _ | (rw [e1]; exact Own8.nil _ _ _), hb1⟩
end Go.Proofs.YtfnlcnjflloecaaDoor
