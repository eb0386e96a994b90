/- scram.nonce and the reference's Nonce; strings.ContainsFunc. -/
import Derived.Test.YtfnlcnjflloecaaDoorNamW
set_option linter.unusedVariables false
set_option linter.unusedSimpArgs false
set_option linter.unnecessarySimpa false
namespace Go.Proofs.YtfnlcnjflloecaaDoor
open Go.RowKit
def pNce (x : Nat) : Bool := decide (x < 33) || (decide (126 < x) || decide (x = 44))
def nceB (b : UInt8) : Bool := !pNce b.toNat
def nonceI (s : List UInt8) (most : Int) : Bool := !decide (s = []) && (decide ((s.length : Int) ≤ most) && s.all nceB)
theorem nonce_p (x : Nat) (w : World) : Calls Tryd.prog 121 #[.int .i32 (x : Int)] w fun e w' => e = .returned (.bool (pNce x)) ∧ w = w' := by
  have hd : pNce x = (decide (x < 33) || (decide (126 < x) || decide (x = 44))) := rfl
  by_cases a : x < 33
  · have q1 : (x : Int) < 33 := by omega
    have q2 : decide ((x : Int) < 33) = true := decide_eq_true q1
    rw [decide_eq_true a] at hd
    rw [hd]
    clear a
    go_enter Tryd.func121, Tryd.ntmps121
    go_wp2_with fail
    go_ret
    exact ⟨rfl, rfl⟩
  have q1 : ¬ (x : Int) < 33 := by omega
  have q2 : decide ((x : Int) < 33) = false := decide_eq_false q1
  by_cases b : 126 < x
  · have q3 : (126 : Int) < (x : Int) := by omega
    have q4 : decide ((126 : Int) < (x : Int)) = true := decide_eq_true q3
    rw [decide_eq_false a, decide_eq_true b] at hd
    rw [hd]
    clear a b
    go_enter Tryd.func121, Tryd.ntmps121
    go_wp2_with fail
    go_ret
    exact ⟨rfl, rfl⟩
  have q3 : ¬ (126 : Int) < (x : Int) := by omega
  have q4 : decide ((126 : Int) < (x : Int)) = false := decide_eq_false q3
  cases c : ((x : Int) == 44)
  · have c2 : ¬ x = 44 := by intro h; rw [h] at c; cases c
    rw [decide_eq_false a, decide_eq_false b, decide_eq_false c2] at hd
    rw [hd]
    clear a b c2
    go_enter Tryd.func121, Tryd.ntmps121
    go_wp2_with fail
    go_ret
    exact ⟨rfl, rfl⟩
  · have c2 : x = 44 := by have := (beq_iff_eq (a := (x : Int))).1 c; omega
    rw [decide_eq_false a, decide_eq_false b, decide_eq_true c2] at hd
    rw [hd]
    clear a b c2
    go_enter Tryd.func121, Tryd.ntmps121
    go_wp2_with fail
    go_ret
    exact ⟨rfl, rfl⟩
theorem contains_c (g : Nat) (p : Nat → Bool) (eg : ∀ args w, (callFunc g args).run Tryd.prog w = .ok (.enter g args) w) (hp : ∀ (W : World) (x : Nat), x ≤ 1114111 → Calls Tryd.prog g #[.int .i32 (x : Int)] W fun e w' => e = .returned (.bool (p x)) ∧ W = w')
    (s : List UInt8) (w : World) : Calls Tryd.prog 120 #[.string (strB s), .func (.func g) #[] #[]] w fun e w' => e = .returned (.bool (!(allD (fun r => !p r.toNat) s))) ∧ Below w.heap.size w w' := by
  have hI := idx_all0 p (strB s)
  have hd : (strB s).data.toList = s := rfl
  rw [hd] at hI
  have IX : Calls Tryd.prog 99 #[.string (strB s), .func (.func g) #[] #[]] w _ :=
    Tryd.strings_IndexFunc_grows g #[] eg p (strB s) w (fun W x hx hbW => (hp W x hx).mono fun e w' h => ⟨h.1, below_eq h.2⟩)
  generalize allD (fun r => !p r.toNat) s = R at *
  generalize Lib.idxFunc p true (strB s) = X at *
  have hX : decide (0 ≤ X) = !R := by
    rw [← hI]
    by_cases h : X < 0
    · rw [decide_eq_true h, decide_eq_false (by omega)]; rfl
    · rw [decide_eq_false h, decide_eq_true (by omega)]; rfl
  clear hI hd hp eg
  generalize strB s = S at *
  by_cases h : 0 ≤ X
  · rw [decide_eq_true h] at hX
    rw [← hX]
    clear hX
    go_enter Tryd.func120, Tryd.ntmps120
    have ta0 : True := trivial
    go_wp2_with (first
      | (have _t := ta0; go_at_call 99; refine IX.mono ?_; rintro e w1 ⟨rfl, hb1⟩; clear ta0; have ta1 : True := trivial))
    go_ret
    exact ⟨rfl, hb1⟩
  · rw [decide_eq_false h] at hX
    rw [← hX]
    clear hX
    have hdf : decide (0 ≤ X) = false := decide_eq_false h
    go_enter Tryd.func120, Tryd.ntmps120
    have tb0 : True := trivial
    go_wp2_with (first
      | (have _t := tb0; go_at_call 99; refine IX.mono ?_; rintro e w1 ⟨rfl, hb1⟩; clear tb0; have tb1 : True := trivial))
    go_ret
    exact ⟨rfl, hb1⟩
theorem nce_all (s : List UInt8) : allD (fun r => !pNce r.toNat) s = s.all nceB := by
  rw [allD_low (fun r => !pNce r.toNat) (fun r hr => by
    simp only [Int.toNat_natCast] at hr
    unfold pNce at hr
    have : ¬ 126 < r := by intro h; rw [decide_eq_true h] at hr; simp at hr
    omega) s.length s (Nat.le_refl _)]
  rfl
set_option maxHeartbeats 3200000 in
theorem nonce_c (s : List UInt8) (most : Int) (w : World) (hl : s.length ≤ 1000000000) : Calls Tryd.prog 80 #[.string (strB s), .int .i64 most] w fun e w' => e = .returned (.bool (nonceI s most)) ∧ Below w.heap.size w w' := by
  have eg : ∀ args w, (callFunc 121 args).run Tryd.prog w = .ok (.enter 121 args) w := enters_of Tryd.func121 (by kernel_rfl) rfl
  have CF := fun w1 => contains_c 121 pNce eg (fun W x hx => nonce_p x W) s w1
  rw [nce_all] at CF
  have hd : nonceI s most = (!decide (s = []) && (decide ((s.length : Int) ≤ most) && s.all nceB)) := rfl
  have hsz := strB_size s
  by_cases hne : s = []
  · rw [decide_eq_true hne] at hd
    rw [hd]
    have hem : (strB s).toList.isEmpty = true := by rw [strB_toList, hne]; rfl
    clear hd hsz CF eg hne
    generalize strB s = S at *
    go_enter Tryd.func80, Tryd.ntmps80
    go_wp2_with fail
    go_ret
    exact ⟨rfl, Below.refl _ _⟩
  have hem := s_empty s hne
  rw [decide_eq_false hne] at hd
  clear hne
  by_cases hm : (s.length : Int) ≤ most
  · have q1 : ((strB s).size : Int) ≤ most := by omega
    have q2 : decide (((strB s).size : Int) ≤ most) = true := decide_eq_true q1
    rw [decide_eq_true hm] at hd
    simp only [Bool.true_and, Bool.not_false] at hd
    rw [hd]
    generalize s.all nceB = R at *
    clear hd hsz eg hm
    generalize strB s = S at *
    cases R
    all_goals
      go_enter Tryd.func80, Tryd.ntmps80
      have tc0 : True := trivial
      go_wp2_with (first
        | (have _t := tc0; go_at_call 120; refine (CF _).mono ?_; rintro e w1 ⟨rfl, hb1⟩; clear tc0; have tc1 : True := trivial))
      go_ret
      exact ⟨rfl, hb1⟩
  · have q1 : ¬ ((strB s).size : Int) ≤ most := by omega
    have q2 : decide (((strB s).size : Int) ≤ most) = false := decide_eq_false q1
    rw [decide_eq_false hm] at hd
    simp only [Bool.false_and, Bool.and_false] at hd
    rw [hd]
    clear hd hsz eg hm CF
    generalize strB s = S at *
    go_enter Tryd.func80, Tryd.ntmps80
    go_wp2_with fail
    go_ret
    exact ⟨rfl, Below.refl _ _⟩
def RnRel (w : World) (s : List UInt8) (i : Value) (wr : World) : Prop := ∃ j : Nat, j ≤ s.length ∧ i = .int .i64 (j : Int) ∧ (s.drop j).all nceB = s.all nceB ∧ wr = w
theorem nceB_cases (c : UInt8) : (c.toNat < 33 ∧ nceB c = false) ∨ (¬ c.toNat < 33 ∧ 126 < c.toNat ∧ nceB c = false) ∨ (¬ c.toNat < 33 ∧ ¬ 126 < c.toNat ∧ c.toNat = 44 ∧ nceB c = false) ∨ (¬ c.toNat < 33 ∧ ¬ 126 < c.toNat ∧ ¬ c.toNat = 44 ∧ nceB c = true) := by
  unfold nceB pNce
  by_cases h1 : c.toNat < 33 <;> by_cases h2 : 126 < c.toNat <;> by_cases h3 : c.toNat = 44 <;> simp_all
set_option maxRecDepth 100000 in
set_option maxHeartbeats 3200000 in
theorem refnonce_c (s : List UInt8) (most : Int) (w : World) (hl : s.length ≤ 1000000000) : Calls Tryd.prog 83 #[.string (strB s), .int .i64 most] w fun e w' => e = .returned (.bool (nonceI s most)) ∧ Below w.heap.size w w' := by
  have hd : nonceI s most = (!decide (s = []) && (decide ((s.length : Int) ≤ most) && s.all nceB)) := rfl
  have hsz := strB_size s
  have hgetS : ∀ k (hk : k < (strB s).size), ((strB s)[k]'hk) = s.getD k 0 := fun k hk => by
    rw [List.getD_eq_getElem?_getD, List.getElem?_eq_getElem (by omega)]; rfl
  generalize nonceI s most = R at *
  replace hd := Go.Lib.hid hd
  replace hgetS := Go.Lib.hid hgetS
  obtain ⟨S, hS⟩ : ∃ S, S = strB s := ⟨_, rfl⟩
  rw [← hS] at hsz hgetS ⊢
  clear hS
  go_enter Tryd.func83, Tryd.ntmps83
  go_wp2_with fail
  go_loopw [5] (fun i wr => RnRel w s i wr) (fun i _ => (s.length - (intOf i).toNat))
  case atStart => exact ⟨0, by omega, rfl, rfl, rfl⟩
  case round =>
    obtain ⟨j, hj, rfl, hall, rfl⟩ := hrel
    by_cases hlt : j < s.length
    · have q2 : (j : Int) < s.length := by omega
      have hjS : j < S.size := by omega
      have hcS := hgetS.out j hjS
      have hdr : s.drop j = s.getD j 0 :: s.drop (j + 1) := by
        rw [List.getD_eq_getElem?_getD, List.getElem?_eq_getElem hlt]
        exact List.drop_eq_getElem_cons hlt
      rw [hdr, List.all_cons] at hall
      have hcl := (s.getD j 0).toNat_lt
      have hcs := nceB_cases (s.getD j 0)
      generalize s.getD j 0 = c at *
      clear hdr
      rcases hcs with ⟨c1, hg⟩ | ⟨c1, c2, hg⟩ | ⟨c1, c2, c3, hg⟩ | ⟨c1, c2, c3, hg⟩
      · rw [hg, Bool.false_and] at hall
        have hR := Go.Lib.hid (show R = false by rw [hd.out, ← hall]; simp)
        have q3 : (c.toNat : Int) < 33 := by omega
        have q4 : decide ((c.toNat : Int) < 33) = true := decide_eq_true q3
        clear hall hg c1
        go_wp2_with fail
        go_ret
        exact ⟨by rw [hR.out]; rfl, Below.refl _ _⟩
      · rw [hg, Bool.false_and] at hall
        have hR := Go.Lib.hid (show R = false by rw [hd.out, ← hall]; simp)
        have q3 : ¬ (c.toNat : Int) < 33 := by omega
        have q4 : decide ((c.toNat : Int) < 33) = false := decide_eq_false q3
        have q5 : (126 : Int) < (c.toNat : Int) := by omega
        have q6 : decide ((126 : Int) < (c.toNat : Int)) = true := decide_eq_true q5
        clear hall hg c1 c2
        go_wp2_with fail
        go_ret
        exact ⟨by rw [hR.out]; rfl, Below.refl _ _⟩
      · rw [hg, Bool.false_and] at hall
        have hR := Go.Lib.hid (show R = false by rw [hd.out, ← hall]; simp)
        have q3 : ¬ (c.toNat : Int) < 33 := by omega
        have q4 : decide ((c.toNat : Int) < 33) = false := decide_eq_false q3
        have q5 : ¬ (126 : Int) < (c.toNat : Int) := by omega
        have q6 : decide ((126 : Int) < (c.toNat : Int)) = false := decide_eq_false q5
        have q7 : ((c.toNat : Int) == 44) = true := by rw [beq_iff_eq]; omega
        clear hall hg c1 c2 c3
        go_wp2_with fail
        go_ret
        exact ⟨by rw [hR.out]; rfl, Below.refl _ _⟩
      · rw [hg, Bool.true_and] at hall
        have hall2 := Go.Lib.hid hall
        have q3 : ¬ (c.toNat : Int) < 33 := by omega
        have q4 : decide ((c.toNat : Int) < 33) = false := decide_eq_false q3
        have q5 : ¬ (126 : Int) < (c.toNat : Int) := by omega
        have q6 : decide ((126 : Int) < (c.toNat : Int)) = false := decide_eq_false q5
        have q7 : ((c.toNat : Int) == 44) = false := by rw [beq_eq_false_iff_ne]; omega
        clear hall hg c1 c2 c3
        go_wp2_with fail
        exact ⟨⟨j + 1, by omega, by go_num, hall2.out, rfl⟩, by simp [intOf]; omega⟩
    · have q2 : ¬ (j : Int) < s.length := by omega
      have ha : s.all nceB = true := by rw [← hall, List.drop_of_length_le (by omega)]; rfl
      have hR : R = (!decide (s = []) && decide ((s.length : Int) ≤ most)) := by rw [hd.out, ha, Bool.and_true]
      clear hall ha
      by_cases hne : s = []
      · have q3 : ¬ (0 : Int) < (s.length : Int) := by rw [hne]; simp
        have q4 : decide ((0 : Int) < (s.length : Int)) = false := decide_eq_false q3
        rw [decide_eq_true hne] at hR
        replace hR := Go.Lib.hid hR
        clear hne
        go_wp2_with fail
        go_ret
        exact ⟨by rw [hR.out]; rfl, Below.refl _ _⟩
      · have q3 : (0 : Int) < (s.length : Int) := by have := List.length_pos_iff.2 hne; omega
        have q4 : decide ((0 : Int) < (s.length : Int)) = true := decide_eq_true q3
        rw [decide_eq_false hne] at hR
        cases hm : decide ((s.length : Int) ≤ most)
        all_goals
          rw [hm] at hR
          replace hR := Go.Lib.hid hR
          have hm' := hm
          go_wp2_with fail
          go_ret
          exact ⟨by rw [hR.out]; rfl, Below.refl _ _⟩
end Go.Proofs.YtfnlcnjflloecaaDoor
