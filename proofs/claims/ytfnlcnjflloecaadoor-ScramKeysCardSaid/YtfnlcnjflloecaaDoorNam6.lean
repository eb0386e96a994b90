/- roostref02: Resource, cut. -/
import Derived.Test.YtfnlcnjflloecaaDoorNam4
/-! ### Nam5 -/
set_option linter.unusedVariables false
set_option linter.unusedSimpArgs false
namespace Go.Proofs.YtfnlcnjflloecaaDoor
open Go.RowKit
theorem host_cases (c last : UInt8) :
    (65 ≤ c.toNat ∧ c.toNat ≤ 90 ∧ (lowB c).toNat = c.toNat + 32 ∧ goodB last (lowB c) = true) ∨
    (lowB c = c ∧ 97 ≤ c.toNat ∧ c.toNat ≤ 122 ∧ goodB last (lowB c) = true) ∨
    (lowB c = c ∧ 48 ≤ c.toNat ∧ c.toNat ≤ 57 ∧ goodB last (lowB c) = true) ∨
    (lowB c = c ∧ c.toNat = 45 ∧ last.toNat ≠ 46 ∧ goodB last (lowB c) = true) ∨
    (lowB c = c ∧ c.toNat = 45 ∧ last.toNat = 46 ∧ goodB last (lowB c) = false) ∨
    (lowB c = c ∧ c.toNat = 46 ∧ last.toNat ≠ 46 ∧ last.toNat ≠ 45 ∧ goodB last (lowB c) = true) ∨
    (lowB c = c ∧ c.toNat = 46 ∧ last.toNat = 46 ∧ goodB last (lowB c) = false) ∨
    (lowB c = c ∧ c.toNat = 46 ∧ last.toNat = 45 ∧ goodB last (lowB c) = false) ∨
    (lowB c = c ∧ (c.toNat < 45 ∨ c.toNat = 47 ∨ (57 < c.toNat ∧ c.toNat < 65) ∨ (90 < c.toNat ∧ c.toNat < 97) ∨ 122 < c.toNat) ∧ goodB last (lowB c) = false) := by
  have hl : ∀ n : UInt8, (last == n) = decide (last.toNat = n.toNat) := fun n => by
    rw [Bool.eq_iff_iff, beq_iff_eq, decide_eq_true_eq, ← UInt8.toNat_inj]
  have hc : ∀ n : UInt8, (c == n) = decide (c.toNat = n.toNat) := fun n => by
    rw [Bool.eq_iff_iff, beq_iff_eq, decide_eq_true_eq, ← UInt8.toNat_inj]
  have h45 : (45 : UInt8).toNat = 45 := rfl
  have h46 : (46 : UInt8).toNat = 46 := rfl
  by_cases hu : 65 ≤ c.toNat ∧ c.toNat ≤ 90
  · have : (c + 32).toNat = c.toNat + 32 := by rw [UInt8.toNat_add]; simp; omega
    have e : lowB c = c + 32 := by unfold lowB; rw [if_pos hu]
    refine .inl ⟨hu.1, hu.2, by rw [e, this], ?_⟩
    rw [e]
    unfold goodB azB
    rw [this]
    simp; omega
  · have e : lowB c = c := by unfold lowB; rw [if_neg hu]
    rw [e]
    have hg : goodB last c = (decide (97 ≤ c.toNat ∧ c.toNat ≤ 122) || decide (48 ≤ c.toNat ∧ c.toNat ≤ 57) || (decide (c.toNat = 45) && !decide (last.toNat = 46)) || (decide (c.toNat = 46) && !decide (last.toNat = 46) && !decide (last.toNat = 45))) := by
      unfold goodB azB bne
      rw [hl, hl, hc, hc, h45, h46]
    have hgt : goodB last c = true ↔ ((((97 ≤ c.toNat ∧ c.toNat ≤ 122) ∨ (48 ≤ c.toNat ∧ c.toNat ≤ 57)) ∨ (c.toNat = 45 ∧ ¬ last.toNat = 46)) ∨ ((c.toNat = 46 ∧ ¬ last.toNat = 46) ∧ ¬ last.toNat = 45)) := by
      rw [hg]; simp only [Bool.or_eq_true, Bool.and_eq_true, decide_eq_true_eq, Bool.not_eq_true', decide_eq_false_iff_not]
    have hgf : goodB last c = false ↔ ¬ ((((97 ≤ c.toNat ∧ c.toNat ≤ 122) ∨ (48 ≤ c.toNat ∧ c.toNat ≤ 57)) ∨ (c.toNat = 45 ∧ ¬ last.toNat = 46)) ∨ ((c.toNat = 46 ∧ ¬ last.toNat = 46) ∧ ¬ last.toNat = 45)) := by
      rw [← hgt]; simp
    by_cases c1 : 97 ≤ c.toNat ∧ c.toNat ≤ 122
    · exact .inr (.inl ⟨rfl, c1.1, c1.2, hgt.2 (.inl (.inl (.inl c1)))⟩)
    by_cases c2 : 48 ≤ c.toNat ∧ c.toNat ≤ 57
    · exact .inr (.inr (.inl ⟨rfl, c2.1, c2.2, hgt.2 (.inl (.inl (.inr c2)))⟩))
    by_cases c3 : c.toNat = 45
    · by_cases l1 : last.toNat = 46
      · exact .inr (.inr (.inr (.inr (.inl ⟨rfl, c3, l1, hgf.2 (by omega)⟩))))
      · exact .inr (.inr (.inr (.inl ⟨rfl, c3, l1, hgt.2 (.inl (.inr ⟨c3, l1⟩))⟩)))
    by_cases c4 : c.toNat = 46
    · by_cases l1 : last.toNat = 46
      · exact .inr (.inr (.inr (.inr (.inr (.inr (.inl ⟨rfl, c4, l1, hgf.2 (by omega)⟩))))))
      · by_cases l2 : last.toNat = 45
        · exact .inr (.inr (.inr (.inr (.inr (.inr (.inr (.inl ⟨rfl, c4, l2, hgf.2 (by omega)⟩)))))))
        · exact .inr (.inr (.inr (.inr (.inr (.inl ⟨rfl, c4, l1, l2, hgt.2 (.inr ⟨⟨c4, l1⟩, l2⟩)⟩)))))
    · exact .inr (.inr (.inr (.inr (.inr (.inr (.inr (.inr ⟨rfl, by omega, hgf.2 (by omega)⟩)))))))
def HrRel (w : World) (s : List UInt8) (b : Bool) (out last i : Value) (wr : World) : Prop :=
  ∃ (j : Nat) (lb : UInt8), j ≤ s.length ∧ i = .int .i64 (j : Int) ∧ out = .string (strB ((s.take j).map lowB)) ∧ last = .int .u8 (lb.toNat : Int) ∧ hostGo lb ((s.drop j).map lowB) = b ∧ Below w.heap.size w wr
set_option maxRecDepth 100000 in
set_option maxHeartbeats 6400000 in
theorem refhost_c (s : List UInt8) (w : World) (hl : s.length ≤ 1000000000) : Calls Tryd.prog 43 #[.string (strB s)] w (GivesSE w (hostI s)) := by
  have hsz := strB_size s
  have hI : hostI s = if 64 < s.length then ([], 5) else if hostGo 46 (s.map lowB) then (s.map lowB, 0) else ([], 4) := rfl
  have hgetS : ∀ k (hk : k < (strB s).size), ((strB s)[k]'hk) = s.getD k 0 := fun k hk => by
    rw [List.getD_eq_getElem?_getD, List.getElem?_eq_getElem (by omega)]; rfl
  by_cases h64 : 64 < s.length
  · rw [hI, if_pos h64]
    have q1 : (64 : Int) < ((strB s).size : Int) := by omega
    clear hI hsz hgetS
    generalize strB s = S at *
    go_enter Tryd.func43, Tryd.ntmps43
    go_wp2_with fail
    go_ret2
    exact ⟨rfl, Below.refl _ _⟩
  rw [if_neg h64] at hI
  have q1 : ¬ (64 : Int) < ((strB s).size : Int) := by omega
  have hfin : hostGo 46 (s.map lowB) = true → hostI s = (s.map lowB, 0) := fun h => by rw [hI, if_pos h]
  have hbad : hostGo 46 (s.map lowB) = false → hostI s = ([], 4) := fun h => by rw [hI, h]; rfl
  have h0 : hostGo 46 ((s.drop 0).map lowB) = hostGo 46 (s.map lowB) := rfl
  generalize hostGo 46 (s.map lowB) = b at *
  generalize hostI s = I at *
  clear hI
  have hl64 : s.length ≤ 64 := by omega
  clear h64 hl
  replace hgetS := Go.Lib.hid hgetS
  obtain ⟨S, hS⟩ : ∃ S, S = strB s := ⟨_, rfl⟩
  rw [← hS] at hsz q1 hgetS ⊢
  clear hS
  go_enter Tryd.func43, Tryd.ntmps43
  go_wp2_with fail
  go_loopw [4, 5, 6] (HrRel w s b) (fun _ _ i _ => s.length - (intOf i).toNat)
  case atStart => exact ⟨0, 46, by omega, rfl, rfl, rfl, h0, Below.refl _ _⟩
  case round =>
    obtain ⟨j, lb, hj, rfl, rfl, rfl, hgo, hb⟩ := hrel
    by_cases hlt : j < s.length
    · have q2 : (j : Int) < s.length := by omega
      have hjS : j < S.size := by omega
      have hcS := hgetS.out j hjS
      have hd : s.drop j = s.getD j 0 :: s.drop (j + 1) := by
        rw [List.getD_eq_getElem?_getD, List.getElem?_eq_getElem hlt]
        exact List.drop_eq_getElem_cons hlt
      have ht : s.take (j + 1) = s.take j ++ [s.getD j 0] := by
        rw [List.getD_eq_getElem?_getD, List.getElem?_eq_getElem hlt]
        exact List.take_succ_eq_append_getElem hlt
      rw [hd, List.map_cons, hostGo_cons] at hgo
      have hcl := (s.getD j 0).toNat_lt
      have hll := lb.toNat_lt
      have hcs := host_cases (s.getD j 0) lb
      have htake : ((s.take j).map lowB).length ≤ 64 := by simp; omega
      generalize s.getD j 0 = c at *
      have HC : ∀ (W : World) (z : Int), z = ((lowB c).toNat : Int) → (convert 37 9 (.slice (some ⟨W.heap.size, 0, none⟩) 1 1)).run Tryd.prog (W.alloc (.cells #[.int .u8 z] 5)) = .ok (.string (strB [lowB c])) (W.alloc (.cells #[.int .u8 z] 5)) := fun W z hz => by
        subst hz
        exact convert_str (Rd.lit W 5 (0, 0) [lowB c] rfl rfl (by decide) (by decide))
      have hsum : ¬ 9223372036854775807 < (strB ((s.take j).map lowB)).size + (strB [lowB c]).size := by rw [strB_size, strB_size]; simp only [List.length_singleton]; omega
      have happ : strB ((s.take j).map lowB) ++ strB [lowB c] = strB ((s.take (j + 1)).map lowB) := by rw [strB_append, ht, List.map_append]; rfl
      replace happ := Go.Lib.hid happ
      generalize strB ((s.take j).map lowB) = O at *
      have hba := fun (W : World) z => (Below.refl W.heap.size W).alloc (Nat.le_refl _) (.cells #[.int .u8 z] 5)
      clear hd ht htake
      rcases hcs with ⟨c1, c2, ec, hg⟩ | ⟨ec, c1, c2, hg⟩ | ⟨ec, c1, c2, hg⟩ | ⟨ec, c1, l1, hg⟩ | ⟨ec, c1, l1, hg⟩ | ⟨ec, c1, l1, l2, hg⟩ | ⟨ec, c1, l1, hg⟩ | ⟨ec, c1, l1, hg⟩ | ⟨ec, cc, hg⟩
      · rw [hg, Bool.true_and] at hgo
        have hgo' := Go.Lib.hid hgo
        have K1 := HC wr ((c.toNat : Int) + 32) (by omega)
        have hfl : (((lowB c).toNat : Nat) : Int) = (c.toNat : Int) + 32 := by omega
        replace hfl := Go.Lib.hid hfl
        have g1 : (65 : Int) ≤ (c.toNat : Int) := by omega
        have g2 : (c.toNat : Int) ≤ 90 := by omega
        clear hg hgo HC ec hfin hbad
        generalize lowB c = d at *
        generalize strB [d] = D at *
        go_wp2_with fail
        exact ⟨⟨j + 1, d, by omega, by go_num, by rw [happ.out], by rw [hfl.out], hgo'.out, below_below hb (hba wr _)⟩, by simp [intOf]; omega⟩
      · rw [hg, Bool.true_and] at hgo
        rw [ec] at HC happ hgo hsum
        have hgo' := Go.Lib.hid hgo
        have K1 := HC wr (c.toNat : Int) rfl
        first | have g65 : (65 : Int) ≤ (c.toNat : Int) := by omega | have g65 : ¬ (65 : Int) ≤ (c.toNat : Int) := by omega
        first | have g97 : (97 : Int) ≤ (c.toNat : Int) := by omega | have g97 : ¬ (97 : Int) ≤ (c.toNat : Int) := by omega
        first | have g48 : (48 : Int) ≤ (c.toNat : Int) := by omega | have g48 : ¬ (48 : Int) ≤ (c.toNat : Int) := by omega
        first | have g90 : (c.toNat : Int) ≤ 90 := by omega | have g90 : ¬ (c.toNat : Int) ≤ 90 := by omega
        first | have g122 : (c.toNat : Int) ≤ 122 := by omega | have g122 : ¬ (c.toNat : Int) ≤ 122 := by omega
        first | have g57 : (c.toNat : Int) ≤ 57 := by omega | have g57 : ¬ (c.toNat : Int) ≤ 57 := by omega
        first | have e45 : ((c.toNat : Int) == 45) = true := by (rw [beq_iff_eq]; omega) | have e45 : ((c.toNat : Int) == 45) = false := by (rw [beq_eq_false_iff_ne]; omega)
        first | have e46 : ((c.toNat : Int) == 46) = true := by (rw [beq_iff_eq]; omega) | have e46 : ((c.toNat : Int) == 46) = false := by (rw [beq_eq_false_iff_ne]; omega)
        first | have n46 : ((lb.toNat : Int) != 46) = true := by (rw [bne_iff_ne]; omega) | have n46 : ((lb.toNat : Int) != 46) = false := by (rw [bne_eq_false_iff_eq]; omega) | skip
        first | have n45 : ((lb.toNat : Int) != 45) = true := by (rw [bne_iff_ne]; omega) | have n45 : ((lb.toNat : Int) != 45) = false := by (rw [bne_eq_false_iff_eq]; omega) | skip
        clear hg hgo HC ec hfin hbad
        generalize strB [c] = D at *
        clear c1 c2
        go_wp2_with fail
        exact ⟨⟨j + 1, c, by omega, by go_num, by rw [happ.out], rfl, hgo'.out, below_below hb (hba wr _)⟩, by simp [intOf]; omega⟩
      · rw [hg, Bool.true_and] at hgo
        rw [ec] at HC happ hgo hsum
        have hgo' := Go.Lib.hid hgo
        have K1 := HC wr (c.toNat : Int) rfl
        first | have g65 : (65 : Int) ≤ (c.toNat : Int) := by omega | have g65 : ¬ (65 : Int) ≤ (c.toNat : Int) := by omega
        first | have g97 : (97 : Int) ≤ (c.toNat : Int) := by omega | have g97 : ¬ (97 : Int) ≤ (c.toNat : Int) := by omega
        first | have g48 : (48 : Int) ≤ (c.toNat : Int) := by omega | have g48 : ¬ (48 : Int) ≤ (c.toNat : Int) := by omega
        first | have g90 : (c.toNat : Int) ≤ 90 := by omega | have g90 : ¬ (c.toNat : Int) ≤ 90 := by omega
        first | have g122 : (c.toNat : Int) ≤ 122 := by omega | have g122 : ¬ (c.toNat : Int) ≤ 122 := by omega
        first | have g57 : (c.toNat : Int) ≤ 57 := by omega | have g57 : ¬ (c.toNat : Int) ≤ 57 := by omega
        first | have e45 : ((c.toNat : Int) == 45) = true := by (rw [beq_iff_eq]; omega) | have e45 : ((c.toNat : Int) == 45) = false := by (rw [beq_eq_false_iff_ne]; omega)
        first | have e46 : ((c.toNat : Int) == 46) = true := by (rw [beq_iff_eq]; omega) | have e46 : ((c.toNat : Int) == 46) = false := by (rw [beq_eq_false_iff_ne]; omega)
        first | have n46 : ((lb.toNat : Int) != 46) = true := by (rw [bne_iff_ne]; omega) | have n46 : ((lb.toNat : Int) != 46) = false := by (rw [bne_eq_false_iff_eq]; omega) | skip
        first | have n45 : ((lb.toNat : Int) != 45) = true := by (rw [bne_iff_ne]; omega) | have n45 : ((lb.toNat : Int) != 45) = false := by (rw [bne_eq_false_iff_eq]; omega) | skip
        clear hg hgo HC ec hfin hbad
        generalize strB [c] = D at *
        clear c1 c2
        go_wp2_with fail
        exact ⟨⟨j + 1, c, by omega, by go_num, by rw [happ.out], rfl, hgo'.out, below_below hb (hba wr _)⟩, by simp [intOf]; omega⟩
      · rw [hg, Bool.true_and] at hgo
        rw [ec] at HC happ hgo hsum
        have hgo' := Go.Lib.hid hgo
        have K1 := HC wr (c.toNat : Int) rfl
        first | have g65 : (65 : Int) ≤ (c.toNat : Int) := by omega | have g65 : ¬ (65 : Int) ≤ (c.toNat : Int) := by omega
        first | have g97 : (97 : Int) ≤ (c.toNat : Int) := by omega | have g97 : ¬ (97 : Int) ≤ (c.toNat : Int) := by omega
        first | have g48 : (48 : Int) ≤ (c.toNat : Int) := by omega | have g48 : ¬ (48 : Int) ≤ (c.toNat : Int) := by omega
        first | have g90 : (c.toNat : Int) ≤ 90 := by omega | have g90 : ¬ (c.toNat : Int) ≤ 90 := by omega
        first | have g122 : (c.toNat : Int) ≤ 122 := by omega | have g122 : ¬ (c.toNat : Int) ≤ 122 := by omega
        first | have g57 : (c.toNat : Int) ≤ 57 := by omega | have g57 : ¬ (c.toNat : Int) ≤ 57 := by omega
        first | have e45 : ((c.toNat : Int) == 45) = true := by (rw [beq_iff_eq]; omega) | have e45 : ((c.toNat : Int) == 45) = false := by (rw [beq_eq_false_iff_ne]; omega)
        first | have e46 : ((c.toNat : Int) == 46) = true := by (rw [beq_iff_eq]; omega) | have e46 : ((c.toNat : Int) == 46) = false := by (rw [beq_eq_false_iff_ne]; omega)
        first | have n46 : ((lb.toNat : Int) != 46) = true := by (rw [bne_iff_ne]; omega) | have n46 : ((lb.toNat : Int) != 46) = false := by (rw [bne_eq_false_iff_eq]; omega) | skip
        first | have n45 : ((lb.toNat : Int) != 45) = true := by (rw [bne_iff_ne]; omega) | have n45 : ((lb.toNat : Int) != 45) = false := by (rw [bne_eq_false_iff_eq]; omega) | skip
        clear hg hgo HC ec hfin hbad
        generalize strB [c] = D at *
        clear c1 l1
        go_wp2_with fail
        exact ⟨⟨j + 1, c, by omega, by go_num, by rw [happ.out], rfl, hgo'.out, below_below hb (hba wr _)⟩, by simp [intOf]; omega⟩
      · rw [hg, Bool.false_and] at hgo
        have hI2 := Go.Lib.hid (hbad hgo.symm)
        first | have g65 : (65 : Int) ≤ (c.toNat : Int) := by omega | have g65 : ¬ (65 : Int) ≤ (c.toNat : Int) := by omega
        first | have g97 : (97 : Int) ≤ (c.toNat : Int) := by omega | have g97 : ¬ (97 : Int) ≤ (c.toNat : Int) := by omega
        first | have g48 : (48 : Int) ≤ (c.toNat : Int) := by omega | have g48 : ¬ (48 : Int) ≤ (c.toNat : Int) := by omega
        first | have g90 : (c.toNat : Int) ≤ 90 := by omega | have g90 : ¬ (c.toNat : Int) ≤ 90 := by omega
        first | have g122 : (c.toNat : Int) ≤ 122 := by omega | have g122 : ¬ (c.toNat : Int) ≤ 122 := by omega
        first | have g57 : (c.toNat : Int) ≤ 57 := by omega | have g57 : ¬ (c.toNat : Int) ≤ 57 := by omega
        first | have e45 : ((c.toNat : Int) == 45) = true := by (rw [beq_iff_eq]; omega) | have e45 : ((c.toNat : Int) == 45) = false := by (rw [beq_eq_false_iff_ne]; omega)
        first | have e46 : ((c.toNat : Int) == 46) = true := by (rw [beq_iff_eq]; omega) | have e46 : ((c.toNat : Int) == 46) = false := by (rw [beq_eq_false_iff_ne]; omega)
        first | have n46 : ((lb.toNat : Int) != 46) = true := by (rw [bne_iff_ne]; omega) | have n46 : ((lb.toNat : Int) != 46) = false := by (rw [bne_eq_false_iff_eq]; omega) | skip
        first | have n45 : ((lb.toNat : Int) != 45) = true := by (rw [bne_iff_ne]; omega) | have n45 : ((lb.toNat : Int) != 45) = false := by (rw [bne_eq_false_iff_eq]; omega) | skip
        clear hg hgo HC ec hfin hbad happ
        clear c1 l1
        go_wp2_with fail
        go_ret2
        rw [hI2.out]
        exact ⟨rfl, hb⟩
      · rw [hg, Bool.true_and] at hgo
        rw [ec] at HC happ hgo hsum
        have hgo' := Go.Lib.hid hgo
        have K1 := HC wr (c.toNat : Int) rfl
        first | have g65 : (65 : Int) ≤ (c.toNat : Int) := by omega | have g65 : ¬ (65 : Int) ≤ (c.toNat : Int) := by omega
        first | have g97 : (97 : Int) ≤ (c.toNat : Int) := by omega | have g97 : ¬ (97 : Int) ≤ (c.toNat : Int) := by omega
        first | have g48 : (48 : Int) ≤ (c.toNat : Int) := by omega | have g48 : ¬ (48 : Int) ≤ (c.toNat : Int) := by omega
        first | have g90 : (c.toNat : Int) ≤ 90 := by omega | have g90 : ¬ (c.toNat : Int) ≤ 90 := by omega
        first | have g122 : (c.toNat : Int) ≤ 122 := by omega | have g122 : ¬ (c.toNat : Int) ≤ 122 := by omega
        first | have g57 : (c.toNat : Int) ≤ 57 := by omega | have g57 : ¬ (c.toNat : Int) ≤ 57 := by omega
        first | have e45 : ((c.toNat : Int) == 45) = true := by (rw [beq_iff_eq]; omega) | have e45 : ((c.toNat : Int) == 45) = false := by (rw [beq_eq_false_iff_ne]; omega)
        first | have e46 : ((c.toNat : Int) == 46) = true := by (rw [beq_iff_eq]; omega) | have e46 : ((c.toNat : Int) == 46) = false := by (rw [beq_eq_false_iff_ne]; omega)
        first | have n46 : ((lb.toNat : Int) != 46) = true := by (rw [bne_iff_ne]; omega) | have n46 : ((lb.toNat : Int) != 46) = false := by (rw [bne_eq_false_iff_eq]; omega) | skip
        first | have n45 : ((lb.toNat : Int) != 45) = true := by (rw [bne_iff_ne]; omega) | have n45 : ((lb.toNat : Int) != 45) = false := by (rw [bne_eq_false_iff_eq]; omega) | skip
        clear hg hgo HC ec hfin hbad
        generalize strB [c] = D at *
        clear c1 l1 l2
        go_wp2_with fail
        exact ⟨⟨j + 1, c, by omega, by go_num, by rw [happ.out], rfl, hgo'.out, below_below hb (hba wr _)⟩, by simp [intOf]; omega⟩
      · rw [hg, Bool.false_and] at hgo
        have hI2 := Go.Lib.hid (hbad hgo.symm)
        first | have g65 : (65 : Int) ≤ (c.toNat : Int) := by omega | have g65 : ¬ (65 : Int) ≤ (c.toNat : Int) := by omega
        first | have g97 : (97 : Int) ≤ (c.toNat : Int) := by omega | have g97 : ¬ (97 : Int) ≤ (c.toNat : Int) := by omega
        first | have g48 : (48 : Int) ≤ (c.toNat : Int) := by omega | have g48 : ¬ (48 : Int) ≤ (c.toNat : Int) := by omega
        first | have g90 : (c.toNat : Int) ≤ 90 := by omega | have g90 : ¬ (c.toNat : Int) ≤ 90 := by omega
        first | have g122 : (c.toNat : Int) ≤ 122 := by omega | have g122 : ¬ (c.toNat : Int) ≤ 122 := by omega
        first | have g57 : (c.toNat : Int) ≤ 57 := by omega | have g57 : ¬ (c.toNat : Int) ≤ 57 := by omega
        first | have e45 : ((c.toNat : Int) == 45) = true := by (rw [beq_iff_eq]; omega) | have e45 : ((c.toNat : Int) == 45) = false := by (rw [beq_eq_false_iff_ne]; omega)
        first | have e46 : ((c.toNat : Int) == 46) = true := by (rw [beq_iff_eq]; omega) | have e46 : ((c.toNat : Int) == 46) = false := by (rw [beq_eq_false_iff_ne]; omega)
        first | have n46 : ((lb.toNat : Int) != 46) = true := by (rw [bne_iff_ne]; omega) | have n46 : ((lb.toNat : Int) != 46) = false := by (rw [bne_eq_false_iff_eq]; omega) | skip
        first | have n45 : ((lb.toNat : Int) != 45) = true := by (rw [bne_iff_ne]; omega) | have n45 : ((lb.toNat : Int) != 45) = false := by (rw [bne_eq_false_iff_eq]; omega) | skip
        clear hg hgo HC ec hfin hbad happ
        clear c1 l1
        go_wp2_with fail
        go_ret2
        rw [hI2.out]
        exact ⟨rfl, hb⟩
      · rw [hg, Bool.false_and] at hgo
        have hI2 := Go.Lib.hid (hbad hgo.symm)
        first | have g65 : (65 : Int) ≤ (c.toNat : Int) := by omega | have g65 : ¬ (65 : Int) ≤ (c.toNat : Int) := by omega
        first | have g97 : (97 : Int) ≤ (c.toNat : Int) := by omega | have g97 : ¬ (97 : Int) ≤ (c.toNat : Int) := by omega
        first | have g48 : (48 : Int) ≤ (c.toNat : Int) := by omega | have g48 : ¬ (48 : Int) ≤ (c.toNat : Int) := by omega
        first | have g90 : (c.toNat : Int) ≤ 90 := by omega | have g90 : ¬ (c.toNat : Int) ≤ 90 := by omega
        first | have g122 : (c.toNat : Int) ≤ 122 := by omega | have g122 : ¬ (c.toNat : Int) ≤ 122 := by omega
        first | have g57 : (c.toNat : Int) ≤ 57 := by omega | have g57 : ¬ (c.toNat : Int) ≤ 57 := by omega
        first | have e45 : ((c.toNat : Int) == 45) = true := by (rw [beq_iff_eq]; omega) | have e45 : ((c.toNat : Int) == 45) = false := by (rw [beq_eq_false_iff_ne]; omega)
        first | have e46 : ((c.toNat : Int) == 46) = true := by (rw [beq_iff_eq]; omega) | have e46 : ((c.toNat : Int) == 46) = false := by (rw [beq_eq_false_iff_ne]; omega)
        first | have n46 : ((lb.toNat : Int) != 46) = true := by (rw [bne_iff_ne]; omega) | have n46 : ((lb.toNat : Int) != 46) = false := by (rw [bne_eq_false_iff_eq]; omega) | skip
        first | have n45 : ((lb.toNat : Int) != 45) = true := by (rw [bne_iff_ne]; omega) | have n45 : ((lb.toNat : Int) != 45) = false := by (rw [bne_eq_false_iff_eq]; omega) | skip
        clear hg hgo HC ec hfin hbad happ
        clear c1 l1
        go_wp2_with fail
        go_ret2
        rw [hI2.out]
        exact ⟨rfl, hb⟩
      · rcases cc with cc | cc | cc | cc | cc
        all_goals
          rw [hg, Bool.false_and] at hgo
          have hI2 := Go.Lib.hid (hbad hgo.symm)
          first | have g65 : (65 : Int) ≤ (c.toNat : Int) := by omega | have g65 : ¬ (65 : Int) ≤ (c.toNat : Int) := by omega
          first | have g97 : (97 : Int) ≤ (c.toNat : Int) := by omega | have g97 : ¬ (97 : Int) ≤ (c.toNat : Int) := by omega
          first | have g48 : (48 : Int) ≤ (c.toNat : Int) := by omega | have g48 : ¬ (48 : Int) ≤ (c.toNat : Int) := by omega
          first | have g90 : (c.toNat : Int) ≤ 90 := by omega | have g90 : ¬ (c.toNat : Int) ≤ 90 := by omega
          first | have g122 : (c.toNat : Int) ≤ 122 := by omega | have g122 : ¬ (c.toNat : Int) ≤ 122 := by omega
          first | have g57 : (c.toNat : Int) ≤ 57 := by omega | have g57 : ¬ (c.toNat : Int) ≤ 57 := by omega
          have e45 : ((c.toNat : Int) == 45) = false := by (rw [beq_eq_false_iff_ne]; omega)
          have e46 : ((c.toNat : Int) == 46) = false := by (rw [beq_eq_false_iff_ne]; omega)
          clear hg hgo HC ec hfin hbad happ
          clear cc
          go_wp2_with fail
          go_ret2
          rw [hI2.out]
          exact ⟨rfl, hb⟩
    · have q2 : ¬ (j : Int) < s.length := by omega
      rw [List.drop_eq_nil_of_le (by omega)] at hgo
      rw [List.take_of_length_le (by omega)]
      have hbe : (lb != 46 && lb != 45) = b := hgo
      clear hgo
      by_cases l46 : lb = 46
      · subst l46
        have hI2 := Go.Lib.hid (hbad hbe.symm)
        have e46 : (((46 : UInt8).toNat : Int) == 46) = true := rfl
        clear hfin hbad hbe
        generalize strB (s.map lowB) = O at *
        go_wp2_with fail
        go_ret2
        rw [hI2.out]
        exact ⟨rfl, hb⟩
      · by_cases l45 : lb = 45
        · subst l45
          have hI2 := Go.Lib.hid (hbad hbe.symm)
          have e46 : (((45 : UInt8).toNat : Int) == 46) = false := rfl
          have e45 : (((45 : UInt8).toNat : Int) == 45) = true := rfl
          clear hfin hbad hbe
          generalize strB (s.map lowB) = O at *
          go_wp2_with fail
          go_ret2
          rw [hI2.out]
          exact ⟨rfl, hb⟩
        · have h1 : (lb == 46) = false := beq_eq_false_iff_ne.2 l46
          have h2 : (lb == 45) = false := beq_eq_false_iff_ne.2 l45
          have hI2 := Go.Lib.hid (hfin (by rw [← hbe]; simp [bne, h1, h2]))
          have n46 : ¬ lb.toNat = 46 := fun e => l46 (UInt8.toNat_inj.1 e)
          have n45 : ¬ lb.toNat = 45 := fun e => l45 (UInt8.toNat_inj.1 e)
          have e46 : ((lb.toNat : Int) == 46) = false := by rw [beq_eq_false_iff_ne]; omega
          have e45 : ((lb.toNat : Int) == 45) = false := by rw [beq_eq_false_iff_ne]; omega
          clear hfin hbad hbe l46 l45 n46 n45 h1 h2
          obtain ⟨O, hO⟩ : ∃ O, O = strB (s.map lowB) := ⟨_, rfl⟩
          rw [← hO]
          replace hO := Go.Lib.hid hO
          go_wp2_with fail
          go_ret2
          rw [hI2.out, hO.out]
          exact ⟨rfl, hb⟩
end Go.Proofs.YtfnlcnjflloecaaDoor
/-! ### Nam6 -/
set_option linter.unusedVariables false
set_option linter.unusedSimpArgs false
namespace Go.Proofs.YtfnlcnjflloecaaDoor
open Go.RowKit
def RsRel (w : World) (s : List UInt8) (gf : Nat) (wx : World) : Prop :=
  ∃ pos : Nat, wx.heap[w.heap.size]? = some (.stringIter (strB s) pos) ∧ Below w.heap.size w wx ∧ s.length ≤ pos + gf ∧ allD visI (s.drop pos) = allD visI s
theorem vis_cases (r : Int) :
    (r < 32 ∧ visI r = false) ∨ (32 ≤ r ∧ r < 127 ∧ visI r = true) ∨ (127 ≤ r ∧ r ≤ 159 ∧ visI r = false) ∨ (159 < r ∧ r < 65534 ∧ visI r = true) ∨ (r = 65534 ∧ visI r = false) ∨ (r = 65535 ∧ visI r = false) ∨ (65535 < r ∧ visI r = true) := by
  have ht : visI r = true ↔ ((32 ≤ r ∧ ¬ (127 ≤ r ∧ r ≤ 159)) ∧ r ≠ 65534) ∧ r ≠ 65535 := by
    unfold visI
    simp only [Bool.and_eq_true, decide_eq_true_eq, Bool.not_eq_true', decide_eq_false_iff_not, bne_iff_ne]
  have hf : visI r = false ↔ ¬ (((32 ≤ r ∧ ¬ (127 ≤ r ∧ r ≤ 159)) ∧ r ≠ 65534) ∧ r ≠ 65535) := by rw [← ht]; simp
  rw [ht, hf]
  omega
set_option maxRecDepth 100000 in
set_option maxHeartbeats 3200000 in
theorem refres_c (s : List UInt8) (w : World) (hl : s.length ≤ 1000000000) : Calls Tryd.prog 44 #[.string (strB s)] w (GivesSE w (resI s)) := by
  have hsz := strB_size s
  have hI : resI s = if sizedI s ≠ 0 then ([], sizedI s) else if allD visI s = true then (s, 0) else ([], 4) := rfl
  have hz : sizedI s = if 64 < s.length then 5 else if s = [] ∨ Lib.validD s = false then 4 else 0 := rfl
  generalize resI s = I at *
  by_cases h64 : 64 < s.length
  · rw [if_pos h64] at hz
    rw [hz, if_pos (by omega)] at hI
    subst hI
    have q1 : (64 : Int) < ((strB s).size : Int) := by omega
    clear hz hsz
    generalize strB s = S at *
    go_enter Tryd.func44, Tryd.ntmps44
    go_wp2_with fail
    go_ret2
    exact ⟨rfl, Below.refl _ _⟩
  rw [if_neg h64] at hz
  have q1 : ¬ (64 : Int) < ((strB s).size : Int) := by omega
  have V := fun w1 => refvalid_c s w1 hl
  by_cases hne : s = []
  · subst hne
    rw [if_pos (.inl rfl)] at hz
    rw [hz, if_pos (by omega)] at hI
    subst hI
    clear hz hsz V
    have hem : (strB []).toList.isEmpty = true := by rw [strB_toList]; rfl
    go_enter Tryd.func44, Tryd.ntmps44
    go_wp2_with fail
    go_ret2
    exact ⟨rfl, Below.refl _ _⟩
  have hem := s_empty s hne
  cases hv : Lib.validD s
  · rw [if_pos (.inr hv)] at hz
    rw [hz, if_pos (by omega)] at hI
    subst hI
    rw [hv] at V
    clear hz hsz
    generalize strB s = S at *
    go_enter Tryd.func44, Tryd.ntmps44
    go_wp2_with (go_at_call 58; refine (V _).mono ?_; rintro e w1 ⟨rfl, rfl⟩)
    go_ret2
    exact ⟨rfl, Below.refl _ _⟩
  · rw [if_neg (by rintro (h | h); exact hne h; rw [hv] at h; cases h)] at hz
    rw [hz, if_neg (by simp)] at hI
    rw [hv] at V
    clear hz
    replace hI := Go.Lib.hid hI
    have hdec := fun pos => decodeS s pos
    obtain ⟨S, hS⟩ : ∃ S, S = strB s := ⟨_, rfl⟩
    rw [← hS] at V hem q1 hsz hdec
    have hLc : RsRel w s s.length (w.alloc (.stringIter S 0)) := ⟨0, by rw [← hS]; exact World.iter_heap w S 0, (Below.refl _ w).alloc (Nat.le_refl _) _, by omega, rfl⟩
    rw [← hS]
    replace hS := Go.Lib.hid hS
    go_enter Tryd.func44, Tryd.ntmps44
    go_wp2_with (go_at_call 58; refine (V _).mono ?_; rintro e w1 ⟨rfl, rfl⟩)
    go_loopg [] s.length (fun gf wx => RsRel w s gf wx)
    case atStart => exact hLc
    case round =>
      obtain ⟨pos, hit, hbw, hfu, hall⟩ := hrel
      rw [← hS.out] at hit
      by_cases hps : pos < S.size
      · obtain ⟨g', rfl⟩ : ∃ g', gk = g' + 1 := ⟨gk - 1, by omega⟩
        have hnx : ∀ ty, (Instr.next (.pointer (some ⟨w.heap.size, 0, none⟩)) true ty).run Tryd.prog wr = _ := fun ty => Lib.run_next_any_at wr w.heap.size S pos ty hit hps
        have hwd := Lib.width_pos S pos
        have hrk := Lib.rune_le S pos
        have hnd : s.drop pos ≠ [] := by intro e; have := congrArg List.length e; rw [List.length_drop] at this; simp at this; omega
        have hst := allD_step visI (s.drop pos) hnd
        rw [hdec pos] at hnx hwd hrk
        generalize Lib.decodeL (s.drop pos) = D at *
        obtain ⟨R, K⟩ := D
        simp only at hst hnx hwd hrk
        rw [List.drop_drop] at hst
        have hit2 := Lib.iterAt_heap wr w.heap.size S pos (pos + K) hit
        have hbw2 := Lib.below_iterAt hbw (k := w.heap.size) (Nat.le_refl _) S (pos + K)
        obtain ⟨W, hWd⟩ : ∃ W, wr.iterAt w.heap.size S (pos + K) = W := ⟨_, rfl⟩
        rw [hWd] at hnx hit2 hbw2
        clear hdec hWd hit hbw
        have hbadI : visI (R : Int) = false → I = ([], 4) := fun h => by
          rw [hI.out, ← hall, hst, h]; rfl
        have hgood : visI (R : Int) = true → allD visI (s.drop (pos + K)) = allD visI s := fun h => by
          rw [← hall, hst, h]; rfl
        rcases vis_cases (R : Int) with ⟨k1, kv⟩ | ⟨k1, k2, kv⟩ | ⟨k1, k2, kv⟩ | ⟨k1, k2, kv⟩ | ⟨k1, kv⟩ | ⟨k1, kv⟩ | ⟨k1, kv⟩
        all_goals
          first
          | have hI2 := Go.Lib.hid (hbadI kv)
          | have hall2 := Go.Lib.hid (hgood kv)
          clear hbadI hgood hst hall kv
          first | have g32 : (R : Int) < 32 := by omega | have g32 : ¬ (R : Int) < 32 := by omega
          first | have g127 : (127 : Int) ≤ (R : Int) := by omega | have g127 : ¬ (127 : Int) ≤ (R : Int) := by omega
          first | have g159 : (R : Int) ≤ 159 := by omega | have g159 : ¬ (R : Int) ≤ 159 := by omega
          first | have e4 : ((R : Int) == 65534) = true := by (rw [beq_iff_eq]; omega) | have e4 : ((R : Int) == 65534) = false := by (rw [beq_eq_false_iff_ne]; omega)
          first | have e5 : ((R : Int) == 65535) = true := by (rw [beq_iff_eq]; omega) | have e5 : ((R : Int) == 65535) = false := by (rw [beq_eq_false_iff_ne]; omega)
          clear k1
          try clear k2
          go_wp2_with fail
          first
          | (go_ret2
             rw [hI2.out]
             exact ⟨rfl, hbw2⟩)
          | (go_roundg g'
             case measure => omega
             case rel => exact ⟨pos + K, by rw [← hS.out]; exact hit2, hbw2, by omega, hall2.out⟩)
      · have hnx : ∀ ty, (Instr.next (.pointer (some ⟨w.heap.size, 0, none⟩)) true ty).run Tryd.prog wr = _ := fun ty => Lib.run_next_end_at wr w.heap.size S pos ty hit hps
        have hd : s.drop pos = [] := List.drop_eq_nil_of_le (by omega)
        rw [hd] at hall
        have hI2 := Go.Lib.hid (hI.out.trans (by rw [← hall]; rfl : _ = (s, (0 : Int))))
        clear hI hall hd
        go_wp2_with fail
        go_ret2
        rw [hI2.out, hS.out]
        exact ⟨rfl, hbw⟩
/-- Where a byte stands first; -1: nowhere. -/
def cutX (c : UInt8) (s : List UInt8) : Int := if (cutI c s).2.2 = true then ((cutI c s).1.length : Int) else -1
theorem cutI_ne {b c : UInt8} (h : b ≠ c) (r : List UInt8) : cutI c (b :: r) = (b :: (cutI c r).1, (cutI c r).2.1, (cutI c r).2.2) := by
  conv => lhs; unfold cutI
  rw [if_neg h]
def CtRel (w : World) (c : UInt8) (s : List UInt8) (X : Int) (i : Value) (wr : World) : Prop :=
  ∃ j : Nat, j ≤ s.length ∧ i = .int .i64 (j : Int) ∧ (if (cutI c (s.drop j)).2.2 = true then (j : Int) + (cutI c (s.drop j)).1.length else -1) = X ∧ w = wr
theorem u8_eqI (c d : UInt8) : ((c.toNat : Int) == (d.toNat : Int)) = (c == d) := by
  by_cases h : c = d
  · subst h; simp
  · have h2 : ¬ c.toNat = d.toNat := fun e => h (UInt8.toNat_inj.1 e)
    rw [beq_eq_false_iff_ne.2 h, beq_eq_false_iff_ne]
    omega
set_option maxHeartbeats 1600000 in
theorem refcut_c (s : List UInt8) (c : UInt8) (w : World) (hl : s.length ≤ 1000000000) : Calls Tryd.prog 41 #[.string (strB s), .int .u8 (c.toNat : Int)] w fun e w' => e = .returned (.int .i64 (cutX c s)) ∧ w = w' := by
  have hsz := strB_size s
  have hgetS : ∀ k (hk : k < (strB s).size), ((strB s)[k]'hk) = s.getD k 0 := fun k hk => by
    rw [List.getD_eq_getElem?_getD, List.getElem?_eq_getElem (by omega)]; rfl
  have hX : (if (cutI c (s.drop 0)).2.2 = true then ((0 : Nat) : Int) + (cutI c (s.drop 0)).1.length else -1) = cutX c s := by unfold cutX; simp
  generalize cutX c s = X at *
  replace hgetS := Go.Lib.hid hgetS
  generalize strB s = S at *
  go_enter Tryd.func41, Tryd.ntmps41
  go_wp2_with fail
  go_loopw [5] (CtRel w c s X) (fun i _ => s.length - (intOf i).toNat)
  case atStart => exact ⟨0, by omega, rfl, hX, rfl⟩
  clear hX
  case round =>
    obtain ⟨j, hj, rfl, hx, rfl⟩ := hrel
    by_cases hlt : j < s.length
    · have q2 : (j : Int) < s.length := by omega
      have hjS : j < S.size := by omega
      have hcS := hgetS.out j hjS
      have hd : s.drop j = s.getD j 0 :: s.drop (j + 1) := by
        rw [List.getD_eq_getElem?_getD, List.getElem?_eq_getElem hlt]
        exact List.drop_eq_getElem_cons hlt
      rw [hd] at hx
      generalize s.getD j 0 = b at *
      have he := u8_eqI b c
      by_cases hb : b = c
      · subst hb
        have hX2 : (j : Int) = X := by rw [← hx]; simp [cutI]
        have hX3 := Go.Lib.hid hX2
        have e1 : ((b.toNat : Int) == (b.toNat : Int)) = true := by simp
        clear hx hd hX2 he
        go_wp2_with fail
        go_ret
        rw [hX3.out]
        exact ⟨rfl, rfl⟩
      · have e1 : ((b.toNat : Int) == (c.toNat : Int)) = false := by rw [he]; exact beq_eq_false_iff_ne.2 hb
        have hx2 : (if (cutI c (s.drop (j + 1))).2.2 = true then ((j + 1 : Nat) : Int) + (cutI c (s.drop (j + 1))).1.length else -1) = X := by
          rw [← hx, cutI_ne hb]
          simp only [List.length_cons]
          cases (cutI c (s.drop (j + 1))).2.2
          · rfl
          · simp only [if_true]; push_cast; omega
        have hx3 := Go.Lib.hid hx2
        clear hx hd hx2 he hb
        go_wp2_with fail
        exact ⟨⟨j + 1, by omega, by go_num, hx3.out, rfl⟩, by simp [intOf]; omega⟩
    · have q2 : ¬ (j : Int) < s.length := by omega
      rw [List.drop_eq_nil_of_le (by omega)] at hx
      have hX2 : (-1 : Int) = X := hx
      have hX3 := Go.Lib.hid hX2
      clear hx hX2
      go_wp2_with fail
      go_ret
      rw [← hX3.out]
      exact ⟨rfl, rfl⟩
theorem cutI_parts (c : UInt8) : ∀ s : List UInt8, (cutI c s).2.2 = true → s.take (cutI c s).1.length = (cutI c s).1 ∧ s.drop ((cutI c s).1.length + 1) = (cutI c s).2.1 ∧ (cutI c s).1.length < s.length
  | [], h => by cases h
  | b :: r, h => by
    unfold cutI at h ⊢
    by_cases hb : b = c
    · rw [if_pos hb]; simp
    · rw [if_neg hb] at h ⊢
      have ih := cutI_parts c r h
      simp only [List.length_cons, List.take_succ_cons, List.drop_succ_cons]
      exact ⟨by rw [ih.1], ih.2.1, by omega⟩
theorem cutI_whole (c : UInt8) : ∀ s : List UInt8, (cutI c s).2.2 = false → cutI c s = (s, [], false)
  | [], _ => rfl
  | b :: r, h => by
    unfold cutI at h ⊢
    by_cases hb : b = c
    · rw [if_pos hb] at h; cases h
    · rw [if_neg hb] at h ⊢
      have ih := cutI_whole c r h
      rw [ih]
end Go.Proofs.YtfnlcnjflloecaaDoor
