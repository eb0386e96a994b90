/- The reference's Check of a stanza. -/
import Derived.Test.YtocfcgjjepegmaaDoorStz4
set_option linter.unusedVariables false
set_option linter.unusedSimpArgs false
namespace Go.Proofs.YtocfcgjjepegmaaDoor
open Go.RowKit
set_option maxRecDepth 100000 in
set_option maxHeartbeats 3200000 in
theorem refcheck_c (w : World) (s : Stz) (vl : Value) (hl : RdT w vl s.l) (ok : StzOk s) :
    Calls Tryd.prog 17 #[stzV s vl] w fun e w' => e = .returned (.int .i64 (checkI s)) ∧ Below w.heap.size w w' := by
  have P := fun w1 => refparts_c s.kind w1
  have H := fun w1 (hb : Below w.heap.size w w1) => refthere_c w1 s vl (hl.below hb)
  have hI : checkI s = if partsI s.kind < 0 then 3
    else if outB (thereI s) (partsI s.kind).toNat = true then 2
    else if firstE [s.a, s.b, s.t] ≠ 0 then firstE [s.a, s.b, s.t]
    else if 64 < s.l.length then 5
    else firstE s.l := rfl
  have hp := partsI_cases s.kind
  have ht := thereI_lt s
  have hou := out_i64 (thereI s) (partsI s.kind).toNat (by omega) (by omega)
  obtain ⟨ha1, hb1, ht1, hl1, hl2, _, _, _⟩ := ok
  obtain ⟨A, c, rfl, h1, h2, h3⟩ := hl.open
  clear hl
  obtain ⟨kind, id, a, b, t, l, n, f⟩ := s
  simp only at *
  generalize partsI kind = K at *
  generalize thereI ⟨kind, id, a, b, t, l, n, f⟩ = TH at *
  generalize checkI ⟨kind, id, a, b, t, l, n, f⟩ = I at *
  have step : ∀ j : Nat, j < 3 → ∃ x, (∀ (w : World) (fr : Nat × Nat), (w.alloc (.cells #[.string (strB a), .string (strB b), .string (strB t)] 9 fr)).cell? ⟨w.heap.size, j, none⟩ = some (.string (strB x))) ∧
      firstE ([a, b, t].drop j) = (if textE x = 0 then firstE ([a, b, t].drop (j + 1)) else textE x) ∧ x.length ≤ 100000 := by
    have hb : ∀ (w : World) (fr : Nat × Nat) (cs : Array Value), (w.alloc (.cells cs 9 fr)).heap[w.heap.size]? = some (.cells cs 9 fr) := by
      intro w fr cs
      show (w.heap.push _)[w.heap.size]? = _
      simp
    intro j hj
    rcases (by omega : j = 0 ∨ j = 1 ∨ j = 2) with rfl | rfl | rfl
    · exact ⟨a, fun w fr => by rw [cell_of_row _ w.heap.size 0 _ _ fr (hb _ _ _)]; rfl, rfl, ha1⟩
    · exact ⟨b, fun w fr => by rw [cell_of_row _ w.heap.size 1 _ _ fr (hb _ _ _)]; rfl, rfl, hb1⟩
    · exact ⟨t, fun w fr => by rw [cell_of_row _ w.heap.size 2 _ _ fr (hb _ _ _)]; rfl, rfl, ht1⟩
  obtain ⟨L, hL⟩ : ∃ L, L = [a, b, t] := ⟨_, rfl⟩
  have hLl : L.length = 3 := by rw [hL]; rfl
  rw [← hL] at step hI
  clear hL
  unfold stzV at H ⊢
  simp only at H ⊢
  generalize strB a = sa at *
  generalize strB b = sb at *
  generalize strB t = st at *
  obtain ⟨E3, hE3⟩ : ∃ E3, firstE L = E3 := ⟨_, rfl⟩
  rw [hE3] at hI
  replace hI := Go.Lib.hid hI
  replace hE3 := Go.Lib.hid hE3
  replace hLl := Go.Lib.hid hLl
  by_cases hK : K < 0
  · have e1 : I = 3 := by rw [hI.out, if_pos hK]
    subst e1
    clear hI hou step hp
    go_enter Tryd.func17, Tryd.ntmps17
    have tok0 : True := trivial
    go_wp2_with (first
      | (have _t := tok0; (with_reducible refine G_box ?_; refine L_box (by with_unfolding_all (conv => lhs; whnf)) ?_); intro wx hkx hbx hsx; clear hsx; have c0 : _ = some _ := hkx.cell 0; clear tok0; have tok1 : True := trivial)
      | (have _t := tok1; go_at_call 61; refine (P _).mono ?_; rintro e w1 ⟨rfl, rfl⟩; clear tok1; have tok2 : True := trivial))
    go_ret
    exact ⟨rfl, hbx⟩
  obtain ⟨KN, rfl⟩ := Int.eq_ofNat_of_zero_le (by omega : 0 ≤ K)
  have hKN : KN < 64 := by omega
  simp only [Int.toNat_natCast] at hou hI
  replace hI := hI.out
  rw [if_neg hK] at hI
  clear hK hp
  by_cases ho : outB TH KN = true
  · rw [if_pos ho] at hI
    subst hI
    rw [ho] at hou
    clear step
    go_enter Tryd.func17, Tryd.ntmps17
    have tok0 : True := trivial
    go_wp2_with (first
      | (have _t := tok0; (with_reducible refine G_box ?_; refine L_box (by with_unfolding_all (conv => lhs; whnf)) ?_); intro wx hkx hbx hsx; clear hsx; have c0 : _ = some _ := hkx.cell 0; clear tok0; have tok1 : True := trivial)
      | (have _t := tok1; go_at_call 61; refine (P _).mono ?_; rintro e w1 ⟨rfl, rfl⟩; clear tok1; have tok2 : True := trivial)
      | (have _t := tok2; (with_reducible refine G_load ?_; refine L_load_agg agS (by with_unfolding_all (conv => lhs; whnf)) hkx rfl ?_); clear tok2; have tok3 : True := trivial)
      | (have _t := tok3; go_at_call 62; refine (H _ hbx).mono ?_; rintro e w1 ⟨rfl, hb1⟩; clear tok3; have tok4 : True := trivial))
    go_ret
    exact ⟨rfl, below_below hbx hb1⟩
  rw [if_neg ho] at hI
  rw [Bool.eq_false_iff.2 ho] at hou
  replace hI := Go.Lib.hid hI
  clear ho
  go_enter Tryd.func17, Tryd.ntmps17
  have tok0 : True := trivial
  go_wp2_with (first
    | (have _t := tok0; (with_reducible refine G_box ?_; refine L_box (by with_unfolding_all (conv => lhs; whnf)) ?_); intro wx hkx hbx hsx; clear hsx; have c0 : _ = some _ := hkx.cell 0; have c2 : _ = some _ := hkx.cell 2; have c3 : _ = some _ := hkx.cell 3; have c4 : _ = some _ := hkx.cell 4; clear tok0; have tok1 : True := trivial)
    | (have _t := tok1; go_at_call 61; refine (P _).mono ?_; rintro e w1 ⟨rfl, rfl⟩; clear tok1; have tok2 : True := trivial)
    | (have _t := tok2; (with_reducible refine G_load ?_; refine L_load_agg agS (by with_unfolding_all (conv => lhs; whnf)) hkx rfl ?_); clear tok2; have tok3 : True := trivial)
    | (have _t := tok3; go_at_call 62; refine (H _ hbx).mono ?_; rintro e w1 ⟨rfl, hb1⟩; have d2 := (hkx.below hb1).cell 2; have d3 := (hkx.below hb1).cell 3; have d4 := (hkx.below hb1).cell 4; simp only [List.getElem?_cons_succ, List.getElem?_cons_zero] at d2 d3 d4; clear tok3; have tok4 : True := trivial))
  clear hou P H c0 c2 c3 c4 d2 d3 d4
  have hk1 := hkx.below hb1
  have hb2 := below_below hbx hb1
  clear hkx hbx hb1
  have hbl := (Below.refl w1.heap.size w1).alloc (Nat.le_refl _) (.cells #[.string sa, .string sb, .string st] 9)
  have sz : (w1.alloc (.cells #[.string sa, .string sb, .string st] 9)).heap.size = w1.heap.size + 1 := by simp
  have step2 : ∀ j : Nat, j < 3 → ∃ x, (∀ wr, Below (w1.alloc (.cells #[.string sa, .string sb, .string st] 9)).heap.size (w1.alloc (.cells #[.string sa, .string sb, .string st] 9)) wr → wr.cell? ⟨w1.heap.size, j, none⟩ = some (.string (strB x))) ∧
      firstE (L.drop j) = (if textE x = 0 then firstE (L.drop (j + 1)) else textE x) ∧ x.length ≤ 100000 := by
    intro j hj
    obtain ⟨x, hx1, hx2, hx3⟩ := step j hj
    exact ⟨x, fun wr hb => by rw [hb.cell (by rw [sz]; exact Nat.lt_succ_self _)]; exact hx1 w1 _, hx2, hx3⟩
  have hk2 := hk1.below hbl
  have hb3 := below_below hb2 hbl
  clear step sz hbl hk1 hb2
  generalize hB1 : w1.heap.size = B1 at *
  clear hB1
  generalize w1.alloc (.cells #[.string sa, .string sb, .string st] 9) = w2 at *
  go_loopw [5] (ChkRel w2 L E3) (fun i _ => 3 - (intOf i).toNat)
  case atStart => exact ⟨0, by omega, rfl, hE3.out, Below.refl _ _⟩
  case round =>
    obtain ⟨j, hj, rfl, hE, hb⟩ := hrel
    have hj3 : j ≤ 3 := by have := hLl.out; omega
    by_cases hlt : j < 3
    · have q1 : (j : Int) < 3 := by omega
      obtain ⟨x, hix, hx, hxl⟩ := step2 j hlt
      replace hix := hix wr hb
      have T := reft_c x wr (by omega)
      rw [hE] at hx
      generalize strB x = sx at *
      generalize textE x = X at *
      by_cases h0 : X = 0
      · subst h0
        rw [if_pos rfl] at hx
        replace hx := Go.Lib.hid hx
        clear hE step2
        have c0 : True := trivial
        go_wp2_with (first
          | (have _t := c0; go_at_call 63; refine T.mono ?_; rintro e w3 ⟨rfl, rfl⟩; clear c0; have c1 : True := trivial))
        exact ⟨⟨j + 1, by have := hLl.out; omega, by go_num, hx.out.symm, hb⟩, by simp [intOf]; omega⟩
      · rw [if_neg h0] at hx
        have e1 : I = X := by
          rw [hI.out, hx, if_pos h0]
        obtain rfl : X = I := e1.symm
        have q2 : (X == (0 : Int)) = false := by simpa using h0
        have q3 : (X != (0 : Int)) = true := by simpa using h0
        clear hI hE hE3 step2 h0 hx
        have c0 : True := trivial
        go_wp2_with (first
          | (have _t := c0; go_at_call 63; refine T.mono ?_; rintro e w3 ⟨rfl, rfl⟩; clear c0; have c1 : True := trivial))
        go_ret
        exact ⟨rfl, below_below hb3 hb⟩
    · obtain rfl : j = 3 := by omega
      have hE0 : E3 = 0 := by
        rw [← hE, List.drop_of_length_le (by have := hLl.out; omega)]; rfl
      replace hI := hI.out
      rw [hE0, if_neg (by simp)] at hI
      have c5 : _ = some _ := (hk2.below hb).cell 5
      by_cases h64 : 64 < l.length
      · rw [if_pos h64] at hI
        subst hI
        have q2 : (64 : Int) < l.length := by omega
        clear step2 hE0 hE
        go_wp2_with fail
        go_ret
        exact ⟨rfl, below_below hb3 hb⟩
      · rw [if_neg h64] at hI
        have q2 : ¬ (64 : Int) < l.length := by omega
        clear step2 hE0 hE
        replace hI := Go.Lib.hid hI
        obtain ⟨w4, e4⟩ : ∃ w4, w4 = wr := ⟨_, rfl⟩
        subst e4
        have hk4 := hk2.below hb
        have hb4 := below_below hb3 hb
        clear hk2 hb
        go_wp2_with fail
        go_loopw [7] (ChkRel w4 l I) (fun i _ => l.length - (intOf i).toNat)
        case atStart => exact ⟨0, by omega, rfl, hI.out.symm, Below.refl _ _⟩
        clear c5
        case round =>
          obtain ⟨j, hj, rfl, hE, hbr⟩ := hrel
          have c5 : _ = some _ := (hk4.below hbr).cell 5
          by_cases hlt : j < l.length
          · have q1 : (j : Int) < l.length := by omega
            have hx := firstE_drop l j hlt
            obtain ⟨bb, off, rfl, hbl, hcell⟩ := h3 (by omega)
            have hb5 := below_below hb4 hbr
            have hcj : _ = some _ := (hb5.cell (p := ⟨bb, off + j, none⟩) hbl).trans (hcell j hlt)
            have T := reft_c l[j] wr (by have := hl1 l[j] (List.getElem_mem hlt); omega)
            rw [hE] at hx
            generalize strB l[j] = sx at *
            generalize textE l[j] = X at *
            clear hcell h3
            by_cases h0 : X = 0
            · subst h0
              rw [if_pos rfl] at hx
              replace hx := Go.Lib.hid hx
              clear hE
              have c0 : True := trivial
              go_wp2_with (first
                | (have _t := c0; go_at_call 63; refine T.mono ?_; rintro e w3 ⟨rfl, rfl⟩; clear c0; have c1 : True := trivial))
              exact ⟨⟨j + 1, by omega, by go_num, hx.out.symm, hbr⟩, by simp [intOf]; omega⟩
            · rw [if_neg h0] at hx
              obtain rfl : I = X := hx
              have q2 : (I == (0 : Int)) = false := by simpa using h0
              have q3 : (I != (0 : Int)) = true := by simpa using h0
              clear hI hE hE3 h0
              have c0 : True := trivial
              go_wp2_with (first
                | (have _t := c0; go_at_call 63; refine T.mono ?_; rintro e w3 ⟨rfl, rfl⟩; clear c0; have c1 : True := trivial))
              go_ret
              exact ⟨rfl, hb5⟩
          · have q1 : ¬ (j : Int) < l.length := by omega
            have hI0 : I = 0 := by rw [← hE, List.drop_of_length_le (by omega)]; rfl
            subst hI0
            clear hI hE
            go_wp2_with fail
            go_ret
            exact ⟨rfl, below_below hb4 hbr⟩
end Go.Proofs.YtocfcgjjepegmaaDoor
