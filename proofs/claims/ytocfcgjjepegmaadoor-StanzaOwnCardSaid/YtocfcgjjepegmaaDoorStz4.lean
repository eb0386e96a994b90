/- stanza: text, Check; the reference's Check. -/
import Derived.Test.YtocfcgjjepegmaaDoorStz2
import Derived.Test.YtocfcgjjepegmaaDoorStz3
import Derived.Test.YtocfcgjjepegmaaDoorShelfV
import Derived.Test.YtocfcgjjepegmaaDoorOct8
set_option linter.unusedVariables false
set_option linter.unusedSimpArgs false
namespace Go.Proofs.YtocfcgjjepegmaaDoor
open Go.RowKit
theorem valids_c (s : List UInt8) (w : World) (hl : s.length ≤ 9223372036854775807) (hT : Tabs w) : Calls Tryd.prog 106 #[.string (strB s)] w fun e w' => e = .returned (.bool (Lib.validD s)) ∧ Below w.heap.size w w' :=
  Tryd.utf8_ValidString (strB s) w hl hT
set_option maxRecDepth 100000 in
theorem stext_c (s : List UInt8) (w : World) (hl : s.length ≤ 1000000000) (hT : Tabs w) : Calls Tryd.prog 65 #[.string (strB s)] w fun e w' => e = .returned (.int .i64 (textE s)) ∧ Below w.heap.size w w' := by
  have hz := strB_size s
  have V := valids_c s w (by omega) hT
  have hE : textE s = if 1024 < s.length then 5 else if Lib.validD s = true then 0 else 4 := rfl
  generalize textE s = E at *
  by_cases h1 : 1024 < s.length
  · rw [if_pos h1] at hE
    subst hE
    have q : (1024 : Int) < s.length := by omega
    go_enter Tryd.func65, Tryd.ntmps65
    go_wp2_with fail
    go_ret
    exact ⟨rfl, Below.refl _ _⟩
  · rw [if_neg h1] at hE
    have q : ¬ (1024 : Int) < s.length := by omega
    by_cases h2 : Lib.validD s = true
    · rw [if_pos h2] at hE
      subst hE
      rw [h2] at V
      go_enter Tryd.func65, Tryd.ntmps65
      have c0 : True := trivial
      go_wp2_with (first
        | (have _t := c0; go_at_call 106; refine V.mono ?_; rintro e w1 ⟨rfl, hb⟩; clear c0; have c1 : True := trivial))
      go_ret
      exact ⟨rfl, hb⟩
    · rw [if_neg h2] at hE
      subst hE
      rw [Bool.eq_false_iff.2 h2] at V
      go_enter Tryd.func65, Tryd.ntmps65
      have c0 : True := trivial
      go_wp2_with (first
        | (have _t := c0; go_at_call 106; refine V.mono ?_; rintro e w1 ⟨rfl, hb⟩; clear c0; have c1 : True := trivial))
      go_ret
      exact ⟨rfl, hb⟩
theorem agS : AggTy Tryd.prog 26 8 := ⟨⟨_, Tryd.underlying26, rfl⟩, by kernel_rfl⟩
/-- Bounds that hold of all stanzas that are met. -/
structure StzOk (s : Stz) : Prop where
  a : s.a.length ≤ 100000
  b : s.b.length ≤ 100000
  t : s.t.length ≤ 100000
  l : ∀ x ∈ s.l, x.length ≤ 100000
  ll : s.l.length ≤ 1000
  id : s.id < 18446744073709551616
  n : -9223372036854775808 ≤ s.n ∧ s.n ≤ 9223372036854775807
  f : s.f < 18446744073709551616
theorem out_u8 (n p : Nat) (hn : n < 256) (hp : p < 64) : (Go.bits .andNot .u8 (n : Int) (p : Int) != 0) = outB n p := by
  have H : ∀ (x : Fin 256) (y : Fin 64), (Go.bits .andNot .u8 (x.val : Int) (y.val : Int) != 0) = outB x.val y.val := by decide +kernel
  exact H ⟨n, hn⟩ ⟨p, hp⟩
theorem out_i64 (n p : Nat) (hn : n < 256) (hp : p < 64) : (Go.bits .andNot .i64 (n : Int) (p : Int) != 0) = outB n p := by
  have H : ∀ (x : Fin 256) (y : Fin 64), (Go.bits .andNot .i64 (x.val : Int) (y.val : Int) != 0) = outB x.val y.val := by decide +kernel
  exact H ⟨n, hn⟩ ⟨p, hp⟩
def ChkRel (w : World) (l : List (List UInt8)) (E : Int) (i : Value) (wr : World) : Prop := ∃ j : Nat, j ≤ l.length ∧ i = .int .i64 (j : Int) ∧ firstE (l.drop j) = E ∧ Below w.heap.size w wr
theorem firstE_drop (l : List (List UInt8)) (j : Nat) (h : j < l.length) : firstE (l.drop j) = if textE l[j] = 0 then firstE (l.drop (j + 1)) else textE l[j] := by
  rw [List.drop_eq_getElem_cons h]; rfl
set_option maxRecDepth 100000 in
set_option maxHeartbeats 3200000 in
theorem check_c (w : World) (hT : Tabs w) (s : Stz) (vl : Value) (hl : RdT w vl s.l) (ok : StzOk s) :
    Calls Tryd.prog 18 #[stzV s vl] w fun e w' => e = .returned (.int .i64 (checkI s)) ∧ Below w.heap.size w w' := by
  have P := fun w1 => parts_c s.kind w1
  have H := fun w1 (hb : Below w.heap.size w w1) => there_c w1 s vl (hl.below hb)
  have hI : checkI s = if partsI s.kind < 0 then 3
    else if outB (thereI s) (partsI s.kind).toNat = true then 2
    else if firstE [s.a, s.b, s.t] ≠ 0 then firstE [s.a, s.b, s.t]
    else if 64 < s.l.length then 5
    else firstE s.l := rfl
  have hp := partsI_cases s.kind
  have ht := thereI_lt s
  have hou := out_u8 (thereI s) (partsI s.kind).toNat (by omega) (by omega)
  obtain ⟨ha1, hb1, ht1, hl1, hl2, _, _, _⟩ := ok
  obtain ⟨A, c, rfl, h1, h2, h3⟩ := hl.open
  clear hl
  unfold GivesK at P
  obtain ⟨kind, id, a, b, t, l, n, f⟩ := s
  simp only at *
  generalize partsI kind = K at *
  generalize thereI ⟨kind, id, a, b, t, l, n, f⟩ = TH at *
  generalize checkI ⟨kind, id, a, b, t, l, n, f⟩ = I at *
  have step : ∀ j : Nat, j < 3 → ∃ x, (∀ w : World, (Instr.index 99 (.agg #[.string (strB a), .string (strB b), .string (strB t)]) (.int .i64 (j : Int))).run Tryd.prog w = .ok (.string (strB x)) w) ∧
      firstE ([a, b, t].drop j) = (if textE x = 0 then firstE ([a, b, t].drop (j + 1)) else textE x) ∧ x.length ≤ 100000 := by
    intro j hj
    rcases (by omega : j = 0 ∨ j = 1 ∨ j = 2) with rfl | rfl | rfl
    · exact ⟨a, fun _ => by kernel_rfl, rfl, ha1⟩
    · exact ⟨b, fun _ => by kernel_rfl, rfl, hb1⟩
    · exact ⟨t, fun _ => by kernel_rfl, rfl, ht1⟩
  obtain ⟨L, hL⟩ : ∃ L, L = [a, b, t] := ⟨_, rfl⟩
  have hLl : L.length = 3 := by rw [hL]; rfl
  rw [← hL] at step hI
  clear hL
  unfold stzV at H ⊢
  simp only at H ⊢
  generalize strB a = sa at *
  generalize strB b = sb at *
  generalize strB t = st at *
  obtain ⟨E3, hE3⟩ : ∃ E3, firstE L = E3 := ⟨_, rfl⟩
  rw [hE3] at hI
  replace hI := Go.Lib.hid hI
  replace hE3 := Go.Lib.hid hE3
  replace hLl := Go.Lib.hid hLl
  by_cases hK : K < 0
  · have e1 : I = 3 := by rw [hI.out, if_pos hK]
    subst e1
    rw [if_pos hK, decide_eq_false (by omega : ¬ 0 ≤ K)] at P
    clear hI hou step hp
    go_enter Tryd.func18, Tryd.ntmps18
    have tok0 : True := trivial
    go_wp2_with (first
      | (have _t := tok0; (with_reducible refine G_box ?_; refine L_box (by with_unfolding_all (conv => lhs; whnf)) ?_); intro wx hkx hbx hsx; clear hsx; have c0 : _ = some _ := hkx.cell 0; clear tok0; have tok1 : True := trivial)
      | (have _t := tok1; go_at_call 64; refine (P _).mono ?_; rintro e w1 ⟨rfl, rfl⟩; clear tok1; have tok2 : True := trivial))
    go_ret
    exact ⟨rfl, hbx⟩
  rw [if_neg hK, decide_eq_true (by omega : 0 ≤ K)] at P
  obtain ⟨KN, rfl⟩ := Int.eq_ofNat_of_zero_le (by omega : 0 ≤ K)
  have hKN : KN < 64 := by omega
  simp only [Int.toNat_natCast] at hou hI
  replace hI := hI.out
  rw [if_neg hK] at hI
  clear hK hp
  by_cases ho : outB TH KN = true
  · rw [if_pos ho] at hI
    subst hI
    rw [ho] at hou
    clear step
    go_enter Tryd.func18, Tryd.ntmps18
    have tok0 : True := trivial
    go_wp2_with (first
      | (have _t := tok0; (with_reducible refine G_box ?_; refine L_box (by with_unfolding_all (conv => lhs; whnf)) ?_); intro wx hkx hbx hsx; clear hsx; have c0 : _ = some _ := hkx.cell 0; clear tok0; have tok1 : True := trivial)
      | (have _t := tok1; go_at_call 64; refine (P _).mono ?_; rintro e w1 ⟨rfl, rfl⟩; clear tok1; have tok2 : True := trivial)
      | (have _t := tok2; (with_reducible refine G_load ?_; refine L_load_agg agS (by with_unfolding_all (conv => lhs; whnf)) hkx rfl ?_); clear tok2; have tok3 : True := trivial)
      | (have _t := tok3; go_at_call 56; refine (H _ hbx).mono ?_; rintro e w1 ⟨rfl, hb1⟩; clear tok3; have tok4 : True := trivial))
    go_ret
    exact ⟨rfl, below_below hbx hb1⟩
  rw [if_neg ho] at hI
  rw [Bool.eq_false_iff.2 ho] at hou
  replace hI := Go.Lib.hid hI
  clear ho
  go_enter Tryd.func18, Tryd.ntmps18
  have tok0 : True := trivial
  go_wp2_with (first
    | (have _t := tok0; (with_reducible refine G_box ?_; refine L_box (by with_unfolding_all (conv => lhs; whnf)) ?_); intro wx hkx hbx hsx; clear hsx; have c0 : _ = some _ := hkx.cell 0; have c2 : _ = some _ := hkx.cell 2; have c3 : _ = some _ := hkx.cell 3; have c4 : _ = some _ := hkx.cell 4; clear tok0; have tok1 : True := trivial)
    | (have _t := tok1; go_at_call 64; refine (P _).mono ?_; rintro e w1 ⟨rfl, rfl⟩; clear tok1; have tok2 : True := trivial)
    | (have _t := tok2; (with_reducible refine G_load ?_; refine L_load_agg agS (by with_unfolding_all (conv => lhs; whnf)) hkx rfl ?_); clear tok2; have tok3 : True := trivial)
    | (have _t := tok3; go_at_call 56; refine (H _ hbx).mono ?_; rintro e w1 ⟨rfl, hb1⟩; have d2 := (hkx.below hb1).cell 2; have d3 := (hkx.below hb1).cell 3; have d4 := (hkx.below hb1).cell 4; simp only [List.getElem?_cons_succ, List.getElem?_cons_zero] at d2 d3 d4; clear tok3; have tok4 : True := trivial))
  clear hou P H c0 c2 c3 c4 d2 d3 d4
  have hk1 := hkx.below hb1
  have hb2 := below_below hbx hb1
  clear hkx hbx hb1
  go_loopw [33] (ChkRel w1 L E3) (fun i _ => 3 - (intOf i).toNat)
  case atStart => exact ⟨0, by omega, rfl, hE3.out, Below.refl _ _⟩
  case round =>
    obtain ⟨j, hj, rfl, hE, hb⟩ := hrel
    have hj3 : j ≤ 3 := by have := hLl.out; omega
    by_cases hlt : j < 3
    · have q1 : (j : Int) < 3 := by omega
      obtain ⟨x, hix, hx, hxl⟩ := step j hlt
      have T := stext_c x wr (by omega) ((hT.below hb2).below hb)
      rw [hE] at hx
      generalize strB x = sx at *
      generalize textE x = X at *
      by_cases h0 : X = 0
      · subst h0
        rw [if_pos rfl] at hx
        replace hx := Go.Lib.hid hx
        clear hE step
        have c0 : True := trivial
        go_wp2_with (first
          | (have _t := c0; go_at_call 65; refine T.mono ?_; rintro e w3 ⟨rfl, hb3⟩; clear c0; have c1 : True := trivial))
        exact ⟨⟨j + 1, by have := hLl.out; omega, by go_num, hx.out.symm, below_below hb hb3⟩, by simp [intOf]; omega⟩
      · rw [if_neg h0] at hx
        have e1 : I = X := by
          rw [hI.out, hx, if_pos h0]
        obtain rfl : X = I := e1.symm
        have q2 : (X == (0 : Int)) = false := by simpa using h0
        have q3 : (X != (0 : Int)) = true := by simpa using h0
        clear hI hE hE3 step h0 hx
        have c0 : True := trivial
        go_wp2_with (first
          | (have _t := c0; go_at_call 65; refine T.mono ?_; rintro e w3 ⟨rfl, hb3⟩; clear c0; have c1 : True := trivial))
        go_ret
        exact ⟨rfl, below_below hb2 (below_below hb hb3)⟩
    · obtain rfl : j = 3 := by omega
      have hE0 : E3 = 0 := by
        rw [← hE, List.drop_of_length_le (by have := hLl.out; omega)]; rfl
      replace hI := hI.out
      rw [hE0, if_neg (by simp)] at hI
      have c5 : _ = some _ := (hk1.below hb).cell 5
      by_cases h64 : 64 < l.length
      · rw [if_pos h64] at hI
        subst hI
        have q2 : (64 : Int) < l.length := by omega
        clear step hE0 hE
        go_wp2_with fail
        go_ret
        exact ⟨rfl, below_below hb2 hb⟩
      · rw [if_neg h64] at hI
        have q2 : ¬ (64 : Int) < l.length := by omega
        clear step hE0 hE
        replace hI := Go.Lib.hid hI
        obtain ⟨w4, e4⟩ : ∃ w4, w4 = wr := ⟨_, rfl⟩
        subst e4
        have hb4 := below_below hb2 hb
        clear hk1 hb
        go_wp2_with fail
        go_loopw [49] (ChkRel w4 l I) (fun i _ => l.length - (intOf i).toNat)
        case atStart => exact ⟨0, by omega, rfl, hI.out.symm, Below.refl _ _⟩
        case round =>
          obtain ⟨j, hj, rfl, hE, hbr⟩ := hrel
          by_cases hlt : j < l.length
          · have q1 : (j : Int) < l.length := by omega
            have hx := firstE_drop l j hlt
            obtain ⟨bb, off, rfl, hbl, hcell⟩ := h3 (by omega)
            have hb5 := below_below hb4 hbr
            have hcj : _ = some _ := (hb5.cell (p := ⟨bb, off + j, none⟩) hbl).trans (hcell j hlt)
            have T := stext_c l[j] wr (by have := hl1 l[j] (List.getElem_mem hlt); omega) (hT.below hb5)
            rw [hE] at hx
            generalize strB l[j] = sx at *
            generalize textE l[j] = X at *
            clear hcell h3 c5
            by_cases h0 : X = 0
            · subst h0
              rw [if_pos rfl] at hx
              replace hx := Go.Lib.hid hx
              clear hE
              have c0 : True := trivial
              go_wp2_with (first
                | (have _t := c0; go_at_call 65; refine T.mono ?_; rintro e w3 ⟨rfl, hb3⟩; clear c0; have c1 : True := trivial))
              exact ⟨⟨j + 1, by omega, by go_num, hx.out.symm, below_below hbr hb3⟩, by simp [intOf]; omega⟩
            · rw [if_neg h0] at hx
              obtain rfl : I = X := hx
              have q2 : (I == (0 : Int)) = false := by simpa using h0
              have q3 : (I != (0 : Int)) = true := by simpa using h0
              clear hI hE hE3 h0
              have c0 : True := trivial
              go_wp2_with (first
                | (have _t := c0; go_at_call 65; refine T.mono ?_; rintro e w3 ⟨rfl, hb3⟩; clear c0; have c1 : True := trivial))
              go_ret
              exact ⟨rfl, below_below hb5 hb3⟩
          · have q1 : ¬ (j : Int) < l.length := by omega
            have hI0 : I = 0 := by rw [← hE, List.drop_of_length_le (by omega)]; rfl
            subst hI0
            clear hI hE
            go_wp2_with fail
            go_ret
            exact ⟨rfl, below_below hb4 hbr⟩
end Go.Proofs.YtocfcgjjepegmaaDoor
