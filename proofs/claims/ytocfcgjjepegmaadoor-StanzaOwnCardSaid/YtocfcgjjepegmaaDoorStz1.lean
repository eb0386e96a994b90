/- stanza: the reader's methods: text, part, list, number, float. -/
import Derived.Test.YtocfcgjjepegmaaDoorStzPure
import Derived.Test.YtocfcgjjepegmaaDoorStz0
import Derived.Test.YtocfcgjjepegmaaDoorOct8
set_option linter.unusedVariables false
set_option linter.unusedSimpArgs false
namespace Go.Proofs.YtocfcgjjepegmaaDoor
open Go.RowKit
theorem textI_rest (l : List UInt8) (m : Nat) : (textI l m).2.1.length ≤ l.length := by
  unfold textI
  split
  · split
    · simp
    · split
      · simp
      · split <;> simp
  · simp
theorem uintI_rest (l : List UInt8) : (uintI l).2.1.length ≤ l.length := by
  unfold uintI; split <;> simp
set_option maxRecDepth 100000 in
set_option maxHeartbeats 800000 in
theorem rtext_c (w : World) (hT : Tabs w) (p bits : Nat) (l : List UInt8) (h : RdrAt w p bits l) (hl : l.length ≤ 10000000) :
    Calls Tryd.prog 125 #[.pointer (some ⟨p, 0, none⟩)] w (RdP w p bits (textI l 1024) sv) := by
  obtain ⟨v, h1, h2, h3⟩ := h
  have c0 : _ = some _ := h1.cell 0
  have U := octtext_c v l 1024 w h2 hl (by omega) hT
  unfold GivesT at U
  rw [show (1024 : Int).toNat = 1024 from rfl] at U
  generalize textI l 1024 = r at *
  obtain ⟨n, l1, e1⟩ := r
  simp only at U
  unfold sv
  by_cases he : e1 = 0
  · subst he
    go_enter Tryd.func125, Tryd.ntmps125
    have c0 : True := trivial
    go_wp2_with (first
      | (have _t := c0; go_at_call 117; refine U.mono ?_; rintro e w1 ⟨v1, rfl, ho, hb⟩; have f0 := (h1.below hb).frozen 0; have k0 : _ = some _ := (h1.below hb).cell 0; obtain ⟨A1, cp1, ev1, _, _, _⟩ := ho.rd.open; subst ev1; clear c0; have c1 : True := trivial)
      | (have _t := c1; go_at_call 124; refine (check_ok _).mono ?_; rintro e w2 ⟨rfl, rfl⟩; clear c1; have c2 : True := trivial))
    go_ret
    have := rdr_put h1 hb ho
    exact ⟨this.1, .inl ⟨rfl, rfl, this.2⟩⟩
  · go_enter Tryd.func125, Tryd.ntmps125
    have c0 : True := trivial
    go_wp2_with (first
      | (have _t := c0; go_at_call 117; refine U.mono ?_; rintro e w1 ⟨v1, rfl, ho, hb⟩; clear c0; have c1 : True := trivial)
      | (have _t := c1; go_at_call 124; refine (check_bad _ he _).mono ?_; rintro e w2 ⟨rfl, rfl⟩; clear c1; have c2 : True := trivial))
    exact ⟨rfl, Chg.of_below hb, .inr ⟨he, rfl⟩⟩
theorem bit_has : ∀ (n : Fin 256) (k : Fin 6), (Go.bits .and .u8 (n.val : Int) ((2 ^ k.val : Nat) : Int) != 0) = decide (n.val / 2 ^ k.val % 2 = 1) := by decide +kernel
theorem strB_nil : strB [] = ByteArray.empty := rfl
theorem ne_empty (s : List UInt8) (h : s ≠ []) : (strB s).toList.isEmpty = false := by
  rw [strB_toList]; cases s with
  | nil => exact absurd rfl h
  | cons a r => rfl
set_option maxRecDepth 100000 in
set_option maxHeartbeats 800000 in
theorem part_no (w : World) (p bits m : Nat) (l : List UInt8) (h : RdrAt w p bits l) (hb : (Go.bits .and .u8 (bits : Int) (m : Int) != 0) = false) :
    Calls Tryd.prog 73 #[.pointer (some ⟨p, 0, none⟩), .int .u8 (m : Int)] w fun e w' => e = .returned (.string (strB [])) ∧ w = w' := by
  have H := has_c w p bits m l h
  rw [hb] at H
  clear hb
  go_enter Tryd.func73, Tryd.ntmps73
  have c0 : True := trivial
  go_wp2_with (first
    | (have _t := c0; go_at_call 74; refine H.mono ?_; rintro e w1 ⟨rfl, rfl⟩; clear c0; have c1 : True := trivial))
  go_ret
  exact ⟨rfl, rfl⟩
set_option maxRecDepth 100000 in
set_option maxHeartbeats 800000 in
theorem part_c (w : World) (hT : Tabs w) (p bits m : Nat) (l : List UInt8) (h : RdrAt w p bits l) (hl : l.length ≤ 10000000) (hb : (Go.bits .and .u8 (bits : Int) (m : Int) != 0) = true) :
    Calls Tryd.prog 73 #[.pointer (some ⟨p, 0, none⟩), .int .u8 (m : Int)] w (RdP w p bits (partI l) sv) := by
  have H := has_c w p bits m l h
  rw [hb] at H
  clear hb
  have T := rtext_c w hT p bits l h hl
  have hI : partI l = if (textI l 1024).2.2 = 0 then if (textI l 1024).1 = [] then ([], [], 2) else textI l 1024 else ([], [], (textI l 1024).2.2) := rfl
  generalize textI l 1024 = r at *
  obtain ⟨s, l1, e1⟩ := r
  simp only at hI
  generalize partI l = I at *
  by_cases he : e1 = 0
  · subst he
    rw [if_pos rfl] at hI
    by_cases hs : s = []
    · subst hs
      rw [if_pos rfl] at hI
      subst hI
      go_enter Tryd.func73, Tryd.ntmps73
      have c0 : True := trivial
      go_wp2_with (first
        | (have _t := c0; go_at_call 74; refine H.mono ?_; rintro e w1 ⟨rfl, rfl⟩; clear c0; have c1 : True := trivial)
        | (have _t := c1; go_at_call 125; refine T.mono ?_; rintro e w1 ⟨hc, ⟨_, rfl, hr⟩ | ⟨hx, _⟩⟩ <;> first | exact absurd rfl hx | skip; unfold sv; rw [strB_nil]; clear c1; have c2 : True := trivial)
        | (have _t := c2; go_at_call 72; refine (must_bad 2 (by omega) _).mono ?_; rintro e w2 ⟨rfl, rfl⟩; clear c2; have c3 : True := trivial))
      exact ⟨rfl, hc, .inr ⟨by simp, rfl⟩⟩
    · rw [if_neg hs] at hI
      subst hI
      have q := ne_empty s hs
      unfold sv at T ⊢
      generalize hS : strB s = S at *
      go_enter Tryd.func73, Tryd.ntmps73
      have c0 : True := trivial
      go_wp2_with (first
        | (have _t := c0; go_at_call 74; refine H.mono ?_; rintro e w1 ⟨rfl, rfl⟩; clear c0; have c1 : True := trivial)
        | (have _t := c1; go_at_call 125; refine T.mono ?_; rintro e w1 ⟨hc, ⟨_, rfl, hr⟩ | ⟨hx, _⟩⟩ <;> first | exact absurd rfl hx | skip; clear c1; have c2 : True := trivial)
        | (have _t := c2; go_at_call 72; refine (must_ok 2 _).mono ?_; rintro e w2 ⟨rfl, rfl⟩; clear c2; have c3 : True := trivial))
      go_ret
      exact ⟨hc, .inl ⟨rfl, by rw [← hS]; rfl, hr⟩⟩
  · rw [if_neg he] at hI
    subst hI
    go_enter Tryd.func73, Tryd.ntmps73
    have c0 : True := trivial
    go_wp2_with (first
      | (have _t := c0; go_at_call 74; refine H.mono ?_; rintro e w1 ⟨rfl, rfl⟩; clear c0; have c1 : True := trivial)
      | (have _t := c1; go_at_call 125; refine T.mono ?_; rintro e w1 ⟨hc, ⟨hx, _⟩ | ⟨_, rfl⟩⟩ <;> first | exact absurd hx he | skip; clear c1; have c2 : True := trivial))
    exact ⟨rfl, hc, .inr ⟨he, rfl⟩⟩
set_option maxRecDepth 100000 in
set_option maxHeartbeats 800000 in
theorem rnumber_c (w : World) (p bits : Nat) (l : List UInt8) (h : RdrAt w p bits l) (hl : l.length ≤ 10000000) :
    Calls Tryd.prog 76 #[.pointer (some ⟨p, 0, none⟩)] w (RdP w p bits (numbI l) (.int .i64)) := by
  obtain ⟨v, h1, h2, h3⟩ := h
  have c0 : _ = some _ := h1.cell 0
  have U := int_c v l w h2 hl
  unfold GivesI at U
  have hI : numbI l = if (intI l).2.2 = 0 then if (intI l).1 = 0 then (0, [], 2) else intI l else (0, [], (intI l).2.2) := rfl
  generalize numbI l = I at *
  generalize intI l = r at *
  obtain ⟨n, l1, e1⟩ := r
  simp only at U hI
  by_cases he : e1 = 0
  · subst he
    rw [if_pos rfl] at hI
    by_cases hn : n = 0
    · subst hn
      rw [if_pos rfl] at hI
      subst hI
      go_enter Tryd.func76, Tryd.ntmps76
      have c0 : True := trivial
      go_wp2_with (first
        | (have _t := c0; go_at_call 126; refine U.mono ?_; rintro e w1 ⟨v1, rfl, ho, hb⟩; clear c0; have c1 : True := trivial)
        | (have _t := c1; go_at_call 124; refine (check_ok _).mono ?_; rintro e w2 ⟨rfl, rfl⟩; clear c1; have c2 : True := trivial)
        | (have _t := c2; go_at_call 72; refine (must_bad 2 (by omega) _).mono ?_; rintro e w2 ⟨rfl, rfl⟩; clear c2; have c3 : True := trivial))
      exact ⟨rfl, Chg.of_below hb, .inr ⟨by simp, rfl⟩⟩
    · rw [if_neg hn] at hI
      subst hI
      have q1 : (n == (0 : Int)) = false := by simpa using hn
      have q2 : (n != (0 : Int)) = true := by simpa using hn
      go_enter Tryd.func76, Tryd.ntmps76
      have c0 : True := trivial
      go_wp2_with (first
        | (have _t := c0; go_at_call 126; refine U.mono ?_; rintro e w1 ⟨v1, rfl, ho, hb⟩; have f0 := (h1.below hb).frozen 0; have k0 : _ = some _ := (h1.below hb).cell 0; obtain ⟨A1, cp1, ev1, _, _, _⟩ := ho.rd.open; subst ev1; clear c0; have c1 : True := trivial)
        | (have _t := c1; go_at_call 124; refine (check_ok _).mono ?_; rintro e w2 ⟨rfl, rfl⟩; clear c1; have c2 : True := trivial)
        | (have _t := c2; go_at_call 72; refine (must_ok 2 _).mono ?_; rintro e w2 ⟨rfl, rfl⟩; clear c2; have c3 : True := trivial))
      go_ret
      have := rdr_put h1 hb ho
      exact ⟨this.1, .inl ⟨rfl, rfl, this.2⟩⟩
  · rw [if_neg he] at hI
    subst hI
    go_enter Tryd.func76, Tryd.ntmps76
    have c0 : True := trivial
    go_wp2_with (first
      | (have _t := c0; go_at_call 126; refine U.mono ?_; rintro e w1 ⟨v1, rfl, ho, hb⟩; clear c0; have c1 : True := trivial)
      | (have _t := c1; go_at_call 124; refine (check_bad _ he _).mono ?_; rintro e w2 ⟨rfl, rfl⟩; clear c1; have c2 : True := trivial))
    exact ⟨rfl, Chg.of_below hb, .inr ⟨he, rfl⟩⟩
set_option maxRecDepth 100000 in
set_option maxHeartbeats 800000 in
theorem rfloat_c (w : World) (p bits : Nat) (l : List UInt8) (h : RdrAt w p bits l) (hl : l.length ≤ 10000000) :
    Calls Tryd.prog 77 #[.pointer (some ⟨p, 0, none⟩)] w (RdP w p bits (floaI l) (.float .f64)) := by
  obtain ⟨v, h1, h2, h3⟩ := h
  have c0 : _ = some _ := h1.cell 0
  have U := float_c v l w h2 hl
  unfold GivesF at U
  have hI : floaI l = if (floatI l).2.2 = 0 then if (floatI l).1 = 0 then (0, [], 2) else floatI l else (0, [], (floatI l).2.2) := rfl
  generalize floaI l = I at *
  generalize floatI l = r at *
  obtain ⟨n, l1, e1⟩ := r
  simp only at U hI
  by_cases he : e1 = 0
  · subst he
    rw [if_pos rfl] at hI
    by_cases hn : n = 0
    · subst hn
      rw [if_pos rfl] at hI
      subst hI
      have fb := fun w => f64bits w 0
      go_enter Tryd.func77, Tryd.ntmps77
      have c0 : True := trivial
      go_wp2_with (first
        | (have _t := c0; go_at_call 127; refine U.mono ?_; rintro e w1 ⟨v1, rfl, ho, hb⟩; clear c0; have c1 : True := trivial)
        | (have _t := c1; go_at_call 124; refine (check_ok _).mono ?_; rintro e w2 ⟨rfl, rfl⟩; clear c1; have c2 : True := trivial)
        | (have _t := c2; go_at_call 72; refine (must_bad 2 (by omega) _).mono ?_; rintro e w2 ⟨rfl, rfl⟩; clear c2; have c3 : True := trivial))
      exact ⟨rfl, Chg.of_below hb, .inr ⟨by simp, rfl⟩⟩
    · rw [if_neg hn] at hI
      subst hI
      have q1 : ((n : Int) == (0 : Int)) = false := by simpa using hn
      have q2 : ((n : Int) != (0 : Int)) = true := by simpa using hn
      have fb := fun w => f64bits w n
      go_enter Tryd.func77, Tryd.ntmps77
      have c0 : True := trivial
      go_wp2_with (first
        | (have _t := c0; go_at_call 127; refine U.mono ?_; rintro e w1 ⟨v1, rfl, ho, hb⟩; have f0 := (h1.below hb).frozen 0; have k0 : _ = some _ := (h1.below hb).cell 0; obtain ⟨A1, cp1, ev1, _, _, _⟩ := ho.rd.open; subst ev1; clear c0; have c1 : True := trivial)
        | (have _t := c1; go_at_call 124; refine (check_ok _).mono ?_; rintro e w2 ⟨rfl, rfl⟩; clear c1; have c2 : True := trivial)
        | (have _t := c2; go_at_call 72; refine (must_ok 2 _).mono ?_; rintro e w2 ⟨rfl, rfl⟩; clear c2; have c3 : True := trivial))
      go_ret
      have := rdr_put h1 hb ho
      exact ⟨this.1, .inl ⟨rfl, rfl, this.2⟩⟩
  · rw [if_neg he] at hI
    subst hI
    go_enter Tryd.func77, Tryd.ntmps77
    have c0 : True := trivial
    go_wp2_with (first
      | (have _t := c0; go_at_call 127; refine U.mono ?_; rintro e w1 ⟨v1, rfl, ho, hb⟩; clear c0; have c1 : True := trivial)
      | (have _t := c1; go_at_call 124; refine (check_bad _ he _).mono ?_; rintro e w2 ⟨rfl, rfl⟩; clear c1; have c2 : True := trivial))
    exact ⟨rfl, Chg.of_below hb, .inr ⟨he, rfl⟩⟩
end Go.Proofs.YtocfcgjjepegmaaDoor
