/- NameSpread. -/
import Derived.Test.YtocfcgjjepegmaaDoorNam9
import Derived.Test.YtocfcgjjepegmaaDoorCRow
set_option linter.unusedVariables false
set_option linter.unusedSimpArgs false
namespace Go.Proofs.YtocfcgjjepegmaaDoor
open Go.RowKit
def fnv0 : Int := 14695981039346656037
def fnvP : Int := 1099511628211
def fnvS (n : Int) (c : UInt8) : Int := IntKind.u64.wrap (Go.bits .xor .u64 n (c.toNat : Int) * fnvP)
def fnvL (l : List UInt8) : Int := l.foldl fnvS fnv0
theorem fnvS_range (n : Int) (c : UInt8) : 0 ≤ fnvS n c ∧ fnvS n c < 18446744073709551616 := by
  unfold fnvS IntKind.wrap
  simp [IntKind.signed, IntKind.bits]
  omega
theorem fnvL_range (l : List UInt8) : 0 ≤ fnvL l ∧ fnvL l < 18446744073709551616 := by
  rcases List.eq_nil_or_concat l with rfl | ⟨r, c, rfl⟩
  · exact ⟨by decide, by decide⟩
  · unfold fnvL
    rw [List.concat_eq_append, List.foldl_append]
    exact fnvS_range _ c
theorem fnvL_succ (l : List UInt8) (j : Nat) (h : j < l.length) : fnvL (l.take (j + 1)) = fnvS (fnvL (l.take j)) (l.getD j 0) := by
  unfold fnvL
  rw [List.take_succ_eq_append_getElem h, List.foldl_append, List.getD_eq_getElem?_getD, List.getElem?_eq_getElem h]
  rfl
def SpRel (w : World) (g : Nat) (c : Nat) (l : List UInt8) (n i : Value) (wr : World) : Prop :=
  ∃ j : Nat, j ≤ l.length ∧ i = .int .i64 (j : Int) ∧ n = .int .u64 (fnvL (l.take j)) ∧ Rd wr (.slice (some ⟨g, 0, none⟩) l.length c) l ∧ Below w.heap.size w wr
set_option maxRecDepth 100000 in
set_option maxHeartbeats 1600000 in
theorem spread_c (h l : List UInt8) (w : World) (hh : h.length ≤ 1000) (hl : l.length ≤ 1000) :
    Calls Tryd.prog 39 #[.string (strB h), .string (strB l)] w fun e w' => e = .returned (.int .u64 (fnvL (h ++ 0 :: l))) ∧ Below w.heap.size w w' := by
  have e1 : strB h ++ (⟨#[0]⟩ : ByteArray) ++ strB l = strB (h ++ 0 :: l) := by
    show strB h ++ strB [0] ++ strB l = _
    rw [strB_append, strB_append]; simp
  have z1 : ¬ 9223372036854775807 < (strB h).size + (⟨#[0]⟩ : ByteArray).size := by rw [strB_size]; show ¬ _ < _ + 1; omega
  have z2 : ¬ 9223372036854775807 < (strB h ++ (⟨#[0]⟩ : ByteArray)).size + (strB l).size := by
    show ¬ 9223372036854775807 < (strB h ++ strB [0]).size + (strB l).size
    rw [strB_append, strB_size, strB_size]; simp; omega
  have hL : (h ++ 0 :: l).length ≤ 3000 := by simp; omega
  generalize h ++ 0 :: l = X at *
  have hXs := strB_size X
  have CB := fun w1 => conv_brow w1 (strB X) (by omega)
  rw [hXs] at CB
  have hd : (strB X).data.toList = X := rfl
  rw [hd] at CB
  generalize strB X = SX at *
  clear hXs hd hh hl
  go_enter Tryd.func39, Tryd.ntmps39
  go_upto_region 2 with fail
  have ta0 : True := trivial
  go_wp2_with (first
    | (have _t := ta0; with_reducible refine G_conv ?_; refine L_convb (by with_unfolding_all (conv => lhs; whnf)) (CB _) ?_; rintro v7 w7 ⟨c7, rfl, hr7, hb7⟩; clear ta0; have ta1 : True := trivial))
  have h0 : fnvL (X.take 0) = fnv0 := rfl
  go_loopw [5, 14] (SpRel w w.heap.size c7 X) (fun _ i _ => X.length - (intOf i).toNat)
  case atStart => exact ⟨0, by omega, rfl, rfl, hr7.rd, hb7⟩
  case round =>
    obtain ⟨j, hj, rfl, rfl, hr, hb⟩ := hrel
    by_cases hlt : j < X.length
    · have q1 : (j : Int) < X.length := by omega
      obtain ⟨_, _, e5, _, _, h3⟩ := hr.open
      cases e5
      obtain ⟨b, off, e6, hc⟩ := h3 (by omega)
      cases e6
      have cj := hc j hlt
      rw [Nat.zero_add] at cj
      have hbt : bt X j = ((X.getD j 0).toNat : Int) := rfl
      rw [hbt] at cj
      have hsu := Go.Lib.hid (fnvL_succ X j hlt)
      have hrg := fnvL_range (X.take j)
      have hul := (X.getD j 0).toNat_lt
      generalize hN : fnvL (X.take j) = N at *
      generalize X.getD j 0 = c at *
      clear hN hbt hc h3
      go_wp2_with fail
      exact ⟨⟨j + 1, by omega, by go_num, by rw [hsu.out]; rfl, hr, hb⟩, by simp [intOf]; omega⟩
    · have q1 : ¬ (j : Int) < X.length := by omega
      obtain rfl : j = X.length := by omega
      rw [List.take_length]
      go_wp2_with fail
      go_ret
      exact ⟨rfl, hb⟩
def RpRel (w : World) (v : Value) (l : List UInt8) (n i : Value) (wr : World) : Prop :=
  ∃ j : Nat, j ≤ l.length ∧ i = .int .i64 (j : Int) ∧ n = .int .u64 (fnvL (l.take j)) ∧ Rd wr v l ∧ Below w.heap.size w wr
set_option maxRecDepth 100000 in
set_option maxHeartbeats 1600000 in
theorem refspread_c (h l : List UInt8) (w : World) (hh : h.length ≤ 1000) (hl : l.length ≤ 1000) :
    Calls Tryd.prog 40 #[.string (strB h), .string (strB l)] w fun e w' => e = .returned (.int .u64 (fnvL (h ++ 0 :: l))) ∧ Below w.heap.size w w' := by
  have CB := fun w1 => conv_crow w1 (strB h) (by rw [strB_size]; omega)
  have hd : (strB h).data.toList = h := rfl
  rw [hd] at CB
  have eX : (h ++ [0]) ++ l = h ++ 0 :: l := by simp
  have hL : (h ++ 0 :: l).length ≤ 3000 := by simp; omega
  generalize h ++ 0 :: l = X at *
  replace eX := Go.Lib.hid eX
  have hSl := fun w1 => src_text 9 Tryd.underlying9 l w1
  generalize strB h = SH at *
  generalize strB l = SL at *
  clear hd
  go_enter Tryd.func40, Tryd.ntmps40
  go_upto_region 2 with fail
  have ta0 : True := trivial
  go_upto_region 3 with (first
    | (have _t := ta0; with_reducible refine G_conv ?_; refine L_convb (by with_unfolding_all (conv => lhs; whnf)) (CB _) ?_; rintro v7 w7 ⟨hr7, hv7, hb7⟩; have hA := (Below.refl w7.heap.size w7).alloc (Nat.le_refl _) (.cells #[.int .u8 0] 5); have hr7a := hr7.below hA; have hsz : w.heap.size ≤ (w7.alloc (.cells #[.int .u8 0] 5)).heap.size := Nat.le_trans hb7.size hA.size; clear ta0; have ta1 : True := trivial)
    | (have _t := ta1; at_builtin; refine wpList_appC rfl _ _ rfl (by with_unfolding_all (conv => lhs; whnf)) hr7a (by with_unfolding_all (conv => lhs; whnf)) (Rd.src (Rd.lit (n := 1) (c := 1) w7 5 (0, 0) [0] rfl rfl (by decide) (by decide)) Tryd.underlying28) (by simp; omega) hsz ?_; intro v8 w8 hr8 hg8; have hb8 : Below w.heap.size w w8 := (below_below hb7 hA).grown hg8 (Nat.le_trans hb7.size hA.size) (fun k hk => hr7.base_le k hk); clear ta1; have ta2 : True := trivial)
    | (have _t := ta2; at_builtin; refine wpList_appC rfl _ _ rfl (by with_unfolding_all (conv => lhs; whnf)) hr8 (by with_unfolding_all (conv => lhs; whnf)) (hSl _) (by simp; omega) hb8.size ?_; intro v9 w9 hr9 hg9; have hb9 : Below w.heap.size w w9 := hb8.grown hg9 hb8.size (fun k hk => hr8.base_le k hk); clear ta2; have ta3 : True := trivial))
  rw [eX.out] at hr9
  have hr := hr9.rd
  clear hr9 hg9 hr8 hg8 hb8 hr7 hr7a hb7 hA hv7 eX hSl CB
  go_wp2_with fail
  go_loopw [5, 7] (RpRel w v9 X) (fun _ i _ => X.length - (intOf i).toNat)
  case atStart => exact ⟨0, by omega, rfl, rfl, hr, hb9⟩
  clear hr hb9
  case round =>
    obtain ⟨j, hj, rfl, rfl, hr, hb⟩ := hrel
    obtain ⟨A, c, rfl, h1, h2, h3⟩ := hr.open
    by_cases hlt : j < X.length
    · have q1 : (j : Int) < X.length := by omega
      obtain ⟨b, off, rfl, hc⟩ := h3 (by omega)
      have cj := hc j hlt
      have hbt : bt X j = ((X.getD j 0).toNat : Int) := rfl
      rw [hbt] at cj
      have hsu := Go.Lib.hid (fnvL_succ X j hlt)
      have hrg := fnvL_range (X.take j)
      have hul := (X.getD j 0).toNat_lt
      generalize hN : fnvL (X.take j) = N at *
      generalize X.getD j 0 = c at *
      clear hN hbt hc h3
      go_wp2_with fail
      exact ⟨⟨j + 1, by omega, by go_num, by rw [hsu.out]; rfl, hr, hb⟩, by simp [intOf]; omega⟩
    · have q1 : ¬ (j : Int) < X.length := by omega
      obtain rfl : j = X.length := by omega
      rw [List.take_length]
      go_wp2_with fail
      go_ret
      exact ⟨rfl, hb⟩
set_option maxHeartbeats 1600000 in
theorem nameSpread_w (w : World) (hT : Tabs w) (hM : MaxL w) (s0 : ByteArray) (h0 : s0.size ≤ maxLen) (s1 : ByteArray) (h1 : s1.size ≤ maxLen) :
    Calls Tryd.prog 10 #[.string s0, .string s1] w (Ok w) := by
  have TX := fun w1 => text_c s0.data.toList 200 w1 (by unfold maxLen at h0; exact h0) (by omega)
  have TY := fun w1 => text_c s1.data.toList 200 w1 (by unfold maxLen at h1; exact h1) (by omega)
  have e0 : strB s0.data.toList = s0 := rfl
  have e1 : strB s1.data.toList = s1 := rfl
  rw [e0] at TX
  rw [e1] at TY
  have hl0 : (s0.data.toList.take 200).length ≤ 200 := by simp; omega
  have hl1 : (s1.data.toList.take 200).length ≤ 200 := by simp; omega
  generalize s0.data.toList.take 200 = a at *
  generalize s1.data.toList.take 200 = b at *
  have P := fun w1 => spread_c a b w1 (by omega) (by omega)
  have R := fun w1 => refspread_c a b w1 (by omega) (by omega)
  have WK := fun w1 (hb : Below w.heap.size w w1) => wakes2_c w1 (hT.below hb) (hM.below hb)
  have hrg := fnvL_range (a ++ 0 :: b)
  generalize fnvL (a ++ 0 :: b) = N at *
  have q : (N == N) = true := by simp
  clear e0 e1 h0 h1 hl0 hl1
  generalize strB a = SA at *
  generalize strB b = SB at *
  go_enter Tryd.func10, Tryd.ntmps10
  have ta0 : True := trivial
  go_wp2_with (first
    | (have _t := ta0; go_at_call 30; refine (TX _).mono ?_; rintro e w1 ⟨rfl, rfl⟩; clear ta0; have ta1 : True := trivial)
    | (have _t := ta1; go_at_call 30; refine (TY _).mono ?_; rintro e w1 ⟨rfl, rfl⟩; clear ta1; have ta2 : True := trivial)
    | (have _t := ta2; go_at_call 39; refine (P _).mono ?_; rintro e w2 ⟨rfl, hb2⟩; clear ta2; have ta3 : True := trivial)
    | (have _t := ta3; go_at_call 40; refine (R _).mono ?_; rintro e w3 ⟨rfl, hb3⟩; replace hb2 := below_below hb2 hb3; clear ta3; have ta4 : True := trivial)
    | (have _t := ta4; go_at_call 37; refine (WK _ hb2).mono ?_; rintro e w7 ⟨rfl, hb7⟩; clear ta4; have ta5 : True := trivial))
  go_ret
  exact ⟨rfl, below_below hb2 hb7⟩
end Go.Proofs.YtocfcgjjepegmaaDoor
