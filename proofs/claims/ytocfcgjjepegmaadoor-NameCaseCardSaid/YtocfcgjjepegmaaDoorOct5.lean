/- octet.Int, octet.Float; the reference's Uint, Int, Float, Same. -/
import Derived.Test.YtocfcgjjepegmaaDoorOct4
import Derived.Test.YtocfcgjjepegmaaDoorMore2
set_option linter.unusedVariables false
set_option linter.unusedSimpArgs false
namespace Go.Proofs.YtocfcgjjepegmaaDoor
open Go.RowKit
/-- The number with a sign that a zigzag number says. -/
def unzig (n : Nat) : Int := if n % 2 = 0 then ((n / 2 : Nat) : Int) else -((n / 2 : Nat) : Int) - 1
theorem unzig_zig (n : Int) : unzig (zig n) = n := by unfold unzig zig; split <;> split <;> omega
def intI (l : List UInt8) : Int × List UInt8 × Int := if (numI l).2.2 = 0 then (unzig (numI l).1, l.drop (numI l).2.1, 0) else (0, [], (numI l).2.2)
def GivesI (w : World) (r : Int × List UInt8 × Int) (e : Ending) (w' : World) : Prop := ∃ v, e = .returned (.tuple #[.int .i64 r.1, v, .int .i64 r.2.2]) ∧ Own8 w' w.heap.size 5 v r.2.1 ∧ Below w.heap.size w w'
theorem numG_lt : ∀ (l : List UInt8) (i n : Nat), i ≤ 9 → n < 2 ^ (7 * i) → (numG l i n).1 < 18446744073709551616
  | [], i, n, _, _ => by simp [numG]
  | c :: r, i, n, hi, hn => by
    unfold numG
    split
    · simp
    · rename_i h9
      have hs := stepN n i c hn hi (fun e => by
        by_cases h1 : 1 < c.toNat
        · exact absurd ⟨e, h1⟩ h9
        · omega)
      split
      · split
        · simp
        · exact hs.2.2
      · rename_i h128
        exact numG_lt r (i + 1) _ (by
          rcases Nat.lt_or_ge i 9 with h | h
          · omega
          · have : i = 9 := by omega
            exact absurd ⟨this, by omega⟩ h9) hs.2.1
theorem numI_lt (l : List UInt8) : (numI l).1 < 18446744073709551616 := numG_lt l 0 0 (by omega) (by simp)
theorem xor_i64 (h : Nat) (hh : h < 9223372036854775808) : bits .xor .i64 (h : Int) (-1) = -(h : Int) - 1 := by
  have h2 : (BitVec.ofInt 64 (h : Int)).toNat = h := by rw [BitVec.ofInt_natCast, BitVec.toNat_ofNat]; exact Nat.mod_eq_of_lt (by omega)
  show IntKind.i64.wrap ((BitVec.ofInt 64 (h : Int) ^^^ BitVec.ofInt 64 (-1)).toNat : Int) = _
  rw [show BitVec.ofInt 64 (-1) = BitVec.allOnes 64 from by decide, BitVec.xor_allOnes, BitVec.toNat_not, h2, IntKind.wrap_i64]
  omega
theorem xor_i64z (h : Nat) (hh : h < 9223372036854775808) : bits .xor .i64 (h : Int) 0 = (h : Int) := by
  have h2 : (BitVec.ofInt 64 (h : Int)).toNat = h := by rw [BitVec.ofInt_natCast, BitVec.toNat_ofNat]; exact Nat.mod_eq_of_lt (by omega)
  show IntKind.i64.wrap ((BitVec.ofInt 64 (h : Int) ^^^ BitVec.ofInt 64 0).toNat : Int) = _
  rw [show BitVec.ofInt 64 0 = 0#64 from by decide, BitVec.xor_zero, h2, IntKind.wrap_i64]
  omega
theorem and1 (n : Nat) (h : n < 18446744073709551616) : bits .and .u64 (n : Int) 1 = ((n % 2 : Nat) : Int) := by
  have := u64_and_nat n 1 h (by omega)
  rw [Nat.and_one_is_mod] at this
  exact this
set_option maxRecDepth 100000 in
set_option maxHeartbeats 800000 in
theorem int_c (v : Value) (l : List UInt8) (w : World) (h : Rd w v l) (hl : l.length ≤ 10000000) : Calls Tryd.prog 126 #[v] w (GivesI w (intI l)) := by
  have N := number_c v l w h
  have ha := numI_at l
  have hn := numI_lt l
  unfold intI
  unfold GivesN at N
  unfold GivesI
  generalize (numI l).1 = n at *
  generalize (numI l).2.1 = a at *
  generalize (numI l).2.2 = r at *
  go_enter Tryd.func126, Tryd.ntmps126
  by_cases hr : r = 0
  · rw [if_pos hr]
    subst hr
    have hA := and1 n hn
    have hh : n / 2 < 9223372036854775808 := by omega
    have hx0 := xor_i64z (n / 2) hh
    have hx1 := xor_i64 (n / 2) hh
    have e2 : (n : Int) / 2 = ((n / 2 : Nat) : Int) := by omega
    rw [← e2] at hx0 hx1
    by_cases h2 : n % 2 = 0
    · rw [h2] at hA
      have hu : unzig n = (n : Int) / 2 := by unfold unzig; rw [if_pos h2]; omega
      replace h2 := Go.Lib.hid h2
      rw [hu]
      clear e2 hx1
      have c0 : True := trivial
      go_wp2_with (first
        | (have _t := c0; go_at_call 153; refine N.mono ?_; rintro e w1 ⟨rfl, hb1⟩; have h1 := h.below hb1; clear c0; have c1 : True := trivial)
        | (have _t := c1; (with_reducible refine G_slice ?_; refine L8_slice_l st8 (lo := a) (by with_unfolding_all (conv => lhs; whnf)) (by assumption) (by with_unfolding_all (conv => lhs; whnf)) (by omega) (by omega) ?_); intro vs hvs hvb; clear c1; have c2 : True := trivial)
        | (have _t := c2; go_at_call 155; refine (rest_c _ _ _ hvs (by simp; omega)).mono ?_; rintro e w2 ⟨v2, rfl, ho2, hb2⟩; clear c2; have c3 : True := trivial))
      go_ret3
      exact ⟨_, rfl, ho2.mono hb1.size, below_below hb1 hb2⟩
    · have h2' : n % 2 = 1 := by omega
      rw [h2'] at hA
      have hu : unzig n = -((n : Int) / 2) - 1 := by unfold unzig; rw [if_neg h2]; omega
      replace h2 := Go.Lib.hid h2
      replace h2' := Go.Lib.hid h2'
      rw [hu]
      clear e2 hx0
      have c0 : True := trivial
      go_wp2_with (first
        | (have _t := c0; go_at_call 153; refine N.mono ?_; rintro e w1 ⟨rfl, hb1⟩; have h1 := h.below hb1; clear c0; have c1 : True := trivial)
        | (have _t := c1; (with_reducible refine G_slice ?_; refine L8_slice_l st8 (lo := a) (by with_unfolding_all (conv => lhs; whnf)) (by assumption) (by with_unfolding_all (conv => lhs; whnf)) (by omega) (by omega) ?_); intro vs hvs hvb; clear c1; have c2 : True := trivial)
        | (have _t := c2; go_at_call 155; refine (rest_c _ _ _ hvs (by simp; omega)).mono ?_; rintro e w2 ⟨v2, rfl, ho2, hb2⟩; clear c2; have c3 : True := trivial))
      go_ret3
      exact ⟨_, rfl, ho2.mono hb1.size, below_below hb1 hb2⟩
  · rw [if_neg hr]
    have c0 : True := trivial
    go_wp2_with (first
      | (have _t := c0; go_at_call 153; refine N.mono ?_; rintro e w1 ⟨rfl, hb1⟩; clear c0; have c1 : True := trivial))
    go_ret3
    exact ⟨_, rfl, Own8.nil _ _ _, hb1⟩
/-- The number that bytes spell, the greatest first. -/
def beN : List UInt8 → Nat := fun l => l.foldl (fun n c => n * 256 + c.toNat) 0
def nanF : Nat := 9221120237041090560
def floatI (l : List UInt8) : Nat × List UInt8 × Int := if l.length < 8 then (0, [], 2) else if fnan (beN (l.take 8)) = true ∧ beN (l.take 8) ≠ nanF then (0, [], 2) else (beN (l.take 8), l.drop 8, 0)
def GivesF (w : World) (r : Nat × List UInt8 × Int) (e : Ending) (w' : World) : Prop := ∃ v, e = .returned (.tuple #[.float .f64 r.1, v, .int .i64 r.2.2]) ∧ Own8 w' w.heap.size 5 v r.2.1 ∧ Below w.heap.size w w'
theorem beN_succ (l : List UInt8) (j : Nat) (h : j < l.length) : beN (l.take (j + 1)) = beN (l.take j) * 256 + (l.getD j 0).toNat := by
  unfold beN
  rw [List.take_add_one, List.getElem?_eq_getElem h, List.foldl_append]
  simp [List.getD_eq_getElem?_getD, List.getElem?_eq_getElem h]
theorem beN_lt (l : List UInt8) (j : Nat) (h : j ≤ l.length) : beN (l.take j) < 256 ^ j := by
  induction j with
  | zero => simp [beN]
  | succ j ih =>
    have h1 := ih (by omega)
    have h2 := (l.getD j 0).toNat_lt
    rw [beN_succ l j (by omega), Nat.pow_succ]; omega
theorem orU64 (a b k : Nat) (h : a * 2 ^ k + b < 18446744073709551616) (hb : b < 2 ^ k) : bits .or .u64 ((a * 2 ^ k : Nat) : Int) (b : Int) = ((a * 2 ^ k + b : Nat) : Int) := by
  rw [u64_or_nat (a * 2 ^ k) b (by omega) (by omega), ← Nat.shiftLeft_eq, ← Nat.shiftLeft_add_eq_or_of_lt hb a]
def FlR (w : World) (l : List UInt8) (n i : Value) (wr : World) : Prop := ∃ j : Nat, j ≤ 8 ∧ n = .int .u64 (beN (l.take j) : Int) ∧ i = .int .i64 (j : Int) ∧ wr = w
theorem be_step (l : List UInt8) (j : Nat) (h : j < 8) (hl : 8 ≤ l.length) : bits .or .u64 ((beN (l.take j) : Int) * 256) (bt l j) = (beN (l.take (j + 1)) : Int) ∧ beN (l.take j) < 72057594037927936 := by
  have h1 := beN_lt l j (by omega)
  have h2 : 256 ^ j ≤ 256 ^ 7 := Nat.pow_le_pow_right (by omega) (by omega)
  have h3 : (256 : Nat) ^ 7 = 72057594037927936 := by decide
  have hc := (l.getD j 0).toNat_lt
  have := orU64 (beN (l.take j)) (l.getD j 0).toNat 8 (by omega) (by omega)
  rw [beN_succ l j (by omega)]
  refine ⟨?_, by omega⟩
  unfold bt
  rw [show ((beN (l.take j) : Int) * 256) = ((beN (l.take j) * 2 ^ 8 : Nat) : Int) from by omega]
  exact this
theorem fnan_zero : fnan 0 = false := by decide
set_option maxRecDepth 100000 in
set_option maxHeartbeats 1600000 in
theorem float_c (v : Value) (l : List UInt8) (w : World) (h : Rd w v l) (hl : l.length ≤ 10000000) : Calls Tryd.prog 127 #[v] w (GivesF w (floatI l)) := by
  have hI : floatI l = if l.length < 8 then (0, [], 2) else if fnan (beN (l.take 8)) = true ∧ beN (l.take 8) ≠ nanF then (0, [], 2) else (beN (l.take 8), l.drop 8, 0) := rfl
  generalize floatI l = I at *
  go_enter Tryd.func127, Tryd.ntmps127
  by_cases h8 : l.length < 8
  · rw [if_pos h8] at hI
    have q : (l.length : Int) < 8 := by omega
    go_wp2_with (first | (with_reducible refine G_len ?_; refine L8_len Tryd.underlying28 (by with_unfolding_all (conv => lhs; whnf)) (by assumption) ?_))
    go_ret3
    exact ⟨_, by rw [hI]; rfl, by rw [hI]; exact Own8.nil _ _ _, Below.refl _ _⟩
  · rw [if_neg h8] at hI
    have q : ¬ (l.length : Int) < 8 := by omega
    have ht8 : (l.take 8).length = 8 := by simp; omega
    have htt : ∀ j, j ≤ 8 → (l.take 8).take j = l.take j := fun j hj => by rw [List.take_take, Nat.min_eq_left hj]
    obtain ⟨v8, hv8, r8, _⟩ := slice_run_h h 8 (by omega)
    obtain ⟨v9, hv9, r9, _⟩ := slice_run_l h 8 (by omega)
    have hv8' : ∀ w, (Instr.sliceAt 28 v none (some (.int .i64 8)) none).run Tryd.prog w = .ok v8 w := hv8
    have hv9' : ∀ w, (Instr.sliceAt 28 v (some (.int .i64 8)) none none).run Tryd.prog w = .ok v9 w := hv9
    clear hv8 hv9
    obtain ⟨l8, hl8⟩ : ∃ l8, l.take 8 = l8 := ⟨_, rfl⟩
    rw [hl8] at r8 ht8 hI
    have hb8 : ∀ j, j < 8 → bt l8 j = bt l j := fun j hlt => by rw [← hl8]; unfold bt; simp [List.getD_eq_getElem?_getD, hlt]
    clear htt
    replace hI := Go.Lib.hid hI
    go_wp2_with (first | (with_reducible refine G_len ?_; refine L8_len Tryd.underlying28 (by with_unfolding_all (conv => lhs; whnf)) (by assumption) ?_))
    go_loopw [5, 14] (fun n i wr => FlR w l n i wr) (fun _ i _ => 8 - (intOf i).toNat)
    case atStart => exact ⟨0, by omega, by simp [beN], rfl, rfl⟩
    case round =>
      obtain ⟨j, hj, rfl, rfl, rfl⟩ := hrel
      by_cases hlt : j < 8
      · have hst := be_step l j hlt (by omega)
        have hS := Go.Lib.hid hst.1
        have hX := hst.2
        clear hst
        have hbb : bt l8 j = bt l j := hb8 j hlt
        have b0 := bt_lo l j
        have b1 := bt_hi l j
        generalize beN (l.take j) = B at *
        have q1 : (j : Int) < 8 := by omega
        clear h hb8 hl8
        go_wp2_with (first | ((with_reducible refine G_index ?_; refine L8_index st8 (i := j) (by with_unfolding_all (conv => lhs; whnf)) (by assumption) (by with_unfolding_all (conv => lhs; whnf)) (by omega) (by omega) ?_); intro bb oo hbo hcl; rw [hbb] at hcl))
        exact ⟨⟨j + 1, by omega, by rw [hS.out], by go_num, rfl⟩, by simp only [intOf]; omega⟩
      · have q1 : ¬ (j : Int) < 8 := by omega
        obtain rfl : j = 8 := by omega
        have hN := beN_lt l 8 (by omega)
        have e8 : (256 : Nat) ^ 8 = 18446744073709551616 := by decide
        rw [e8] at hN
        clear e8
        rw [hl8] at hN
        replace hI := hI.out
        rw [hl8]
        generalize beN l8 = N at *
        have FB := fun w' => f64frombits w' (N : Int)
        have NC := isnan_c N
        have hND : N = nanF ↔ (N : Int) = 9221120237041090560 := by unfold nanF; omega
        by_cases hn : fnan N = true ∧ N ≠ nanF
        · rw [if_pos hn] at hI
          rw [hn.1] at NC
          have qn : ¬ (N : Int) = 9221120237041090560 := fun e => hn.2 (hND.2 e)
          clear hND hn hb8 hl8
          have tok0 : True := trivial
          go_wp2_with (first
            | (have _t := tok0; go_at_call 122; refine (NC _).mono ?_; rintro e w1 ⟨rfl, rfl⟩; clear tok0; have tok1 : True := trivial))
          go_ret3
          exact ⟨_, by rw [hI]; rfl, by rw [hI]; exact Own8.nil _ _ _, Below.refl _ _⟩
        · rw [if_neg hn] at hI
          by_cases hf : fnan N = true
          · have hnn : N = nanF := by
              by_cases e : N = nanF
              · exact e
              · exact absurd ⟨hf, e⟩ hn
            subst hnn
            clear FB NC
            have FB : ∀ w', (callFunc 128 #[.int .u64 9221120237041090560]).run Tryd.prog w' = .ok (.value (.float .f64 9221120237041090560)) w' := fun w' => f64frombits w' 9221120237041090560
            have NC := isnan_c 9221120237041090560
            rw [show fnan 9221120237041090560 = true from by decide] at NC
            have hnf : ((nanF : Nat) : Int) = 9221120237041090560 := rfl
            clear hND hn hb8 hl8 hf
            have tok0 : True := trivial
            go_wp2_with (first
              | (have _t := tok0; go_at_call 122; refine (NC _).mono ?_; rintro e w1 ⟨rfl, rfl⟩; clear tok0; have tok1 : True := trivial)
              | (have _t := tok1; go_at_call 155; refine (rest_c _ _ _ r9 (by simp; omega)).mono ?_; rintro e w2 ⟨v2, rfl, ho2, hb2⟩; clear tok1; have tok2 : True := trivial))
            go_ret3
            exact ⟨_, by rw [hI]; first | rfl | simp, by rw [hI]; exact ho2, hb2⟩
          · have hf' : fnan N = false := by simpa using hf
            rw [hf'] at NC
            clear hND hn hb8 hl8 hf hf'
            have tok0 : True := trivial
            go_wp2_with (first
              | (have _t := tok0; go_at_call 122; refine (NC _).mono ?_; rintro e w1 ⟨rfl, rfl⟩; clear tok0; have tok1 : True := trivial)
              | (have _t := tok1; go_at_call 155; refine (rest_c _ _ _ r9 (by simp; omega)).mono ?_; rintro e w2 ⟨v2, rfl, ho2, hb2⟩; clear tok1; have tok2 : True := trivial))
            go_ret3
            exact ⟨_, by rw [hI]; first | rfl | simp, by rw [hI]; exact ho2, hb2⟩
end Go.Proofs.YtocfcgjjepegmaaDoor
