/- The reference's PutUint; octet.number: a number is read. -/
import Derived.Test.YtfnlcnjflloecaaDoorOct1
set_option linter.unusedVariables false
set_option linter.unusedSimpArgs false
namespace Go.Proofs.YtfnlcnjflloecaaDoor
open Go.RowKit
theorem loB_nat (m : Nat) : (loB m).toNat = m % 128 + 128 := by unfold loB; simp; omega
set_option maxRecDepth 100000 in
set_option maxHeartbeats 800000 in
theorem refputuint_c (v : Value) (l : List UInt8) (n : Nat) (w : World) (h : Rd w v l) (hl : l.length ≤ 1000000) (hn : n < 18446744073709551616) :
    Calls Tryd.prog 67 #[v, .int .u64 (n : Int)] w (Gives8 5 w (l ++ formU n)) := by
  have hfl := formU_len64 n hn
  have hba := (Below.refl w.heap.size w).alloc (Nat.le_refl _) (.cells #[] 5)
  have h1 := h.below hba
  go_enter Tryd.func67, Tryd.ntmps67
  have c0 : True := trivial
  go_wp2_with (first
    | (have _t := c0; (at_builtin; refine wpList_app8 rfl _ _ rfl st8 (by with_unfolding_all (conv => lhs; whnf)) (Own8.empty w w.heap.size _ (Nat.le_refl _)) rfl (Rd.src h1 Tryd.underlying37) (by first | omega | (simp; omega)) (by first | (simp; done) | omega | (simp; omega)) ?_); intro v1 w1 ho1 hg1 hb1; clear c0; have c1 : True := trivial))
  have hw1 := app_step0 hba (Own8.empty w w.heap.size 5 (Nat.le_refl _)) (Nat.le_refl _) hg1
  rw [List.nil_append] at ho1
  go_loopw [5, 1] (fun v m wr => PuRel w n w.heap.size l v m wr) (fun _ m _ => (intOf m).toNat)
  case atStart => exact ⟨n, [], Nat.le_refl _, rfl, by simp, by simp; omega, rfl, by simpa using ho1, hw1.1⟩
  case round =>
    clear ho1 hw1 hg1 hb1
    obtain ⟨m, f, hm, rfl, hf, hfm, he, ho, hbr⟩ := hrel
    have hbs := hbr.size
    have hlf : (l ++ f).length ≤ 2000000 := by simp; omega
    by_cases hlt : m < 128
    · have q1 : ¬ (128 : Int) ≤ m := by omega
      have q2 : (m : Int) < 128 := by omega
      have q3 : (0 : Int) ≤ m := by omega
      rw [formU_lt hlt] at he
      have hX := Go.Lib.hid (show (m : Int) = ((UInt8.ofNat m).toNat : Int) by simp; omega)
      have d0 : True := trivial
      go_wp2_with (first
        | (have _t := d0; (at_builtin; refine wpList_app8 rfl _ _ rfl st8 (by with_unfolding_all (conv => lhs; whnf)) (Own8.below ho ((Below.refl _ _).alloc (Nat.le_refl _) _)) rfl (Rd.src (Rd.lit _ _ _ [UInt8.ofNat m] (by rw [hX.out]; rfl) rfl (by omega) (by decide)) Tryd.underlying37) (by first | omega | (simp; omega)) (by first | (simp; done) | omega | (simp; omega)) ?_); intro v3 w3 ho3 hg3 hb3; have hw3 := app_step hbr ho (Nat.le_refl _) hg3; rw [List.append_assoc, he] at ho3; clear d0; have d1 : True := trivial))
      go_ret
      exact ⟨_, rfl, ho3, hw3.1⟩
    · have q1 : (128 : Int) ≤ m := by omega
      have q2 : (m : Int) < 18446744073709551616 := by omega
      have hX := Go.Lib.hid (show (m : Int) % 128 + 128 = ((loB m).toNat : Int) by rw [loB_nat]; omega)
      rw [formU_ge (by omega)] at he hfm
      go_wp2_with (first | ((at_builtin; refine wpList_app8 rfl _ _ rfl st8 (by with_unfolding_all (conv => lhs; whnf)) (Own8.below ho ((Below.refl _ _).alloc (Nat.le_refl _) _)) rfl (Rd.src (Rd.lit _ _ _ [loB m] (by rw [hX.out]; rfl) rfl (by omega) (by decide)) Tryd.underlying37) (by first | omega | (simp; omega)) (by first | (simp; done) | omega | (simp; omega)) ?_); intro v3 w3 ho3 hg3 hb3))
      have hw3 := app_step hbr ho (Nat.le_refl _) hg3
      refine ⟨⟨m / 128, f ++ [loB m], by omega, by go_num, by simp at hfm ⊢; omega, by simp at hfm ⊢; omega, by rw [← he]; simp, by simpa using ho3, hw3.1⟩, ?_⟩
      simp only [intOf]
      omega
/-- A number read from place i on, n its bits so far. -/
def numG : List UInt8 → Nat → Nat → Nat × Nat × Int
  | [], _, _ => (0, 0, 2)
  | c :: r, i, n =>
    if i = 9 ∧ 1 < c.toNat then (0, 0, 3)
    else if c.toNat < 128 then if c.toNat = 0 ∧ 0 < i then (0, 0, 2) else (n + c.toNat % 128 * 2 ^ (7 * i), i + 1, 0)
    else numG r (i + 1) (n + c.toNat % 128 * 2 ^ (7 * i))
def numI (l : List UInt8) : Nat × Nat × Int := numG l 0 0
def GivesN (w : World) (r : Nat × Nat × Int) (e : Ending) (w' : World) : Prop := e = .returned (.tuple #[.int .u64 (r.1 : Int), .int .i64 (r.2.1 : Int), .int .i64 r.2.2]) ∧ Below w.heap.size w w'
def NuRel (w : World) (l : List UInt8) (n a : Value) (wr : World) : Prop :=
  ∃ i m : Nat, i ≤ l.length ∧ i ≤ 9 ∧ m < 2 ^ (7 * i) ∧ n = .int .u64 (m : Int) ∧ a = .int .i64 (i : Int) ∧ numG (l.drop i) i m = numI l ∧ wr = w
theorem wraps64 (n : Int) (h0 : 0 ≤ n) (h1 : n < 2 ^ 64) : IntKind.u64.wrap n = n := by rw [IntKind.wrap_u64]; omega
theorem or_add (m x k : Nat) (h : m < 2 ^ k) (hx : x * 2 ^ k < 18446744073709551616) (hm : m < 18446744073709551616) : bits .or .u64 (m : Int) ((x * 2 ^ k : Nat) : Int) = ((m + x * 2 ^ k : Nat) : Int) := by
  have := (bits_nat .u64 64 (by decide) wraps64 m (x * 2 ^ k) (by omega) (by omega)).2
  rw [this, Nat.or_comm, Nat.mul_comm x, ← Nat.two_pow_add_eq_or_of_lt h, Nat.add_comm]
theorem andNot128 (c : UInt8) : bits .andNot .u8 (c.toNat : Int) 128 = ((c.toNat % 128 : Nat) : Int) := by
  have h : ∀ x : Fin 256, bits .andNot .u8 (x.val : Int) 128 = ((x.val % 128 : Nat) : Int) := by decide +kernel
  exact h ⟨c.toNat, c.toNat_lt⟩
theorem and128 (c : UInt8) : bits .and .u8 (c.toNat : Int) 128 = if c.toNat < 128 then 0 else 128 := by
  have h : ∀ x : Fin 256, bits .and .u8 (x.val : Int) 128 = if x.val < 128 then 0 else 128 := by decide +kernel
  exact h ⟨c.toNat, c.toNat_lt⟩
theorem stepN (m i : Nat) (c : UInt8) (hm : m < 2 ^ (7 * i)) (hi : i ≤ 9) (h9 : i = 9 → c.toNat ≤ 1) :
    bits .or .u64 (m : Int) (IntKind.u64.wrap (IntKind.u64.wrap (bits .andNot .u8 (c.toNat : Int) 128) * 2 ^ (7 * i))) = ((m + c.toNat % 128 * 2 ^ (7 * i) : Nat) : Int) ∧ m + c.toNat % 128 * 2 ^ (7 * i) < 2 ^ (7 * (i + 1)) ∧ m + c.toNat % 128 * 2 ^ (7 * i) < 18446744073709551616 := by
  have e1 : 2 ^ (7 * (i + 1)) = 128 * 2 ^ (7 * i) := by rw [show 7 * (i + 1) = 7 + 7 * i by omega, Nat.pow_add]
  have hx : c.toNat % 128 < 128 := by omega
  have hP : 0 < 2 ^ (7 * i) := Nat.two_pow_pos _
  have hb : m + c.toNat % 128 * 2 ^ (7 * i) < 18446744073709551616 ∧ m < 18446744073709551616 := by
    rcases Nat.lt_or_eq_of_le hi with h | h
    · have : 2 ^ (7 * i) ≤ 2 ^ 56 := Nat.pow_le_pow_right (by omega) (by omega)
      have h2 : c.toNat % 128 * 2 ^ (7 * i) ≤ 127 * 2 ^ (7 * i) := Nat.mul_le_mul_right _ (by omega)
      omega
    · have h1 := h9 h
      subst h
      have h2 : c.toNat % 128 * 2 ^ (7 * 9) ≤ 1 * 2 ^ (7 * 9) := Nat.mul_le_mul_right _ (by omega)
      omega
  refine ⟨?_, ?_, hb.1⟩
  · rw [andNot128, wraps64 ((c.toNat % 128 : Nat) : Int) (by omega) (by omega)]
    have e2 : ((c.toNat % 128 : Nat) : Int) * 2 ^ (7 * i) = ((c.toNat % 128 * 2 ^ (7 * i) : Nat) : Int) := by rw [Int.natCast_mul, Int.natCast_pow]; rfl
    rw [e2, wraps64 _ (by omega) (by omega)]
    exact or_add m _ _ hm (by omega) hb.2
  · rw [e1]
    have h2 : c.toNat % 128 * 2 ^ (7 * i) ≤ 127 * 2 ^ (7 * i) := Nat.mul_le_mul_right _ (by omega)
    omega
set_option maxRecDepth 100000 in
set_option maxHeartbeats 800000 in
theorem number_c (v : Value) (l : List UInt8) (w : World) (h : Rd w v l) :
    Calls Tryd.prog 109 #[v] w (GivesN w (numI l)) := by
  have hll := h.len_le
  go_enter Tryd.func109, Tryd.ntmps109
  go_wp2_with fail
  go_loopw [2, 3, 5] (fun n a _ wr => NuRel w l n a wr) (fun _ a _ _ => l.length - (intOf a).toNat)
  case atStart => exact ⟨0, 0, by omega, by omega, by decide, rfl, rfl, rfl, rfl⟩
  case round =>
    obtain ⟨i, m, hi, hi9, hm, rfl, rfl, he, rfl⟩ := hrel
    by_cases hlt : i < l.length
    · have hd : l.drop i = l[i] :: l.drop (i + 1) := List.drop_eq_getElem_cons hlt
      have hb : bt l i = (l[i].toNat : Int) := bt_get l i hlt
      rw [hd] at he
      unfold numG at he
      generalize l[i] = c at *
      have hc := c.toNat_lt
      have q1 : (i : Int) < l.length := by omega
      have c0 : (0 : Int) ≤ (c.toNat : Int) := by omega
      have c1 : (c.toNat : Int) < 256 := by omega
      have hA := and128 c
      by_cases h9 : i = 9
      · subst h9
        by_cases hc1 : 1 < c.toNat
        · rw [if_pos ⟨rfl, hc1⟩] at he
          have q2 : (1 : Int) < c.toNat := by omega
          go_wp2_with (first | (with_reducible refine G_len ?_; refine L8_len Tryd.underlying37 (by with_unfolding_all (conv => lhs; whnf)) (by assumption) ?_) | ((with_reducible refine G_index ?_; refine L8_index st8 (i := 9) (by with_unfolding_all (conv => lhs; whnf)) (by assumption) (by with_unfolding_all (conv => lhs; whnf)) (by omega) (by omega) ?_); intro b o hbo hcl; rw [hb] at hcl))
          go_ret3
          exact ⟨by rw [← he]; rfl, Below.refl _ _⟩
        · rw [if_neg (by omega)] at he
          have q2 : ¬ (1 : Int) < c.toNat := by omega
          have hS := stepN m 9 c hm (by omega) (fun _ => by omega)
          rw [if_pos (by omega)] at he
          rw [if_pos (by omega)] at hA
          by_cases hc0 : c.toNat = 0
          · have q3 : (c.toNat : Int) = 0 := by omega
            rw [if_pos ⟨hc0, by omega⟩] at he
            clear hS
            go_wp2_with (first | (with_reducible refine G_len ?_; refine L8_len Tryd.underlying37 (by with_unfolding_all (conv => lhs; whnf)) (by assumption) ?_) | ((with_reducible refine G_index ?_; refine L8_index st8 (i := 9) (by with_unfolding_all (conv => lhs; whnf)) (by assumption) (by with_unfolding_all (conv => lhs; whnf)) (by omega) (by omega) ?_); intro b o hbo hcl; rw [hb] at hcl))
            go_ret3
            exact ⟨by rw [← he]; rfl, Below.refl _ _⟩
          · have q3 : ¬ (c.toNat : Int) = 0 := by omega
            rw [if_neg (by omega)] at he
            have hS1 := Go.Lib.hid (show bits .or .u64 (m : Int) (IntKind.u64.wrap (IntKind.u64.wrap (bits .andNot .u8 (c.toNat : Int) 128) * 9223372036854775808)) = _ from hS.1)
            clear hS
            go_wp2_with (first | (with_reducible refine G_len ?_; refine L8_len Tryd.underlying37 (by with_unfolding_all (conv => lhs; whnf)) (by assumption) ?_) | ((with_reducible refine G_index ?_; refine L8_index st8 (i := 9) (by with_unfolding_all (conv => lhs; whnf)) (by assumption) (by with_unfolding_all (conv => lhs; whnf)) (by omega) (by omega) ?_); intro b o hbo hcl; rw [hb] at hcl))
            go_ret3
            exact ⟨by rw [← he, ← hS1.out]; rfl, Below.refl _ _⟩
      · have q2 : ¬ (i : Int) = 9 := by omega
        rw [if_neg (by omega)] at he
        have hS := stepN m i c hm hi9 (fun h => absurd h h9)
        have hS1 := Go.Lib.hid hS.1
        have hS2 := Go.Lib.hid hS.2
        clear hS
        by_cases h128 : c.toNat < 128
        · rw [if_pos h128] at he
          rw [if_pos h128] at hA
          by_cases hc0 : c.toNat = 0 ∧ 0 < i
          · have q3 : (c.toNat : Int) = 0 := by omega
            have q4 : (1 : Int) < (i : Int) + 1 := by omega
            rw [if_pos hc0] at he
            go_wp2_with (first | (with_reducible refine G_len ?_; refine L8_len Tryd.underlying37 (by with_unfolding_all (conv => lhs; whnf)) (by assumption) ?_) | ((with_reducible refine G_index ?_; refine L8_index st8 (i := i) (by with_unfolding_all (conv => lhs; whnf)) (by assumption) (by with_unfolding_all (conv => lhs; whnf)) (by omega) (by omega) ?_); intro b o hbo hcl; rw [hb] at hcl))
            go_ret3
            exact ⟨by rw [← he]; rfl, Below.refl _ _⟩
          · rw [if_neg hc0] at he
            by_cases hc00 : c.toNat = 0
            · have q3 : (c.toNat : Int) = 0 := by omega
              have q4 : ¬ (1 : Int) < (i : Int) + 1 := by omega
              have hS3 := hS1.out
              rw [q3] at hS3
              replace hS3 := Go.Lib.hid hS3
              go_wp2_with (first | (with_reducible refine G_len ?_; refine L8_len Tryd.underlying37 (by with_unfolding_all (conv => lhs; whnf)) (by assumption) ?_) | ((with_reducible refine G_index ?_; refine L8_index st8 (i := i) (by with_unfolding_all (conv => lhs; whnf)) (by assumption) (by with_unfolding_all (conv => lhs; whnf)) (by omega) (by omega) ?_); intro b o hbo hcl; rw [hb] at hcl))
              go_ret3
              exact ⟨by rw [← he, ← hS3.out]; rfl, Below.refl _ _⟩
            · have q3 : ¬ (c.toNat : Int) = 0 := by omega
              go_wp2_with (first | (with_reducible refine G_len ?_; refine L8_len Tryd.underlying37 (by with_unfolding_all (conv => lhs; whnf)) (by assumption) ?_) | ((with_reducible refine G_index ?_; refine L8_index st8 (i := i) (by with_unfolding_all (conv => lhs; whnf)) (by assumption) (by with_unfolding_all (conv => lhs; whnf)) (by omega) (by omega) ?_); intro b o hbo hcl; rw [hb] at hcl))
              go_ret3
              exact ⟨by rw [← he, ← hS1.out]; rfl, Below.refl _ _⟩
        · rw [if_neg h128] at he
          rw [if_neg h128] at hA
          go_wp2_with (first | (with_reducible refine G_len ?_; refine L8_len Tryd.underlying37 (by with_unfolding_all (conv => lhs; whnf)) (by assumption) ?_) | ((with_reducible refine G_index ?_; refine L8_index st8 (i := i) (by with_unfolding_all (conv => lhs; whnf)) (by assumption) (by with_unfolding_all (conv => lhs; whnf)) (by omega) (by omega) ?_); intro b o hbo hcl; rw [hb] at hcl))
          refine ⟨⟨i + 1, _, by omega, by omega, hS2.out.1, by rw [hS1.out], by go_num, he, rfl⟩, ?_⟩
          simp only [intOf]
          omega
    · obtain rfl : i = l.length := by omega
      have he2 : numI l = (0, 0, 2) := by rw [← he, List.drop_length]; rfl
      go_wp2_with (first | (with_reducible refine G_len ?_; refine L8_len Tryd.underlying37 (by with_unfolding_all (conv => lhs; whnf)) (by assumption) ?_))
      go_ret3
      exact ⟨by rw [he2]; rfl, Below.refl _ _⟩
end Go.Proofs.YtfnlcnjflloecaaDoor
