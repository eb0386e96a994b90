/- stanza: which parts are there: the program's loop and the reference's sum. -/
import Derived.Test.YtocfcgjjepegmaaDoorStzPure
import Derived.Test.YtocfcgjjepegmaaDoorStz0
set_option linter.unusedVariables false
set_option linter.unusedSimpArgs false
namespace Go.Proofs.YtocfcgjjepegmaaDoor
open Go.RowKit
theorem ret_i64 {a b : Int} (h : a = b) : Ending.returned (.int .i64 a) = .returned (.int .i64 b) := by rw [h]
def stzCells (s : Stz) (vl : Value) : List Value := [.int .i64 s.kind, .int .u64 (s.id : Int), .string (strB s.a), .string (strB s.b), .string (strB s.t), vl, .int .i64 s.n, .float .f64 s.f]
def stzV (s : Stz) (vl : Value) : Value := .agg #[.int .i64 s.kind, .int .u64 (s.id : Int), .string (strB s.a), .string (strB s.b), .string (strB s.t), vl, .int .i64 s.n, .float .f64 s.f]
theorem isE (a : List UInt8) : (!(strB a).toList.isEmpty) = !a.isEmpty := by rw [strB_toList]
def orN (b : Bool) (m acc : Nat) : Nat := acc + onB b m
def accB (l : List Bool) : Nat → Nat
  | 0 => 0
  | k + 1 => accB l k + onB (l.getD k false) (2 ^ k)
theorem accB_lt (l : List Bool) (k : Nat) : accB l k < 2 ^ k := by
  induction k with
  | zero => simp [accB]
  | succ k ih =>
    unfold accB onB
    have : 2 ^ (k + 1) = 2 ^ k + 2 ^ k := by rw [Nat.pow_succ]; omega
    split <;> omega
theorem or_bit : ∀ (j : Fin 6) (n : Fin 64), n.val < 2 ^ j.val → Go.bits .or .u8 (n.val : Int) ((2 ^ j.val : Nat) : Int) = ((n.val + 2 ^ j.val : Nat) : Int) := by decide +kernel
theorem there_acc (s : Stz) : accB [!s.a.isEmpty, !s.b.isEmpty, !s.t.isEmpty, !s.l.isEmpty, s.n != 0, s.f != 0] 6 = thereI s := by
  simp [accB, thereI]
def ThRel (w : World) (l : List Bool) (b i : Value) (wr : World) : Prop := ∃ j : Nat, j ≤ 6 ∧ i = .int .i64 (j : Int) ∧ b = .int .u8 (accB l j : Int) ∧ wr = w
set_option maxRecDepth 100000 in
set_option maxHeartbeats 1600000 in
theorem there_c (w : World) (s : Stz) (vl : Value) (hl : RdT w vl s.l) :
    Calls Tryd.prog 56 #[stzV s vl] w fun e w' => e = .returned (.int .u8 (thereI s : Int)) ∧ Below w.heap.size w w' := by
  rw [← there_acc]
  obtain ⟨A, c, rfl, h1, h2, h3⟩ := hl.open
  clear hl h3
  obtain ⟨kind, id, a, b, t, l, n, f⟩ := s
  simp only at *
  unfold stzV
  simp only
  have ha := isE a
  have hb := isE b
  have ht := isE t
  have hll : decide (0 < l.length) = !l.isEmpty := by cases l <;> simp
  have hnn : ((n : Int) != 0) = (n != 0) := rfl
  have hff : ((f : Int) != 0) = (f != 0) := by
    by_cases h : f = 0
    · subst h; rfl
    · have h' : ((f : Int) != 0) = true := by simp; exact h
      rw [h']; simp [h]
  generalize (strB a) = sa at *
  generalize (strB b) = sb at *
  generalize (strB t) = st at *
  generalize (!a.isEmpty) = xa at *
  generalize (!b.isEmpty) = xb at *
  generalize (!t.isEmpty) = xt at *
  generalize (!l.isEmpty) = xl at *
  generalize l.length = ln at *
  clear h1 h2
  generalize hgn : (n != 0) = xn at *
  generalize (f != 0) = xf at *
  clear hnn
  go_enter Tryd.func56, Tryd.ntmps56
  have tok0 : True := trivial
  go_wp2_with (first
    | (have _t := tok0; (with_reducible refine G_box ?_; refine L_box (by with_unfolding_all (conv => lhs; whnf)) ?_); intro wx hkx hbx hsx; clear hsx; clear tok0; have tok1 : True := trivial))
  refine region_making 22 (fun _ => []) (fun _ => none) (by kernel_rfl) (by kernel_rfl) ?_ ?_
  · intro i S h; cases h
  simp only [List.take_succ_cons, List.take_zero, List.drop_succ_cons, List.drop_zero]
  (apply wpG_pure; (focus rfl); (focus (intro wg Bg hbg hBg hFg; go_simp; (try go_bits); (first | done | exact ⟨rfl, Below.refl _ _⟩ | rfl))); simp only [Act.put, List.setIfInBounds_toArray, List.set_cons_succ, List.set_cons_zero])
  (apply wpG_pure; (focus rfl); (focus (intro wg Bg hbg hBg hFg; have c0 : _ = some _ := (hkx.drew.below hbg).cell 2; go_simp; (try go_bits); (first | done | exact ⟨rfl, Below.refl _ _⟩ | rfl))); simp only [Act.put, List.setIfInBounds_toArray, List.set_cons_succ, List.set_cons_zero])
  (apply wpG_pure; (focus rfl); (focus (intro wg Bg hbg hBg hFg; go_simp; (try go_bits); (first | done | exact ⟨rfl, Below.refl _ _⟩ | rfl))); simp only [Act.put, List.setIfInBounds_toArray, List.set_cons_succ, List.set_cons_zero])
  (apply wpG_pure; (focus rfl); (focus (intro wg Bg hbg hBg hFg; go_simp; (try go_bits); (first | done | exact ⟨rfl, Below.refl _ _⟩ | rfl))); simp only [Act.put, List.setIfInBounds_toArray, List.set_cons_succ, List.set_cons_zero])
  (apply wpG_pure; (focus rfl); (focus (intro wg Bg hbg hBg hFg; have c0 : _ = some _ := (hkx.drew.below hbg).cell 3; go_simp; (try go_bits); (first | done | exact ⟨rfl, Below.refl _ _⟩ | rfl))); simp only [Act.put, List.setIfInBounds_toArray, List.set_cons_succ, List.set_cons_zero])
  (apply wpG_pure; (focus rfl); (focus (intro wg Bg hbg hBg hFg; go_simp; (try go_bits); (first | done | exact ⟨rfl, Below.refl _ _⟩ | rfl))); simp only [Act.put, List.setIfInBounds_toArray, List.set_cons_succ, List.set_cons_zero])
  (apply wpG_pure; (focus rfl); (focus (intro wg Bg hbg hBg hFg; go_simp; (try go_bits); (first | done | exact ⟨rfl, Below.refl _ _⟩ | rfl))); simp only [Act.put, List.setIfInBounds_toArray, List.set_cons_succ, List.set_cons_zero])
  (apply wpG_pure; (focus rfl); (focus (intro wg Bg hbg hBg hFg; have c0 : _ = some _ := (hkx.drew.below hbg).cell 4; go_simp; (try go_bits); (first | done | exact ⟨rfl, Below.refl _ _⟩ | rfl))); simp only [Act.put, List.setIfInBounds_toArray, List.set_cons_succ, List.set_cons_zero])
  (apply wpG_pure; (focus rfl); (focus (intro wg Bg hbg hBg hFg; go_simp; (try go_bits); (first | done | exact ⟨rfl, Below.refl _ _⟩ | rfl))); simp only [Act.put, List.setIfInBounds_toArray, List.set_cons_succ, List.set_cons_zero])
  (apply wpG_pure; (focus rfl); (focus (intro wg Bg hbg hBg hFg; go_simp; (try go_bits); (first | done | exact ⟨rfl, Below.refl _ _⟩ | rfl))); simp only [Act.put, List.setIfInBounds_toArray, List.set_cons_succ, List.set_cons_zero])
  (apply wpG_pure; (focus rfl); (focus (intro wg Bg hbg hBg hFg; have c0 : _ = some _ := (hkx.drew.below hbg).cell 5; go_simp; (try go_bits); (first | done | exact ⟨rfl, Below.refl _ _⟩ | rfl))); simp only [Act.put, List.setIfInBounds_toArray, List.set_cons_succ, List.set_cons_zero])
  (apply wpG_pure; (focus rfl); (focus (intro wg Bg hbg hBg hFg; go_simp; (try go_bits); (first | done | exact ⟨rfl, Below.refl _ _⟩ | rfl))); simp only [Act.put, List.setIfInBounds_toArray, List.set_cons_succ, List.set_cons_zero])
  (apply wpG_pure; (focus rfl); (focus (intro wg Bg hbg hBg hFg; go_simp; (try go_bits); (first | done | exact ⟨rfl, Below.refl _ _⟩ | rfl))); simp only [Act.put, List.setIfInBounds_toArray, List.set_cons_succ, List.set_cons_zero])
  (apply wpG_pure; (focus rfl); (focus (intro wg Bg hbg hBg hFg; go_simp; (try go_bits); (first | done | exact ⟨rfl, Below.refl _ _⟩ | rfl))); simp only [Act.put, List.setIfInBounds_toArray, List.set_cons_succ, List.set_cons_zero])
  (apply wpG_pure; (focus rfl); (focus (intro wg Bg hbg hBg hFg; have c0 : _ = some _ := (hkx.drew.below hbg).cell 6; go_simp; (try go_bits); (first | done | exact ⟨rfl, Below.refl _ _⟩ | rfl))); simp only [Act.put, List.setIfInBounds_toArray, List.set_cons_succ, List.set_cons_zero])
  (apply wpG_pure; (focus rfl); (focus (intro wg Bg hbg hBg hFg; go_simp; (try go_bits); (first | done | exact ⟨rfl, Below.refl _ _⟩ | rfl))); simp only [Act.put, List.setIfInBounds_toArray, List.set_cons_succ, List.set_cons_zero])
  (apply wpG_pure; (focus rfl); (focus (intro wg Bg hbg hBg hFg; go_simp; (try go_bits); (first | done | exact ⟨rfl, Below.refl _ _⟩ | rfl))); simp only [Act.put, List.setIfInBounds_toArray, List.set_cons_succ, List.set_cons_zero])
  (apply wpG_pure; (focus rfl); (focus (intro wg Bg hbg hBg hFg; have c0 : _ = some _ := (hkx.drew.below hbg).cell 7; go_simp; (try go_bits); (first | done | exact ⟨rfl, Below.refl _ _⟩ | rfl))); simp only [Act.put, List.setIfInBounds_toArray, List.set_cons_succ, List.set_cons_zero])
  (apply wpG_pure; (focus rfl); (focus (intro wg Bg hbg hBg hFg; have c0 := f64bits wg f; go_simp; (try go_bits); (first | done | exact ⟨rfl, Below.refl _ _⟩ | rfl))); simp only [Act.put, List.setIfInBounds_toArray, List.set_cons_succ, List.set_cons_zero])
  (apply wpG_pure; (focus rfl); (focus (intro wg Bg hbg hBg hFg; go_simp; (try go_bits); (first | done | exact ⟨rfl, Below.refl _ _⟩ | rfl))); simp only [Act.put, List.setIfInBounds_toArray, List.set_cons_succ, List.set_cons_zero])
  (apply wpG_pure; (focus rfl); (focus (intro wg Bg hbg hBg hFg; go_simp; (try go_bits); (first | done | exact ⟨rfl, Below.refl _ _⟩ | rfl))); simp only [Act.put, List.setIfInBounds_toArray, List.set_cons_succ, List.set_cons_zero])
  (apply wpG_pure; (focus rfl); (focus (intro wg Bg hbg hBg hFg; go_simp; (try go_bits); (first | done | exact ⟨rfl, Below.refl _ _⟩ | rfl))); simp only [Act.put, List.setIfInBounds_toArray, List.set_cons_succ, List.set_cons_zero])
  refine wpG_end (fun wg Bg hbg hBg hFg => ?_)
  clear hFg hBg
  try simp only [ha, hb, ht, hll]
  clear ha hb ht hll
  go_wp2_with fail
  go_loopw [3, 27] (ThRel wg [xa, xb, xt, xl, xn, xf]) (fun _ i _ => 6 - (intOf i).toNat)
  case atStart => exact ⟨0, by omega, rfl, rfl, rfl⟩
  case round =>
    obtain ⟨j, hj, rfl, rfl, ew⟩ := hrel
    subst ew
    by_cases hlt : j < 6
    · have hacc := accB_lt [xa, xb, xt, xl, xn, xf] j
      rcases (by omega : j = 0 ∨ j = 1 ∨ j = 2 ∨ j = 3 ∨ j = 4 ∨ j = 5) with rfl | rfl | rfl | rfl | rfl | rfl
      · have hs : accB [xa, xb, xt, xl, xn, xf] 1 = accB [xa, xb, xt, xl, xn, xf] 0 + onB xa 1 := rfl
        have hor := or_bit 0 ⟨accB [xa, xb, xt, xl, xn, xf] 0, by omega⟩ hacc
        simp only at hor
        generalize accB [xa, xb, xt, xl, xn, xf] 0 = n0 at *
        have hor2 : Go.bits .or .u8 (n0 : Int) 1 = ((n0 + 1 : Nat) : Int) := hor
        have hix : ∀ w : World, (Instr.index 161 (.agg #[.bool xa, .bool xb, .bool xt, .bool xl, .bool xn, .bool xf]) (.int .i64 0)).run Tryd.prog w = .ok (.bool xa) w := fun _ => by kernel_rfl
        clear hor hacc
        have hsh := Go.Lib.hid hs
        clear hs
        go_wp2_with fail
        · rename_i hx
          have hs := hsh.out
          subst hx
          simp only [onB, if_true] at hs
          exact ⟨⟨1, by omega, rfl, by rw [hs]; go_num, rfl⟩, by simp [intOf]⟩
        · rename_i hx
          have hs := hsh.out
          have hx' : xa = false := by simpa using hx
          subst hx'
          simp only [onB, Bool.false_eq_true, if_false, Nat.add_zero] at hs
          exact ⟨⟨1, by omega, rfl, by rw [hs], rfl⟩, by simp [intOf]⟩
      · have hs : accB [xa, xb, xt, xl, xn, xf] 2 = accB [xa, xb, xt, xl, xn, xf] 1 + onB xb 2 := rfl
        have hor := or_bit 1 ⟨accB [xa, xb, xt, xl, xn, xf] 1, by omega⟩ hacc
        simp only at hor
        generalize accB [xa, xb, xt, xl, xn, xf] 1 = n0 at *
        have hor2 : Go.bits .or .u8 (n0 : Int) 2 = ((n0 + 2 : Nat) : Int) := hor
        have hix : ∀ w : World, (Instr.index 161 (.agg #[.bool xa, .bool xb, .bool xt, .bool xl, .bool xn, .bool xf]) (.int .i64 1)).run Tryd.prog w = .ok (.bool xb) w := fun _ => by kernel_rfl
        clear hor hacc
        have hsh := Go.Lib.hid hs
        clear hs
        go_wp2_with fail
        · rename_i hx
          have hs := hsh.out
          subst hx
          simp only [onB, if_true] at hs
          exact ⟨⟨2, by omega, rfl, by rw [hs]; go_num, rfl⟩, by simp [intOf]⟩
        · rename_i hx
          have hs := hsh.out
          have hx' : xb = false := by simpa using hx
          subst hx'
          simp only [onB, Bool.false_eq_true, if_false, Nat.add_zero] at hs
          exact ⟨⟨2, by omega, rfl, by rw [hs], rfl⟩, by simp [intOf]⟩
      · have hs : accB [xa, xb, xt, xl, xn, xf] 3 = accB [xa, xb, xt, xl, xn, xf] 2 + onB xt 4 := rfl
        have hor := or_bit 2 ⟨accB [xa, xb, xt, xl, xn, xf] 2, by omega⟩ hacc
        simp only at hor
        generalize accB [xa, xb, xt, xl, xn, xf] 2 = n0 at *
        have hor2 : Go.bits .or .u8 (n0 : Int) 4 = ((n0 + 4 : Nat) : Int) := hor
        have hix : ∀ w : World, (Instr.index 161 (.agg #[.bool xa, .bool xb, .bool xt, .bool xl, .bool xn, .bool xf]) (.int .i64 2)).run Tryd.prog w = .ok (.bool xt) w := fun _ => by kernel_rfl
        clear hor hacc
        have hsh := Go.Lib.hid hs
        clear hs
        go_wp2_with fail
        · rename_i hx
          have hs := hsh.out
          subst hx
          simp only [onB, if_true] at hs
          exact ⟨⟨3, by omega, rfl, by rw [hs]; go_num, rfl⟩, by simp [intOf]⟩
        · rename_i hx
          have hs := hsh.out
          have hx' : xt = false := by simpa using hx
          subst hx'
          simp only [onB, Bool.false_eq_true, if_false, Nat.add_zero] at hs
          exact ⟨⟨3, by omega, rfl, by rw [hs], rfl⟩, by simp [intOf]⟩
      · have hs : accB [xa, xb, xt, xl, xn, xf] 4 = accB [xa, xb, xt, xl, xn, xf] 3 + onB xl 8 := rfl
        have hor := or_bit 3 ⟨accB [xa, xb, xt, xl, xn, xf] 3, by omega⟩ hacc
        simp only at hor
        generalize accB [xa, xb, xt, xl, xn, xf] 3 = n0 at *
        have hor2 : Go.bits .or .u8 (n0 : Int) 8 = ((n0 + 8 : Nat) : Int) := hor
        have hix : ∀ w : World, (Instr.index 161 (.agg #[.bool xa, .bool xb, .bool xt, .bool xl, .bool xn, .bool xf]) (.int .i64 3)).run Tryd.prog w = .ok (.bool xl) w := fun _ => by kernel_rfl
        clear hor hacc
        have hsh := Go.Lib.hid hs
        clear hs
        go_wp2_with fail
        · rename_i hx
          have hs := hsh.out
          subst hx
          simp only [onB, if_true] at hs
          exact ⟨⟨4, by omega, rfl, by rw [hs]; go_num, rfl⟩, by simp [intOf]⟩
        · rename_i hx
          have hs := hsh.out
          have hx' : xl = false := by simpa using hx
          subst hx'
          simp only [onB, Bool.false_eq_true, if_false, Nat.add_zero] at hs
          exact ⟨⟨4, by omega, rfl, by rw [hs], rfl⟩, by simp [intOf]⟩
      · have hs : accB [xa, xb, xt, xl, xn, xf] 5 = accB [xa, xb, xt, xl, xn, xf] 4 + onB xn 16 := rfl
        have hor := or_bit 4 ⟨accB [xa, xb, xt, xl, xn, xf] 4, by omega⟩ hacc
        simp only at hor
        generalize accB [xa, xb, xt, xl, xn, xf] 4 = n0 at *
        have hor2 : Go.bits .or .u8 (n0 : Int) 16 = ((n0 + 16 : Nat) : Int) := hor
        have hix : ∀ w : World, (Instr.index 161 (.agg #[.bool xa, .bool xb, .bool xt, .bool xl, .bool xn, .bool xf]) (.int .i64 4)).run Tryd.prog w = .ok (.bool xn) w := fun _ => by kernel_rfl
        clear hor hacc
        have hsh := Go.Lib.hid hs
        clear hs
        go_wp2_with fail
        · rename_i hx
          have hs := hsh.out
          subst hx
          simp only [onB, if_true] at hs
          exact ⟨⟨5, by omega, rfl, by rw [hs]; go_num, rfl⟩, by simp [intOf]⟩
        · rename_i hx
          have hs := hsh.out
          have hx' : xn = false := by simpa using hx
          subst hx'
          simp only [onB, Bool.false_eq_true, if_false, Nat.add_zero] at hs
          exact ⟨⟨5, by omega, rfl, by rw [hs], rfl⟩, by simp [intOf]⟩
      · have hs : accB [xa, xb, xt, xl, xn, xf] 6 = accB [xa, xb, xt, xl, xn, xf] 5 + onB xf 32 := rfl
        have hor := or_bit 5 ⟨accB [xa, xb, xt, xl, xn, xf] 5, by omega⟩ hacc
        simp only at hor
        generalize accB [xa, xb, xt, xl, xn, xf] 5 = n0 at *
        have hor2 : Go.bits .or .u8 (n0 : Int) 32 = ((n0 + 32 : Nat) : Int) := hor
        have hix : ∀ w : World, (Instr.index 161 (.agg #[.bool xa, .bool xb, .bool xt, .bool xl, .bool xn, .bool xf]) (.int .i64 5)).run Tryd.prog w = .ok (.bool xf) w := fun _ => by kernel_rfl
        clear hor hacc
        have hsh := Go.Lib.hid hs
        clear hs
        go_wp2_with fail
        · rename_i hx
          have hs := hsh.out
          subst hx
          simp only [onB, if_true] at hs
          exact ⟨⟨6, by omega, rfl, by rw [hs]; go_num, rfl⟩, by simp [intOf]⟩
        · rename_i hx
          have hs := hsh.out
          have hx' : xf = false := by simpa using hx
          subst hx'
          simp only [onB, Bool.false_eq_true, if_false, Nat.add_zero] at hs
          exact ⟨⟨6, by omega, rfl, by rw [hs], rfl⟩, by simp [intOf]⟩
    · obtain rfl : j = 6 := by omega
      go_wp2_with fail
      go_ret
      exact ⟨rfl, below_below hbx ((Below.refl wx.heap.size wx).drew.trans (show Below wx.heap.size wx.drew wr from hbg))⟩
theorem onB_int (b : Bool) (m : Nat) : ((onB b m : Nat) : Int) = if b = true then (m : Int) else 0 := by cases b <;> rfl
set_option maxRecDepth 100000 in
set_option maxHeartbeats 3200000 in
theorem refthere_c (w : World) (s : Stz) (vl : Value) (hl : RdT w vl s.l) :
    Calls Tryd.prog 62 #[stzV s vl] w fun e w' => e = .returned (.int .i64 (thereI s : Int)) ∧ Below w.heap.size w w' := by
  have hT : (thereI s : Int) = 0 + onB (!s.a.isEmpty) 1 + onB (!s.b.isEmpty) 2 + onB (!s.t.isEmpty) 4 + onB (!s.l.isEmpty) 8 + onB (s.n != 0) 16 + onB (s.f != 0) 32 := by unfold thereI; omega
  have hB := refbits_c s.f
  have hz : ((bitsI s.f : Nat) : Int) = 0 ↔ s.f = 0 := by
    have : bitsI s.f = 0 ↔ s.f = 0 := by
      unfold bitsI
      split
      · rename_i h
        constructor
        · intro h2; cases h2
        · intro h2; rw [h2] at h; exact absurd h (by decide)
      · exact Iff.rfl
    omega
  obtain ⟨A, c, rfl, h1, h2, h3⟩ := hl.open
  clear hl h3
  obtain ⟨kind, id, a, b, t, l, n, f⟩ := s
  simp only at *
  unfold stzV
  simp only
  have ha := isE a
  have hb := isE b
  have ht := isE t
  have hll : decide (0 < l.length) = !l.isEmpty := by cases l <;> simp
  have hff : (((bitsI f : Nat) : Int) != 0) = (f != 0) := by
    by_cases h : f = 0
    · rw [hz.2 h, h]; rfl
    · have e : ((bitsI f : Nat) : Int) ≠ 0 := fun e => h (hz.1 e)
      rw [show (((bitsI f : Nat) : Int) != 0) = true by simpa using e, show (f != 0) = true by simpa using h]
  clear hz
  generalize (strB a) = sa at *
  generalize (strB b) = sb at *
  generalize (strB t) = st at *
  generalize (!a.isEmpty) = xa at *
  generalize (!b.isEmpty) = xb at *
  generalize (!t.isEmpty) = xt at *
  generalize (!l.isEmpty) = xl at *
  generalize l.length = ln at *
  clear h1 h2
  generalize hgn : (n != 0) = xn at *
  generalize (f != 0) = xf at *
  generalize bitsI f = F at *
  obtain ⟨N, hN⟩ : ∃ N : Int, N = (thereI ⟨kind, id, a, b, t, l, n, f⟩ : Int) := ⟨_, rfl⟩
  rw [← hN] at hT ⊢
  clear hN
  replace hT := Go.Lib.hid hT
  go_enter Tryd.func62, Tryd.ntmps62
  have tok0 : True := trivial
  go_wp2_with (first
    | (have _t := tok0; (with_reducible refine G_box ?_; refine L_box (by with_unfolding_all (conv => lhs; whnf)) ?_); intro wx hkx hbx hsx; clear hsx; have c2 : _ = some _ := hkx.cell 2; have c3 : _ = some _ := hkx.cell 3; have c4 : _ = some _ := hkx.cell 4; have c5 : _ = some _ := hkx.cell 5; have c6 : _ = some _ := hkx.cell 6; have c7 : _ = some _ := hkx.cell 7; clear tok0; have tok1 : True := trivial)
    | (go_at_call 123; refine (hB _).mono ?_; rintro e w2 ⟨rfl, rfl⟩))
  all_goals
    go_ret
    refine ⟨?_, hbx⟩
    have hT := hT.out
    clear ha hb ht hll hff hgn hB hkx c2 c3 c4 c5 c6 c7
    refine ret_i64 ?_
    rw [hT]
    simp [onB, *]
end Go.Proofs.YtocfcgjjepegmaaDoor
