/- octet.PutInt, PutFloat, PutText, and the reference's; roostkeep.Text. -/
import Derived.Test.YtocfcgjjepegmaaDoorOct3
import Derived.Laws.Concat
set_option linter.unusedVariables false
set_option linter.unusedSimpArgs false
namespace Go.Proofs.YtocfcgjjepegmaaDoor
open Go.RowKit
/-- The number that a signed one is written as. -/
def zig (n : Int) : Nat := if 0 ≤ n then (2 * n).toNat else (-2 * n - 1).toNat
theorem zig_lt (n : Int) (h : -9223372036854775808 ≤ n ∧ n ≤ 9223372036854775807) : zig n < 18446744073709551616 := by unfold zig; split <;> omega
theorem xor_ones (a : Nat) (h : a < 18446744073709551616) : bits .xor .u64 (a : Int) 18446744073709551615 = ((18446744073709551615 - a : Nat) : Int) := by
  have h2 : (BitVec.ofInt 64 (a : Int)).toNat = a := by rw [BitVec.ofInt_natCast, BitVec.toNat_ofNat]; exact Nat.mod_eq_of_lt (by omega)
  show IntKind.u64.wrap ((BitVec.ofInt 64 (a : Int) ^^^ BitVec.ofInt 64 18446744073709551615).toNat : Int) = _
  rw [show BitVec.ofInt 64 18446744073709551615 = BitVec.allOnes 64 from by decide, BitVec.xor_allOnes, BitVec.toNat_not, h2, IntKind.wrap_u64]
  omega
theorem xor_zero (a : Nat) (h : a < 18446744073709551616) : bits .xor .u64 (a : Int) 0 = (a : Int) := by
  have h2 : (BitVec.ofInt 64 (a : Int)).toNat = a := by rw [BitVec.ofInt_natCast, BitVec.toNat_ofNat]; exact Nat.mod_eq_of_lt (by omega)
  show IntKind.u64.wrap ((BitVec.ofInt 64 (a : Int) ^^^ BitVec.ofInt 64 0).toNat : Int) = _
  rw [show BitVec.ofInt 64 0 = 0#64 from by decide, BitVec.xor_zero, h2, IntKind.wrap_u64]
  omega
set_option maxRecDepth 100000 in
set_option maxHeartbeats 800000 in
theorem putint_c (v : Value) (l : List UInt8) (n : Int) (w : World) (h : Rd w v l) (hl : l.length ≤ 1000000) (hn : -9223372036854775808 ≤ n ∧ n ≤ 9223372036854775807) :
    Calls Tryd.prog 59 #[v, .int .i64 n] w (Gives8 5 w (l ++ formU (zig n))) := by
  have P := putuint_c v l (zig n) w h hl (zig_lt n hn)
  obtain ⟨n0, n1⟩ := hn
  by_cases hs : 0 ≤ n
  · obtain ⟨m, rfl⟩ := Int.eq_ofNat_of_zero_le hs
    have hz : zig (m : Int) = 2 * m := by unfold zig; rw [if_pos hs]; omega
    have hX : bits .xor .u64 ((m : Int) * 2) ((m : Int) / 9223372036854775808) = ((zig (m : Int) : Nat) : Int) := by
      have := xor_zero (2 * m) (by omega)
      rw [show (m : Int) / 9223372036854775808 = 0 by omega, show (m : Int) * 2 = ((2 * m : Nat) : Int) by omega, this, hz]
    clear hz
    generalize ((zig (m : Int) : Nat) : Int) = Z at *
    go_enter Tryd.func59, Tryd.ntmps59
    go_wp2_with fail
    refine P.mono ?_
    rintro e w1 ⟨v1, rfl, ho1, hb1⟩
    go_wp2
    go_ret
    exact ⟨_, rfl, ho1, hb1⟩
  · have hz : zig n = (-2 * n - 1).toNat := by unfold zig; rw [if_neg hs]
    have hX : bits .xor .u64 (IntKind.u64.wrap (IntKind.u64.wrap n * 2)) (IntKind.u64.wrap (n / 9223372036854775808)) = ((zig n : Nat) : Int) := by
      have e1 : IntKind.u64.wrap (IntKind.u64.wrap n * 2) = ((18446744073709551615 - zig n : Nat) : Int) := by rw [IntKind.wrap_u64, IntKind.wrap_u64, hz]; omega
      have e2 : IntKind.u64.wrap (n / 9223372036854775808) = 18446744073709551615 := by rw [IntKind.wrap_u64]; omega
      rw [e1, e2, xor_ones _ (by omega)]
      omega
    clear hz
    generalize ((zig n : Nat) : Int) = Z at *
    go_enter Tryd.func59, Tryd.ntmps59
    go_wp2_with fail
    refine P.mono ?_
    rintro e w1 ⟨v1, rfl, ho1, hb1⟩
    go_wp2
    go_ret
    exact ⟨_, rfl, ho1, hb1⟩
set_option maxRecDepth 100000 in
set_option maxHeartbeats 800000 in
theorem refputint_c (v : Value) (l : List UInt8) (n : Int) (w : World) (h : Rd w v l) (hl : l.length ≤ 1000000) (hn : -9223372036854775808 ≤ n ∧ n ≤ 9223372036854775807) :
    Calls Tryd.prog 68 #[v, .int .i64 n] w (Gives8 5 w (l ++ formU (zig n))) := by
  have P := refputuint_c v l (zig n) w h hl (zig_lt n hn)
  obtain ⟨n0, n1⟩ := hn
  by_cases hs : 0 ≤ n
  · have hz : ((zig n : Nat) : Int) = n * 2 := by unfold zig; rw [if_pos hs]; omega
    rw [hz] at P
    go_enter Tryd.func68, Tryd.ntmps68
    go_wp2_with fail
    refine P.mono ?_
    rintro e w1 ⟨v1, rfl, ho1, hb1⟩
    go_wp2
    go_ret
    exact ⟨_, rfl, ho1, hb1⟩
  · have hz : ((zig n : Nat) : Int) = (-(n + 1)) * 2 + 1 := by unfold zig; rw [if_neg hs]; omega
    rw [hz] at P
    go_enter Tryd.func68, Tryd.ntmps68
    go_wp2_with fail
    refine P.mono ?_
    rintro e w1 ⟨v1, rfl, ho1, hb1⟩
    go_wp2
    go_ret
    exact ⟨_, rfl, ho1, hb1⟩
def beB (n j : Nat) : UInt8 := UInt8.ofNat (n / 2 ^ (56 - 8 * j) % 256)
def beBs (n j : Nat) : List UInt8 := (List.range j).map (beB n)
theorem beBs_succ (n j : Nat) : beBs n (j + 1) = beBs n j ++ [beB n j] := by simp [beBs, List.range_succ]
theorem beB_int (n j : Nat) (hj : j < 8) : (n : Int) / 2 ^ (56 - 8 * j) % 256 = ((beB n j).toNat : Int) := by
  unfold beB
  have e : (UInt8.ofNat (n / 2 ^ (56 - 8 * j) % 256)).toNat = n / 2 ^ (56 - 8 * j) % 256 := by rw [UInt8.toNat_ofNat']; exact Nat.mod_mod _ _
  rw [e, Int.natCast_emod, Int.natCast_ediv, Int.natCast_pow]
  rfl
def PfRel (w : World) (n : Nat) (pre : List UInt8) (f v s : Value) (wr : World) : Prop :=
  ∃ j : Nat, j ≤ 8 ∧ s = .int .i64 (56 - 8 * (j : Int)) ∧ Own8 wr w.heap.size 5 v (pre ++ beBs n j) ∧ Below w.heap.size w wr
def PfRel2 (w : World) (n : Nat) (pre : List UInt8) (v s : Value) (wr : World) : Prop :=
  ∃ j : Nat, j ≤ 8 ∧ s = .int .i64 (7 - (j : Int)) ∧ Own8 wr w.heap.size 5 v (pre ++ beBs n j) ∧ Below w.heap.size w wr
set_option maxRecDepth 100000 in
set_option maxHeartbeats 800000 in
theorem putfloat_c (v : Value) (l : List UInt8) (x : Nat) (w : World) (h : Rd w v l) (hl : l.length ≤ 1000000) (hx : x < 18446744073709551616) :
    Calls Tryd.prog 60 #[v, .float .f64 x] w (Gives8 5 w (l ++ beBs (bitsI x) 8)) := by
  have hd := fun w' => f64bits w' x
  have hn : bitsI x < 18446744073709551616 := by unfold bitsI; split <;> omega
  have B := fun v1 w1 (hb : Below w.heap.size w w1) (h1 : Rd w1 v1 (beBs (bitsI x) 8)) => behind_c v v1 l (beBs (bitsI x) 8) w1 (h.below hb) h1 (by omega) (by simp [beBs])
  have A := fun w' => isnan_c x w'
  unfold Gives8 at B
  have hv : ((bitsI x : Nat) : Int) = if fnan x then 9221120237041090560 else (x : Int) := by unfold bitsI; cases fnan x <;> simp
  generalize bitsI x = N at *
  go_enter Tryd.func60, Tryd.ntmps60
  go_upto_if 11 with (first | (go_at_call 122; refine (A _).mono ?_; rintro e w' ⟨rfl, rfl⟩))
  go_cut [5] (fun v wx => v = .int .u64 (N : Int) ∧ w = wx)
  case first =>
    cases hf : fnan x
    · rw [hf] at hv
      go_wp2
      all_goals go_meet
      exact ⟨by rw [hv]; rfl, rfl⟩
    · rw [hf] at hv
      go_wp2
      all_goals go_meet
      exact ⟨by rw [hv]; rfl, rfl⟩
  case rest =>
  obtain ⟨rfl, rfl⟩ := hcut
  clear hv A hd
  go_wp2_with fail
  go_loopw [6, 7] (fun v s wr => PfRel w N [] v v s wr) (fun _ s _ => (intOf s + 8).toNat)
  case atStart => exact ⟨0, by omega, rfl, by simpa [beBs] using Own8.nil w w.heap.size _, Below.refl _ _⟩
  case round =>
    obtain ⟨i, hi, rfl, ho, hbr⟩ := hrel
    have hbs := hbr.size
    rw [List.nil_append] at ho
    have hlb : (beBs N i).length = i := by simp [beBs]
    by_cases hlt : i < 8
    · have p0 : (0 : Int) ≤ 56 - 8 * (i : Int) := by omega
      have p1 : (56 : Int) - 8 * (i : Int) ≤ 56 := by omega
      have hB := Go.Lib.hid (beB_int N i hlt)
      go_wp2_with (first | ((at_builtin; refine wpList_app8 rfl _ _ rfl st8 (by with_unfolding_all (conv => lhs; whnf)) (Own8.below ho ((Below.refl _ _).alloc (Nat.le_refl _) _)) rfl (Rd.src (Rd.lit _ _ _ [beB N i] (by rw [hB.out]; rfl) rfl (by omega) (by decide)) Tryd.underlying28) (by first | omega | (simp; omega)) (by first | (simp; done) | omega | (simp; omega)) ?_); intro v3 w3 ho3 hg3 hb3))
      have hw := app_step hbr ho (Nat.le_refl _) hg3
      rw [← beBs_succ] at ho3
      refine ⟨⟨i + 1, by omega, by go_num, by simpa using ho3, hw.1⟩, ?_⟩
      show (intOf (.int .i64 _) + 8).toNat < (intOf (.int .i64 _) + 8).toNat
      simp only [intOf]; omega
    · obtain rfl : i = 8 := by omega
      have nz : ¬ (0 : Int) ≤ 56 - 8 * ((8 : Nat) : Int) := by decide
      go_wp2_with (go_at_call 121; refine (B _ _ hbr ho.rd).mono ?_; rintro e w4 ⟨v4, rfl, ho4, hb4⟩)
      go_ret
      exact ⟨_, rfl, ho4.mono hbs, below_below hbr hb4⟩
set_option maxRecDepth 100000 in
set_option maxHeartbeats 800000 in
theorem refputfloat_c (v : Value) (l : List UInt8) (x : Nat) (w : World) (h : Rd w v l) (hl : l.length ≤ 1000000) (hx : x < 18446744073709551616) :
    Calls Tryd.prog 69 #[v, .float .f64 x] w (Gives8 5 w (l ++ beBs (bitsI x) 8)) := by
  have hn : bitsI x < 18446744073709551616 := by unfold bitsI; split <;> omega
  have A := fun w' => refbits_c x w'
  generalize bitsI x = N at *
  have hba := (Below.refl w.heap.size w).alloc (Nat.le_refl _) (.cells #[] 5)
  have h1 := h.below hba
  go_enter Tryd.func69, Tryd.ntmps69
  have c0 : True := trivial
  go_wp2_with (first
    | (have _t := c0; (at_builtin; refine wpList_app8 rfl _ _ rfl st8 (by with_unfolding_all (conv => lhs; whnf)) (Own8.empty w w.heap.size _ (Nat.le_refl _)) rfl (Rd.src h1 Tryd.underlying28) (by first | omega | (simp; omega)) (by first | (simp; done) | omega | (simp; omega)) ?_); intro v1 w1 ho1 hg1 hb1; clear c0; have c1 : True := trivial))
  have hw1 := app_step0 hba (Own8.empty w w.heap.size 5 (Nat.le_refl _)) (Nat.le_refl _) hg1
  rw [List.nil_append] at ho1
  go_loopw [5, 6] (fun v s wr => PfRel2 w N l v s wr) (fun _ s _ => (intOf s + 1).toNat)
  case atStart => exact ⟨0, by omega, rfl, by simpa [beBs] using ho1, hw1.1⟩
  case round =>
    clear ho1 hw1 hg1 hb1
    obtain ⟨i, hi, rfl, ho, hbr⟩ := hrel
    have hbs := hbr.size
    have hlb : (beBs N i).length = i := by simp [beBs]
    have hlf : (l ++ beBs N i).length ≤ 2000000 := by simp; omega
    by_cases hlt : i < 8
    · have p0 : (0 : Int) ≤ 7 - (i : Int) := by omega
      have p2 : (8 : Int) * (7 - (i : Int)) ≤ 56 := by omega
      have p3 : (0 : Int) ≤ 8 * (7 - (i : Int)) := by omega
      have p4 : ((8 : Int) * (7 - (i : Int))).toNat = 56 - 8 * i := by omega
      have hB := Go.Lib.hid (beB_int N i hlt)
      go_wp2_with (first
        | (go_at_call 123; refine (A _).mono ?_; rintro e w' ⟨rfl, rfl⟩)
        | ((at_builtin; refine wpList_app8 rfl _ _ rfl st8 (by with_unfolding_all (conv => lhs; whnf)) (Own8.below ho ((Below.refl _ _).alloc (Nat.le_refl _) _)) rfl (Rd.src (Rd.lit _ _ _ [beB N i] (by rw [hB.out]; rfl) rfl (by omega) (by decide)) Tryd.underlying28) (by first | omega | (simp; omega)) (by first | (simp; done) | omega | (simp; omega)) ?_); intro v3 w3 ho3 hg3 hb3))
      have hw := app_step hbr ho (Nat.le_refl _) hg3
      rw [List.append_assoc, ← beBs_succ] at ho3
      refine ⟨⟨i + 1, by omega, by go_num, ho3, hw.1⟩, ?_⟩
      show (intOf (.int .i64 _) + 1).toNat < (intOf (.int .i64 _) + 1).toNat
      simp only [intOf]; omega
    · obtain rfl : i = 8 := by omega
      have nz : ¬ (0 : Int) ≤ 7 - ((8 : Nat) : Int) := by decide
      go_wp2
      go_ret
      exact ⟨_, rfl, ho, hbr⟩
theorem byteCells_strB (l : List UInt8) : byteCells (strB l) = bvs l := by unfold byteCells strB bvs bv; simp
set_option maxHeartbeats 800000 in
theorem puttext_c (v : Value) (l k : List UInt8) (w : World) (h : Rd w v l) (hl : l.length ≤ 1000000) (hk : k.length ≤ 1000000) :
    Calls Tryd.prog 58 #[v, .string (strB k)] w (Gives8 5 w (l ++ formU k.length ++ k)) := by
  have P := putuint_c v l k.length w h hl (by omega)
  have hz : (strB k).size = k.length := rfl
  have hfl := formU_len64 k.length (by omega)
  go_enter Tryd.func58, Tryd.ntmps58
  have c0 : True := trivial
  go_wp2_with (first
    | (have _t := c0; go_at_call 57; refine P.mono ?_; rintro e w1 ⟨v1, rfl, ho1, hb1⟩; have hbs := hb1.size; clear c0; have c1 : True := trivial)
    | (have _t := c1; at_builtin; refine wpList_app8 rfl _ _ rfl st8 (by with_unfolding_all (conv => lhs; whnf)) ho1 rfl (by have := Src.ofString (P := Tryd.prog) (w := w1) Tryd.underlying9 (strB k); rw [byteCells_strB, hz] at this; exact this) (by simp; omega) (by omega) ?_; intro v2 w2 ho2 hg2 hb2; clear c1; have c2 : True := trivial))
  have hw := app_step0 hb1 ho1 (Nat.le_refl _) hg2
  go_ret
  exact ⟨_, rfl, ho2, hw.1⟩
set_option maxHeartbeats 800000 in
theorem refputtext_c (v : Value) (l k : List UInt8) (w : World) (h : Rd w v l) (hl : l.length ≤ 1000000) (hk : k.length ≤ 1000000) :
    Calls Tryd.prog 67 #[v, .string (strB k)] w (Gives8 5 w (l ++ formU k.length ++ k)) := by
  have P := refputuint_c v l k.length w h hl (by omega)
  have hz : (strB k).size = k.length := rfl
  have hfl := formU_len64 k.length (by omega)
  go_enter Tryd.func67, Tryd.ntmps67
  have c0 : True := trivial
  go_wp2_with (first
    | (have _t := c0; go_at_call 66; refine P.mono ?_; rintro e w1 ⟨v1, rfl, ho1, hb1⟩; have hbs := hb1.size; clear c0; have c1 : True := trivial)
    | (have _t := c1; at_builtin; refine wpList_app8 rfl _ _ rfl st8 (by with_unfolding_all (conv => lhs; whnf)) ho1 rfl (by have := Src.ofString (P := Tryd.prog) (w := w1) Tryd.underlying9 (strB k); rw [byteCells_strB, hz] at this; exact this) (by simp; omega) (by omega) ?_; intro v2 w2 ho2 hg2 hb2; clear c1; have c2 : True := trivial))
  have hw := app_step0 hb1 ho1 (Nat.le_refl _) hg2
  go_ret
  exact ⟨_, rfl, ho2, hw.1⟩
theorem text_c (k : List UInt8) (m : Nat) (w : World) (hk : k.length ≤ 9223372036854775807) (hm : m ≤ 1000000) :
    Calls Tryd.prog 30 #[.string (strB k), .int .i64 (m : Int)] w fun e w' => e = .returned (.string (strB (k.take m))) ∧ w = w' := by
  have hz : (strB k).size = k.length := rfl
  go_enter Tryd.func30, Tryd.ntmps30
  by_cases h : m < k.length
  · have q : (m : Int) < k.length := by omega
    have q2 : (m : Int) ≤ k.length := by omega
    have q3 : (0 : Int) ≤ m := by omega
    have hx : (strB k).extract 0 m = strB (k.take m) := by
      apply ByteArray.ext
      unfold strB
      simp [ByteArray.data_extract]
    go_wp2
    go_ret
    exact ⟨by rw [← hx]; rfl, rfl⟩
  · have q : ¬ (m : Int) < k.length := by omega
    go_wp2
    go_ret
    exact ⟨by rw [List.take_of_length_le (by omega)]; rfl, rfl⟩
end Go.Proofs.YtocfcgjjepegmaaDoor
