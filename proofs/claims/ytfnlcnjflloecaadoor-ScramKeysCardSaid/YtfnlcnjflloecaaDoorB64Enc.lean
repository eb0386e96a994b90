/- base64.Encode. -/
import Derived.Test.YtfnlcnjflloecaaDoorBuild
import Derived.Test.YtfnlcnjflloecaaDoorB64Pure
import Derived.Laws.BitsLemmas
set_option linter.unusedVariables false
set_option linter.unusedSimpArgs false
namespace Go.Proofs.YtfnlcnjflloecaaDoor
open Go.RowKit
theorem encL_split (r : List UInt8) (h : ¬ r.length = 0) : encL r = enc4 (tri r) (min r.length 3) ++ encL (r.drop (min r.length 3)) := by
  match r, h with
  | a :: l, _ =>
    rw [encL]
    congr 1
    congr 1
    simp only [List.length_cons]
    rcases Nat.lt_or_ge l.length 2 with h | h
    · rw [List.drop_eq_nil_of_le (by omega), List.drop_eq_nil_of_le (by simp only [List.length_cons]; omega)]
    · rw [show min (l.length + 1) 3 = 3 by omega]; rfl
def EncR (w : World) (l : List UInt8) (v : Value) (wr : World) : Prop :=
  ∃ r P, r.length ≤ l.length ∧ Rd w v r ∧ BAt w.heap.size w.heap.size P wr ∧ P ++ encL r = encL l ∧ Below w.heap.size w wr
def tp (r : List UInt8) : Nat → Nat
  | 0 => 0
  | j + 1 => tp r j * 256 + (r.getD j 0).toNat
def TpR (r : List UInt8) (w1 : World) (n i : Value) (wr : World) : Prop := ∃ j : Nat, j ≤ 3 ∧ n = .int .u32 (tp r j) ∧ i = .int .i64 j ∧ w1 = wr
def WrR (w : World) (P q : List UInt8) (w1 : World) (i : Value) (wr : World) : Prop := ∃ j : Nat, j ≤ 4 ∧ i = .int .i64 j ∧ BAt w.heap.size w.heap.size (P ++ q.take j) wr ∧ Below w.heap.size w wr
theorem or_mul_add (a b k : Nat) (hb : b < 2 ^ k) : a * 2 ^ k ||| b = a * 2 ^ k + b := by rw [← Nat.shiftLeft_eq]; exact (Nat.shiftLeft_add_eq_or_of_lt hb a).symm
theorem tp_lt (r : List UInt8) (j : Nat) : tp r j < 256 ^ j := by
  induction j with
  | zero => simp [tp]
  | succ j ih =>
    have := (r.getD j 0).toNat_lt
    rw [tp, Nat.pow_succ]; omega
theorem tp3 (r : List UInt8) : tp r 3 = tri r := by simp [tp, tri]; omega
theorem wraps_u32' (n : Int) (h₀ : 0 ≤ n) (h₁ : n < 2 ^ 32) : IntKind.u32.wrap n = n := by rw [IntKind.wrap_u32]; omega
theorem wraps_i63 (n : Int) (h₀ : 0 ≤ n) (h₁ : n < 2 ^ 63) : IntKind.i64.wrap n = n := by rw [IntKind.wrap_i64]; omega
theorem and63 (a : Nat) : a &&& 63 = a % 64 := Nat.and_two_pow_sub_one_eq_mod a 6
theorem and63_u32 (a : Nat) (ha : a < 4294967296) : bits .and .u32 (a : Int) 63 = ((a % 64 : Nat) : Int) := by
  rw [show (63 : Int) = ((63 : Nat) : Int) from rfl, (bits_nat .u32 32 (by decide) wraps_u32' a 63 (by omega) (by omega)).1, and63]
theorem and63_i64 (a : Nat) (ha : a < 9223372036854775808) : bits .and .i64 (a : Int) 63 = ((a % 64 : Nat) : Int) := by
  rw [show (63 : Int) = ((63 : Nat) : Int) from rfl, (bits_nat .i64 63 (by decide) wraps_i63 a 63 (by omega) (by omega)).1, and63]
def dg64B : ByteArray := ⟨#[65, 66, 67, 68, 69, 70, 71, 72, 73, 74, 75, 76, 77, 78, 79, 80, 81, 82, 83, 84, 85, 86, 87, 88, 89, 90, 97, 98, 99, 100, 101, 102, 103, 104, 105, 106, 107, 108, 109, 110, 111, 112, 113, 114, 115, 116, 117, 118, 119, 120, 121, 122, 48, 49, 50, 51, 52, 53, 54, 55, 56, 57, 43, 47]⟩
theorem digB_get (D : Nat) (h : D < dg64B.size) : dg64B[D] = dg D := by
  have hs : D < 64 := h
  have e : dg64B.data.toList = digs := rfl
  unfold dg
  rw [Nat.mod_eq_of_lt hs, ← e, List.getD_eq_getElem?_getD, List.getElem?_eq_getElem (by exact h)]
  rfl
theorem orU32 (a b k : Nat) (h : a * 2 ^ k + b < 4294967296) (hb : b < 2 ^ k) : bits .or .u32 ((a * 2 ^ k : Nat) : Int) (b : Int) = ((a * 2 ^ k + b : Nat) : Int) := by
  rw [(bits_nat .u32 32 (by decide) wraps_u32' (a * 2 ^ k) b (by omega) (by omega)).2, or_mul_add a b k hb]
theorem byteCells_bvs (l : List UInt8) : Lib.byteCells l = bvs l := by unfold Lib.byteCells bvs bv; rfl
set_option maxRecDepth 100000 in
set_option maxHeartbeats 1600000 in
theorem encode_c (v : Value) (l : List UInt8) (w : World) (h : Rd w v l) (hl : l.length ≤ 1000000) :
    Calls Tryd.prog 81 #[v] w fun e w' => e = .returned (.string (strB (encL l))) ∧ Below w.heap.size w w' := by
  go_enter Tryd.func81, Tryd.ntmps81
  go_wp2_with fail
  go_loopw [0] (fun v wr => EncR w l v wr) (fun v _ => slen v)
  case atStart =>
    refine ⟨l, [], Nat.le_refl _, h, .inl ⟨Nat.le_refl _, .slice none 0 0, heap_alloc_new w _, World.ownsRow_nil _ _ _ _, by intro e; cases e⟩, rfl, (Below.refl _ _).alloc (Nat.le_refl _) _⟩
  case round =>
    obtain ⟨r, P, hrl, hr, hB, hPr, hbr⟩ := hrel
    have hrr := hr.below hbr
    have hsl := hr.slen
    have hPl : P.length ≤ 1400000 := by
      have h1 := congrArg List.length hPr
      rw [List.length_append, encL_len l.length l (Nat.le_refl _)] at h1
      omega
    by_cases h0 : r.length = 0
    · have q0 : ¬ (0 : Int) < r.length := by omega
      go_wp2_with (first | (with_reducible refine G_len ?_; refine L8_len Tryd.underlying37 (by with_unfolding_all (conv => lhs; whnf)) (by assumption) ?_) | (go_at_call 98; refine (Tryd.Builder_String_any _ _ P _ (by rw [byteCells_bvs]; exact hB) hbr.size).mono ?_; rintro e w2 ⟨rfl, hb2⟩))
      go_ret
      have hP : P = encL l := by
        have e : r = [] := List.eq_nil_of_length_eq_zero h0
        rw [e] at hPr
        simpa [encL] using hPr
      exact ⟨by rw [hP]; rfl, hbr.trans hb2⟩
    · have q0 : (0 : Int) < r.length := by omega
      go_wp2_with (first | (with_reducible refine G_len ?_; refine L8_len Tryd.underlying37 (by with_unfolding_all (conv => lhs; whnf)) (by assumption) ?_))
      obtain ⟨K, hK⟩ : ∃ K : Nat, min r.length 3 = K := ⟨_, rfl⟩
      have hKz : min (r.length : Int) 3 = (K : Int) := by omega
      rw [hKz]
      have hK1 : 1 ≤ K ∧ K ≤ 3 ∧ K ≤ r.length := by omega
      go_loopw [4, 14] (fun n i wr' => TpR r wr n i wr') (fun _ i _ => 3 - (intOf i).toNat)
      case atStart => exact ⟨0, by omega, rfl, rfl, rfl⟩
      case round =>
        obtain ⟨j, hj, rfl, rfl, rfl⟩ := hrel
        by_cases hlt : j < 3
        · have q1 : (j : Int) < 3 := by omega
          have q2 : (0 : Int) ≤ j := by omega
          have hb0 := bt_lo r j
          have hb1 := bt_hi r j
          have ht := tp_lt r j
          have ht2 : tp r j < 65536 := Nat.lt_of_lt_of_le ht (by have : j ≤ 2 := by omega
                                                                 calc 256 ^ j ≤ 256 ^ 2 := Nat.pow_le_pow_right (by omega) this
                                                                   _ = 65536 := by decide)
          by_cases hjk : j < K
          · have q3 : (j : Int) < K := by omega
            have hS := Go.Lib.hid (show ((tp r (j + 1) : Nat) : Int) = bits .or .u32 ((tp r j : Int) * 256) (bt r j) by
              have := orU32 (tp r j) (r.getD j 0).toNat 8 (by have := (r.getD j 0).toNat_lt; omega) (r.getD j 0).toNat_lt
              rw [show ((tp r j : Int) * 256) = ((tp r j * 2 ^ 8 : Nat) : Int) from by omega]
              exact this.symm)
            generalize hX : tp r j = X at *
            go_wp2_with (first | ((with_reducible refine G_index ?_; refine L8_index st8 (i := j) (by with_unfolding_all (conv => lhs; whnf)) (by assumption) (by with_unfolding_all (conv => lhs; whnf)) (by omega) (by omega) ?_); intro bb oo hbo hcl))
            refine ⟨⟨j + 1, by omega, by rw [hS.out], by go_num, rfl⟩, by simp [intOf]; omega⟩
          · have q3 : ¬ (j : Int) < K := by omega
            generalize hX : tp r j = X at *
            have hz : r.getD j 0 = 0 := by rw [List.getD_eq_getElem?_getD, List.getElem?_eq_none (by omega)]; rfl
            have hS := Go.Lib.hid (show tp r (j + 1) = X * 256 by rw [tp, hX, hz]; rfl)
            clear hz
            go_wp2_with fail
            refine ⟨⟨j + 1, by omega, by rw [hS.out]; go_num, by go_num, rfl⟩, by simp [intOf]; omega⟩
        · have q1 : ¬ (j : Int) < 3 := by omega
          obtain rfl : j = 3 := by omega
          rw [tp3]
          have ht := tri_lt r
          generalize hN : tri r = N at *
          go_wp2_with fail
          have hB' := hB
          clear hB
          go_loopw [30] (fun i wr' => WrR w P (enc4 N K) wr i wr') (fun i _ => 4 - (intOf i).toNat)
          case atStart => exact ⟨0, by omega, rfl, by simpa using hB', hbr⟩
          case round =>
            clear hB'
            obtain ⟨j, hj, rfl, hB', hbr'⟩ := hrel
            by_cases hlt : j < 4
            · have hcase : j = 0 ∨ j = 1 ∨ j = 2 ∨ j = 3 := by omega
              rcases hcase with rfl | rfl | rfl | rfl
              · have hA : bits .and .u32 ((N : Int) / 262144) 63 = ((N / 262144 % 64 : Nat) : Int) := and63_u32 (N / 262144) (by omega)
                have hD : N / 262144 % 64 < 64 := Nat.mod_lt _ (by omega)
                have hdg := Go.Lib.hid (dg_mod (N / 262144))
                generalize N / 262144 % 64 = D at *
                have q1 : (0 : Int) ≤ K := by omega
                go_wp2_with fail
                refine (writeByte_c _ _ _ _ _ hB' (by simp [bvs_length]; omega) hbr'.size).mono ?_
                rintro e w2 ⟨rfl, hB2, hb2⟩
                go_wp2_with fail
                refine ⟨⟨1, by omega, by go_num, .inr ?_, hbr'.trans hb2⟩, by simp [intOf]⟩
                have e2 : (dg64B[D]'hD).toNat = (dg (N / 262144)).toNat := congrArg UInt8.toNat ((digB_get D hD).trans hdg.out)
                have hB3 : Lib.BuilderAt _ _ _ _ _ (bvs (P ++ (enc4 N K).take 0) ++ [.int .u8 ((dg64B[D]'hD).toNat : Int)]) w2 := hB2
                rw [e2] at hB3
                simpa [bvs, bv, enc4] using hB3
              · have hA : bits .and .u32 ((N : Int) / 4096) 63 = ((N / 4096 % 64 : Nat) : Int) := and63_u32 (N / 4096) (by omega)
                have hD : N / 4096 % 64 < 64 := Nat.mod_lt _ (by omega)
                have hdg := Go.Lib.hid (dg_mod (N / 4096))
                generalize N / 4096 % 64 = D at *
                have q1 : (1 : Int) ≤ K := by omega
                go_wp2_with fail
                refine (writeByte_c _ _ _ _ _ hB' (by simp [bvs_length]; omega) hbr'.size).mono ?_
                rintro e w2 ⟨rfl, hB2, hb2⟩
                go_wp2_with fail
                refine ⟨⟨2, by omega, by go_num, .inr ?_, hbr'.trans hb2⟩, by simp [intOf]⟩
                have e2 : (dg64B[D]'hD).toNat = (dg (N / 4096)).toNat := congrArg UInt8.toNat ((digB_get D hD).trans hdg.out)
                have hB3 : Lib.BuilderAt _ _ _ _ _ (bvs (P ++ (enc4 N K).take 1) ++ [.int .u8 ((dg64B[D]'hD).toNat : Int)]) w2 := hB2
                rw [e2] at hB3
                simpa [bvs, bv, enc4] using hB3
              · by_cases hk : 2 ≤ K
                · have hA : bits .and .u32 ((N : Int) / 64) 63 = ((N / 64 % 64 : Nat) : Int) := and63_u32 (N / 64) (by omega)
                  have hD : N / 64 % 64 < 64 := Nat.mod_lt _ (by omega)
                  have hdg := Go.Lib.hid (dg_mod (N / 64))
                  generalize N / 64 % 64 = D at *
                  have q1 : (2 : Int) ≤ K := by omega
                  go_wp2_with fail
                  refine (writeByte_c _ _ _ _ _ hB' (by simp [bvs_length]; omega) hbr'.size).mono ?_
                  rintro e w2 ⟨rfl, hB2, hb2⟩
                  go_wp2_with fail
                  refine ⟨⟨3, by omega, by go_num, .inr ?_, hbr'.trans hb2⟩, by simp [intOf]⟩
                  have e2 : (dg64B[D]'hD).toNat = (dg (N / 64)).toNat := congrArg UInt8.toNat ((digB_get D hD).trans hdg.out)
                  have hB3 : Lib.BuilderAt _ _ _ _ _ (bvs (P ++ (enc4 N K).take 2) ++ [.int .u8 ((dg64B[D]'hD).toNat : Int)]) w2 := hB2
                  rw [e2] at hB3
                  simpa [bvs, bv, enc4, hk] using hB3
                · have q1 : ¬ (2 : Int) ≤ K := by omega
                  go_wp2_with fail
                  refine (writeByte_c _ _ _ _ _ hB' (by simp [bvs_length]; omega) hbr'.size).mono ?_
                  rintro e w2 ⟨rfl, hB2, hb2⟩
                  go_wp2_with fail
                  refine ⟨⟨3, by omega, by go_num, .inr ?_, hbr'.trans hb2⟩, by simp [intOf]⟩
                  simpa [bvs, bv, enc4, hk] using hB2
              · by_cases hk : 3 ≤ K
                · have hA : bits .and .u32 ((N : Int)) 63 = ((N % 64 : Nat) : Int) := and63_u32 (N) (by omega)
                  have hD : N % 64 < 64 := Nat.mod_lt _ (by omega)
                  have hdg := Go.Lib.hid (dg_mod (N))
                  generalize N % 64 = D at *
                  have q1 : (3 : Int) ≤ K := by omega
                  go_wp2_with fail
                  refine (writeByte_c _ _ _ _ _ hB' (by simp [bvs_length]; omega) hbr'.size).mono ?_
                  rintro e w2 ⟨rfl, hB2, hb2⟩
                  go_wp2_with fail
                  refine ⟨⟨4, by omega, by go_num, .inr ?_, hbr'.trans hb2⟩, by simp [intOf]⟩
                  have e2 : (dg64B[D]'hD).toNat = (dg (N)).toNat := congrArg UInt8.toNat ((digB_get D hD).trans hdg.out)
                  have hB3 : Lib.BuilderAt _ _ _ _ _ (bvs (P ++ (enc4 N K).take 3) ++ [.int .u8 ((dg64B[D]'hD).toNat : Int)]) w2 := hB2
                  rw [e2] at hB3
                  simpa [bvs, bv, enc4, hk] using hB3
                · have q1 : ¬ (3 : Int) ≤ K := by omega
                  go_wp2_with fail
                  refine (writeByte_c _ _ _ _ _ hB' (by simp [bvs_length]; omega) hbr'.size).mono ?_
                  rintro e w2 ⟨rfl, hB2, hb2⟩
                  go_wp2_with fail
                  refine ⟨⟨4, by omega, by go_num, .inr ?_, hbr'.trans hb2⟩, by simp [intOf]⟩
                  simpa [bvs, bv, enc4, hk] using hB2
            · have q1 : ¬ (j : Int) < 4 := by omega
              obtain rfl : j = 4 := by omega
              clear hrr
              go_wp2_with (first | ((with_reducible refine G_slice ?_; refine L8_slice_l st8 (lo := K) (by with_unfolding_all (conv => lhs; whnf)) (by assumption) (by with_unfolding_all (conv => lhs; whnf)) (by omega) (by omega) ?_); intro v2 hv2 hvb2))
              have hv2l := hv2.slen
              refine ⟨⟨r.drop K, P ++ enc4 N K, by simp; omega, hv2, by simpa [enc4] using hB', ?_, hbr'⟩, by rw [hv2l, hsl]; simp; omega⟩
              rw [← hPr, ← hN, ← hK, encL_split r h0, List.append_assoc]
end Go.Proofs.YtfnlcnjflloecaaDoor
