/- The reference's Encode. -/
import Derived.Test.YtfnlcnjflloecaaDoorB64Enc
import Derived.Test.YtfnlcnjflloecaaDoorMore2
set_option linter.unusedVariables false
set_option linter.unusedSimpArgs false
namespace Go.Proofs.YtfnlcnjflloecaaDoor
open Go.RowKit
def REncR (w : World) (l : List UInt8) (o i : Value) (wr : World) : Prop :=
  ∃ (j : Nat) (P : List UInt8), j ≤ l.length + 2 ∧ i = .int .i64 (j : Int) ∧ Own8 wr w.heap.size 5 o P ∧ P ++ encL (l.drop j) = encL l ∧ Below w.heap.size w wr
def TpI (r : List UInt8) (w1 : World) (n k : Value) (wr : World) : Prop := ∃ j : Nat, j ≤ 3 ∧ n = .int .i64 (tp r j) ∧ k = .int .i64 j ∧ w1 = wr
def WrI (w : World) (P q : List UInt8) (o k : Value) (wr : World) : Prop := ∃ j : Nat, j ≤ 4 ∧ k = .int .i64 j ∧ Own8 wr w.heap.size 5 o (P ++ q.take j) ∧ Below w.heap.size w wr
theorem orI64 (a b k : Nat) (h : a * 2 ^ k + b < 9223372036854775808) (hb : b < 2 ^ k) : bits .or .i64 ((a * 2 ^ k : Nat) : Int) (b : Int) = ((a * 2 ^ k + b : Nat) : Int) := by
  rw [(bits_nat .i64 63 (by decide) wraps_i63 (a * 2 ^ k) b (by omega) (by omega)).2, or_mul_add a b k hb]
set_option maxRecDepth 100000 in
set_option maxHeartbeats 3200000 in
theorem refencode_c (v : Value) (l : List UInt8) (w : World) (h : Rd w v l) (hl : l.length ≤ 1000000) :
    Calls Tryd.prog 84 #[v] w fun e w' => e = .returned (.string (strB (encL l))) ∧ Below w.heap.size w w' := by
  go_enter Tryd.func84, Tryd.ntmps84
  go_wp2_with fail
  go_loopw [3, 4] (fun o i wr => REncR w l o i wr) (fun _ i _ => l.length + 2 - (intOf i).toNat)
  case atStart => exact ⟨0, [], by omega, rfl, Own8.nil _ _ _, rfl, Below.refl _ _⟩
  case round =>
    obtain ⟨j, P, hj, rfl, ho, hPr, hbr⟩ := hrel
    have hrr := h.below hbr
    have hbs := hbr.size
    have hPl : P.length ≤ 1400000 := by
      have h1 := congrArg List.length hPr
      rw [List.length_append, encL_len l.length l (Nat.le_refl _)] at h1
      omega
    by_cases hlt : j < l.length
    · have q0 : (j : Int) < l.length := by omega
      go_wp2_with (first | (with_reducible refine G_len ?_; refine L8_len Tryd.underlying37 (by with_unfolding_all (conv => lhs; whnf)) (by assumption) ?_))
      have hdl : (l.drop j).length = l.length - j := by simp
      have hsplit := encL_split (l.drop j) (by omega)
      have hget : ∀ k, (l.drop j).getD k 0 = l.getD (j + k) 0 := fun k => by simp [List.getD_eq_getElem?_getD]
      go_loopw [5, 6] (fun n k wr' => TpI (l.drop j) wr n k wr') (fun _ k _ => 3 - (intOf k).toNat)
      case atStart => exact ⟨0, by omega, rfl, rfl, rfl⟩
      case round =>
        obtain ⟨k, hk, rfl, rfl, rfl⟩ := hrel
        by_cases hk3 : k < 3
        · have q1 : (k : Int) < 3 := by omega
          have ht := tp_lt (l.drop j) k
          have ht2 : tp (l.drop j) k < 65536 := Nat.lt_of_lt_of_le ht (by have : k ≤ 2 := by omega
                                                                          calc 256 ^ k ≤ 256 ^ 2 := Nat.pow_le_pow_right (by omega) this
                                                                            _ = 65536 := by decide)
          by_cases hjk : j + k < l.length
          · have q3 : (j : Int) + k < l.length := by omega
            have hb0 := bt_lo l (j + k)
            have hb1 := bt_hi l (j + k)
            have hbe : bt l (j + k) = (((l.drop j).getD k 0).toNat : Int) := by rw [hget]; rfl
            have hS := Go.Lib.hid (show ((tp (l.drop j) (k + 1) : Nat) : Int) = bits .or .i64 ((tp (l.drop j) k : Int) * 256) (bt l (j + k)) by
              have := orI64 (tp (l.drop j) k) ((l.drop j).getD k 0).toNat 8 (by have := ((l.drop j).getD k 0).toNat_lt; omega) ((l.drop j).getD k 0).toNat_lt
              rw [show ((tp (l.drop j) k : Int) * 256) = ((tp (l.drop j) k * 2 ^ 8 : Nat) : Int) from by omega, hbe]
              exact this.symm)
            clear hbe
            generalize hX : tp (l.drop j) k = X at *
            go_wp2_with (first | (with_reducible refine G_len ?_; refine L8_len Tryd.underlying37 (by with_unfolding_all (conv => lhs; whnf)) (by assumption) ?_) | ((with_reducible refine G_index ?_; refine L8_index st8 (i := (j + k)) (by with_unfolding_all (conv => lhs; whnf)) (by assumption) (by with_unfolding_all (conv => lhs; whnf)) (by omega) (by omega) ?_); intro bb oo hbo hcl))
            refine ⟨⟨k + 1, by omega, by rw [hS.out], by go_num, rfl⟩, by simp [intOf]; omega⟩
          · have q3 : ¬ (j : Int) + k < l.length := by omega
            have hz : (l.drop j).getD k 0 = 0 := by rw [List.getD_eq_getElem?_getD, List.getElem?_eq_none (by omega)]; rfl
            have hS := Go.Lib.hid (show tp (l.drop j) (k + 1) = tp (l.drop j) k * 256 by rw [tp, hz]; rfl)
            clear hz
            generalize hX : tp (l.drop j) k = X at *
            go_wp2_with (first | (with_reducible refine G_len ?_; refine L8_len Tryd.underlying37 (by with_unfolding_all (conv => lhs; whnf)) (by assumption) ?_))
            refine ⟨⟨k + 1, by omega, by rw [hS.out]; go_num, by go_num, rfl⟩, by simp [intOf]; omega⟩
        · have q1 : ¬ (k : Int) < 3 := by omega
          obtain rfl : k = 3 := by omega
          rw [tp3]
          have ht := tri_lt (l.drop j)
          rw [hsplit] at hPr
          generalize hN : tri (l.drop j) = N at *
          obtain ⟨K, hK⟩ : ∃ K : Nat, min (l.drop j).length 3 = K := ⟨_, rfl⟩
          rw [hK] at hPr
          go_wp2_with fail
          go_loopw [3, 7] (fun o k wr' => WrI w P (enc4 N K) o k wr') (fun _ k _ => 4 - (intOf k).toNat)
          case atStart => exact ⟨0, by omega, rfl, by simpa using ho, hbr⟩
          case round =>
            obtain ⟨k, hk, rfl, ho2, hbr2⟩ := hrel
            have hbs2 := hbr2.size
            have hr2 := h.below hbr2
            by_cases hk4 : k < 4
            · have hcase : k = 0 ∨ k = 1 ∨ k = 2 ∨ k = 3 := by omega
              rcases hcase with rfl | rfl | rfl | rfl
              · have q1 : ¬ (l.length : Int) < (j : Int) + 0 := by omega
                have hA : bits .and .i64 ((N : Int) / 262144) 63 = ((N / 262144 % 64 : Nat) : Int) := and63_i64 (N / 262144) (by omega)
                have hD : N / 262144 % 64 < 64 := Nat.mod_lt _ (by omega)
                have hdg := Go.Lib.hid (dg_mod (N / 262144))
                generalize N / 262144 % 64 = D at *
                have hX : (((⟨#[65, 66, 67, 68, 69, 70, 71, 72, 73, 74, 75, 76, 77, 78, 79, 80, 81, 82, 83, 84, 85, 86, 87, 88, 89, 90, 97, 98, 99, 100, 101, 102, 103, 104, 105, 106, 107, 108, 109, 110, 111, 112, 113, 114, 115, 116, 117, 118, 119, 120, 121, 122, 48, 49, 50, 51, 52, 53, 54, 55, 56, 57, 43, 47]⟩ : ByteArray)[D]'hD).toNat : Int) = ((dg (N / 262144)).toNat : Int) := congrArg (fun u : UInt8 => (u.toNat : Int)) ((digB_get D hD).trans hdg.out)
                have tok0 : True := trivial
                go_wp2_with (first
                  | ((with_reducible refine G_len ?_; refine L8_len Tryd.underlying37 (by with_unfolding_all (conv => lhs; whnf)) (by assumption) ?_))
                  | (have _t := tok0; (at_builtin; refine wpList_app8 rfl _ _ rfl st8 (by with_unfolding_all (conv => lhs; whnf)) (Own8.below ho2 ((Below.refl _ _).alloc (Nat.le_refl _) _)) rfl (Rd.src (Rd.lit _ _ _ [dg (N / 262144)] rfl rfl (by omega) (by decide)) Tryd.underlying37) (by first | omega | (simp; omega)) (by first | (simp; done) | omega | (simp; omega)) ?_); intro v3 w3 ho3 hg3 hb3; clear tok0; have tok1 : True := trivial))
                have hw3 := app_step hbr2 ho2 (Nat.le_refl _) hg3
                exact ⟨⟨0 + 1, by omega, by go_num, by simpa [enc4] using ho3, hw3.1⟩, by simp [intOf]⟩
              · have q1 : ¬ (l.length : Int) < (j : Int) + 1 := by omega
                have hA : bits .and .i64 ((N : Int) / 4096) 63 = ((N / 4096 % 64 : Nat) : Int) := and63_i64 (N / 4096) (by omega)
                have hD : N / 4096 % 64 < 64 := Nat.mod_lt _ (by omega)
                have hdg := Go.Lib.hid (dg_mod (N / 4096))
                generalize N / 4096 % 64 = D at *
                have hX : (((⟨#[65, 66, 67, 68, 69, 70, 71, 72, 73, 74, 75, 76, 77, 78, 79, 80, 81, 82, 83, 84, 85, 86, 87, 88, 89, 90, 97, 98, 99, 100, 101, 102, 103, 104, 105, 106, 107, 108, 109, 110, 111, 112, 113, 114, 115, 116, 117, 118, 119, 120, 121, 122, 48, 49, 50, 51, 52, 53, 54, 55, 56, 57, 43, 47]⟩ : ByteArray)[D]'hD).toNat : Int) = ((dg (N / 4096)).toNat : Int) := congrArg (fun u : UInt8 => (u.toNat : Int)) ((digB_get D hD).trans hdg.out)
                have tok0 : True := trivial
                go_wp2_with (first
                  | ((with_reducible refine G_len ?_; refine L8_len Tryd.underlying37 (by with_unfolding_all (conv => lhs; whnf)) (by assumption) ?_))
                  | (have _t := tok0; (at_builtin; refine wpList_app8 rfl _ _ rfl st8 (by with_unfolding_all (conv => lhs; whnf)) (Own8.below ho2 ((Below.refl _ _).alloc (Nat.le_refl _) _)) rfl (Rd.src (Rd.lit _ _ _ [dg (N / 4096)] rfl rfl (by omega) (by decide)) Tryd.underlying37) (by first | omega | (simp; omega)) (by first | (simp; done) | omega | (simp; omega)) ?_); intro v3 w3 ho3 hg3 hb3; clear tok0; have tok1 : True := trivial))
                have hw3 := app_step hbr2 ho2 (Nat.le_refl _) hg3
                exact ⟨⟨1 + 1, by omega, by go_num, by simpa [enc4] using ho3, hw3.1⟩, by simp [intOf]⟩
              · by_cases hk2 : 2 ≤ K
                · have q1 : ¬ (l.length : Int) < (j : Int) + 2 := by omega
                  have hA : bits .and .i64 ((N : Int) / 64) 63 = ((N / 64 % 64 : Nat) : Int) := and63_i64 (N / 64) (by omega)
                  have hD : N / 64 % 64 < 64 := Nat.mod_lt _ (by omega)
                  have hdg := Go.Lib.hid (dg_mod (N / 64))
                  generalize N / 64 % 64 = D at *
                  have hX : (((⟨#[65, 66, 67, 68, 69, 70, 71, 72, 73, 74, 75, 76, 77, 78, 79, 80, 81, 82, 83, 84, 85, 86, 87, 88, 89, 90, 97, 98, 99, 100, 101, 102, 103, 104, 105, 106, 107, 108, 109, 110, 111, 112, 113, 114, 115, 116, 117, 118, 119, 120, 121, 122, 48, 49, 50, 51, 52, 53, 54, 55, 56, 57, 43, 47]⟩ : ByteArray)[D]'hD).toNat : Int) = ((dg (N / 64)).toNat : Int) := congrArg (fun u : UInt8 => (u.toNat : Int)) ((digB_get D hD).trans hdg.out)
                  have tok0 : True := trivial
                  go_wp2_with (first
                    | ((with_reducible refine G_len ?_; refine L8_len Tryd.underlying37 (by with_unfolding_all (conv => lhs; whnf)) (by assumption) ?_))
                    | (have _t := tok0; (at_builtin; refine wpList_app8 rfl _ _ rfl st8 (by with_unfolding_all (conv => lhs; whnf)) (Own8.below ho2 ((Below.refl _ _).alloc (Nat.le_refl _) _)) rfl (Rd.src (Rd.lit _ _ _ [dg (N / 64)] rfl rfl (by omega) (by decide)) Tryd.underlying37) (by first | omega | (simp; omega)) (by first | (simp; done) | omega | (simp; omega)) ?_); intro v3 w3 ho3 hg3 hb3; clear tok0; have tok1 : True := trivial))
                  have hw3 := app_step hbr2 ho2 (Nat.le_refl _) hg3
                  exact ⟨⟨2 + 1, by omega, by go_num, by simpa [enc4, hk2] using ho3, hw3.1⟩, by simp [intOf]⟩
                · have q1 : (l.length : Int) < (j : Int) + 2 := by omega
                  have tok0 : True := trivial
                  go_wp2_with (first
                    | ((with_reducible refine G_len ?_; refine L8_len Tryd.underlying37 (by with_unfolding_all (conv => lhs; whnf)) (by assumption) ?_))
                    | (have _t := tok0; (at_builtin; refine wpList_app8 rfl _ _ rfl st8 (by with_unfolding_all (conv => lhs; whnf)) (Own8.below ho2 ((Below.refl _ _).alloc (Nat.le_refl _) _)) rfl (Rd.src (Rd.lit _ _ _ [61] rfl rfl (by omega) (by decide)) Tryd.underlying37) (by first | omega | (simp; omega)) (by first | (simp; done) | omega | (simp; omega)) ?_); intro v3 w3 ho3 hg3 hb3; clear tok0; have tok1 : True := trivial))
                  have hw3 := app_step hbr2 ho2 (Nat.le_refl _) hg3
                  exact ⟨⟨2 + 1, by omega, by go_num, by simpa [enc4, hk2] using ho3, hw3.1⟩, by simp [intOf]⟩
              · by_cases hk2 : 3 ≤ K
                · have q1 : ¬ (l.length : Int) < (j : Int) + 3 := by omega
                  have hA : bits .and .i64 ((N : Int)) 63 = ((N % 64 : Nat) : Int) := and63_i64 (N) (by omega)
                  have hD : N % 64 < 64 := Nat.mod_lt _ (by omega)
                  have hdg := Go.Lib.hid (dg_mod (N))
                  generalize N % 64 = D at *
                  have hX : (((⟨#[65, 66, 67, 68, 69, 70, 71, 72, 73, 74, 75, 76, 77, 78, 79, 80, 81, 82, 83, 84, 85, 86, 87, 88, 89, 90, 97, 98, 99, 100, 101, 102, 103, 104, 105, 106, 107, 108, 109, 110, 111, 112, 113, 114, 115, 116, 117, 118, 119, 120, 121, 122, 48, 49, 50, 51, 52, 53, 54, 55, 56, 57, 43, 47]⟩ : ByteArray)[D]'hD).toNat : Int) = ((dg (N)).toNat : Int) := congrArg (fun u : UInt8 => (u.toNat : Int)) ((digB_get D hD).trans hdg.out)
                  have tok0 : True := trivial
                  go_wp2_with (first
                    | ((with_reducible refine G_len ?_; refine L8_len Tryd.underlying37 (by with_unfolding_all (conv => lhs; whnf)) (by assumption) ?_))
                    | (have _t := tok0; (at_builtin; refine wpList_app8 rfl _ _ rfl st8 (by with_unfolding_all (conv => lhs; whnf)) (Own8.below ho2 ((Below.refl _ _).alloc (Nat.le_refl _) _)) rfl (Rd.src (Rd.lit _ _ _ [dg (N)] rfl rfl (by omega) (by decide)) Tryd.underlying37) (by first | omega | (simp; omega)) (by first | (simp; done) | omega | (simp; omega)) ?_); intro v3 w3 ho3 hg3 hb3; clear tok0; have tok1 : True := trivial))
                  have hw3 := app_step hbr2 ho2 (Nat.le_refl _) hg3
                  exact ⟨⟨3 + 1, by omega, by go_num, by simpa [enc4, hk2] using ho3, hw3.1⟩, by simp [intOf]⟩
                · have q1 : (l.length : Int) < (j : Int) + 3 := by omega
                  have tok0 : True := trivial
                  go_wp2_with (first
                    | ((with_reducible refine G_len ?_; refine L8_len Tryd.underlying37 (by with_unfolding_all (conv => lhs; whnf)) (by assumption) ?_))
                    | (have _t := tok0; (at_builtin; refine wpList_app8 rfl _ _ rfl st8 (by with_unfolding_all (conv => lhs; whnf)) (Own8.below ho2 ((Below.refl _ _).alloc (Nat.le_refl _) _)) rfl (Rd.src (Rd.lit _ _ _ [61] rfl rfl (by omega) (by decide)) Tryd.underlying37) (by first | omega | (simp; omega)) (by first | (simp; done) | omega | (simp; omega)) ?_); intro v3 w3 ho3 hg3 hb3; clear tok0; have tok1 : True := trivial))
                  have hw3 := app_step hbr2 ho2 (Nat.le_refl _) hg3
                  exact ⟨⟨3 + 1, by omega, by go_num, by simpa [enc4, hk2] using ho3, hw3.1⟩, by simp [intOf]⟩
            · have q1 : ¬ (k : Int) < 4 := by omega
              obtain rfl : k = 4 := by omega
              go_wp2_with fail
              refine ⟨⟨j + 3, P ++ enc4 N K, by omega, by go_num, by simpa [enc4] using ho2, ?_, hbr2⟩, by simp [intOf]; omega⟩
              rw [List.append_assoc, ← hPr]
              congr 2
              rw [← hK, hdl, List.drop_drop]
              rcases Nat.lt_or_ge (l.length - j) 3 with h3 | h3
              · rw [List.drop_eq_nil_of_le (by omega), List.drop_eq_nil_of_le (by omega)]
              · rw [show min (l.length - j) 3 = 3 by omega]
    · have q0 : ¬ (j : Int) < l.length := by omega
      have hP : P = encL l := by
        rw [List.drop_eq_nil_of_le (by omega)] at hPr
        simpa [encL] using hPr
      have hc := convert_str ho.rd
      rw [hP] at hc
      go_wp2_with (first | (with_reducible refine G_len ?_; refine L8_len Tryd.underlying37 (by with_unfolding_all (conv => lhs; whnf)) (by assumption) ?_))
      go_ret
      exact ⟨rfl, hbr⟩
end Go.Proofs.YtfnlcnjflloecaaDoor
