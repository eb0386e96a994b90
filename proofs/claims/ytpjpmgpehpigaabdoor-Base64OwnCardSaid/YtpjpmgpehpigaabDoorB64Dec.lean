/- base64.Decode; a string's bytes as a slice. -/
import Derived.Test.YtpjpmgpehpigaabDoorB64Enc
import Derived.Test.YtpjpmgpehpigaabDoorMore2
set_option linter.unusedVariables false
set_option linter.unusedSimpArgs false
namespace Go.Proofs.YtpjpmgpehpigaabDoor
open Go.RowKit
def decP (s : List UInt8) : Option (List UInt8) := decB (Lib.trimRightB s 61) 0 0 []
def decI (s : List UInt8) : List UInt8 × Int := match decP s with
  | none => ([], 2)
  | some x => if encL x = s then (x, 0) else ([], 2)
def GivesD (w : World) (r : List UInt8 × Int) (e : Ending) (w' : World) : Prop := ∃ v, e = .returned (.tuple #[v, .int .i64 r.2]) ∧ Own8 w' w.heap.size 5 v r.1 ∧ Below w.heap.size w w'
def DecR (w w1 : World) (t : List UInt8) (b n bits i : Value) (wr : World) : Prop :=
  ∃ (j m k : Nat) (out : List UInt8), j ≤ t.length ∧ m < 4294967296 ∧ (k = 0 ∨ k = 2 ∨ k = 4 ∨ k = 6) ∧ n = .int .u32 m ∧ bits = .int .i64 k ∧ i = .int .i64 j ∧ decB (t.drop j) m k out = decB t 0 0 [] ∧ out.length ≤ j ∧
    Own8 wr w1.heap.size 5 b out ∧ Below w1.heap.size w1 wr
theorem trim_len (s : List UInt8) : (Lib.trimRightB s 61).length ≤ s.length := by
  unfold Lib.trimRightB
  rw [List.length_reverse]
  have := (List.dropWhile_sublist (fun x => x == 61) (l := s.reverse)).length_le
  simpa using this
set_option maxRecDepth 100000 in
set_option maxHeartbeats 1600000 in
theorem decode_c (s : List UInt8) (w : World) (hs : s.length ≤ 1000000) :
    Calls Tryd.prog 32 #[.string (strB s)] w (GivesD w (decI s)) := by
  have hT := trim_len s
  have hI : decI s = match decB (Lib.trimRightB s 61) 0 0 [] with
    | none => ([], 2)
    | some x => if encL x = s then (x, 0) else ([], 2) := rfl
  generalize hI2 : decI s = I at *
  clear hI2
  generalize ht : Lib.trimRightB s 61 = t at *
  have hsz : (strB s).size = s.length := by simp [strB, ByteArray.size]
  have htz : (strB t).size = t.length := by simp [strB, ByteArray.size]
  have TR : ∀ w, Calls Tryd.prog 50 #[.string (strB s), .string ⟨#[61]⟩] w fun e w' => e = .returned (.string (strB t)) ∧ w' = w := fun w => by
    have := Tryd.strings_TrimRight_one (strB s) 61 (by decide) w (by omega)
    have e : (strB s).data.toList = s := by simp [strB]
    rw [e, ht] at this
    exact this
  have hst : (strB t).data.toList = t := by simp [strB]
  generalize strB t = T at *
  go_enter Tryd.func32, Tryd.ntmps32
  have tok0 : True := trivial
  go_wp2_with (first
    | (have _t := tok0; go_at_call 50; refine (TR _).mono ?_; rintro e w' ⟨rfl, hw'⟩; rw [hw']; clear hw' w'; clear tok0; have tok1 : True := trivial)
    | (have _t := tok1; with_reducible refine G_conv ?_; refine L_convb (by with_unfolding_all (conv => lhs; whnf)) (conv_bytes _ _ (by omega)) ?_; rintro v1 w1 ⟨hv1, hvb1, hbw1⟩; rw [hst] at hv1; clear tok1; have tok2 : True := trivial)
    | (have _t := tok2; (with_reducible refine G_len ?_; refine L8_len Tryd.underlying22 (by with_unfolding_all (conv => lhs; whnf)) (by assumption) ?_); clear tok2; have tok3 : True := trivial))
  clear TR hst htz
  go_loopw [4, 5, 6, 14] (fun b n bits i wr => DecR w w1 t b n bits i wr) (fun _ _ _ i _ => t.length - (intOf i).toNat)
  case atStart => exact ⟨0, 0, 0, [], by omega, by omega, .inl rfl, rfl, rfl, rfl, rfl, by simp, Own8.nil _ _ _, Below.refl _ _⟩
  case round =>
    obtain ⟨j, m, k, out, hj, hm, hk, rfl, rfl, rfl, hd, hol, ho, hbr⟩ := hrel
    have hrr := hv1.below hbr
    have hbs := hbr.size
    have hIX : ∀ (c : UInt8) w', Calls Tryd.prog 51 #[.string digB, .int .u8 (c.toNat : Int)] w' fun e w2 => e = .returned (.int .i64 (Lib.indexByte digs c)) ∧ w2 = w' := fun c w' => by
      have := Tryd.strings_IndexByte digB (c.toNat : Int) w'
      have e1 : digB.data.toList = digs := rfl
      have e2 : (c.toNat : Int).toNat.toUInt8 = c := by simp
      rw [e1, e2] at this
      exact this
    by_cases hlt : j < t.length
    · have q1 : (j : Int) < t.length := by omega
      have hdr : t.drop j = t[j] :: t.drop (j + 1) := List.drop_eq_getElem_cons hlt
      have hbt : bt t j = (t[j].toNat : Int) := bt_get t j hlt
      rw [hdr, decB] at hd
      have hrng := idx_range digs t[j]
      have hIXj := hIX t[j]
      generalize Lib.indexByte digs t[j] = IX at *
      by_cases hneg : IX < 0
      · rw [if_pos hneg] at hd
        have hI3 : I = ([], 2) := by rw [hI, ← hd]
        have tok0 : True := trivial
        go_wp2_with (first
          | (have _t := tok0; (with_reducible refine G_index ?_; refine L8_index st8 (i := j) (by with_unfolding_all (conv => lhs; whnf)) (by assumption) (by with_unfolding_all (conv => lhs; whnf)) (by omega) (by omega) ?_); intro bb oo hbo hcl; rw [hbt] at hcl; clear tok0; have tok1 : True := trivial)
          | (have _t := tok1; go_at_call 51; refine (hIXj _).mono ?_; rintro e w' ⟨rfl, hw'⟩; rw [hw']; clear hw' w'; clear tok1; have tok2 : True := trivial))
        go_ret2
        exact ⟨_, by rw [hI3]; rfl, by rw [hI3]; exact Own8.nil _ _ _, below_below hbw1 hbr⟩
      · obtain ⟨D, rfl⟩ : ∃ D : Nat, IX = (D : Int) := ⟨IX.toNat, by omega⟩
        have hD : D < 64 := by
          have e : digs.length = 64 := rfl
          omega
        rw [if_neg hneg, Int.toNat_natCast] at hd
        have q2 : (0 : Int) ≤ D := by omega
        have hS := bits_nat .u32 32 (by decide) wraps_u32' (m * 64 % 4294967296) D (by omega) (by omega)
        have hO : (m * 64 % 4294967296) ||| D = (m * 64 + D) % 4294967296 := by
          have h1 := or_mul_add (m % 67108864) D 6 hD
          rw [show m * 64 % 4294967296 = m % 67108864 * 2 ^ 6 by omega, h1]
          omega
        rw [hO] at hS
        have hS2 : bits .or .u32 ((m : Int) * 64 % 4294967296) (D : Int) = (((m * 64 + D) % 4294967296 : Nat) : Int) := by
          have := hS.2
          rwa [show ((m * 64 % 4294967296 : Nat) : Int) = (m : Int) * 64 % 4294967296 by omega] at this
        clear hS hO
        generalize hM : (m * 64 + D) % 4294967296 = M at *
        have hM2 : M < 4294967296 := by omega
        clear hM
        rcases hk with rfl | rfl | rfl | rfl
        · rw [if_neg (by omega)] at hd
          have tok0 : True := trivial
          go_wp2_with (first
            | (have _t := tok0; (with_reducible refine G_index ?_; refine L8_index st8 (i := j) (by with_unfolding_all (conv => lhs; whnf)) (by assumption) (by with_unfolding_all (conv => lhs; whnf)) (by omega) (by omega) ?_); intro bb oo hbo hcl; rw [hbt] at hcl; clear tok0; have tok1 : True := trivial)
            | (have _t := tok1; go_at_call 51; refine (hIXj _).mono ?_; rintro e w' ⟨rfl, hw'⟩; rw [hw']; clear hw' w'; clear tok1; have tok2 : True := trivial))
          exact ⟨⟨j + 1, M, 6, out, by omega, hM2, by omega, rfl, rfl, by go_num, hd, by omega, ho, hbr⟩, by simp only [intOf]; omega⟩
        · rw [if_pos (by omega)] at hd
          have hX := Go.Lib.hid (show (M : Int) % 256 = ((UInt8.ofNat (M / 2 ^ 0)).toNat : Int) by simp; try omega)
          have tok0 : True := trivial
          go_wp2_with (first
            | (have _t := tok0; (with_reducible refine G_index ?_; refine L8_index st8 (i := j) (by with_unfolding_all (conv => lhs; whnf)) (by assumption) (by with_unfolding_all (conv => lhs; whnf)) (by omega) (by omega) ?_); intro bb oo hbo hcl; rw [hbt] at hcl; clear tok0; have tok1 : True := trivial)
            | (have _t := tok1; go_at_call 51; refine (hIXj _).mono ?_; rintro e w' ⟨rfl, hw'⟩; rw [hw']; clear hw' w'; clear tok1; have tok2 : True := trivial)
            | (have _t := tok2; (at_builtin; refine wpList_app8 rfl _ _ rfl st8 (by with_unfolding_all (conv => lhs; whnf)) (Own8.below ho ((Below.refl _ _).alloc (Nat.le_refl _) _)) rfl (Rd.src (Rd.lit _ _ _ [UInt8.ofNat (M / 2 ^ 0)] (by rw [hX.out]; rfl) rfl (by omega) (by decide)) Tryd.underlying22) (by first | omega | (simp; omega)) (by first | (simp; done) | omega | (simp; omega)) ?_); intro v3 w3 ho3 hg3 hb3; clear tok2; have tok3 : True := trivial))
          have hw3 := app_step hbr ho (Nat.le_refl _) hg3
          exact ⟨⟨j + 1, M, 0, out ++ [UInt8.ofNat (M / 2 ^ 0)], by omega, hM2, by omega, by first | rfl | go_num, by go_num, by go_num, by rw [← hd], by simp; omega, ho3, hw3.1⟩, by simp only [intOf]; omega⟩
        · rw [if_pos (by omega)] at hd
          have hX := Go.Lib.hid (show (M : Int) / 4 % 256 = ((UInt8.ofNat (M / 2 ^ 2)).toNat : Int) by simp; try omega)
          have tok0 : True := trivial
          go_wp2_with (first
            | (have _t := tok0; (with_reducible refine G_index ?_; refine L8_index st8 (i := j) (by with_unfolding_all (conv => lhs; whnf)) (by assumption) (by with_unfolding_all (conv => lhs; whnf)) (by omega) (by omega) ?_); intro bb oo hbo hcl; rw [hbt] at hcl; clear tok0; have tok1 : True := trivial)
            | (have _t := tok1; go_at_call 51; refine (hIXj _).mono ?_; rintro e w' ⟨rfl, hw'⟩; rw [hw']; clear hw' w'; clear tok1; have tok2 : True := trivial)
            | (have _t := tok2; (at_builtin; refine wpList_app8 rfl _ _ rfl st8 (by with_unfolding_all (conv => lhs; whnf)) (Own8.below ho ((Below.refl _ _).alloc (Nat.le_refl _) _)) rfl (Rd.src (Rd.lit _ _ _ [UInt8.ofNat (M / 2 ^ 2)] (by rw [hX.out]; rfl) rfl (by omega) (by decide)) Tryd.underlying22) (by first | omega | (simp; omega)) (by first | (simp; done) | omega | (simp; omega)) ?_); intro v3 w3 ho3 hg3 hb3; clear tok2; have tok3 : True := trivial))
          have hw3 := app_step hbr ho (Nat.le_refl _) hg3
          exact ⟨⟨j + 1, M, 2, out ++ [UInt8.ofNat (M / 2 ^ 2)], by omega, hM2, by omega, by first | rfl | go_num, by go_num, by go_num, by rw [← hd], by simp; omega, ho3, hw3.1⟩, by simp only [intOf]; omega⟩
        · rw [if_pos (by omega)] at hd
          have hX := Go.Lib.hid (show (M : Int) / 16 % 256 = ((UInt8.ofNat (M / 2 ^ 4)).toNat : Int) by simp; try omega)
          have tok0 : True := trivial
          go_wp2_with (first
            | (have _t := tok0; (with_reducible refine G_index ?_; refine L8_index st8 (i := j) (by with_unfolding_all (conv => lhs; whnf)) (by assumption) (by with_unfolding_all (conv => lhs; whnf)) (by omega) (by omega) ?_); intro bb oo hbo hcl; rw [hbt] at hcl; clear tok0; have tok1 : True := trivial)
            | (have _t := tok1; go_at_call 51; refine (hIXj _).mono ?_; rintro e w' ⟨rfl, hw'⟩; rw [hw']; clear hw' w'; clear tok1; have tok2 : True := trivial)
            | (have _t := tok2; (at_builtin; refine wpList_app8 rfl _ _ rfl st8 (by with_unfolding_all (conv => lhs; whnf)) (Own8.below ho ((Below.refl _ _).alloc (Nat.le_refl _) _)) rfl (Rd.src (Rd.lit _ _ _ [UInt8.ofNat (M / 2 ^ 4)] (by rw [hX.out]; rfl) rfl (by omega) (by decide)) Tryd.underlying22) (by first | omega | (simp; omega)) (by first | (simp; done) | omega | (simp; omega)) ?_); intro v3 w3 ho3 hg3 hb3; clear tok2; have tok3 : True := trivial))
          have hw3 := app_step hbr ho (Nat.le_refl _) hg3
          exact ⟨⟨j + 1, M, 4, out ++ [UInt8.ofNat (M / 2 ^ 4)], by omega, hM2, by omega, by first | rfl | go_num, by go_num, by go_num, by rw [← hd], by simp; omega, ho3, hw3.1⟩, by simp only [intOf]; omega⟩
    · have q1 : ¬ (j : Int) < t.length := by omega
      obtain rfl : j = t.length := by omega
      rw [List.drop_length, decB] at hd
      rw [← hd] at hI
      have hout := encL_len out.length out (Nat.le_refl _)
      by_cases he : encL out = s
      · have hs2 : strB (encL out) = strB s := by rw [he]
        have hI3 : I = (out, 0) := by rw [hI]; simp [he]
        have tok0 : True := trivial
        go_wp2_with (first
          | (have _t := tok0; go_at_call 34; refine (encode_c _ out _ ho.rd (by omega)).mono ?_; rintro e w2 ⟨rfl, hb2⟩; rw [hs2]; clear tok0; have tok1 : True := trivial))
        go_ret2
        exact ⟨_, by rw [hI3]; rfl, by rw [hI3]; exact (ho.below hb2).mono hbw1.size, below_below (below_below hbw1 hbr) hb2⟩
      · have hs2 : ((strB (encL out)).toList == (strB s).toList) = false := by rw [ByteArray.toList_eq, ByteArray.toList_eq]; simpa [strB] using he
        have hI3 : I = ([], 2) := by rw [hI]; simp [he]
        have tok0 : True := trivial
        go_wp2_with (first
          | (have _t := tok0; go_at_call 34; refine (encode_c _ out _ ho.rd (by omega)).mono ?_; rintro e w2 ⟨rfl, hb2⟩; clear tok0; have tok1 : True := trivial))
        go_ret2
        exact ⟨_, by rw [hI3]; rfl, by rw [hI3]; exact Own8.nil _ _ _, below_below (below_below hbw1 hbr) hb2⟩
end Go.Proofs.YtpjpmgpehpigaabDoor
