/- crc.More, crc.Sum and the reference's: what they answer. -/
import Derived.Test.YtpjpmgpehpigaaaKeep
import Derived.Test.YtpjpmgpehpigaaaCrcPure
set_option linter.unusedVariables false
namespace Go.Proofs.Ytpjpmgpehpigaaa
open Go.RowKit
theorem sgn_u32 : IntKind.u32.signed = false := rfl
set_option maxHeartbeats 400000 in
theorem more_c (s : Nat) (v : Value) (l : List UInt8) (w : World) (hs : s < 4294967296) (h : Rd w v l) :
    Calls Try.prog 18 #[.int .u32 s, v] w fun e w' => e = .returned (.int .u32 ((moreN s l : Nat) : Int)) ∧ w = w' := by
  obtain ⟨A, c, rfl, h1, h2, h3⟩ := h.open
  have hn := h.len_le
  have hF := Go.Lib.hid (show ((moreN s l : Nat) : Int) = bits .xor .u32 IntKind.u32.max ((foldN (4294967295 - s) l : Nat) : Int) by rw [not_eq _ (foldN_lt l (by omega))]; rfl)
  have hI := not_eq s hs
  go_enter Try.func18, Try.ntmps18
  have hsg := sgn_u32
  go_wp2
  clear hsg
  go_loop [0, 11] (fun r i => ∃ k : Nat, k ≤ l.length ∧ i = .int .i64 k ∧ r = .int .u32 ((foldN (4294967295 - s) (l.take k) : Nat) : Int)) (fun _ i => l.length - (intOf i).toNat)
  case atStart => exact ⟨0, Nat.zero_le _, rfl, rfl⟩
  case round =>
    obtain ⟨k, hk, rfl, rfl⟩ := hrel
    by_cases hlt : k < l.length
    · obtain ⟨b, off, rfl, hc⟩ := h3 (by omega)
      have hcell := hc k hlt
      have hR := foldN_lt (r := 4294967295 - s) (l.take k) (by omega)
      have hX := xorb_eq (foldN (4294967295 - s) (l.take k)) (l.getD k 0).toNat hR (by have := (l.getD k 0).toNat_lt; omega)
      have hX1 := xorb_lt (l.getD k 0) hR
      have hS := Go.Lib.hid (foldN_snoc (4294967295 - s) l k hlt)
      rw [show (((l.getD k 0).toNat : Nat) : Int) = bt l k from rfl] at hX
      have hE := Go.Lib.hid (show byteN (foldN (4294967295 - s) (l.take k)) (l.getD k 0) = iterN 8 (foldN (4294967295 - s) (l.take k) ^^^ (l.getD k 0).toNat) from rfl)
      generalize foldN (4294967295 - s) (l.take k) ^^^ (l.getD k 0).toNat = R0 at hX hX1 hE
      go_wp2
      clear hX
      go_loop [0, 19] (fun r i => ∃ m : Nat, m ≤ 8 ∧ i = .int .i64 m ∧ r = .int .u32 ((iterN m R0 : Nat) : Int)) (fun _ i => 8 - (intOf i).toNat)
      case atStart => exact ⟨0, by omega, rfl, rfl⟩
      case round =>
        obtain ⟨m, hm, rfl, rfl⟩ := hrel
        by_cases hlt8 : m < 8
        · have hB := cbit_eq (iterN m R0) (iterN_lt m hX1)
          have hB2 := Go.Lib.hid (show iterN (m + 1) R0 = stepN (iterN m R0) from rfl)
          generalize iterN m R0 = R1 at hB hB2
          go_wp2
          go_round
          case rel => exact ⟨m + 1, by omega, by go_num, by rw [hB2.out]⟩
          case measure => simp [intOf]; omega
        · obtain rfl : m = 8 := by omega
          go_wp2
          go_round
          case rel => exact ⟨k + 1, by omega, by go_num, by rw [hS.out, hE.out]⟩
          case measure => simp [intOf]; omega
    · obtain rfl : k = l.length := by omega
      rw [List.take_length]
      have hT := not_eq _ (foldN_lt (r := 4294967295 - s) l (by omega))
      have hsg := sgn_u32
      go_wp2
      go_ret
      exact ⟨rfl, rfl⟩
set_option maxHeartbeats 400000 in
theorem rmore_c (s : Nat) (v : Value) (l : List UInt8) (w : World) (hs : s < 4294967296) (h : Rd w v l) :
    Calls Try.prog 19 #[.int .u32 s, v] w fun e w' => e = .returned (.int .u32 ((moreN s l : Nat) : Int)) ∧ w = w' := by
  obtain ⟨A, c, rfl, h1, h2, h3⟩ := h.open
  have hn := h.len_le
  have hI := not_eq s hs
  go_enter Try.func19, Try.ntmps19
  have hsg := sgn_u32
  go_wp2
  clear hsg
  go_loop [5, 6] (fun r i => ∃ k : Nat, k ≤ l.length ∧ i = .int .i64 k ∧ r = .int .u32 ((foldN (4294967295 - s) (l.take k) : Nat) : Int)) (fun _ i => l.length - (intOf i).toNat)
  case atStart => exact ⟨0, Nat.zero_le _, rfl, rfl⟩
  case round =>
    obtain ⟨k, hk, rfl, rfl⟩ := hrel
    by_cases hlt : k < l.length
    · obtain ⟨b, off, rfl, hc⟩ := h3 (by omega)
      have hcell := hc k hlt
      have hR := foldN_lt (r := 4294967295 - s) (l.take k) (by omega)
      have hX := xorb_eq (foldN (4294967295 - s) (l.take k)) (l.getD k 0).toNat hR (by have := (l.getD k 0).toNat_lt; omega)
      have hX1 := xorb_lt (l.getD k 0) hR
      have hS := Go.Lib.hid (foldN_snoc (4294967295 - s) l k hlt)
      rw [show (((l.getD k 0).toNat : Nat) : Int) = bt l k from rfl] at hX
      have hE := Go.Lib.hid (show byteN (foldN (4294967295 - s) (l.take k)) (l.getD k 0) = iterN 8 (foldN (4294967295 - s) (l.take k) ^^^ (l.getD k 0).toNat) from rfl)
      generalize foldN (4294967295 - s) (l.take k) ^^^ (l.getD k 0).toNat = R0 at hX hX1 hE
      go_wp2
      clear hX
      go_loop [5, 7] (fun r i => ∃ m : Nat, m ≤ 8 ∧ i = .int .i64 m ∧ r = .int .u32 ((iterN m R0 : Nat) : Int)) (fun _ i => 8 - (intOf i).toNat)
      case atStart => exact ⟨0, by omega, rfl, rfl⟩
      case round =>
        obtain ⟨m, hm, rfl, rfl⟩ := hrel
        by_cases hlt8 : m < 8
        · have hL := iterN_lt m hX1
          have hB2 := Go.Lib.hid (show iterN (m + 1) R0 = stepN (iterN m R0) from rfl)
          generalize iterN m R0 = R1 at hB2 hL
          have hA := and1_eq R1 hL
          by_cases hodd : R1 % 2 = 1
          · have hB := rbit1_eq R1 hL hodd
            rw [hodd] at hA
            clear hodd
            go_wp2
            go_round
            case rel => exact ⟨m + 1, by omega, by go_num, by rw [hB2.out]⟩
            case measure => simp [intOf]; omega
          · have hB := rbit0_eq R1 hodd
            rw [show R1 % 2 = 0 from by omega] at hA
            clear hodd
            go_wp2
            go_round
            case rel => exact ⟨m + 1, by omega, by go_num, by rw [hB2.out]⟩
            case measure => simp [intOf]; omega
        · obtain rfl : m = 8 := by omega
          go_wp2
          go_round
          case rel => exact ⟨k + 1, by omega, by go_num, by rw [hS.out, hE.out]⟩
          case measure => simp [intOf]; omega
    · obtain rfl : k = l.length := by omega
      rw [List.take_length]
      have hT := not_eq _ (foldN_lt (r := 4294967295 - s) l (by omega))
      have hsg := sgn_u32
      go_wp2
      go_ret
      exact ⟨rfl, rfl⟩
theorem sum_c (v : Value) (l : List UInt8) (w : World) (h : Rd w v l) :
    Calls Try.prog 15 #[v] w fun e w' => e = .returned (.int .u32 ((moreN 0 l : Nat) : Int)) ∧ w = w' := by
  go_enter Try.func15, Try.ntmps15
  go_wp2_with (refine (more_c 0 _ l _ (by omega) h).mono ?_; rintro e w' ⟨rfl, rfl⟩)
  go_ret
  exact ⟨rfl, rfl⟩
theorem rsum_c (v : Value) (l : List UInt8) (w : World) (h : Rd w v l) :
    Calls Try.prog 17 #[v] w fun e w' => e = .returned (.int .u32 ((moreN 0 l : Nat) : Int)) ∧ w = w' := by
  go_enter Try.func17, Try.ntmps17
  go_wp2_with (refine (rmore_c 0 _ l _ (by omega) h).mono ?_; rintro e w' ⟨rfl, rfl⟩)
  go_ret
  exact ⟨rfl, rfl⟩
end Go.Proofs.Ytpjpmgpehpigaaa
