/- utf8.word over bytes: the number that the first eight bytes spell. -/
import Derived.Test.YtfnlcnjflloecaaDoorMore
import Derived.Lib.ValidAsc
import Derived.Lib.EndianBits
import Derived.Lib.Endian
import Derived.Shelf.Unicode.WordAny
set_option linter.unusedVariables false
set_option linter.unusedSimpArgs false
namespace Go.Proofs.YtfnlcnjflloecaaDoor
open Go.RowKit
/-- A slice that is written out: where its bytes lie. -/
def Sp (w : World) (b off n : Nat) (l : List UInt8) : Prop := n = l.length ∧ ∀ j, j < n → w.cell? ⟨b, off + j, none⟩ = some (.int .u8 (bt l j))
theorem Sp.below {w w' : World} {b off n : Nat} {l : List UInt8} (h : Sp w b off n l) (hb : Below w.heap.size w w') : Sp w' b off n l :=
  ⟨h.1, fun j hj => by rw [hb.cell (World.block_lt_of_cell? w _ (h.2 j hj))]; exact h.2 j hj⟩
theorem Rd.sp {w : World} {v : Value} {l : List UInt8} (h : Rd w v l) (h0 : 0 < l.length) : ∃ b off c, v = .slice (some ⟨b, off, none⟩) l.length c ∧ l.length ≤ c ∧ c ≤ maxLen ∧ Sp w b off l.length l := by
  obtain ⟨A, c, rfl, h1, h2, h3⟩ := h.open
  obtain ⟨b, off, rfl, hc⟩ := h3 h0
  exact ⟨b, off, c, rfl, h1, h2, rfl, hc⟩
theorem Sp.drop {w : World} {b off n k : Nat} {l : List UInt8} (h : Sp w b off n l) : Sp w b (off + k) (n - k) (l.drop k) :=
  ⟨by rw [List.length_drop, h.1], fun j hj => by
    rw [Nat.add_assoc, h.2 (k + j) (by omega)]
    unfold bt
    simp [List.getD_eq_getElem?_getD]⟩
def le8 (l : List UInt8) : Nat := Lib.leNat (l.take 8)
theorem le8_lt (l : List UInt8) : le8 l < 18446744073709551616 := by
  have h := Lib.leNat_lt (l.take 8)
  have h2 : 256 ^ (l.take 8).length ≤ 256 ^ 8 := Nat.pow_le_pow_right (by omega) (by simp; omega)
  have e : (256 : Nat) ^ 8 = 18446744073709551616 := by decide
  unfold le8; omega
set_option maxRecDepth 100000 in
set_option maxHeartbeats 8000000 in
theorem word_c (w : World) (b off n c : Nat) (l : List UInt8) (h : Sp w b off n l) (h8 : 8 ≤ n) (hc : n ≤ c) :
    Calls Tryd.prog 138 #[.slice (some ⟨b, off, none⟩) n c] w fun e w' => e = .returned (.int .u64 (le8 l)) ∧ ∃ q, w' = w.drewN q := by
  have hl := h.1
  obtain ⟨x0, x1, x2, x3, x4, x5, x6, x7, r, rfl⟩ : ∃ x0 x1 x2 x3 x4 x5 x6 x7 r, l = x0 :: x1 :: x2 :: x3 :: x4 :: x5 :: x6 :: x7 :: r := by
    match l, hl with
    | x0 :: x1 :: x2 :: x3 :: x4 :: x5 :: x6 :: x7 :: r, _ => exact ⟨x0, x1, x2, x3, x4, x5, x6, x7, r, rfl⟩
    | [], hl => simp at hl; omega
    | [_], hl => simp at hl; omega
    | [_, _], hl => simp at hl; omega
    | [_, _, _], hl => simp at hl; omega
    | [_, _, _, _], hl => simp at hl; omega
    | [_, _, _, _, _], hl => simp at hl; omega
    | [_, _, _, _, _, _], hl => simp at hl; omega
    | [_, _, _, _, _, _, _], hl => simp at hl; omega
  have c0 : w.cell? ⟨b, off, none⟩ = some (.int .u8 (x0.toNat : Int)) := h.2 0 (by omega)
  have c1 : w.cell? ⟨b, off + 1, none⟩ = some (.int .u8 (x1.toNat : Int)) := h.2 1 (by omega)
  have c2 : w.cell? ⟨b, off + 2, none⟩ = some (.int .u8 (x2.toNat : Int)) := h.2 2 (by omega)
  have c3 : w.cell? ⟨b, off + 3, none⟩ = some (.int .u8 (x3.toNat : Int)) := h.2 3 (by omega)
  have c4 : w.cell? ⟨b, off + 4, none⟩ = some (.int .u8 (x4.toNat : Int)) := h.2 4 (by omega)
  have c5 : w.cell? ⟨b, off + 5, none⟩ = some (.int .u8 (x5.toNat : Int)) := h.2 5 (by omega)
  have c6 : w.cell? ⟨b, off + 6, none⟩ = some (.int .u8 (x6.toNat : Int)) := h.2 6 (by omega)
  have c7 : w.cell? ⟨b, off + 7, none⟩ = some (.int .u8 (x7.toNat : Int)) := h.2 7 (by omega)
  have h0 : x0.toNat < 256 := x0.toNat_lt
  have h1 : x1.toNat < 256 := x1.toNat_lt
  have h2 : x2.toNat < 256 := x2.toNat_lt
  have h3 : x3.toNat < 256 := x3.toNat_lt
  have h4 : x4.toNat < 256 := x4.toNat_lt
  have h5 : x5.toNat < 256 := x5.toNat_lt
  have h6 : x6.toNat < 256 := x6.toNat_lt
  have h7 : x7.toNat < 256 := x7.toNat_lt
  have e : le8 (x0 :: x1 :: x2 :: x3 :: x4 :: x5 :: x6 :: x7 :: r) = Lib.leNat [x0, x1, x2, x3, x4, x5, x6, x7] := rfl
  rw [e]
  clear e h hl
  have hv : ((Lib.leNat [x0, x1, x2, x3, x4, x5, x6, x7] : Nat) : Int) = (x0.toNat : Int) + (x1.toNat : Int) * 256 + (x2.toNat : Int) * 65536 + (x3.toNat : Int) * 16777216 + (x4.toNat : Int) * 4294967296 + (x5.toNat : Int) * 1099511627776 + (x6.toNat : Int) * 281474976710656 + (x7.toNat : Int) * 72057594037927936 := by
    simp only [Lib.leNat]
    push_cast
    omega
  have q0 : (0 : Int) < (n : Int) := by omega
  have p0 : 0 < n := by omega
  have q1 : (1 : Int) < (n : Int) := by omega
  have p1 : 1 < n := by omega
  have q2 : (2 : Int) < (n : Int) := by omega
  have p2 : 2 < n := by omega
  have q3 : (3 : Int) < (n : Int) := by omega
  have p3 : 3 < n := by omega
  have q4 : (4 : Int) < (n : Int) := by omega
  have p4 : 4 < n := by omega
  have q5 : (5 : Int) < (n : Int) := by omega
  have p5 : 5 < n := by omega
  have q6 : (6 : Int) < (n : Int) := by omega
  have p6 : 6 < n := by omega
  have q7 : (7 : Int) < (n : Int) := by omega
  have p7 : 7 < n := by omega
  have mixed : Tryd.prog.follows .mixedOrders = true := by kernel_rfl
  go_enter Tryd.func138, Tryd.ntmps138
  go_wp2
  go_quiet_o (fail)
  go_wp2
  go_ret
  refine ⟨?_, _, rfl⟩
  simp (disch := omega) only [u64_wrap_id, u64_or8, u64_or16, u64_or24, u64_or32, u64_or40, u64_or48, u64_or56]
  rw [hv]
  rfl
theorem word_b (w : World) (b off n c : Nat) (l : List UInt8) (h : Sp w b off n l) (h8 : 8 ≤ n) (hc : n ≤ c) :
    Calls Tryd.prog 138 #[.slice (some ⟨b, off, none⟩) n c] w fun e w' => e = .returned (.int .u64 (le8 l)) ∧ Below w.heap.size w w' :=
  (word_c w b off n c l h h8 hc).mono fun e w' ⟨h1, q, h2⟩ => ⟨h1, by rw [h2]; exact (Below.refl _ _).trans ⟨rfl, rfl, rfl, Nat.le_refl _, fun _ _ => rfl⟩⟩
end Go.Proofs.YtfnlcnjflloecaaDoor
