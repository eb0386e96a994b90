/- Base64, plain: what is written, what is read, and that the one undoes the other. -/
import Derived.Lib.TrimByte
import Derived.Lib.Bytealg
set_option linter.unusedVariables false
set_option linter.unusedSimpArgs false
namespace Go.Proofs.YtfnlcnjflloecaaDoor
open Go
def digs : List UInt8 := [65, 66, 67, 68, 69, 70, 71, 72, 73, 74, 75, 76, 77, 78, 79, 80, 81, 82, 83, 84, 85, 86, 87, 88, 89, 90, 97, 98, 99, 100, 101, 102, 103, 104, 105, 106, 107, 108, 109, 110, 111, 112, 113, 114, 115, 116, 117, 118, 119, 120, 121, 122, 48, 49, 50, 51, 52, 53, 54, 55, 56, 57, 43, 47]
def dg (n : Nat) : UInt8 := digs.getD (n % 64) 0
def tri (l : List UInt8) : Nat := (l.getD 0 0).toNat * 65536 + (l.getD 1 0).toNat * 256 + (l.getD 2 0).toNat
def enc4 (n k : Nat) : List UInt8 := [dg (n / 262144), dg (n / 4096), if 2 ≤ k then dg (n / 64) else 61, if 3 ≤ k then dg n else 61]
def encL : List UInt8 → List UInt8
  | [] => []
  | a :: l => enc4 (tri (a :: l)) (min (l.length + 1) 3) ++ encL (l.drop 2)
termination_by l => l.length
decreasing_by simp; omega
theorem idx_fin : ∀ v : Fin 64, Lib.indexByte digs (dg v.val) = (v.val : Int) := by decide +kernel
theorem dg_mod (n : Nat) : dg (n % 64) = dg n := by unfold dg; rw [Nat.mod_mod]
theorem idx_dg (n : Nat) : Lib.indexByte digs (dg n) = ((n % 64 : Nat) : Int) := by
  rw [← dg_mod]
  exact idx_fin ⟨n % 64, Nat.mod_lt _ (by omega)⟩
theorem idx_pad : Lib.indexByte digs 61 = -1 := by decide +kernel
theorem dg_pad (n : Nat) : dg n ≠ 61 := fun h => by
  have h1 := idx_dg n
  rw [h, idx_pad] at h1
  omega
theorem idx_range : ∀ (l : List UInt8) (c : UInt8), Lib.indexByte l c = -1 ∨ (0 ≤ Lib.indexByte l c ∧ Lib.indexByte l c < l.length)
  | [], c => .inl rfl
  | b :: l, c => by
    unfold Lib.indexByte
    split
    · exact .inr ⟨by omega, by simp⟩
    · split
      · exact .inl rfl
      · rcases idx_range l c with h | ⟨h1, h2⟩
        · rename_i h3; simp [h] at h3
        · refine .inr ⟨by omega, by simp; omega⟩
def decB : List UInt8 → Nat → Nat → List UInt8 → Option (List UInt8)
  | [], _, _, out => some out
  | c :: l, n, bits, out =>
    if Lib.indexByte digs c < 0 then none
    else if 8 ≤ bits + 6 then decB l ((n * 64 + (Lib.indexByte digs c).toNat) % 4294967296) (bits + 6 - 8) (out ++ [UInt8.ofNat ((n * 64 + (Lib.indexByte digs c).toNat) % 4294967296 / 2 ^ (bits + 6 - 8))])
    else decB l ((n * 64 + (Lib.indexByte digs c).toNat) % 4294967296) (bits + 6) out
theorem decB_dg (l : List UInt8) (v n bits : Nat) (out : List UInt8) : decB (dg v :: l) n bits out = (if 8 ≤ bits + 6 then decB l ((n * 64 + v % 64) % 4294967296) (bits + 6 - 8) (out ++ [UInt8.ofNat ((n * 64 + v % 64) % 4294967296 / 2 ^ (bits + 6 - 8))]) else decB l ((n * 64 + v % 64) % 4294967296) (bits + 6) out) := by
  rw [decB, idx_dg]
  simp only [Int.toNat_natCast]
  rw [if_neg (by omega)]
theorem tri_lt (l : List UInt8) : tri l < 16777216 := by
  unfold tri
  have h1 := (l.getD 0 0).toNat_lt
  have h2 := (l.getD 1 0).toNat_lt
  have h3 := (l.getD 2 0).toNat_lt
  omega
theorem ofNat_u8 (x : UInt8) (n : Nat) (h : n % 256 = x.toNat) : UInt8.ofNat n = x := by
  apply UInt8.toNat_inj.1
  rw [UInt8.toNat_ofNat']
  exact h
theorem trimR_append (p q : List UInt8) (d : UInt8) (hd : d ≠ 61) : Lib.trimRightB (p ++ [d] ++ q) 61 = p ++ [d] ++ Lib.trimRightB q 61 := by
  unfold Lib.trimRightB
  rw [List.reverse_append, List.dropWhile_append]
  have h1 : List.dropWhile (fun x => x == 61) (p ++ [d]).reverse = (p ++ [d]).reverse := by
    rw [List.reverse_append]
    simp [hd]
  split
  · rename_i h
    rw [h1, List.isEmpty_iff.1 h, List.reverse_reverse]; simp
  · rw [List.reverse_append, List.reverse_reverse]
set_option maxRecDepth 10000 in
theorem dec_enc : ∀ (k : Nat) (x : List UInt8), x.length ≤ k → ∀ (n : Nat) (out : List UInt8), decB (Lib.trimRightB (encL x) 61) n 0 out = some (out ++ x) := by
  intro k
  induction k with
  | zero =>
    intro x hx n out
    obtain rfl := List.eq_nil_of_length_eq_zero (by omega : x.length = 0)
    simp [encL, Lib.trimRightB, decB]
  | succ k ih =>
    intro x hx n out
    match x, hx with
    | [], _ => simp [encL, Lib.trimRightB, decB]
    | [a], _ =>
      have e : encL [a] = [dg (tri [a] / 262144)] ++ [dg (tri [a] / 4096)] ++ [61, 61] := by simp [encL, enc4]
      rw [e, trimR_append _ _ _ (dg_pad _)]
      have ha := a.toNat_lt
      have et : tri [a] = a.toNat * 65536 := by simp [tri]
      rw [et, show Lib.trimRightB [61, 61] 61 = [] from rfl, List.append_nil, List.cons_append, List.nil_append, decB_dg, if_neg (by omega), decB_dg, if_pos (by omega), decB]
      congr 2
      rw [ofNat_u8 a _ (by simp; omega)]
    | [a, b], _ =>
      have e : encL [a, b] = [dg (tri [a, b] / 262144), dg (tri [a, b] / 4096)] ++ [dg (tri [a, b] / 64)] ++ [61] := by simp [encL, enc4]
      rw [e, trimR_append _ _ _ (dg_pad _)]
      have ha := a.toNat_lt
      have hb := b.toNat_lt
      have et : tri [a, b] = a.toNat * 65536 + b.toNat * 256 := by simp [tri]
      rw [et, show Lib.trimRightB [61] 61 = [] from rfl, List.append_nil, List.cons_append, List.cons_append, List.nil_append, decB_dg, if_neg (by omega), decB_dg, if_pos (by omega), decB_dg, if_pos (by omega), decB]
      congr 1
      rw [ofNat_u8 a _ (by simp; omega), ofNat_u8 b _ (by simp; omega)]
      simp
    | a :: b :: c :: r, hx =>
      have e : encL (a :: b :: c :: r) = [dg (tri (a :: b :: c :: r) / 262144), dg (tri (a :: b :: c :: r) / 4096), dg (tri (a :: b :: c :: r) / 64)] ++ [dg (tri (a :: b :: c :: r))] ++ encL r := by rw [encL]; simp [enc4]
      rw [e, trimR_append _ _ _ (dg_pad _)]
      have ha := a.toNat_lt
      have hb := b.toNat_lt
      have hc := c.toNat_lt
      have et : tri (a :: b :: c :: r) = a.toNat * 65536 + b.toNat * 256 + c.toNat := by simp [tri]
      rw [et]
      simp only [List.cons_append, List.nil_append]
      rw [decB_dg, if_neg (by omega), decB_dg, if_pos (by omega), decB_dg, if_pos (by omega), decB_dg, if_pos (by omega)]
      rw [ofNat_u8 a _ (by simp; omega), ofNat_u8 b _ (by simp; omega), ofNat_u8 c _ (by simp; omega)]
      rw [ih r (by simp at hx; omega)]
      simp
theorem pdec_enc (x : List UInt8) : decB (Lib.trimRightB (encL x) 61) 0 0 [] = some x := by rw [dec_enc x.length x (Nat.le_refl _)]; rfl
theorem encL_inj {x y : List UInt8} (h : encL x = encL y) : x = y := by
  have h1 := pdec_enc x
  rw [h, pdec_enc y] at h1
  exact (Option.some.inj h1).symm
theorem encL_len : ∀ (k : Nat) (x : List UInt8), x.length ≤ k → (encL x).length = (x.length + 2) / 3 * 4 := by
  intro k
  induction k with
  | zero =>
    intro x hx
    obtain rfl := List.eq_nil_of_length_eq_zero (by omega : x.length = 0)
    simp [encL]
  | succ k ih =>
    intro x hx
    match x, hx with
    | [], _ => simp [encL]
    | a :: l, hx =>
      rw [encL]
      have := ih (l.drop 2) (by simp at hx ⊢; omega)
      simp only [List.length_append, this, enc4, List.length_cons, List.length_nil, List.length_drop]
      omega
theorem encL_append : ∀ (k : Nat) (x y : List UInt8), x.length = 3 * k → encL (x ++ y) = encL x ++ encL y := by
  intro k
  induction k with
  | zero =>
    intro x y hx
    obtain rfl := List.eq_nil_of_length_eq_zero (by omega : x.length = 0)
    simp [encL]
  | succ k ih =>
    intro x y hx
    match x, hx with
    | a :: b :: c :: r, hx =>
      have e : ∀ r, encL (a :: b :: c :: r) = [dg (tri [a, b, c] / 262144), dg (tri [a, b, c] / 4096), dg (tri [a, b, c] / 64), dg (tri [a, b, c])] ++ encL r := by intro r; rw [encL]; simp [enc4, tri]
      rw [List.cons_append, List.cons_append, List.cons_append, e, e, ih r y (by simp at hx; omega), List.append_assoc]
/-! ### the reference's reading -/
def didx (c : UInt8) : Nat := if Lib.indexByte digs c = -1 then 64 else (Lib.indexByte digs c).toNat
def rst (s : Nat × Nat) (c : UInt8) : Nat × Nat := if didx c = 64 then (s.1 * 64, s.2 + 1) else (s.1 * 64 + didx c, s.2)
def rb (n : Nat) : List UInt8 := [UInt8.ofNat (n / 65536), UInt8.ofNat (n / 256), UInt8.ofNat n]
def rdecL : List UInt8 → List UInt8
  | a :: b :: c :: d :: l => let s := rst (rst (rst (rst (0, 0) a) b) c) d
    (rb s.1).take (3 - s.2) ++ rdecL l
  | _ => []
theorem didx_dg (n : Nat) : didx (dg n) = n % 64 := by unfold didx; rw [idx_dg, if_neg (by omega), Int.toNat_natCast]
theorem rst_dg (s : Nat × Nat) (n : Nat) : rst s (dg n) = (s.1 * 64 + n % 64, s.2) := by unfold rst; rw [didx_dg, if_neg (by omega)]
theorem rst_pad (s : Nat × Nat) : rst s 61 = (s.1 * 64, s.2 + 1) := by
  have : didx 61 = 64 := by unfold didx; rw [idx_pad]; rfl
  unfold rst; rw [this, if_pos rfl]
theorem rdec_enc : ∀ (k : Nat) (x : List UInt8), x.length ≤ k → rdecL (encL x) = x := by
  intro k
  induction k with
  | zero =>
    intro x hx
    obtain rfl := List.eq_nil_of_length_eq_zero (by omega : x.length = 0)
    simp [encL, rdecL]
  | succ k ih =>
    intro x hx
    match x, hx with
    | [], _ => simp [encL, rdecL]
    | [a], _ =>
      have e : encL [a] = [dg (tri [a] / 262144), dg (tri [a] / 4096), 61, 61] := by simp [encL, enc4]
      have ha := a.toNat_lt
      have et : tri [a] = a.toNat * 65536 := by simp [tri]
      rw [e, et, rdecL, rst_dg, rst_dg, rst_pad, rst_pad]
      simp only [rdecL, rb, List.append_nil, List.take_succ_cons, List.take_zero, Nat.zero_mul, Nat.zero_add]
      rw [ofNat_u8 a _ (by omega)]
    | [a, b], _ =>
      have e : encL [a, b] = [dg (tri [a, b] / 262144), dg (tri [a, b] / 4096), dg (tri [a, b] / 64), 61] := by simp [encL, enc4]
      have ha := a.toNat_lt
      have hb := b.toNat_lt
      have et : tri [a, b] = a.toNat * 65536 + b.toNat * 256 := by simp [tri]
      rw [e, et, rdecL, rst_dg, rst_dg, rst_dg, rst_pad]
      simp only [rdecL, rb, List.append_nil, List.take_succ_cons, List.take_zero, Nat.zero_mul, Nat.zero_add]
      rw [ofNat_u8 a _ (by omega), ofNat_u8 b _ (by omega)]
    | a :: b :: c :: r, hx =>
      have e : encL (a :: b :: c :: r) = dg (tri [a, b, c] / 262144) :: dg (tri [a, b, c] / 4096) :: dg (tri [a, b, c] / 64) :: dg (tri [a, b, c]) :: encL r := by rw [encL]; simp [enc4, tri]
      have ha := a.toNat_lt
      have hb := b.toNat_lt
      have hc := c.toNat_lt
      have et : tri [a, b, c] = a.toNat * 65536 + b.toNat * 256 + c.toNat := by simp [tri]
      rw [e, et, rdecL, rst_dg, rst_dg, rst_dg, rst_dg]
      simp only [rb, Nat.sub_zero, List.take_succ_cons, List.take_zero, Nat.zero_mul, Nat.zero_add]
      rw [ofNat_u8 a _ (by omega), ofNat_u8 b _ (by omega), ofNat_u8 c _ (by omega), ih r (by simp at hx; omega)]
      rfl
end Go.Proofs.YtfnlcnjflloecaaDoor
