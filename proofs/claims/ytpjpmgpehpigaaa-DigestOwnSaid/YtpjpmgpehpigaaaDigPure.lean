/- The plain side of SHA-256: words, rounds, blocks, padding; over whole numbers, in the code's own turns. -/
import Derived.Test.YtpjpmgpehpigaaaBase
set_option linter.unusedVariables false
set_option linter.unusedSimpArgs false
namespace Go.Proofs.Ytpjpmgpehpigaaa
open Go.RowKit
def U32 (x : Int) : Prop := 0 ≤ x ∧ x < 4294967296
def u32s (l : List Int) : List Value := l.map (.int .u32)
theorem u32s_length (l : List Int) : (u32s l).length = l.length := by simp [u32s]
theorem u32s_get (l : List Int) (j : Nat) (h : j < l.length) : (u32s l)[j]? = some (.int .u32 (l.getD j 0)) := by simp [u32s, List.getElem?_eq_getElem h, List.getD_eq_getElem?_getD]
theorem u32s_one (l : List Int) : ∀ u ∈ u32s l, u.oneCell' = true := by intro u hu; obtain ⟨b, _, rfl⟩ := List.mem_map.1 hu; rfl
theorem u32s_set (l : List Int) (j : Nat) (x : Int) : (u32s l).set j (.int .u32 x) = u32s (l.set j x) := by simp [u32s, List.map_set]
theorem bits_u32 (op : BinOp) (a b : Int) : U32 (bits op .u32 a b) := by
  have : ∀ n : Nat, U32 (IntKind.u32.wrap (n : Int)) := fun n => by rw [IntKind.wrap_u32']; unfold U32; omega
  unfold bits
  split <;> first | exact this _ | (unfold U32; omega)
/-- A word turned to the right. -/
def rotI (x : Int) (n : Nat) : Int := bits .or .u32 (x / 2 ^ n) (x * 2 ^ (32 - n) % 4294967296)
theorem rotI_u (x : Int) (n : Nat) : U32 (rotI x n) := bits_u32 ..
theorem bits_or_comm (k : IntKind) (a b : Int) : bits .or k a b = bits .or k b a := by
  unfold bits; simp [BitVec.or_comm]
theorem and31 (n : Nat) (hn : 1 ≤ n) (hn2 : n ≤ 31) : bits .and .u64 (IntKind.u64.wrap (-(n : Int))) 31 = 32 - (n : Int) := by
  rw [IntKind.wrap_u64, show (-(n : Int)) % 18446744073709551616 = ((18446744073709551616 - n : Nat) : Int) from by omega, show (31 : Int) = ((31 : Nat) : Int) from rfl, u64_and_nat _ _ (by omega) (by omega), nat_mask5]
  omega
def hI : List Int := [1779033703, 3144134277, 1013904242, 2773480762, 1359893119, 2600822924, 528734635, 1541459225]
def kI : List Int := [1116352408, 1899447441, 3049323471, 3921009573, 961987163, 1508970993, 2453635748, 2870763221, 3624381080, 310598401, 607225278, 1426881987, 1925078388, 2162078206, 2614888103, 3248222580, 3835390401, 4022224774, 264347078, 604807628, 770255983, 1249150122, 1555081692, 1996064986, 2554220882, 2821834349, 2952996808, 3210313671, 3336571891, 3584528711, 113926993, 338241895, 666307205, 773529912, 1294757372, 1396182291, 1695183700, 1986661051, 2177026350, 2456956037, 2730485921, 2820302411, 3259730800, 3345764771, 3516065817, 3600352804, 4094571909, 275423344, 430227734, 506948616, 659060556, 883997877, 958139571, 1322822218, 1537002063, 1747873779, 1955562222, 2024104815, 2227730452, 2361852424, 2428436474, 2756734187, 3204031479, 3329325298]
def sig1 (x : Int) : Int := bits .xor .u32 (bits .xor .u32 (rotI x 17) (rotI x 19)) (x / 1024)
def sig0 (x : Int) : Int := bits .xor .u32 (bits .xor .u32 (rotI x 7) (rotI x 18)) (x / 8)
def nextI (l : List Int) (t : Nat) : Int := (((sig1 (l.getD (t - 2) 0) + l.getD (t - 7) 0) % 4294967296 + sig0 (l.getD (t - 15) 0)) % 4294967296 + l.getD (t - 16) 0) % 4294967296
/-- A word out of bytes from place o on: so many of its four. -/
def beI (b : List UInt8) (o : Nat) : Nat → Int
  | 0 => 0
  | i + 1 => bits .or .u32 (beI b o i * 256 % 4294967296) (bt b (o + i))
def wl (b : List UInt8) : Nat → List Int
  | 0 => []
  | t + 1 => wl b t ++ [if t < 16 then beI b (4 * t) 4 else nextI (wl b t) t]
theorem wl_len (b : List UInt8) (t : Nat) : (wl b t).length = t := by
  induction t with
  | zero => rfl
  | succ t ih => simp [wl, ih]
theorem beI_u (b : List UInt8) (o i : Nat) : U32 (beI b o i) := by
  cases i with
  | zero => unfold beI U32; omega
  | succ i => exact bits_u32 ..
theorem mod_u (x : Int) : U32 (x % 4294967296) := by unfold U32; omega
theorem wl_u (b : List UInt8) (t : Nat) : ∀ x ∈ wl b t, U32 x := by
  induction t with
  | zero => intro x h; cases h
  | succ t ih =>
    intro x h
    simp only [wl, List.mem_append, List.mem_singleton] at h
    rcases h with h | rfl
    · exact ih x h
    · split
      · exact beI_u ..
      · exact mod_u ..
theorem getD_u {l : List Int} (h : ∀ x ∈ l, U32 x) (j : Nat) : U32 (l.getD j 0) := by
  rw [List.getD_eq_getElem?_getD]
  by_cases hj : j < l.length
  · rw [List.getElem?_eq_getElem hj]; exact h _ (List.getElem_mem hj)
  · rw [List.getElem?_eq_none (by omega)]; unfold U32; simp
end Go.Proofs.Ytpjpmgpehpigaaa
