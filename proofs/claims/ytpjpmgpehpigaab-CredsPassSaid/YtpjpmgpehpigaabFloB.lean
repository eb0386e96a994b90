/- Floats: comparisons by keys, NaN, sums. -/
import Derived.Test.YtpjpmgpehpigaabFloatOrd
import Derived.Test.YtpjpmgpehpigaabArr
import Derived.Laws.Externs
import Derived.Laws.Cover2
import Derived.Laws.FloatArith
set_option linter.unusedVariables false
set_option linter.unusedSimpArgs false
namespace Go.Proofs.Ytpjpmgpehpigaab
open Go.RowKit
theorem f64frombits (w : World) (n : Int) : (callFunc 11 #[.int .u64 n]).run Try.prog w = .ok (.value (.float .f64 n.toNat)) w := by
  rw [run_callFunc_extern (e := Extern.MathFloatBits.float64frombits) Try.func11 (by kernel_rfl) (by kernel_rfl) (by kernel_rfl) (by kernel_rfl)]
  rfl
theorem fcmp_eq (x y : Nat) : FloatKind.f64.format.order x y = if fnan x = true ∨ fnan y = true then none else some (compare (fkey x) (fkey y)) := order_double x y
@[go_sem] theorem f_ne_self (x : Nat) : (FloatKind.f64.format.order x x != some .eq) = fnan x := by
  rw [fcmp_eq]
  cases h : fnan x
  · simp
  · simp
@[go_sem] theorem f_lt (x y : Nat) : (FloatKind.f64.format.order x y == some .lt) = (!fnan x && !fnan y && decide (fkey x < fkey y)) := by
  rw [fcmp_eq]
  cases h : fnan x <;> cases h2 : fnan y <;> simp
  rw [Bool.eq_iff_iff]
  simp [Int.compare_eq_lt]
@[go_sem] theorem f_gt (x y : Nat) : (FloatKind.f64.format.order x y == some .gt) = (!fnan x && !fnan y && decide (fkey y < fkey x)) := by
  rw [fcmp_eq]
  cases h : fnan x <;> cases h2 : fnan y <;> simp
  rw [Bool.eq_iff_iff]
  simp [Int.compare_eq_gt]
@[go_sem] theorem f_eq (x y : Nat) : (FloatKind.f64.format.order x y == some .eq) = (!fnan x && !fnan y && decide (fkey x = fkey y)) := by
  rw [fcmp_eq]
  cases h : fnan x <;> cases h2 : fnan y <;> simp
  rw [Bool.eq_iff_iff]
  simp [Int.compare_eq_eq]
theorem isnan_c (x : Nat) (w : World) : Calls Try.prog 32 #[.float .f64 x] w fun e w' => e = .returned (.bool (fnan x)) ∧ w = w' := by
  go_enter Try.func32, Try.ntmps32
  go_wp2
  go_ret
  exact ⟨rfl, rfl⟩
def ninf : Nat := 18442240474082181120
theorem ninf_nan : fnan ninf = false := by decide
theorem ninf_least (x : Nat) (h : fnan x = false) : fkey ninf ≤ fkey x := by
  have e : fkey ninf = -9218868437227405312 := by decide
  rw [e]
  unfold fnan at h
  rw [decide_eq_false_iff_not] at h
  unfold fkey
  split <;> omega
theorem inf_c (w : World) : Calls Try.prog 44 #[.int .i64 (-1)] w fun e w' => e = .returned (.float .f64 ninf) ∧ w = w' := by
  have hd := fun w' => f64frombits w' 18442240474082181120
  go_enter Try.func44, Try.ntmps44
  go_wp2
  go_ret
  exact ⟨rfl, rfl⟩
/-- r may be the sum of x and y. -/
def SumOk (x y r : Nat) : Prop := (∀ q, FloatKind.f64.format.add x y = some q → r = q) ∧ (FloatKind.f64.format.add x y = none → fnan r = true)
theorem SumOk.cases {x y a b : Nat} (ha : SumOk x y a) (hb : SumOk x y b) : a = b ∨ (fnan a = true ∧ fnan b = true) := by
  cases h : FloatKind.f64.format.add x y with
  | none => exact .inr ⟨ha.2 h, hb.2 h⟩
  | some q => exact .inl ((ha.1 q h).trans (hb.1 q h).symm)
theorem nan_pick (t : Nat) : fnan ((t % 2) * 2 ^ 63 + 0x7ff0000000000000 + 1 + (t / 2) % (2 ^ 52 - 1)) = true := by
  unfold fnan
  rw [decide_eq_true_eq]
  have h1 : t % 2 < 2 := Nat.mod_lt _ (by omega)
  have h2 : (t / 2) % (2 ^ 52 - 1) < 4503599627370495 := Nat.mod_lt _ (by decide)
  generalize (t / 2) % (2 ^ 52 - 1) = m at *
  generalize t % 2 = b at *
  have e : (2 : Nat) ^ 63 = 9223372036854775808 := by decide
  rw [e]
  omega
theorem run_fadd {P : Program} (w : World) (t : TypeId) (x y : Nat) : ∃ r w', (binOp .add t (.float .f64 x) (.float .f64 y)).run P w = .ok (.float .f64 r) w' ∧ (w' = w ∨ w' = w.drew) ∧ SumOk x y r := by
  cases h : FloatKind.f64.format.add x y with
  | some q =>
    refine ⟨q, w, run_float_arith w .add t .f64 x y q h, .inl rfl, fun q' h' => ?_, fun h' => ?_⟩
    · rw [h] at h'; cases h'; rfl
    · rw [h] at h'; cases h'
  | none =>
    refine ⟨_, w.drew, ?_, .inr rfl, fun q' h' => ?_, fun _ => nan_pick (w.tape w.drawn (.nanBits .f64 x y))⟩
    · simp [binOp, Op.floatArith, h, Question.forced, Question.cut]
    · rw [h] at h'; cases h'
theorem G_fadd {P : Program} {w : World} {ops : Array Oper} {rest : List Oper} {a : Act} {Q : Exit → Act → World → Prop} {d : Nat} {x y : Operand} {ty t : TypeId} {t' : TypeId} {pos : String} {after : Array Edge}
    (h : wpList P ops Q ({ dst := some d, op := .binOp .add t x y t', type := ty, pos := pos, after := after, guard := none } :: rest) a w) :
    wpList P ops Q ({ dst := some d, op := .binOp .add t x y t', type := ty, pos := pos, after := after, guard := none } :: rest) a w := h
theorem L_fadd {P : Program} {w : World} {ops : Array Oper} {rest : List Oper} {a : Act} {Q : Exit → Act → World → Prop} {d : Nat} {x y : Operand} {ty t : TypeId} {t' : TypeId} {pos : String} {after : Array Edge} {X Y : Nat}
    (hx : a.eval x = .float .f64 X) (hy : a.eval y = .float .f64 Y)
    (h : ∀ r w', (w' = w ∨ w' = w.drew) → SumOk X Y r → wpList P ops Q rest (a.put (some d) (.float .f64 r)) w') :
    wpList P ops Q ({ dst := some d, op := .binOp .add t x y t', type := ty, pos := pos, after := after, guard := none } :: rest) a w := by
  obtain ⟨r, w', hr, hw, hs⟩ := run_fadd (P := P) w t X Y
  refine wpList_plain rfl fun K hK => ?_
  unfold Oper.wp execOp
  simp [hx, hy, hr, Oper.upon, eqGuard]
  exact hK _ _ (h r w' hw hs)
end Go.Proofs.Ytpjpmgpehpigaab
