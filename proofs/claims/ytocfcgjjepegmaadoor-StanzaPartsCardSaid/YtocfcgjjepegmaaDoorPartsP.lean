/- StanzaParts: the plain law. -/
import Derived.Test.YtocfcgjjepegmaaDoorStz11
set_option linter.unusedVariables false
set_option linter.unusedSimpArgs false
namespace Go.Proofs.YtocfcgjjepegmaaDoor
open Go.RowKit
def tabL : List (List UInt8) := [[], [65], [84], [84], [65, 70], [], [65, 84, 78], [84], [78], [65, 66, 76], [65], [65], [65], [65], [65], [65, 76], [65], [65], [65], [70], [45], [45], [45], [45], [45], [45], [45], [45], [45], [45], [45], [76], [84], [84], [78], [78], [78], [65, 66, 84, 76, 78], [65, 78], [78], [65, 66, 84, 76, 78], [65, 66, 84], [65], [65], [65], [65], [78]]
def partsB (K : Nat) : List UInt8 := if 0 < K ∧ K < 47 then tabL.getD K [] else [45]
def letB : List UInt8 := [32, 65, 66, 84, 76, 78, 70]
def hasJ (K i j : Nat) : Bool := decide (i = 0) || ((partsB K).take j).any (· == letB.getD i 0)
/-- The i-th of the seven stanzas. -/
def stzP (K idn : Nat) : Nat → Stz
  | 0 => ⟨K, idn, [], [], [], [], 0, 0⟩
  | 1 => ⟨K, idn, [120], [], [], [], 0, 0⟩
  | 2 => ⟨K, idn, [], [120], [], [], 0, 0⟩
  | 3 => ⟨K, idn, [], [], [120], [], 0, 0⟩
  | 4 => ⟨K, idn, [], [], [], [[]], 0, 0⟩
  | 5 => ⟨K, idn, [], [], [], [], -1, 0⟩
  | _ => ⟨K, idn, [], [], [], [], 0, 4602678819172646912⟩
def bitP : Nat → Nat
  | 0 => 0 | 1 => 1 | 2 => 2 | 3 => 4 | 4 => 8 | 5 => 16 | _ => 32
def errP (K i : Nat) : Int := if partsB K = [45] then 3 else if hasJ K i (partsB K).length = true then 0 else 2
theorem parts_tab : ∀ K : Fin 60, ∀ i : Fin 7, (partsB K.val = [45] ↔ partsI (K.val : Int) < 0) ∧ (0 ≤ partsI (K.val : Int) → (outB (bitP i.val) (partsI (K.val : Int)).toNat = !hasJ K.val i.val (partsB K.val).length)) := by decide +kernel
theorem textE_x : textE [120] = 0 := by decide +kernel
theorem textE_0 : textE [] = 0 := by decide +kernel
theorem check_p (K i idn : Nat) (hK : K < 60) (hi : i < 7) : checkI (stzP K idn i) = errP K i := by
  obtain ⟨h1, h2⟩ := parts_tab ⟨K, hK⟩ ⟨i, hi⟩
  simp only at h1 h2
  have hk : (stzP K idn i).kind = K := by
    rcases (by omega : i = 0 ∨ i = 1 ∨ i = 2 ∨ i = 3 ∨ i = 4 ∨ i = 5 ∨ i = 6) with rfl | rfl | rfl | rfl | rfl | rfl | rfl <;> rfl
  have ht : thereI (stzP K idn i) = bitP i := by
    rcases (by omega : i = 0 ∨ i = 1 ∨ i = 2 ∨ i = 3 ∨ i = 4 ∨ i = 5 ∨ i = 6) with rfl | rfl | rfl | rfl | rfl | rfl | rfl <;> rfl
  have hf : firstE [(stzP K idn i).a, (stzP K idn i).b, (stzP K idn i).t] = 0 ∧ (stzP K idn i).l.length ≤ 64 ∧ firstE (stzP K idn i).l = 0 := by
    rcases (by omega : i = 0 ∨ i = 1 ∨ i = 2 ∨ i = 3 ∨ i = 4 ∨ i = 5 ∨ i = 6) with rfl | rfl | rfl | rfl | rfl | rfl | rfl <;> (unfold stzP; simp [firstE, textE_x, textE_0])
  unfold checkI errP
  rw [hk, ht, hf.1]
  by_cases hp : partsI (K : Int) < 0
  · rw [if_pos hp, if_pos (h1.2 hp)]
  · rw [if_neg hp, if_neg (fun e => hp (h1.1 e)), h2 (by omega)]
    cases hasJ K i (partsB K).length
    · simp
    · simp
      have := hf.2.1
      have h3 := hf.2.2
      rw [if_neg (by omega)]
      exact h3
end Go.Proofs.YtocfcgjjepegmaaDoor
