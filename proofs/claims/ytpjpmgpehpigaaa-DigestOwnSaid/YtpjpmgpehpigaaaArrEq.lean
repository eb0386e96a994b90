/- Two arrays of bytes compared. -/
import Derived.Test.YtpjpmgpehpigaaaDigXor
import Derived.ChangeKeysEq
set_option linter.unusedVariables false
set_option linter.unusedSimpArgs false
namespace Go.Proofs.Ytpjpmgpehpigaaa
open Go.RowKit
theorem eqItems8 (w : World) (d : Nat) (a b : List UInt8) : ∀ is : List Nat, (∀ i ∈ is, i < a.length ∧ i < b.length) →
    (Op.eqItems (d + 1) 5 1 (bvs a).toArray (bvs b).toArray is).run Try.prog w = .ok (is.all fun i => decide (a.getD i 0 = b.getD i 0)) w
  | [], _ => by simp [Op.eqItems]
  | i :: is, h => by
    have hi := h i (by simp)
    have ih := eqItems8 w d a b is (fun j hj => h j (by simp [hj]))
    have hp : Try.prog.plainKey 5 = true := by kernel_rfl
    have p1 : (part 5 (bvs a).toArray (i * 1)).run Try.prog w = .ok (.int .u8 (bt a i)) w := run_part_plain w hp (by simpa using bvs_get a i hi.1)
    have p2 : (part 5 (bvs b).toArray (i * 1)).run Try.prog w = .ok (.int .u8 (bt b i)) w := run_part_plain w hp (by simpa using bvs_get b i hi.2)
    have p3 := run_equalIn_int (P := Try.prog) (w := w) d 5 .u8 .u8 (bt a i) (bt b i) Try.underlying5
    have hb : (bt a i == bt b i) = decide (a.getD i 0 = b.getD i 0) := by
      unfold bt
      rw [Bool.eq_iff_iff]
      simp only [beq_iff_eq, decide_eq_true_eq]
      constructor
      · intro h; exact UInt8.toNat_inj.1 (by omega)
      · intro h; rw [h]
    simp only [Op.eqItems, Sem.run_bind, p1, p2, p3, Result.andThen_ok, hb, List.all_cons]
    cases hd : decide (a.getD i 0 = b.getD i 0)
    · simp
    · simpa using ih
@[go_sem] theorem eq32_run (w : World) (a b : List UInt8) (ha : a.length = 32) (hb : b.length = 32) :
    (Op.equalIn 10000 33 (.agg (bvs a).toArray) (.agg (bvs b).toArray)).run Try.prog w = .ok (decide (a = b)) w := by
  obtain ⟨i, hi⟩ := info_of_underlying Try.underlying5
  have hc : Try.prog.cellsOf 5 = 1 := by kernel_rfl
  rw [show (10000 : Nat) = 9999 + 1 from rfl, run_equalIn_array w 9999 _ _ Try.underlying33 hi, hc]
  rw [eqItems8 w 9998 a b _ (fun j hj => by have := List.mem_range.1 hj; omega)]
  congr 1
  rw [Bool.eq_iff_iff]
  simp only [List.all_eq_true, List.mem_range, decide_eq_true_eq]
  constructor
  · intro h
    apply List.ext_getElem (by omega)
    intro j h1 h2
    have := h j (by omega)
    simpa [List.getD_eq_getElem?_getD, h1, h2] using this
  · rintro rfl j _; rfl
end Go.Proofs.Ytpjpmgpehpigaaa
