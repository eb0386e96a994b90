/- The statement DiskSafe: the law's Go function answers true for every input and turns nothing: its row, out of the walk. No condition. -/
import Derived.Test.YtfnlcnjflloecaaRows
import Derived.Test.YtfnlcnjflloecaaRow
import Derived.Test.YtfnlcnjflloecaaDskH
import Derived.Lib.SmallJoins
import Derived.WalkKit
import Derived.ProofKit
import Derived.OpenShut
import Derived.ShutString
import Derived.ChangeOld
import Derived.Below
import Derived.Test.YtfnlcnjflloecaaRowL
set_option linter.unusedVariables false
set_option linter.unusedSimpArgs false
namespace Go.Proofs.Ytfnlcnjflloecaa.diskSafe
open Go.ChangeShapes Go.WideShapes Go.ChangeAt Go.RowKit Go.Joins
open Go.ChangeMaps (open_string shut_string)
set_option maxRecDepth 100000 in
theorem lifted (os : Os) (started : os.Started) (H : Type) (enc : TypeId × Value → H) :
    ReturnsInHanded {} Try.checked os 4 .any (Rows.diskSafeSpec.pre6 enc Try.prog Try.f4 Rows.diskSafeRow.domain false) (Rows.diskSafeSpec.post enc Try.prog Try.f4 false true false false) := by
  refine returnsInHanded_of_change (C := Try.checked) row_own started (by kernel_rfl) Try.func4
    (ChangeSpec.witness6 (enc := enc) (C := Try.checked) false ⟨#[], #[.agg #[.slice none 0 0, .slice none 0 0, .int .i64 0, .slice none 0 0]], []⟩ 8 (by kernel_rfl) (by kernel_rfl) (by kernel_rfl) (by kernel_rfl)) ?_
  intro W base args ds gs before hval0 hW hcnd _
  have hval : ∀ (j : Nat) t v, Try.f4.params[j]? = some t → args[j]? = some v → Value.okWide Try.prog W .any base t v := hval0
  have hW' := hW
  obtain ⟨p, q, hA0, hV, rfl, hfz, hnd⟩ := hW
  have hA : DataW.TrodAll enc Try.prog W 0 (fun _ => true) true Try.f4.params.toList args.toList ds p := hA0
  rw [Try.params4] at hA hval
  obtain ⟨v0, vs0, d0, ds0, p0, q0, hargs, rfl, rfl, h0, r0⟩ := trodAll_cons hA
  obtain ⟨rfl, rfl, rfl⟩ := trodAll_nil r0
  obtain rfl : args = #[v0] := by cases args; simp_all
  obtain ⟨rfl, rfl⟩ := trodVars_none hV
  have k0 := h0
  have lt0 : ∀ x ∈ p0, x.block < W.heap.size := by obtain ⟨m, hm⟩ := k0; exact DataW.trod_lt m _ _ _ hm
  obtain ⟨e0, e1, e2, e3, sy0, sy1, sy2, sy3, nn, rfl, rfl, rfl, f0, f1, f2, f3⟩ := open_agg4 Try.underlying58 (by kernel_rfl) (by kernel_rfl) (hval 0 58 v0 rfl rfl) h0
  obtain ⟨A0, n0, cp0, zz0, rfl, ww0⟩ : ∃ A n c zs, e0 = Value.slice A n c ∧ IsRow .u8 W A n c zs := by
    rcases open_ints Try.underlying38 Try.underlying5 (by kernel_rfl) f0 with ⟨hcs, _⟩ | ⟨x, l, c, zs, hcs, _, hl, hm, hz, _, hcell, hwz⟩
    · simp at hcs
      exact ⟨none, 0, 0, [], hcs, .inl ⟨rfl, rfl, rfl, rfl⟩⟩
    · simp at hcs
      exact ⟨some x, l, c, zs, hcs, .inr ⟨_, rfl, hl, hm, by simpa using hz, hcell, hwz⟩⟩
  obtain ⟨l0, g0, _⟩ := rd_of_row ww0
  obtain ⟨l1, g1⟩ := rdl_of Try.underlying32 Try.underlying38 Try.underlying5 (by kernel_rfl) (by kernel_rfl) f1
  obtain ⟨m2, hs2, _, hb2⟩ := DataW.trod_int Try.underlying3 f2
  obtain rfl : e2 = Value.int .i64 m2 := by simpa using hs2
  obtain ⟨A3, n3, cp3, zz3, rfl, ww3⟩ : ∃ A n c zs, e3 = Value.slice A n c ∧ IsRow .i64 W A n c zs := by
    rcases open_ints Try.underlying39 Try.underlying3 (by kernel_rfl) f3 with ⟨hcs, _⟩ | ⟨x, l, c, zs, hcs, _, hl, hm, hz, _, hcell, hwz⟩
    · simp at hcs
      exact ⟨none, 0, 0, [], hcs, .inl ⟨rfl, rfl, rfl, rfl⟩⟩
    · simp at hcs
      exact ⟨some x, l, c, zs, hcs, .inr ⟨_, rfl, hl, hm, by simpa using hz, hcell, hwz⟩⟩
  obtain ⟨l3, g3⟩ := rdi_of_row ww3
  clear hA0 hval0
  refine (diskSafe_w W _ l0 g0 _ l1 g1 m2 (wf_i64 hb2) _ l3 g3).mono fun e W' ⟨he, bel⟩ => ?_
  subst he
  exact ⟨_, rfl, _, _, _, [], _, [], hW', trodAll_mk1 (shut_bool Try.underlying4 _), (trodAll_cons_mk (Below.trod row_laidOut (by kernel_rfl) (of_decide_eq_true (by kernel_rfl)) k0 bel lt0) trodAll_mk0), rfl, bel.frame _, fun h => by cases h⟩
theorem over : Rows.diskSafeRow.holds Try.pinned (OpenSpec.ofChange Rows.diskSafeSpec) :=
  OpenClaim.holds_of_wide 4 Try.f4 rfl rfl rfl rfl rfl rfl rfl ⟨rfl, rfl, rfl, rfl, rfl⟩ rfl rfl rfl rfl rfl (by kernel_rfl) Try.func4 (by kernel_rfl)
    (of_decide_eq_true (by kernel_rfl)) (by unfold Func.isWrapper; first | (rw [if_pos (by decide +kernel)]; kernel_rfl) | (rw [if_neg (by decide +kernel)]; exact ⟨rfl, rfl⟩))
    (fun os started H enc _ => lifted os started H enc)
theorem proved : Rows.DiskSafeSaid := over
end Go.Proofs.Ytfnlcnjflloecaa.diskSafe
namespace Go.Proofs.Ytfnlcnjflloecaa
/-- The statement, under a short name, for the claim. -/
theorem diskSafe_holds : Rows.DiskSafeSaid := diskSafe.proved
#print axioms diskSafe_holds
end Go.Proofs.Ytfnlcnjflloecaa
