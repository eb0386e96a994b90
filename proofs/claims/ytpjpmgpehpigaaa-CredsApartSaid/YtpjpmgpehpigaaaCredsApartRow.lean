/- The statement CredsApart: the law's Go function answers true for every input and turns nothing: its row, out of the walk. No condition. -/
import Derived.Test.YtpjpmgpehpigaaaRows
import Derived.Test.YtpjpmgpehpigaaaRow
import Derived.Test.YtpjpmgpehpigaaaApart
import Derived.Test.YtpjpmgpehpigaaaRowS
import Derived.Lib.SmallJoins
import Derived.WalkKit
import Derived.ProofKit
import Derived.OpenShut
import Derived.ShutString
import Derived.ChangeOld
import Derived.Below
set_option linter.unusedVariables false
set_option linter.unusedSimpArgs false
namespace Go.Proofs.Ytpjpmgpehpigaaa.credsApart
open Go.ChangeShapes Go.WideShapes Go.ChangeAt Go.RowKit Go.Joins
open Go.ChangeMaps (open_string shut_string)
set_option maxRecDepth 100000 in
theorem lifted (os : Os) (started : os.Started) (H : Type) (enc : TypeId × Value → H) :
    ReturnsInHanded {} Try.checked os 14 .any (Rows.credsApartSpec.pre6 enc Try.prog Try.f14 Rows.credsApartRow.domain false) (Rows.credsApartSpec.post enc Try.prog Try.f14 false true false false) := by
  refine returnsInHanded_of_change (C := Try.checked) row_own started (by kernel_rfl) Try.func14
    (ChangeSpec.witness6 (enc := enc) (C := Try.checked) false ⟨#[], #[.agg #[.int .i64 0, .int .u64 0, .int .u64 0, .slice none 0 0]], []⟩ 8 (by kernel_rfl) (by kernel_rfl) (by kernel_rfl) (by kernel_rfl)) ?_
  intro W base args ds gs before hval0 hW hcnd _
  have hval : ∀ (j : Nat) t v, Try.f14.params[j]? = some t → args[j]? = some v → Value.okWide Try.prog W .any base t v := hval0
  have hW' := hW
  obtain ⟨p, q, hA0, hV, rfl, hfz, hnd⟩ := hW
  have hA : DataW.TrodAll enc Try.prog W 0 (fun _ => true) true Try.f14.params.toList args.toList ds p := hA0
  rw [Try.params14] at hA hval
  obtain ⟨v0, vs0, d0, ds0, p0, q0, hargs, rfl, rfl, h0, r0⟩ := trodAll_cons hA
  obtain ⟨rfl, rfl, rfl⟩ := trodAll_nil r0
  obtain rfl : args = #[v0] := by cases args; simp_all
  obtain ⟨rfl, rfl⟩ := trodVars_none hV
  have k0 := h0
  have lt0 : ∀ x ∈ p0, x.block < W.heap.size := by obtain ⟨m, hm⟩ := k0; exact DataW.trod_lt m _ _ _ hm
  obtain ⟨e0, e1, e2, e3, y0, y1, y2, y3, nn, rfl, rfl, rfl, f0, f1, f2, f3⟩ := open_agg4 Try.underlying53 (by kernel_rfl) (by kernel_rfl) (hval 0 53 v0 rfl rfl) h0
  obtain ⟨m0, hs0, _, hb0⟩ := DataW.trod_int Try.underlying3 f0
  obtain rfl : e0 = Value.int .i64 m0 := by simpa using hs0
  obtain ⟨m1, hs1, _, hb1⟩ := DataW.trod_int Try.underlying50 f1
  obtain rfl : e1 = Value.int .u64 m1 := by simpa using hs1
  obtain ⟨m2, hs2, _, hb2⟩ := DataW.trod_int Try.underlying50 f2
  obtain rfl : e2 = Value.int .u64 m2 := by simpa using hs2
  obtain ⟨ss3, g3⟩ := rds_of Try.underlying51 Try.underlying9 (by kernel_rfl) f3
  clear hA0 hval0
  refine (credsApart_w W m0 (wf_i64 hb0) m1 (wf_u64 hb1) m2 (wf_u64 hb2) _ ss3 g3).mono fun e W' ⟨he, bel⟩ => ?_
  subst he
  exact ⟨_, rfl, _, _, _, [], _, [], hW', trodAll_mk1 (shut_bool Try.underlying4 _), (trodAll_cons_mk (Below.trod row_laidOut (by kernel_rfl) (of_decide_eq_true (by kernel_rfl)) k0 bel lt0) trodAll_mk0), rfl, bel.frame _, fun h => by cases h⟩
theorem over : Rows.credsApartRow.holds Try.pinned (OpenSpec.ofChange Rows.credsApartSpec) :=
  OpenClaim.holds_of_wide 14 Try.f14 rfl rfl rfl rfl rfl rfl rfl ⟨rfl, rfl, rfl, rfl, rfl⟩ rfl rfl rfl rfl rfl (by kernel_rfl) Try.func14 (by kernel_rfl)
    (of_decide_eq_true (by kernel_rfl)) (by unfold Func.isWrapper; first | (rw [if_pos (by decide +kernel)]; kernel_rfl) | (rw [if_neg (by decide +kernel)]; exact ⟨rfl, rfl⟩))
    (fun os started H enc _ => lifted os started H enc)
theorem proved : Rows.CredsApartSaid := over
end Go.Proofs.Ytpjpmgpehpigaaa.credsApart
namespace Go.Proofs.Ytpjpmgpehpigaaa
/-- The statement, under a short name, for the claim. -/
theorem credsApart_holds : Rows.CredsApartSaid := credsApart.proved
#print axioms credsApart_holds
end Go.Proofs.Ytpjpmgpehpigaaa
