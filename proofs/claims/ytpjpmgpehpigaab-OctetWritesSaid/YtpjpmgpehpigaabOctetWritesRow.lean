/- The statement OctetWrites: the law's Go function answers true for every input and turns nothing: its row, out of the walk. No condition. -/
import Derived.Test.YtpjpmgpehpigaabRows
import Derived.Test.YtpjpmgpehpigaabRow
import Derived.Test.YtpjpmgpehpigaabOctWrites
import Derived.Test.YtpjpmgpehpigaabAgg5
import Derived.WalkKit
import Derived.ProofKit
import Derived.OpenShut
import Derived.ShutString
import Derived.ChangeOld
import Derived.Below
set_option linter.unusedVariables false
set_option linter.unusedSimpArgs false
namespace Go.Proofs.Ytpjpmgpehpigaab.octetWrites
open Go.ChangeShapes Go.WideShapes Go.ChangeAt Go.RowKit Go.Joins
open Go.ChangeMaps (open_string shut_string)
set_option maxRecDepth 100000 in
theorem lifted (os : Os) (started : os.Started) (H : Type) (enc : TypeId × Value → H) :
    ReturnsInHanded {} Try.checked os 5 .any (Rows.octetWritesSpec.pre6 enc Try.prog Try.f5 Rows.octetWritesRow.domain false) (Rows.octetWritesSpec.post enc Try.prog Try.f5 false true false false) := by
  refine returnsInHanded_of_change (C := Try.checked) row_own started (by kernel_rfl) Try.func5
    (ChangeSpec.witness6 (enc := enc) (C := Try.checked) false ⟨#[], #[.agg #[.slice none 0 0, .int .u64 0, .int .i64 0, .int .u64 0, .string ByteArray.empty]], []⟩ 8 (by kernel_rfl) (by kernel_rfl) (by kernel_rfl) (by kernel_rfl)) ?_
  intro W base args ds gs before hval0 hW hcnd _
  have hval : ∀ (j : Nat) t v, Try.f5.params[j]? = some t → args[j]? = some v → Value.okWide Try.prog W .any base t v := hval0
  have hW' := hW
  obtain ⟨p, q, hA0, hV, rfl, hfz, hnd⟩ := hW
  have hA : DataW.TrodAll enc Try.prog W 0 (fun _ => true) true Try.f5.params.toList args.toList ds p := hA0
  rw [Try.params5] at hA hval
  obtain ⟨v0, vs0, d0, ds0, p0, q0, hargs, rfl, rfl, h0, r0⟩ := trodAll_cons hA
  obtain ⟨rfl, rfl, rfl⟩ := trodAll_nil r0
  obtain rfl : args = #[v0] := by cases args; simp_all
  obtain ⟨rfl, rfl⟩ := trodVars_none hV
  have k0 := h0
  have lt0 : ∀ x ∈ p0, x.block < W.heap.size := by obtain ⟨m, hm⟩ := k0; exact DataW.trod_lt m _ _ _ hm
  obtain ⟨e0, e1, e2, e3, e4, y0, y1, y2, y3, y4, nn, rfl, f0, f1, f2, f3, f4⟩ := open_agg5 Try.underlying36 (by kernel_rfl) (by kernel_rfl) (hval 0 36 v0 rfl rfl) h0
  obtain ⟨A0, n0, cp0, zz0, rfl, ww0⟩ : ∃ A n c zs, e0 = Value.slice A n c ∧ IsRow .u8 W A n c zs := by
    rcases open_ints Try.underlying23 Try.underlying5 (by kernel_rfl) f0 with ⟨hcs, _⟩ | ⟨x, l, c, zs, hcs, _, hl, hm, hz, _, hcell, hwz⟩
    · simp at hcs
      exact ⟨none, 0, 0, [], hcs, .inl ⟨rfl, rfl, rfl, rfl⟩⟩
    · simp at hcs
      exact ⟨some x, l, c, zs, hcs, .inr ⟨_, rfl, hl, hm, by simpa using hz, hcell, hwz⟩⟩
  obtain ⟨l0, g0, _⟩ := rd_of_row ww0
  obtain ⟨m1, hs1, _, hb1⟩ := DataW.trod_int Try.underlying22 f1
  obtain rfl : e1 = Value.int .u64 m1 := by simpa using hs1
  obtain ⟨m2, hs2, _, hb2⟩ := DataW.trod_int Try.underlying3 f2
  obtain rfl : e2 = Value.int .i64 m2 := by simpa using hs2
  obtain ⟨m3, hs3, _, hb3⟩ := DataW.trod_int Try.underlying22 f3
  obtain rfl : e3 = Value.int .u64 m3 := by simpa using hs3
  obtain ⟨s4, hs4, _, hb4⟩ := DataW.trod_string Try.underlying9 f4
  obtain rfl : e4 = Value.string s4 := by simpa using hs4
  clear hA0 hval0
  refine (octetWrites_w W _ l0 g0 m1 (wf_u64 hb1) m2 (wf_i64 hb2) m3 (wf_u64 hb3) s4 hb4).mono fun e W' ⟨he, bel⟩ => ?_
  subst he
  exact ⟨_, rfl, _, _, _, [], _, [], hW', trodAll_mk1 (shut_bool Try.underlying4 _), (trodAll_cons_mk (Below.trod row_laidOut (by kernel_rfl) (of_decide_eq_true (by kernel_rfl)) k0 bel lt0) trodAll_mk0), rfl, bel.frame _, fun h => by cases h⟩
theorem over : Rows.octetWritesRow.holds Try.pinned (OpenSpec.ofChange Rows.octetWritesSpec) :=
  OpenClaim.holds_of_wide 5 Try.f5 rfl rfl rfl rfl rfl rfl rfl ⟨rfl, rfl, rfl, rfl, rfl⟩ rfl rfl rfl rfl rfl (by kernel_rfl) Try.func5 (by kernel_rfl)
    (of_decide_eq_true (by kernel_rfl)) (by unfold Func.isWrapper; first | (rw [if_pos (by decide +kernel)]; kernel_rfl) | (rw [if_neg (by decide +kernel)]; exact ⟨rfl, rfl⟩))
    (fun os started H enc _ => lifted os started H enc)
theorem proved : Rows.OctetWritesSaid := over
end Go.Proofs.Ytpjpmgpehpigaab.octetWrites
namespace Go.Proofs.Ytpjpmgpehpigaab
/-- The statement, under a short name, for the claim. -/
theorem octetWrites_holds : Rows.OctetWritesSaid := octetWrites.proved
#print axioms octetWrites_holds
end Go.Proofs.Ytpjpmgpehpigaab
