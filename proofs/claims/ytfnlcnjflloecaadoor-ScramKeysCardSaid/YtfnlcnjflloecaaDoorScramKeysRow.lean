/- The statement ScramKeys: the law's Go function answers true for every input and turns nothing: its row, out of the walk. No condition. -/
import Derived.Test.YtfnlcnjflloecaaDoorRows
import Derived.Test.YtfnlcnjflloecaaDoorRow
import Derived.Test.YtfnlcnjflloecaaDoorSk3
import Derived.Lib.SmallJoins
import Derived.WalkKit
import Derived.ProofKit
import Derived.OpenShut
import Derived.ShutString
import Derived.ChangeOld
import Derived.Below
import Derived.LaidMore
import Derived.Lay
import Derived.Shelf.Lay
import Derived.LaidOnce
import Derived.SevenTiedAt
import Derived.Test.YtfnlcnjflloecaaDoorCards
import Derived.Test.YtfnlcnjflloecaaDoorTie
import Derived.Test.YtfnlcnjflloecaaDoorTabs
import Derived.Test.YtfnlcnjflloecaaDoorRowSh
set_option linter.unusedVariables false
set_option linter.unusedSimpArgs false
namespace Go.Proofs.YtfnlcnjflloecaaDoor.scramKeys
open Go.ChangeShapes Go.WideShapes Go.ChangeAt Go.RowKit Go.Joins
open Go.ChangeMaps (open_string shut_string)
set_option maxRecDepth 100000 in
theorem lifted (os : Os) (started : os.Started) (H : Type) (enc : TypeId × Value → H) :
    ReturnsInHanded {} Tryd.checked os 8 .any (fun w args => (Rows.scramKeysSpec.pre enc Tryd.prog Tryd.f8 [] false w args ∧ laidMetH Tryd.prog Rows.scramKeysRow.laid w) ∧ sizedMet enc Tryd.prog Tryd.f8 (OpenSpec.ofChange Rows.scramKeysSpec) false w args)
      (Rows.scramKeysSpec.post enc Tryd.prog Tryd.f8 false true false false) := by
  refine ret_and_shaped (C := Tryd.checked) (X := fun w _ => laidMetH Tryd.prog Rows.scramKeysRow.laid w) (fun _ _ _ hh h => h.of_heap hh) row_own started (by kernel_rfl) Tryd.func8
    (ChangeSpec.witness_shaped (enc := enc) (C := Tryd.checked) (os := os) (X := fun w _ => laidMetH Tryd.prog Rows.scramKeysRow.laid w) false (World.laidAll Tryd.prog os Rows.scramKeysRow.laid) #[.agg #[.string ByteArray.empty, .string ByteArray.empty, .string ByteArray.empty, .string ByteArray.empty, .slice none 0 0, .int .i64 0]] 8 (World.laidAll_os _ _ _)
      (World.shaped_of_ZipB (by kernel_rfl) (by kernel_rfl)) (by kernel_rfl) (by kernel_rfl) (by kernel_rfl)
      (by rw [MakeChecks.laidMetH_plain _ _ _ (by kernel_rfl)]; exact laidMet_laidAll _ (by kernel_rfl) (by kernel_rfl))) ?_
  intro W base args ds gs before hval0 hW hcnd _ hL hSh _
  have hval : ∀ (j : Nat) t v, Tryd.f8.params[j]? = some t → args[j]? = some v → Value.okWide Tryd.prog W .any base t v := hval0
  have hW' := hW
  obtain ⟨p, q, hA0, hV, rfl, hfz, hnd⟩ := hW
  have hA : DataW.TrodAll enc Tryd.prog W 0 (fun _ => true) true Tryd.f8.params.toList args.toList ds p := hA0
  rw [Tryd.params8] at hA hval
  obtain ⟨v0, vs0, d0, ds0, p0, q0, hargs, rfl, rfl, h0, r0⟩ := trodAll_cons hA
  obtain ⟨rfl, rfl, rfl⟩ := trodAll_nil r0
  obtain rfl : args = #[v0] := by cases args; simp_all
  obtain ⟨rfl, rfl⟩ := trodVars_none hV
  have k0 := h0
  have lt0 : ∀ x ∈ p0, x.block < W.heap.size := by obtain ⟨m, hm⟩ := k0; exact DataW.trod_lt m _ _ _ hm
  obtain ⟨e0, e1, e2, e3, e4, e5, sy0, sy1, sy2, sy3, sy4, sy5, nn, rfl, f0, f1, f2, f3, f4, f5⟩ := open_agg6 Tryd.underlying61 (by kernel_rfl) (by kernel_rfl) (hval 0 61 v0 rfl rfl) h0
  obtain ⟨s0, hs0, _, hb0⟩ := DataW.trod_string Tryd.underlying9 f0
  obtain rfl : e0 = Value.string s0 := by simpa using hs0
  obtain ⟨s1, hs1, _, hb1⟩ := DataW.trod_string Tryd.underlying9 f1
  obtain rfl : e1 = Value.string s1 := by simpa using hs1
  obtain ⟨s2, hs2, _, hb2⟩ := DataW.trod_string Tryd.underlying9 f2
  obtain rfl : e2 = Value.string s2 := by simpa using hs2
  obtain ⟨s3, hs3, _, hb3⟩ := DataW.trod_string Tryd.underlying9 f3
  obtain rfl : e3 = Value.string s3 := by simpa using hs3
  obtain ⟨A4, n4, cp4, zz4, rfl, ww4⟩ : ∃ A n c zs, e4 = Value.slice A n c ∧ IsRow .u8 W A n c zs := by
    rcases open_ints Tryd.underlying37 Tryd.underlying5 (by kernel_rfl) f4 with ⟨hcs, _⟩ | ⟨x, l, c, zs, hcs, _, hl, hm, hz, _, hcell, hwz⟩
    · simp at hcs
      exact ⟨none, 0, 0, [], hcs, .inl ⟨rfl, rfl, rfl, rfl⟩⟩
    · simp at hcs
      exact ⟨some x, l, c, zs, hcs, .inr ⟨_, rfl, hl, hm, by simpa using hz, hcell, hwz⟩⟩
  obtain ⟨l4, g4, _⟩ := rd_of_row ww4
  obtain ⟨m5, hs5, _, hb5⟩ := DataW.trod_int Tryd.underlying3 f5
  obtain rfl : e5 = Value.int .i64 m5 := by simpa using hs5
  clear hA0 hval0
  have hT : Tabs W := by
    first
      | exact tabs_of_laid hL
      | (have hL2 := hL; rw [MakeChecks.laidMetH_plain _ _ _ (by kernel_rfl)] at hL2; refine tabs_of_reads ?_ ?_; (focus (have := Lib.laidMet.reads hL2 (n := "unicode/utf8.first") (d := Rows.laid_unicode_utf8_first) (by simp [Rows.scramKeysRow]); rwa [show Rows.laid_unicode_utf8_first = Lib.firstData from Pinned.utf8First_eq] at this)); (focus (have := Lib.laidMet.reads hL2 (n := "unicode/utf8.acceptRanges") (d := Rows.laid_unicode_utf8_acceptRanges) (by simp [Rows.scramKeysRow]); rwa [laid_accept] at this)))
  have hM := maxl_of_shape hSh
  try simp only [List.append_nil] at hW'
  refine (scramKeys_w W hT hM s0 hb0 s1 hb1 s2 hb2 s3 hb3 _ l4 g4 m5 (wf_i64 hb5)).mono fun e W' ⟨he, bel⟩ => ?_
  subst he
  exact ⟨_, rfl, _, _, _, [], _, [], hW', trodAll_mk1 (shut_bool Tryd.underlying4 _), (trodAll_cons_mk (Below.trod row_laidOut (by kernel_rfl) (of_decide_eq_true (by kernel_rfl)) k0 bel lt0) trodAll_mk0), rfl, bel.frame _, fun h => by cases h⟩
theorem over : Rows.scramKeysRow.holds Tryd.pinned (OpenSpec.ofChange Rows.scramKeysSpec) :=
  OpenClaim.holds_of_wide 8 Tryd.f8 rfl rfl rfl rfl rfl rfl rfl ⟨rfl, rfl, rfl, rfl, rfl⟩ rfl rfl rfl rfl rfl (by kernel_rfl) Tryd.func8 (by kernel_rfl)
    (of_decide_eq_true (by kernel_rfl)) (by unfold Func.isWrapper; first | (rw [if_pos (by decide +kernel)]; kernel_rfl) | (rw [if_neg (by decide +kernel)]; exact ⟨rfl, rfl⟩))
    (fun os started H enc _ => lifted os started H enc)
theorem card_holds : Claim7.holds Tryd.pinned (.plain (OpenSpec.ofChange Rows.scramKeysSpec)) Rows.scramKeysCard :=
  Claim7.holds_tied_plain_at .later Rows.scramKeysCard.alts Rows.scramKeysCard.laidKinds true Rows.scramKeysCard.stood.harness Rows.scramKeysCard.stood.looks over (fun _ h => by cases h) (by kernel_rfl) (fun _ h => by cases h) scramKeys_row_tie rfl ⟨rfl, rfl⟩ (by kernel_rfl) rfl
    (fun f fn hf hfn => by
      obtain rfl : f = 8 := Option.some.inj ((show Tryd.prog.funcNamed Rows.scramKeysRow.func = some 8 by kernel_rfl).symm.trans hf) |>.symm
      obtain rfl : fn = Tryd.f8 := (Option.some.inj (Tryd.func8.symm.trans hfn)).symm
      exact ⟨by kernel_rfl, fun j t ht => by
        rw [Tryd.params8] at ht
        have hm : t ∈ [61] := by simpa using Array.mem_of_getElem? ht
        have hall : ([61].all fun u => !Tryd.prog.wantsStandIn u) = true := by kernel_rfl
        exact (show Tryd.prog.wantsStandIn t = false by simpa using List.all_eq_true.1 hall t hm)⟩)
    (by kernel_rfl)
theorem proved : Rows.ScramKeysCardSaid := card_holds
end Go.Proofs.YtfnlcnjflloecaaDoor.scramKeys
namespace Go.Proofs.YtfnlcnjflloecaaDoor
/-- The statement, under a short name, for the claim. -/
theorem scramKeys_holds : Rows.ScramKeysCardSaid := scramKeys.proved
#print axioms scramKeys_holds
end Go.Proofs.YtfnlcnjflloecaaDoor
