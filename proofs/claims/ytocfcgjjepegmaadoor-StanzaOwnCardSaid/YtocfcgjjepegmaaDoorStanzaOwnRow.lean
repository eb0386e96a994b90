/- The statement StanzaOwn: the law's Go function answers true for every input and turns nothing: its row, out of the walk. No condition. -/
import Derived.Test.YtocfcgjjepegmaaDoorRows
import Derived.Test.YtocfcgjjepegmaaDoorRow
import Derived.Test.YtocfcgjjepegmaaDoorStzOwn
import Derived.Test.YtocfcgjjepegmaaDoorAgg8
import Derived.Test.YtocfcgjjepegmaaDoorRowT
import Derived.WalkKit
import Derived.ProofKit
import Derived.OpenShut
import Derived.ShutString
import Derived.ChangeOld
import Derived.Below
import Derived.LaidMore
import Derived.Lay
import Derived.Shelf.Lay
import Derived.LaidOnce
import Derived.SevenTiedAt
import Derived.Test.YtocfcgjjepegmaaDoorCards
import Derived.Test.YtocfcgjjepegmaaDoorTie
import Derived.Test.YtocfcgjjepegmaaDoorTabs
set_option linter.unusedVariables false
set_option linter.unusedSimpArgs false
namespace Go.Proofs.YtocfcgjjepegmaaDoor.stanzaOwn
open Go.ChangeShapes Go.WideShapes Go.ChangeAt Go.RowKit Go.Joins
open Go.ChangeMaps (open_string shut_string)
set_option maxRecDepth 100000 in
theorem lifted (os : Os) (started : os.Started) (H : Type) (enc : TypeId × Value → H) :
    ReturnsInHanded {} Tryd.checked os 6 .any (fun w args => (Rows.stanzaOwnSpec.pre enc Tryd.prog Tryd.f6 [] false w args ∧ laidMetH Tryd.prog Rows.stanzaOwnRow.laid w) ∧ sizedMet enc Tryd.prog Tryd.f6 (OpenSpec.ofChange Rows.stanzaOwnSpec) false w args)
      (Rows.stanzaOwnSpec.post enc Tryd.prog Tryd.f6 false true false false) := by
  refine returnsInHanded_of_change_and (C := Tryd.checked) (X := fun w _ => laidMetH Tryd.prog Rows.stanzaOwnRow.laid w) (fun _ _ _ hh h => h.of_heap hh) row_own started (by kernel_rfl) Tryd.func6
    (ChangeSpec.witness_shaped (enc := enc) (C := Tryd.checked) (os := os) (X := fun w _ => laidMetH Tryd.prog Rows.stanzaOwnRow.laid w) false (World.laidAll Tryd.prog os Rows.stanzaOwnRow.laid) #[.agg #[.int .i64 0, .int .u64 0, .string ByteArray.empty, .string ByteArray.empty, .string ByteArray.empty, .slice none 0 0, .int .i64 0, .float .f64 0], .slice none 0 0] 8 (World.laidAll_os _ _ _)
      (World.shaped_of_ZipB (by kernel_rfl) (by kernel_rfl)) (by kernel_rfl) (by kernel_rfl) (by kernel_rfl)
      (by rw [MakeChecks.laidMetH_plain _ _ _ (by kernel_rfl)]; exact laidMet_laidAll _ (by kernel_rfl) (by kernel_rfl))) ?_
  intro W base args ds gs before hval0 hW hcnd _ hL _
  have hval : ∀ (j : Nat) t v, Tryd.f6.params[j]? = some t → args[j]? = some v → Value.okWide Tryd.prog W .any base t v := hval0
  have hW' := hW
  obtain ⟨p, q, hA0, hV, rfl, hfz, hnd⟩ := hW
  have hA : DataW.TrodAll enc Tryd.prog W 0 (fun _ => true) true Tryd.f6.params.toList args.toList ds p := hA0
  rw [Tryd.params6] at hA hval
  obtain ⟨v0, vs0, d0, ds0, p0, q0, hargs, rfl, rfl, h0, r0⟩ := trodAll_cons hA
  obtain ⟨v1, vs1, d1, ds1, p1, q1, rfl, rfl, rfl, h1, r1⟩ := trodAll_cons r0
  obtain ⟨rfl, rfl, rfl⟩ := trodAll_nil r1
  obtain rfl : args = #[v0, v1] := by cases args; simp_all
  obtain ⟨rfl, rfl⟩ := trodVars_none hV
  have k0 := h0
  have lt0 : ∀ x ∈ p0, x.block < W.heap.size := by obtain ⟨m, hm⟩ := k0; exact DataW.trod_lt m _ _ _ hm
  obtain ⟨e0, e1, e2, e3, e4, e5, e6, e7, y0, y1, y2, y3, y4, y5, y6, y7, nn, rfl, f0, f1, f2, f3, f4, f5, f6, f7⟩ := open_agg8 Tryd.underlying26 (by kernel_rfl) (by kernel_rfl) (hval 0 26 v0 rfl rfl) h0
  obtain ⟨m0, hs0, _, hb0⟩ := DataW.trod_int Tryd.underlying3 f0
  obtain rfl : e0 = Value.int .i64 m0 := by simpa using hs0
  obtain ⟨m1, hs1, _, hb1⟩ := DataW.trod_int Tryd.underlying22 f1
  obtain rfl : e1 = Value.int .u64 m1 := by simpa using hs1
  obtain ⟨s2, hs2, _, hb2⟩ := DataW.trod_string Tryd.underlying9 f2
  obtain rfl : e2 = Value.string s2 := by simpa using hs2
  obtain ⟨s3, hs3, _, hb3⟩ := DataW.trod_string Tryd.underlying9 f3
  obtain rfl : e3 = Value.string s3 := by simpa using hs3
  obtain ⟨s4, hs4, _, hb4⟩ := DataW.trod_string Tryd.underlying9 f4
  obtain rfl : e4 = Value.string s4 := by simpa using hs4
  obtain ⟨l5, g5, gl5⟩ := rdt_of Tryd.underlying23 Tryd.underlying9 (by kernel_rfl) f5
  obtain ⟨m6, hs6, _, hb6⟩ := DataW.trod_int Tryd.underlying3 f6
  obtain rfl : e6 = Value.int .i64 m6 := by simpa using hs6
  obtain ⟨m7, hs7, _, hb7⟩ := trod_float Tryd.underlying24 f7
  obtain rfl : e7 = Value.float .f64 m7 := by simpa using hs7
  obtain ⟨a1, len1, cap1, rfl⟩ := okWide_slice Tryd.underlying28 (hval 1 28 v1 rfl rfl)
  have k1 := h1
  have lt1 : ∀ x ∈ p1, x.block < W.heap.size := by obtain ⟨m, hm⟩ := k1; exact DataW.trod_lt m _ _ _ hm
  obtain ⟨z1, w1⟩ : ∃ zs, IsRow .u8 W a1 len1 cap1 zs := by
    obtain ⟨fuel, hf⟩ := h1
    rcases open_ints Tryd.underlying28 Tryd.underlying5 (by kernel_rfl) hf with ⟨hcs, _⟩ | ⟨x, l, c, zs, hcs, _, hl, hm, hz, _, hcell, hwz⟩
    · simp [Value.cells] at hcs
      obtain ⟨rfl, rfl, rfl⟩ := hcs
      exact ⟨[], .inl ⟨rfl, rfl, rfl, rfl⟩⟩
    · simp [Value.cells] at hcs
      obtain ⟨rfl, rfl, rfl⟩ := hcs
      exact ⟨zs, .inr ⟨_, rfl, hl, hm, by simpa using hz, hcell, hwz⟩⟩
  obtain ⟨l1, g1, _⟩ := rd_of_row w1
  clear hA0 hval0
  have hT := tabs_of_laid hL
  try simp only [List.append_nil] at hW'
  refine (stanzaOwn_w W hT m0 (wf_i64 hb0) m1 (wf_u64 hb1) s2 hb2 s3 hb3 s4 hb4 _ l5 g5 gl5 m6 (wf_i64 hb6) m7 (wf_f64 hb7) _ l1 g1).mono fun e W' ⟨he, bel⟩ => ?_
  subst he
  exact ⟨_, rfl, _, _, _, [], _, [], hW', trodAll_mk1 (shut_bool Tryd.underlying4 _), (trodAll_cons_mk (Below.trod row_laidOut (by kernel_rfl) (of_decide_eq_true (by kernel_rfl)) k0 bel lt0) (trodAll_cons_mk (Below.trod row_laidOut (by kernel_rfl) (of_decide_eq_true (by kernel_rfl)) k1 bel lt1) trodAll_mk0)), rfl, bel.frame _, fun h => by cases h⟩
theorem over : Rows.stanzaOwnRow.holds Tryd.pinned (OpenSpec.ofChange Rows.stanzaOwnSpec) :=
  OpenClaim.holds_of_wide 6 Tryd.f6 rfl rfl rfl rfl rfl rfl rfl ⟨rfl, rfl, rfl, rfl, rfl⟩ rfl rfl rfl rfl rfl (by kernel_rfl) Tryd.func6 (by kernel_rfl)
    (of_decide_eq_true (by kernel_rfl)) (by unfold Func.isWrapper; first | (rw [if_pos (by decide +kernel)]; kernel_rfl) | (rw [if_neg (by decide +kernel)]; exact ⟨rfl, rfl⟩))
    (fun os started H enc _ => lifted os started H enc)
theorem card_holds : Claim7.holds Tryd.pinned (.plain (OpenSpec.ofChange Rows.stanzaOwnSpec)) Rows.stanzaOwnCard :=
  Claim7.holds_tied_plain_at .later Rows.stanzaOwnCard.alts Rows.stanzaOwnCard.laidKinds true Rows.stanzaOwnCard.stood.harness Rows.stanzaOwnCard.stood.looks over (fun _ h => by cases h) (by kernel_rfl) (fun _ h => by cases h) stanzaOwn_row_tie rfl ⟨rfl, rfl⟩ (by kernel_rfl) rfl
    (fun f fn hf hfn => by
      obtain rfl : f = 6 := Option.some.inj ((show Tryd.prog.funcNamed Rows.stanzaOwnRow.func = some 6 by kernel_rfl).symm.trans hf) |>.symm
      obtain rfl : fn = Tryd.f6 := (Option.some.inj (Tryd.func6.symm.trans hfn)).symm
      exact ⟨by kernel_rfl, fun j t ht => by
        rw [Tryd.params6] at ht
        have hm : t ∈ [26, 28] := by simpa using Array.mem_of_getElem? ht
        have hall : ([26, 28].all fun u => !Tryd.prog.wantsStandIn u) = true := by kernel_rfl
        exact (show Tryd.prog.wantsStandIn t = false by simpa using List.all_eq_true.1 hall t hm)⟩)
    (by kernel_rfl)
theorem proved : Rows.StanzaOwnCardSaid := card_holds
end Go.Proofs.YtocfcgjjepegmaaDoor.stanzaOwn
namespace Go.Proofs.YtocfcgjjepegmaaDoor
/-- The statement, under a short name, for the claim. -/
theorem stanzaOwn_holds : Rows.StanzaOwnCardSaid := stanzaOwn.proved
#print axioms stanzaOwn_holds
end Go.Proofs.YtocfcgjjepegmaaDoor
