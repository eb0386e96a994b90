/- scram.First. -/
import Derived.Test.YtfnlcnjflloecaaDoorSpl
import Derived.Test.YtfnlcnjflloecaaDoorSk1
set_option linter.unusedVariables false
set_option linter.unusedSimpArgs false
set_option linter.unnecessarySimpa false
namespace Go.Proofs.YtfnlcnjflloecaaDoor
open Go.RowKit
/-! ### two results that lie in blocks: a struct of type T and an error's number -/
def tB (T : TypeId) (ps pe : Nat) (zs es : List Value) : GSpec := fun _ B w => Blk w ps T zs ∧ Blk w pe 25 es ∧ B ps ∧ B pe
theorem tB_loc (T : TypeId) (M0 : Nat → Prop) (w0 : World) (ps pe : Nat) (zs es : List Value) (u : Value) : O.Loc M0 w0 (tB T ps pe zs es u) := by
  intro B w w' ⟨h1, h2, h3, h4⟩ hs hk
  exact ⟨by unfold Blk; rw [hk ps h1.lt (.inr h3)]; exact h1, by unfold Blk; rw [hk pe h2.lt (.inr h4)]; exact h2, h3, h4⟩
section
variable {T : TypeId} {nn : Nat} {ops : Array Oper} {w : World} {a : Act} {o : Oper} {ps pe x y : Nat} {M N : Nat → Prop} {cs0 es zs : List Value} {u : Value}
theorem goesTo_tS {Z : Array Value} (AT : AggTy Tryd.prog T nn) (hS : tB T ps pe cs0 es u M w) (hcs : cs0.length = nn) (hne : ps ≠ pe) (hw : Region.wanted o (yielded ops a.tmps) = true) (ho : o.op = .store T (.tmp x) (.tmp y))
    (hx : a.eval (.tmp x) = .pointer (some ⟨ps, 0, none⟩)) (hy : a.eval (.tmp y) = .agg Z) (hZ : Z = zs.toArray) (h8 : zs.length = nn) (h1 : ∀ v ∈ zs, v.oneCell' = true) (hM : ∀ k, M k → N k) :
    GoesTo Tryd.prog ops o a w fun v w' => Chg N w w' ∧ tB T ps pe zs es v (fun b => N b ∨ (w.heap.size ≤ b ∧ b < w'.heap.size)) w' := by
  obtain ⟨k1, k2, k3, k4⟩ := hS
  subst hZ
  unfold GoesTo
  rw [if_pos hw]
  have hr := run_storeVar_row (P := Tryd.prog) w ps T T cs0.toArray zs.toArray k1 (by rw [AT.size]; simp [h8]) (by simp [hcs, h8]) (Array.all_eq_true_iff_forall_mem.2 fun u hu => h1 u (by simpa using hu))
  simp [execOp, ho, hx, hy, Instr.storeAt, Instr.sureAddr, hr]
  refine ⟨⟨rfl, rfl, rfl, by simp, fun k _ hk => setRow_other w ps k _ (fun e => hk (e ▸ hM _ k3))⟩, ?_, ?_, .inl (hM _ k3), .inl (hM _ k4)⟩
  · exact setRow_heap w ps _ _ T _ k1
  · unfold Blk; rw [setRow_other w ps pe _ (fun e => hne e.symm)]; exact k2
theorem goesTo_tE {n : Int} {u0 : Value} (hS : tB T ps pe zs [u0] u M w) (hne : ps ≠ pe) (hw : Region.wanted o (yielded ops a.tmps) = true) (ho : o.op = .store 25 (.tmp x) (.tmp y))
    (hx : a.eval (.tmp x) = .pointer (some ⟨pe, 0, none⟩)) (hy : a.eval (.tmp y) = .int .i64 n) (hM : ∀ k, M k → N k) :
    GoesTo Tryd.prog ops o a w fun v w' => Chg N w w' ∧ tB T ps pe zs [.int .i64 n] v (fun b => N b ∨ (w.heap.size ≤ b ∧ b < w'.heap.size)) w' := by
  obtain ⟨k1, k2, k3, k4⟩ := hS
  have c0 : _ = some u0 := k2.cell 0
  have f0 := k2.frozen 0
  have hs := k2.stored 0 (.int .i64 n)
  unfold GoesTo
  rw [if_pos hw]
  have hr : (Instr.storeAt 25 (.pointer (some ⟨pe, 0, none⟩)) (.int .i64 n)).run Tryd.prog w = .ok () (w.setCell ⟨pe, 0, none⟩ (.int .i64 n)) := by simp [go_sem, c0, f0]
  simp only [execOp, ho, hx, hy]
  simp [hr]
  refine ⟨(Chg.setCell w ⟨pe, 0, none⟩ _).mono (fun k hk => by cases hk; exact hM _ k4), k1.other hne _, hs, .inl (hM _ k3), .inl (hM _ k4)⟩
end
theorem results_agg {T : TypeId} {nn : Nat} (AT : AggTy Tryd.prog T nn) {fs : Array Field} (hu : Tryd.prog.underlying T = some (.struct fs)) (fn : Func) (hf : fn.results = #[.cell 2 T, .cell 3 25]) (tmps : Array Value) (w : World) (ps pe : Nat) (zs : List Value) (x : Int) (h2 : tmps.getD 2 undef = .pointer (some ⟨ps, 0, none⟩)) (h3 : tmps.getD 3 undef = .pointer (some ⟨pe, 0, none⟩))
    (hs : Blk w ps T zs) (h8 : zs.length = nn) (he : Blk w pe 25 [.int .i64 x]) : (results fn tmps).run Tryd.prog w = .ok (.tuple #[.agg zs.toArray, .int .i64 x]) w := by
  have h2' : tmps[2]?.getD undef = .pointer (some ⟨ps, 0, none⟩) := by simpa using h2
  have h3' : tmps[3]?.getD undef = .pointer (some ⟨pe, 0, none⟩) := by simpa using h3
  have r1 := run_loadVar_row (P := Tryd.prog) w ps T T zs.toArray (0, 0) _ hs hu rfl (by rw [AT.size]; simp [h8])
  have c0 : _ = some _ := he.cell 0
  have r2 : (loadVar 25 ⟨pe, 0, none⟩).run Tryd.prog w = .ok (.int .i64 x) w := by simp [go_sem, c0]
  simp [results, hf, h2', h3', asAddr, r1, r2]
/-! ### First -/
theorem agFi : AggTy Tryd.prog 68 4 := ⟨⟨_, Tryd.underlying68, rfl⟩, by kernel_rfl⟩
def fiC (a b c d : List UInt8) : List Value := [.string (strB a), .string (strB b), .string (strB c), .string (strB d)]
set_option maxRecDepth 100000 in
set_option maxHeartbeats 3200000 in
theorem ficatch_c (ps pe : Nat) (w : World) (cs0 cs' : List Value) (u0 : Value) (hs : Blk w ps 68 cs0) (hcs : cs0.length = 4) (he : Blk w pe 25 cs') (hcs' : cs' = [u0]) (hne : ps ≠ pe) :
    CallsD Tryd.prog 123 #[.pointer (some ⟨ps, 0, none⟩), .pointer (some ⟨pe, 0, none⟩)] (.panicking ({ v := gaveSc, recovered := false } :: [])) w fun e u' w' =>
      e = .returned (.tuple #[]) ∧ u' = .panicking ({ v := gaveSc, recovered := true } :: []) ∧ Blk w' ps 68 (fiC [] [] [] []) ∧ Blk w' pe 25 [.int .i64 2] ∧ Chg (fun k => k = ps ∨ k = pe) w w' := by
  unfold gaveSc
  refine callsD_of_wpS Tryd.func123 rfl fun c₀ cs hu => ?_
  apply wpS_seq
  apply wpS_region
  simp [wpOpsS, go_sem, recoverD, hu, Tryd.ntmps123, Exit.thenS]
  refine wpS_of_wp ?_
  obtain ⟨T0, hT0⟩ : ∃ T0 : Array Value, T0 = #[.pointer (some ⟨ps, 0, none⟩), .pointer (some ⟨pe, 0, none⟩), .iface 166 (.agg #[.int .i64 2]), .iface 166 (.agg #[.int .i64 2]), undef, undef, undef, undef, undef, undef] := ⟨_, rfl⟩
  have e0 : (#[Value.pointer (some { block := ps, off := 0 }), Value.pointer (some { block := pe, off := 0 })] ++
          ((Array.replicate 8 undef).setIfInBounds 1 (Value.iface 166 (Value.agg #[Value.int IntKind.i64 2]))).setIfInBounds 0 (Value.iface 166 (Value.agg #[Value.int IntKind.i64 2]))) = T0 := by rw [hT0]; rfl
  rw [e0, hT0]
  clear e0 hT0
  have hz : Tryd.prog.built 68 [] = some #[.string ⟨#[]⟩, .string ⟨#[]⟩, .string ⟨#[]⟩, .string ⟨#[]⟩] := by kernel_rfl
  have hta : ∀ w : World, (Instr.typeAssert (.iface 166 (.agg #[.int .i64 2])) 20 166 false).run Tryd.prog w = .ok (.agg #[.int .i64 2]) w := fun _ => by kernel_rfl
  subst hcs'
  go_wp2_with fail
  refine O.region_making 6 (fun | 4 => [100] | 5 => [4] | _ => []) (fun | 4 => some fun _ => tB 68 ps pe (fiC [] [] [] []) [u0] | 5 => some fun _ => tB 68 ps pe (fiC [] [] [] []) [.int .i64 2] | _ => none) 4 100 (fun k => k = ps ∨ k = pe) (tB 68 ps pe cs0 [u0] undef) (by kernel_rfl) (by kernel_rfl) ?_ ?_ ?_ ?_ ?_
  · intro i' S' h' e v'
    match i', h' with
    | 4, h' => cases h'; exact tB_loc _ _ _ _ _ _ _ _
    | 5, h' => cases h'; exact tB_loc _ _ _ _ _ _ _ _
  · exact tB_loc _ _ _ _ _ _ _ _
  · exact ⟨hs, he, .inl rfl, .inr rfl⟩
  · rintro k (rfl | rfl)
    · exact hs.lt
    · exact he.lt
  simp only [List.take_succ_cons, List.take_zero, List.drop_succ_cons, List.drop_zero]
  (apply O.wpG_pure; (focus rfl); (focus (intro wg Bg hbg hBg hFg; go_simp; (try go_bits); (first | done | exact ⟨rfl, Below.refl _ _⟩ | rfl))); simp only [Act.put, List.setIfInBounds_toArray, List.set_cons_succ, List.set_cons_zero])
  (apply O.wpG_pure; (focus rfl); (focus (intro wg Bg hbg hBg hFg; go_simp; (try go_bits); (first | done | exact ⟨rfl, Below.refl _ _⟩ | rfl))); simp only [Act.put, List.setIfInBounds_toArray, List.set_cons_succ, List.set_cons_zero])
  (apply O.wpG_pure; (focus rfl); (focus (intro wg Bg hbg hBg hFg; go_simp; (try go_bits); (first | done | exact ⟨rfl, Below.refl _ _⟩ | rfl))); simp only [Act.put, List.setIfInBounds_toArray, List.set_cons_succ, List.set_cons_zero])
  (apply O.wpG_pure; (focus rfl); (focus (intro wg Bg hbg hBg hFg; go_simp; (try go_bits); (first | done | exact ⟨rfl, Below.refl _ _⟩ | rfl))); simp only [Act.put, List.setIfInBounds_toArray, List.set_cons_succ, List.set_cons_zero])
  apply O.wpG_make; (focus rfl); (focus (intro wg Bg hbg hBg hFg; have hS : tB 68 ps pe cs0 [u0] undef (Bg 100) wg := hFg 100 (by decide +kernel); exact goesTo_tS agFi hS hcs hne (by go_simp) rfl (by with_unfolding_all (conv => lhs; whnf)) rfl rfl rfl (by intro v hv; simp [fiC] at hv; rcases hv with rfl | rfl | rfl | rfl <;> rfl) (fun k hk => ⟨100, by simp, hk⟩))); intro va; simp only [Act.put, List.setIfInBounds_toArray, List.set_cons_succ, List.set_cons_zero]
  apply O.wpG_make; (focus rfl); (focus (intro wg Bg hbg hBg hFg; have hS : tB 68 ps pe (fiC [] [] [] []) [u0] va (Bg 4) wg := hFg 4 (by decide +kernel); exact goesTo_tE hS hne (by go_simp) rfl (by with_unfolding_all (conv => lhs; whnf)) rfl (fun k hk => ⟨4, by simp, hk⟩))); intro vb; simp only [Act.put, List.setIfInBounds_toArray, List.set_cons_succ, List.set_cons_zero]
  refine O.wpG_end (fun wg Bg hbg hBg hFg => ?_)
  have hR : tB 68 ps pe (fiC [] [] [] []) [.int .i64 2] vb (Bg 5) wg := hFg 5
  go_wp2_with fail
  refine ⟨rfl, _, rfl, _, (by simp [results, Tryd.results123, go_sem]), rfl, rfl, hR.1, hR.2.1, (show Chg (fun k => k = ps ∨ k = pe) w wg from ⟨hbg.os, hbg.tape, hbg.output, hbg.size, hbg.block⟩)⟩
set_option maxRecDepth 100000 in
theorem ficatch_idle (c1 c2 : Value) (w : World) :
    CallsD Tryd.prog 123 #[c1, c2] .returning w fun e u' w' => e = .returned (.tuple #[]) ∧ u' = .returning ∧ w' = w := by
  refine callsD_of_wpS Tryd.func123 rfl fun c₀ cs hu => ?_
  apply wpS_seq
  apply wpS_region
  simp [wpOpsS, go_sem, recoverD, hu, Tryd.ntmps123, Exit.thenS]
  refine wpS_of_wp ?_
  obtain ⟨T0, hT0⟩ : ∃ T0 : Array Value, T0 = #[c1, c2, .nilIface, .nilIface, undef, undef, undef, undef, undef, undef] := ⟨_, rfl⟩
  have e0 : (#[c1, c2] ++ ((Array.replicate 8 undef).setIfInBounds 1 Value.nilIface).setIfInBounds 0 Value.nilIface) = T0 := by rw [hT0]; rfl
  rw [e0, hT0]
  clear e0 hT0
  go_wp2_with fail
  cases c₀
  simp_all [bodyPostS, results, Tryd.results123, go_sem]
end Go.Proofs.YtfnlcnjflloecaaDoor
