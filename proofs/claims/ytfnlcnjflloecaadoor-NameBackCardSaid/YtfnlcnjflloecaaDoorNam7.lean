/- name: what the preparers give up with, and who catches it. -/
import Derived.Test.YtfnlcnjflloecaaDoorNam6
import Derived.Test.YtfnlcnjflloecaaDoorGrowO
import Derived.Test.YtfnlcnjflloecaaDoorLoan2
import Derived.Defers
import Derived.Recover
set_option linter.unusedVariables false
set_option linter.unusedSimpArgs false
namespace Go.Proofs.YtfnlcnjflloecaaDoor
open Go.RowKit
theorem agJ : AggTy Tryd.prog 23 3 := ⟨⟨_, Tryd.underlying23, rfl⟩, by kernel_rfl⟩
def jCells (l h r : List UInt8) : List Value := [.string (strB l), .string (strB h), .string (strB r)]
def gaveN (x : Int) : List PanicEntry := [{ v := .iface 74 (.agg #[.int .i64 x]), recovered := false }]
set_option maxHeartbeats 800000 in
theorem nmust_ok (g : Nat) (eg : ∀ args w, (callFunc g args).run Tryd.prog w = .ok (.enter g args) w) (s t : List UInt8) (w : World) (h : Calls Tryd.prog g #[.string (strB s)] w (GivesSE w (t, 0))) :
    Calls Tryd.prog 39 #[.func (.func g) #[] #[], .string (strB s)] w fun e w' => e = .returned (.string (strB t)) ∧ Below w.heap.size w w' := by
  have H := Go.Lib.hid h
  clear h
  generalize strB s = S at *
  go_enter Tryd.func39, Tryd.ntmps39
  go_wp2_with (go_at_fn g; refine H.out.mono ?_; rintro e w1 ⟨rfl, hb1⟩)
  go_ret
  exact ⟨rfl, hb1⟩
set_option maxHeartbeats 800000 in
theorem nmust_bad (g : Nat) (eg : ∀ args w, (callFunc g args).run Tryd.prog w = .ok (.enter g args) w) (s t : List UInt8) (x : Int) (hx : x ≠ 0) (w : World) (h : Calls Tryd.prog g #[.string (strB s)] w (GivesSE w (t, x))) :
    Calls Tryd.prog 39 #[.func (.func g) #[] #[], .string (strB s)] w fun e w' => e = .panicked (gaveN x) ∧ Below w.heap.size w w' := by
  have H := Go.Lib.hid h
  clear h
  have q : (x != 0) = true := bne_iff_ne.2 hx
  generalize strB s = S at *
  go_enter Tryd.func39, Tryd.ntmps39
  go_wp2_with (go_at_fn g; refine H.out.mono ?_; rintro e w1 ⟨rfl, hb1⟩)
  exact ⟨rfl, rfl, hb1⟩
/-- The two results' blocks. -/
def jB (ps pe : Nat) (zs es : List Value) : GSpec := fun _ B w => Blk w ps 23 zs ∧ Blk w pe 25 es ∧ B ps ∧ B pe
theorem jB_loc (M0 : Nat → Prop) (w0 : World) (ps pe : Nat) (zs es : List Value) (u : Value) : O.Loc M0 w0 (jB ps pe zs es u) := by
  intro B w w' ⟨h1, h2, h3, h4⟩ hs hk
  exact ⟨by unfold Blk; rw [hk ps h1.lt (.inr h3)]; exact h1, by unfold Blk; rw [hk pe h2.lt (.inr h4)]; exact h2, h3, h4⟩
section
variable {ops : Array Oper} {w : World} {a : Act} {o : Oper} {ps pe x y : Nat} {M N : Nat → Prop} {cs0 es zs : List Value} {u : Value}
theorem goesTo_jS {Z : Array Value} (hS : jB ps pe cs0 es u M w) (hcs : cs0.length = 3) (hne : ps ≠ pe) (hw : Region.wanted o (yielded ops a.tmps) = true) (ho : o.op = .store 23 (.tmp x) (.tmp y))
    (hx : a.eval (.tmp x) = .pointer (some ⟨ps, 0, none⟩)) (hy : a.eval (.tmp y) = .agg Z) (hZ : Z = zs.toArray) (h8 : zs.length = 3) (h1 : ∀ v ∈ zs, v.oneCell' = true) (hM : ∀ k, M k → N k) :
    GoesTo Tryd.prog ops o a w fun v w' => Chg N w w' ∧ jB ps pe zs es v (fun b => N b ∨ (w.heap.size ≤ b ∧ b < w'.heap.size)) w' := by
  obtain ⟨k1, k2, k3, k4⟩ := hS
  subst hZ
  unfold GoesTo
  rw [if_pos hw]
  have hr := run_storeVar_row (P := Tryd.prog) w ps 23 23 cs0.toArray zs.toArray k1 (by rw [agJ.size]; simp [h8]) (by simp [hcs, h8]) (Array.all_eq_true_iff_forall_mem.2 fun u hu => h1 u (by simpa using hu))
  simp [execOp, ho, hx, hy, Instr.storeAt, Instr.sureAddr, hr]
  refine ⟨⟨rfl, rfl, rfl, by simp, fun k _ hk => setRow_other w ps k _ (fun e => hk (e ▸ hM _ k3))⟩, ?_, ?_, .inl (hM _ k3), .inl (hM _ k4)⟩
  · exact setRow_heap w ps _ _ 23 _ k1
  · unfold Blk; rw [setRow_other w ps pe _ (fun e => hne e.symm)]; exact k2
theorem goesTo_jE {n : Int} {u0 : Value} (hS : jB ps pe zs [u0] u M w) (hne : ps ≠ pe) (hw : Region.wanted o (yielded ops a.tmps) = true) (ho : o.op = .store 25 (.tmp x) (.tmp y))
    (hx : a.eval (.tmp x) = .pointer (some ⟨pe, 0, none⟩)) (hy : a.eval (.tmp y) = .int .i64 n) (hM : ∀ k, M k → N k) :
    GoesTo Tryd.prog ops o a w fun v w' => Chg N w w' ∧ jB ps pe zs [.int .i64 n] v (fun b => N b ∨ (w.heap.size ≤ b ∧ b < w'.heap.size)) w' := by
  obtain ⟨k1, k2, k3, k4⟩ := hS
  have c0 : _ = some u0 := k2.cell 0
  have f0 := k2.frozen 0
  have hs := k2.stored 0 (.int .i64 n)
  unfold GoesTo
  rw [if_pos hw]
  have hr : (Instr.storeAt 25 (.pointer (some ⟨pe, 0, none⟩)) (.int .i64 n)).run Tryd.prog w = .ok () (w.setCell ⟨pe, 0, none⟩ (.int .i64 n)) := by simp [go_sem, c0, f0]
  simp only [execOp, ho, hx, hy]
  simp [hr]
  refine ⟨(Chg.setCell w ⟨pe, 0, none⟩ _).mono (fun k hk => by cases hk; exact hM _ k4), k1.other hne _, hs, .inl (hM _ k3), .inl (hM _ k4)⟩
end
set_option maxRecDepth 100000 in
theorem pcatch_c (ps pe : Nat) (x : Int) (w : World) (cs0 cs' : List Value) (u0 : Value) (hs : Blk w ps 23 cs0) (hcs : cs0.length = 3) (he : Blk w pe 25 cs') (hcs' : cs' = [u0]) (hne : ps ≠ pe) :
    CallsD Tryd.prog 37 #[.pointer (some ⟨ps, 0, none⟩), .pointer (some ⟨pe, 0, none⟩)] (.panicking ({ v := .iface 74 (.agg #[.int .i64 x]), recovered := false } :: [])) w fun e u' w' =>
      e = .returned (.tuple #[]) ∧ u' = .panicking ({ v := .iface 74 (.agg #[.int .i64 x]), recovered := true } :: []) ∧ Blk w' ps 23 (jCells [] [] []) ∧ Blk w' pe 25 [.int .i64 x] ∧ Chg (fun k => k = ps ∨ k = pe) w w' := by
  refine callsD_of_wpS Tryd.func37 rfl fun c₀ cs hu => ?_
  apply wpS_seq
  apply wpS_region
  simp [wpOpsS, go_sem, recoverD, hu, Tryd.ntmps37, Exit.thenS]
  refine wpS_of_wp ?_
  obtain ⟨T0, hT0⟩ : ∃ T0 : Array Value, T0 = #[.pointer (some ⟨ps, 0, none⟩), .pointer (some ⟨pe, 0, none⟩), .iface 74 (.agg #[.int .i64 x]), .iface 74 (.agg #[.int .i64 x]), undef, undef, undef, undef, undef, undef] := ⟨_, rfl⟩
  have e0 : (#[Value.pointer (some { block := ps, off := 0 }), Value.pointer (some { block := pe, off := 0 })] ++
          ((Array.replicate 8 undef).setIfInBounds 1 (Value.iface 74 (Value.agg #[Value.int IntKind.i64 x]))).setIfInBounds 0 (Value.iface 74 (Value.agg #[Value.int IntKind.i64 x]))) = T0 := by rw [hT0]; rfl
  rw [e0, hT0]
  clear e0 hT0
  have hz : Tryd.prog.built 23 [] = some #[.string ⟨#[]⟩, .string ⟨#[]⟩, .string ⟨#[]⟩] := by kernel_rfl
  have hta : ∀ w : World, (Instr.typeAssert (.iface 74 (.agg #[.int .i64 x])) 20 74 false).run Tryd.prog w = .ok (.agg #[.int .i64 x]) w := fun _ => by kernel_rfl
  subst hcs'
  go_wp2_with fail
  refine O.region_making 6 (fun | 4 => [100] | 5 => [4] | _ => []) (fun | 4 => some fun _ => jB ps pe (jCells [] [] []) [u0] | 5 => some fun _ => jB ps pe (jCells [] [] []) [.int .i64 x] | _ => none) 4 100 (fun k => k = ps ∨ k = pe) (jB ps pe cs0 [u0] undef) (by kernel_rfl) (by kernel_rfl) ?_ ?_ ?_ ?_ ?_
  · intro i' S' h' e v'
    match i', h' with
    | 4, h' => cases h'; exact jB_loc _ _ _ _ _ _ _
    | 5, h' => cases h'; exact jB_loc _ _ _ _ _ _ _
  · exact jB_loc _ _ _ _ _ _ _
  · exact ⟨hs, he, .inl rfl, .inr rfl⟩
  · rintro k (rfl | rfl)
    · exact hs.lt
    · exact he.lt
  simp only [List.take_succ_cons, List.take_zero, List.drop_succ_cons, List.drop_zero]
  (apply O.wpG_pure; (focus rfl); (focus (intro wg Bg hbg hBg hFg; go_simp; (try go_bits); (first | done | exact ⟨rfl, Below.refl _ _⟩ | rfl))); simp only [Act.put, List.setIfInBounds_toArray, List.set_cons_succ, List.set_cons_zero])
  (apply O.wpG_pure; (focus rfl); (focus (intro wg Bg hbg hBg hFg; go_simp; (try go_bits); (first | done | exact ⟨rfl, Below.refl _ _⟩ | rfl))); simp only [Act.put, List.setIfInBounds_toArray, List.set_cons_succ, List.set_cons_zero])
  (apply O.wpG_pure; (focus rfl); (focus (intro wg Bg hbg hBg hFg; go_simp; (try go_bits); (first | done | exact ⟨rfl, Below.refl _ _⟩ | rfl))); simp only [Act.put, List.setIfInBounds_toArray, List.set_cons_succ, List.set_cons_zero])
  (apply O.wpG_pure; (focus rfl); (focus (intro wg Bg hbg hBg hFg; go_simp; (try go_bits); (first | done | exact ⟨rfl, Below.refl _ _⟩ | rfl))); simp only [Act.put, List.setIfInBounds_toArray, List.set_cons_succ, List.set_cons_zero])
  apply O.wpG_make; (focus rfl); (focus (intro wg Bg hbg hBg hFg; have hS : jB ps pe cs0 [u0] undef (Bg 100) wg := hFg 100 (by decide +kernel); exact goesTo_jS hS hcs hne (by go_simp) rfl (by with_unfolding_all (conv => lhs; whnf)) rfl rfl rfl (by intro v hv; simp [jCells] at hv; rcases hv with rfl | rfl | rfl <;> rfl) (fun k hk => ⟨100, by simp, hk⟩))); intro va; simp only [Act.put, List.setIfInBounds_toArray, List.set_cons_succ, List.set_cons_zero]
  apply O.wpG_make; (focus rfl); (focus (intro wg Bg hbg hBg hFg; have hS : jB ps pe (jCells [] [] []) [u0] va (Bg 4) wg := hFg 4 (by decide +kernel); exact goesTo_jE hS hne (by go_simp) rfl (by with_unfolding_all (conv => lhs; whnf)) rfl (fun k hk => ⟨4, by simp, hk⟩))); intro vb; simp only [Act.put, List.setIfInBounds_toArray, List.set_cons_succ, List.set_cons_zero]
  refine O.wpG_end (fun wg Bg hbg hBg hFg => ?_)
  have hR : jB ps pe (jCells [] [] []) [.int .i64 x] vb (Bg 5) wg := hFg 5
  go_wp2_with fail
  refine ⟨rfl, _, rfl, _, (by simp [results, Tryd.results37, go_sem]), rfl, rfl, hR.1, hR.2.1, (show Chg (fun k => k = ps ∨ k = pe) w wg from ⟨hbg.os, hbg.tape, hbg.output, hbg.size, hbg.block⟩)⟩
set_option maxRecDepth 100000 in
theorem pcatch_idle (c1 c2 : Value) (w : World) :
    CallsD Tryd.prog 37 #[c1, c2] .returning w fun e u' w' => e = .returned (.tuple #[]) ∧ u' = .returning ∧ w' = w := by
  refine callsD_of_wpS Tryd.func37 rfl fun c₀ cs hu => ?_
  apply wpS_seq
  apply wpS_region
  simp [wpOpsS, go_sem, recoverD, hu, Tryd.ntmps37, Exit.thenS]
  refine wpS_of_wp ?_
  obtain ⟨T0, hT0⟩ : ∃ T0 : Array Value, T0 = #[c1, c2, .nilIface, .nilIface, undef, undef, undef, undef, undef, undef] := ⟨_, rfl⟩
  have e0 : (#[c1, c2] ++ ((Array.replicate 8 undef).setIfInBounds 1 Value.nilIface).setIfInBounds 0 Value.nilIface) = T0 := by rw [hT0]; rfl
  rw [e0, hT0]
  clear e0 hT0
  go_wp2_with fail
  cases c₀
  simp_all [bodyPostS, results, Tryd.results37, go_sem]
/-- Two results that lie in memory. -/
theorem results_jid (fn : Func) (hf : fn.results = #[.cell 2 23, .cell 3 25]) (tmps : Array Value) (w : World) (ps pe : Nat) (zs : List Value) (x : Int) (h2 : tmps.getD 2 undef = .pointer (some ⟨ps, 0, none⟩)) (h3 : tmps.getD 3 undef = .pointer (some ⟨pe, 0, none⟩))
    (hs : Blk w ps 23 zs) (h8 : zs.length = 3) (he : Blk w pe 25 [.int .i64 x]) : (results fn tmps).run Tryd.prog w = .ok (.tuple #[.agg zs.toArray, .int .i64 x]) w := by
  have h2' : tmps[2]?.getD undef = .pointer (some ⟨ps, 0, none⟩) := by simpa using h2
  have h3' : tmps[3]?.getD undef = .pointer (some ⟨pe, 0, none⟩) := by simpa using h3
  have r1 := run_loadVar_row (P := Tryd.prog) w ps 23 23 zs.toArray (0, 0) _ hs Tryd.underlying23 rfl (by rw [agJ.size]; simp [h8])
  have c0 : _ = some _ := he.cell 0
  have r2 : (loadVar 25 ⟨pe, 0, none⟩).run Tryd.prog w = .ok (.int .i64 x) w := by simp [go_sem, c0]
  simp [results, hf, h2', h3', asAddr, r1, r2]
end Go.Proofs.YtfnlcnjflloecaaDoor
