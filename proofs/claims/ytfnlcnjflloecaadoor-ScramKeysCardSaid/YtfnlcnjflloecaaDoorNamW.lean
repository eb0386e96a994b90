/- name: the preparers at texts of any length. -/
import Derived.Test.YtfnlcnjflloecaaDoorNam6
import Derived.Test.YtfnlcnjflloecaaDoorGrowP
import Derived.Defers
import Derived.Recover
/-! ### Nam7 -/
set_option linter.unusedVariables false
set_option linter.unusedSimpArgs false
namespace Go.Proofs.YtfnlcnjflloecaaDoor
open Go.RowKit
theorem agJ : AggTy Tryd.prog 23 3 := ⟨⟨_, Tryd.underlying23, rfl⟩, by kernel_rfl⟩
def jCells (l h r : List UInt8) : List Value := [.string (strB l), .string (strB h), .string (strB r)]
def gaveN (x : Int) : List PanicEntry := [{ v := .iface 74 (.agg #[.int .i64 x]), recovered := false }]
set_option maxHeartbeats 800000 in
theorem nmust_ok (g : Nat) (eg : ∀ args w, (callFunc g args).run Tryd.prog w = .ok (.enter g args) w) (s t : List UInt8) (w : World) (h : Calls Tryd.prog g #[.string (strB s)] w (GivesSE w (t, 0))) :
    Calls Tryd.prog 39 #[.func (.func g) #[] #[], .string (strB s)] w fun e w' => e = .returned (.string (strB t)) ∧ Below w.heap.size w w' := by
  have H := Go.Lib.hid h
  clear h
  generalize strB s = S at *
  go_enter Tryd.func39, Tryd.ntmps39
  go_wp2_with (go_at_fn g; refine H.out.mono ?_; rintro e w1 ⟨rfl, hb1⟩)
  go_ret
  exact ⟨rfl, hb1⟩
set_option maxHeartbeats 800000 in
theorem nmust_bad (g : Nat) (eg : ∀ args w, (callFunc g args).run Tryd.prog w = .ok (.enter g args) w) (s t : List UInt8) (x : Int) (hx : x ≠ 0) (w : World) (h : Calls Tryd.prog g #[.string (strB s)] w (GivesSE w (t, x))) :
    Calls Tryd.prog 39 #[.func (.func g) #[] #[], .string (strB s)] w fun e w' => e = .panicked (gaveN x) ∧ Below w.heap.size w w' := by
  have H := Go.Lib.hid h
  clear h
  have q : (x != 0) = true := bne_iff_ne.2 hx
  generalize strB s = S at *
  go_enter Tryd.func39, Tryd.ntmps39
  go_wp2_with (go_at_fn g; refine H.out.mono ?_; rintro e w1 ⟨rfl, hb1⟩)
  exact ⟨rfl, rfl, hb1⟩
/-- The two results' blocks. -/
def jB (ps pe : Nat) (zs es : List Value) : GSpec := fun _ B w => Blk w ps 23 zs ∧ Blk w pe 25 es ∧ B ps ∧ B pe
theorem jB_loc (M0 : Nat → Prop) (w0 : World) (ps pe : Nat) (zs es : List Value) (u : Value) : O.Loc M0 w0 (jB ps pe zs es u) := by
  intro B w w' ⟨h1, h2, h3, h4⟩ hs hk
  exact ⟨by unfold Blk; rw [hk ps h1.lt (.inr h3)]; exact h1, by unfold Blk; rw [hk pe h2.lt (.inr h4)]; exact h2, h3, h4⟩
section
variable {ops : Array Oper} {w : World} {a : Act} {o : Oper} {ps pe x y : Nat} {M N : Nat → Prop} {cs0 es zs : List Value} {u : Value}
theorem goesTo_jS {Z : Array Value} (hS : jB ps pe cs0 es u M w) (hcs : cs0.length = 3) (hne : ps ≠ pe) (hw : Region.wanted o (yielded ops a.tmps) = true) (ho : o.op = .store 23 (.tmp x) (.tmp y))
    (hx : a.eval (.tmp x) = .pointer (some ⟨ps, 0, none⟩)) (hy : a.eval (.tmp y) = .agg Z) (hZ : Z = zs.toArray) (h8 : zs.length = 3) (h1 : ∀ v ∈ zs, v.oneCell' = true) (hM : ∀ k, M k → N k) :
    GoesTo Tryd.prog ops o a w fun v w' => Chg N w w' ∧ jB ps pe zs es v (fun b => N b ∨ (w.heap.size ≤ b ∧ b < w'.heap.size)) w' := by
  obtain ⟨k1, k2, k3, k4⟩ := hS
  subst hZ
  unfold GoesTo
  rw [if_pos hw]
  have hr := run_storeVar_row (P := Tryd.prog) w ps 23 23 cs0.toArray zs.toArray k1 (by rw [agJ.size]; simp [h8]) (by simp [hcs, h8]) (Array.all_eq_true_iff_forall_mem.2 fun u hu => h1 u (by simpa using hu))
  simp [execOp, ho, hx, hy, Instr.storeAt, Instr.sureAddr, hr]
  refine ⟨⟨rfl, rfl, rfl, by simp, fun k _ hk => setRow_other w ps k _ (fun e => hk (e ▸ hM _ k3))⟩, ?_, ?_, .inl (hM _ k3), .inl (hM _ k4)⟩
  · exact setRow_heap w ps _ _ 23 _ k1
  · unfold Blk; rw [setRow_other w ps pe _ (fun e => hne e.symm)]; exact k2
theorem goesTo_jE {n : Int} {u0 : Value} (hS : jB ps pe zs [u0] u M w) (hne : ps ≠ pe) (hw : Region.wanted o (yielded ops a.tmps) = true) (ho : o.op = .store 25 (.tmp x) (.tmp y))
    (hx : a.eval (.tmp x) = .pointer (some ⟨pe, 0, none⟩)) (hy : a.eval (.tmp y) = .int .i64 n) (hM : ∀ k, M k → N k) :
    GoesTo Tryd.prog ops o a w fun v w' => Chg N w w' ∧ jB ps pe zs [.int .i64 n] v (fun b => N b ∨ (w.heap.size ≤ b ∧ b < w'.heap.size)) w' := by
  obtain ⟨k1, k2, k3, k4⟩ := hS
  have c0 : _ = some u0 := k2.cell 0
  have f0 := k2.frozen 0
  have hs := k2.stored 0 (.int .i64 n)
  unfold GoesTo
  rw [if_pos hw]
  have hr : (Instr.storeAt 25 (.pointer (some ⟨pe, 0, none⟩)) (.int .i64 n)).run Tryd.prog w = .ok () (w.setCell ⟨pe, 0, none⟩ (.int .i64 n)) := by simp [go_sem, c0, f0]
  simp only [execOp, ho, hx, hy]
  simp [hr]
  refine ⟨(Chg.setCell w ⟨pe, 0, none⟩ _).mono (fun k hk => by cases hk; exact hM _ k4), k1.other hne _, hs, .inl (hM _ k3), .inl (hM _ k4)⟩
end
set_option maxRecDepth 100000 in
theorem pcatch_c (ps pe : Nat) (x : Int) (w : World) (cs0 cs' : List Value) (u0 : Value) (hs : Blk w ps 23 cs0) (hcs : cs0.length = 3) (he : Blk w pe 25 cs') (hcs' : cs' = [u0]) (hne : ps ≠ pe) :
    CallsD Tryd.prog 37 #[.pointer (some ⟨ps, 0, none⟩), .pointer (some ⟨pe, 0, none⟩)] (.panicking ({ v := .iface 74 (.agg #[.int .i64 x]), recovered := false } :: [])) w fun e u' w' =>
      e = .returned (.tuple #[]) ∧ u' = .panicking ({ v := .iface 74 (.agg #[.int .i64 x]), recovered := true } :: []) ∧ Blk w' ps 23 (jCells [] [] []) ∧ Blk w' pe 25 [.int .i64 x] ∧ Chg (fun k => k = ps ∨ k = pe) w w' := by
  refine callsD_of_wpS Tryd.func37 rfl fun c₀ cs hu => ?_
  apply wpS_seq
  apply wpS_region
  simp [wpOpsS, go_sem, recoverD, hu, Tryd.ntmps37, Exit.thenS]
  refine wpS_of_wp ?_
  obtain ⟨T0, hT0⟩ : ∃ T0 : Array Value, T0 = #[.pointer (some ⟨ps, 0, none⟩), .pointer (some ⟨pe, 0, none⟩), .iface 74 (.agg #[.int .i64 x]), .iface 74 (.agg #[.int .i64 x]), undef, undef, undef, undef, undef, undef] := ⟨_, rfl⟩
  have e0 : (#[Value.pointer (some { block := ps, off := 0 }), Value.pointer (some { block := pe, off := 0 })] ++
          ((Array.replicate 8 undef).setIfInBounds 1 (Value.iface 74 (Value.agg #[Value.int IntKind.i64 x]))).setIfInBounds 0 (Value.iface 74 (Value.agg #[Value.int IntKind.i64 x]))) = T0 := by rw [hT0]; rfl
  rw [e0, hT0]
  clear e0 hT0
  have hz : Tryd.prog.built 23 [] = some #[.string ⟨#[]⟩, .string ⟨#[]⟩, .string ⟨#[]⟩] := by kernel_rfl
  have hta : ∀ w : World, (Instr.typeAssert (.iface 74 (.agg #[.int .i64 x])) 20 74 false).run Tryd.prog w = .ok (.agg #[.int .i64 x]) w := fun _ => by kernel_rfl
  subst hcs'
  go_wp2_with fail
  refine O.region_making 6 (fun | 4 => [100] | 5 => [4] | _ => []) (fun | 4 => some fun _ => jB ps pe (jCells [] [] []) [u0] | 5 => some fun _ => jB ps pe (jCells [] [] []) [.int .i64 x] | _ => none) 4 100 (fun k => k = ps ∨ k = pe) (jB ps pe cs0 [u0] undef) (by kernel_rfl) (by kernel_rfl) ?_ ?_ ?_ ?_ ?_
  · intro i' S' h' e v'
    match i', h' with
    | 4, h' => cases h'; exact jB_loc _ _ _ _ _ _ _
    | 5, h' => cases h'; exact jB_loc _ _ _ _ _ _ _
  · exact jB_loc _ _ _ _ _ _ _
  · exact ⟨hs, he, .inl rfl, .inr rfl⟩
  · rintro k (rfl | rfl)
    · exact hs.lt
    · exact he.lt
  simp only [List.take_succ_cons, List.take_zero, List.drop_succ_cons, List.drop_zero]
  (apply O.wpG_pure; (focus rfl); (focus (intro wg Bg hbg hBg hFg; go_simp; (try go_bits); (first | done | exact ⟨rfl, Below.refl _ _⟩ | rfl))); simp only [Act.put, List.setIfInBounds_toArray, List.set_cons_succ, List.set_cons_zero])
  (apply O.wpG_pure; (focus rfl); (focus (intro wg Bg hbg hBg hFg; go_simp; (try go_bits); (first | done | exact ⟨rfl, Below.refl _ _⟩ | rfl))); simp only [Act.put, List.setIfInBounds_toArray, List.set_cons_succ, List.set_cons_zero])
  (apply O.wpG_pure; (focus rfl); (focus (intro wg Bg hbg hBg hFg; go_simp; (try go_bits); (first | done | exact ⟨rfl, Below.refl _ _⟩ | rfl))); simp only [Act.put, List.setIfInBounds_toArray, List.set_cons_succ, List.set_cons_zero])
  (apply O.wpG_pure; (focus rfl); (focus (intro wg Bg hbg hBg hFg; go_simp; (try go_bits); (first | done | exact ⟨rfl, Below.refl _ _⟩ | rfl))); simp only [Act.put, List.setIfInBounds_toArray, List.set_cons_succ, List.set_cons_zero])
  apply O.wpG_make; (focus rfl); (focus (intro wg Bg hbg hBg hFg; have hS : jB ps pe cs0 [u0] undef (Bg 100) wg := hFg 100 (by decide +kernel); exact goesTo_jS hS hcs hne (by go_simp) rfl (by with_unfolding_all (conv => lhs; whnf)) rfl rfl rfl (by intro v hv; simp [jCells] at hv; rcases hv with rfl | rfl | rfl <;> rfl) (fun k hk => ⟨100, by simp, hk⟩))); intro va; simp only [Act.put, List.setIfInBounds_toArray, List.set_cons_succ, List.set_cons_zero]
  apply O.wpG_make; (focus rfl); (focus (intro wg Bg hbg hBg hFg; have hS : jB ps pe (jCells [] [] []) [u0] va (Bg 4) wg := hFg 4 (by decide +kernel); exact goesTo_jE hS hne (by go_simp) rfl (by with_unfolding_all (conv => lhs; whnf)) rfl (fun k hk => ⟨4, by simp, hk⟩))); intro vb; simp only [Act.put, List.setIfInBounds_toArray, List.set_cons_succ, List.set_cons_zero]
  refine O.wpG_end (fun wg Bg hbg hBg hFg => ?_)
  have hR : jB ps pe (jCells [] [] []) [.int .i64 x] vb (Bg 5) wg := hFg 5
  go_wp2_with fail
  refine ⟨rfl, _, rfl, _, (by simp [results, Tryd.results37, go_sem]), rfl, rfl, hR.1, hR.2.1, (show Chg (fun k => k = ps ∨ k = pe) w wg from ⟨hbg.os, hbg.tape, hbg.output, hbg.size, hbg.block⟩)⟩
set_option maxRecDepth 100000 in
theorem pcatch_idle (c1 c2 : Value) (w : World) :
    CallsD Tryd.prog 37 #[c1, c2] .returning w fun e u' w' => e = .returned (.tuple #[]) ∧ u' = .returning ∧ w' = w := by
  refine callsD_of_wpS Tryd.func37 rfl fun c₀ cs hu => ?_
  apply wpS_seq
  apply wpS_region
  simp [wpOpsS, go_sem, recoverD, hu, Tryd.ntmps37, Exit.thenS]
  refine wpS_of_wp ?_
  obtain ⟨T0, hT0⟩ : ∃ T0 : Array Value, T0 = #[c1, c2, .nilIface, .nilIface, undef, undef, undef, undef, undef, undef] := ⟨_, rfl⟩
  have e0 : (#[c1, c2] ++ ((Array.replicate 8 undef).setIfInBounds 1 Value.nilIface).setIfInBounds 0 Value.nilIface) = T0 := by rw [hT0]; rfl
  rw [e0, hT0]
  clear e0 hT0
  go_wp2_with fail
  cases c₀
  simp_all [bodyPostS, results, Tryd.results37, go_sem]
/-- Two results that lie in memory. -/
theorem results_jid (fn : Func) (hf : fn.results = #[.cell 2 23, .cell 3 25]) (tmps : Array Value) (w : World) (ps pe : Nat) (zs : List Value) (x : Int) (h2 : tmps.getD 2 undef = .pointer (some ⟨ps, 0, none⟩)) (h3 : tmps.getD 3 undef = .pointer (some ⟨pe, 0, none⟩))
    (hs : Blk w ps 23 zs) (h8 : zs.length = 3) (he : Blk w pe 25 [.int .i64 x]) : (results fn tmps).run Tryd.prog w = .ok (.tuple #[.agg zs.toArray, .int .i64 x]) w := by
  have h2' : tmps[2]?.getD undef = .pointer (some ⟨ps, 0, none⟩) := by simpa using h2
  have h3' : tmps[3]?.getD undef = .pointer (some ⟨pe, 0, none⟩) := by simpa using h3
  have r1 := run_loadVar_row (P := Tryd.prog) w ps 23 23 zs.toArray (0, 0) _ hs Tryd.underlying23 rfl (by rw [agJ.size]; simp [h8])
  have c0 : _ = some _ := he.cell 0
  have r2 : (loadVar 25 ⟨pe, 0, none⟩).run Tryd.prog w = .ok (.int .i64 x) w := by simp [go_sem, c0]
  simp [results, hf, h2', h3', asAddr, r1, r2]
end Go.Proofs.YtfnlcnjflloecaaDoor
/-! ### Nam8 -/
set_option linter.unusedVariables false
set_option linter.unusedSimpArgs false
namespace Go.Proofs.YtfnlcnjflloecaaDoor
open Go.RowKit
def GivesJ (w : World) (I : Jid3 × Int) (e : Ending) (w' : World) : Prop := e = .returned (.tuple #[.agg (jCells I.1.1 I.1.2.1 I.1.2.2).toArray, .int .i64 I.2]) ∧ Below w.heap.size w w'
theorem parse_panic {w wi : World} {ps pe : Nat} {x : Int} {zs : List Value} {u : Value} (hps : w.heap.size ≤ ps) (hpe : w.heap.size ≤ pe) (hne : ps ≠ pe) (hS : Blk wi ps 23 zs) (h8 : zs.length = 3) (hE : Blk wi pe 25 [u])
    (hW : Below w.heap.size w wi) {I : Jid3 × Int} (hI : I = (noJ, x)) {tmps : Array Value} (h2 : tmps.getD 2 undef = .pointer (some ⟨ps, 0, none⟩)) (h3 : tmps.getD 3 undef = .pointer (some ⟨pe, 0, none⟩)) :
    bodyPostD Tryd.prog Tryd.f10 (GivesJ w I) (Exit.panic (gaveN x)) { tmps := tmps, defers := [{ target := .fn (.func 37) #[.pointer (some ⟨ps, 0, none⟩), .pointer (some ⟨pe, 0, none⟩)], args := #[] }] } wi := by
  subst hI
  refine leaves_cons (f := 37) (args := #[.pointer (some ⟨ps, 0, none⟩), .pointer (some ⟨pe, 0, none⟩)]) (by simp) (by simp [go_sem]) ?_
  refine (pcatch_c ps pe x wi zs [u] u hS h8 hE rfl hne).mono ?_
  rintro e u' w'' ⟨rfl, rfl, k1, k2, hc2⟩
  refine ⟨_, results_jid _ rfl _ _ _ _ _ _ h2 h3 k1 rfl k2, rfl, ?_⟩
  exact hW.trans (hc2.below hW.size (fun k hk => by rcases hk with rfl | rfl <;> assumption))
theorem parse_done {w wi : World} {ps pe : Nat} {l h r : List UInt8} (hS : Blk wi ps 23 (jCells l h r)) (hE : Blk wi pe 25 [.int .i64 0])
    (hW : Below w.heap.size w wi) {I : Jid3 × Int} (hI : I = ((l, h, r), 0)) {tmps : Array Value} (h2 : tmps.getD 2 undef = .pointer (some ⟨ps, 0, none⟩)) (h3 : tmps.getD 3 undef = .pointer (some ⟨pe, 0, none⟩)) :
    bodyPostD Tryd.prog Tryd.f10 (GivesJ w I) Exit.ret { tmps := tmps, defers := [{ target := .fn (.func 37) #[.pointer (some ⟨ps, 0, none⟩), .pointer (some ⟨pe, 0, none⟩)], args := #[] }] } wi := by
  subst hI
  refine leaves_cons (f := 37) (args := #[.pointer (some ⟨ps, 0, none⟩), .pointer (some ⟨pe, 0, none⟩)]) (by simp) (by simp [go_sem]) ?_
  refine (pcatch_idle _ _ wi).mono ?_
  rintro e u' w'' ⟨rfl, rfl, rfl⟩
  exact ⟨_, results_jid _ rfl _ _ _ _ _ _ h2 h3 hS rfl hE, rfl, hW⟩
theorem below_setn {w wi : World} {B : Nat} (h : Below B w wi) (q j : Nat) (u : Value) (hq : B ≤ q) (hB : B ≤ wi.heap.size) : Below B w (wi.setCell ⟨q, j, none⟩ u) :=
  h.trans ((Chg.setCell wi ⟨q, j, none⟩ u).below hB (fun k hk => by cases hk; exact hq))
theorem drewN_below (w : World) : ∀ n, Below w.heap.size w (w.drewN n)
  | 0 => Below.refl _ _
  | n + 1 => (drewN_below w n).drew
theorem cut_c (c : UInt8) (s : List UInt8) (w : World) (hl : s.length ≤ 1000000000) (hM : MaxL w) :
    Calls Tryd.prog 38 #[.string (strB s), .string ⟨#[c]⟩] w fun e w' => e = .returned (.tuple #[.string (strB (cutI c s).1), .string (strB (cutI c s).2.1), .bool (cutI c s).2.2]) ∧ Below w.heap.size w w' := by
  obtain ⟨m, hm⟩ := hM
  have h := Tryd.strings_Cut (strB s) ⟨#[c]⟩ m w (by rw [strB_size]; omega) hm
  have e1 : (strB s).data.toList = s := rfl
  have e2 : (⟨#[c]⟩ : ByteArray).data.toList = [c] := rfl
  rw [e1, e2, cut_cutI] at h
  refine h.mono ?_
  rintro e w' ⟨rfl, n, rfl⟩
  exact ⟨rfl, drewN_below w n⟩
theorem jcells_one (l h r : List UInt8) : ∀ u ∈ (jCells l h r).toArray.toList, u.oneCell' = true := by
  intro v hv
  simp [jCells] at hv
  rcases hv with rfl | rfl | rfl <;> rfl
theorem cutI_lens (c : UInt8) : ∀ s : List UInt8, (cutI c s).1.length ≤ s.length ∧ (cutI c s).2.1.length ≤ s.length
  | [] => by simp [cutI]
  | b :: r => by
    have ih := cutI_lens c r
    unfold cutI
    by_cases h : b = c
    · rw [if_pos h]; simp
    · rw [if_neg h]
      simp only [List.length_cons]
      omega
set_option maxRecDepth 100000 in
set_option maxHeartbeats 6400000 in
theorem nparse_c (s : List UInt8) (w : World) (hl : s.length ≤ 1000000000) (hT : Tabs w) (hM : MaxL w) : Calls Tryd.prog 10 #[.string (strB s)] w (GivesJ w (parseI s)) := by
  have hmf : ∀ (fn : Fn) (first cap : Array Value) (w : World), (Instr.makeFunc fn first cap).run Tryd.prog w = .ok (.func fn first cap) w := fun _ _ _ _ => rfl
  obtain ⟨w2, e2, hS, hE, hW⟩ : ∃ w2, w2 = (w.alloc (.cells #[.string ⟨#[]⟩, .string ⟨#[]⟩, .string ⟨#[]⟩] 23)).alloc (.cells #[.int .i64 0] 25) ∧
      Blk w2 w.heap.size 23 (jCells [] [] []) ∧ Blk w2 (w.heap.size + 1) 25 [.int .i64 0] ∧ Below w.heap.size w w2 := by
    have b1 := (Below.refl w.heap.size w).alloc (Nat.le_refl _) (.cells #[.string ⟨#[]⟩, .string ⟨#[]⟩, .string ⟨#[]⟩] 23)
    have k1 := Blk.new w 23 (jCells [] [] [])
    have z1 : (w.alloc (.cells #[.string ⟨#[]⟩, .string ⟨#[]⟩, .string ⟨#[]⟩] 23)).heap.size = w.heap.size + 1 := by simp
    have k1' : Blk (w.alloc (.cells #[.string ⟨#[]⟩, .string ⟨#[]⟩, .string ⟨#[]⟩] 23)) w.heap.size 23 (jCells [] [] []) := k1
    clear k1
    generalize w.alloc (.cells #[.string ⟨#[]⟩, .string ⟨#[]⟩, .string ⟨#[]⟩] 23) = w1 at *
    have b2 := (Below.refl w1.heap.size w1).alloc (Nat.le_refl _) (.cells #[.int .i64 0] 25)
    have k2 := Blk.new w1 25 [.int .i64 0]
    have k2' : Blk (w1.alloc (.cells #[.int .i64 0] 25)) w1.heap.size 25 [.int .i64 0] := k2
    clear k2
    rw [z1] at k2'
    exact ⟨_, rfl, k1'.below b2, k2', below_below b1 b2⟩
  have eL : ∀ args w, (callFunc 15 args).run Tryd.prog w = .ok (.enter 15 args) w := enters_of Tryd.func15 (by kernel_rfl) rfl
  have eH : ∀ args w, (callFunc 16 args).run Tryd.prog w = .ok (.enter 16 args) w := enters_of Tryd.func16 (by kernel_rfl) rfl
  have eR : ∀ args w, (callFunc 40 args).run Tryd.prog w = .ok (.enter 40 args) w := enters_of Tryd.func40 (by kernel_rfl) rfl
  have C47 := fun w1 (hb : Below w.heap.size w w1) => cut_c 47 s w1 hl (hM.below hb)
  have l47 := cutI_lens 47 s
  have hI : parseI s = (let c := cutI 47 s
    let d := cutI 64 c.1
    let l := if d.2.2 = true then localI d.1 else ([], 0)
    let h := hostI (if d.2.2 = true then d.2.1 else c.1)
    let r := if c.2.2 = true then resI c.2.1 else ([], 0)
    if l.2 ≠ 0 then (noJ, l.2) else if h.2 ≠ 0 then (noJ, h.2) else if r.2 ≠ 0 then (noJ, r.2) else ((l.1, h.1, r.1), 0)) := rfl
  simp only at hI
  generalize parseI s = I at *
  generalize cutI 47 s = c at *
  obtain ⟨bare, rs, has⟩ := c
  simp only at hI l47 C47
  have C64 := fun w1 (hb : Below w.heap.size w w1) => cut_c 64 bare w1 (by omega) (hM.below hb)
  have l64 := cutI_lens 64 bare
  generalize cutI 64 bare = d at *
  obtain ⟨us, ho, at_⟩ := d
  simp only at hI l64 C64
  have PL := fun w1 (hb : Below w.heap.size w w1) => local_c us w1 (by omega) (hT.below hb)
  have PR := fun w1 (hb : Below w.heap.size w w1) => resource_c rs w1 (by omega) (hT.below hb)
  have PH := fun hs w1 (hh : hs.length ≤ 1000000000) (hb : Below w.heap.size w w1) => host_c hs w1 hh (hT.below hb) (hM.below hb)
  have hps : w.heap.size ≤ w.heap.size := Nat.le_refl _
  have hpe : w.heap.size ≤ w.heap.size + 1 := by omega
  have n1 : w.heap.size ≠ w.heap.size + 1 := by omega
  replace hI := Go.Lib.hid hI
  go_enter_defers Tryd.func10, Tryd.ntmps10
  go_wp2_with fail
  rw [← e2]
  clear e2
  refine (C47 _ hW).mono ?_
  rintro e w3 ⟨rfl, hb3⟩
  replace hS := hS.below hb3
  replace hE := hE.below hb3
  replace hW := below_below hW hb3
  go_wp2_with fail
  refine (C64 _ hW).mono ?_
  rintro e w4 ⟨rfl, hb4⟩
  replace hS := hS.below hb4
  replace hE := hE.below hb4
  replace hW := below_below hW hb4
  clear C47 C64 hb3 hb4
  cases at_
  · simp only [Bool.false_eq_true, if_false] at hI
    replace hI := Go.Lib.hid (hI.out.trans (if_neg (by simp)))
    generalize hhh : hostI bare = hv at *
    obtain ⟨hv, he⟩ := hv
    simp only at hI
    have PHv := fun w1 hb => PH bare w1 (by omega) hb
    rw [hhh] at PHv
    by_cases hh0 : he = 0
    · subst hh0
      replace hI := Go.Lib.hid (hI.out.trans (if_neg (by simp)))
      go_wp2_with fail
      refine (nmust_ok _ eH bare hv _ (PHv _ hW)).mono ?_
      rintro e w6 ⟨rfl, hb6⟩
      replace hS := hS.below hb6
      replace hE := hE.below hb6
      replace hW := below_below hW hb6
      have s1 := hS.frozen 1
      have c1 : _ = some _ := hS.cell 1
      go_upto_region 8 with fail
      have hwl := hS.lt
      replace hE := hE.other (a := ⟨w.heap.size, 1, none⟩) (fun e => n1 e.symm) (.string (strB hv))
      replace hW := below_setn hW w.heap.size 1 (.string (strB hv)) (Nat.le_refl _) (by omega)
      replace hS : Blk (w6.setCell ⟨w.heap.size, 1, none⟩ (.string (strB hv))) w.heap.size 23 (jCells [] hv []) := hS.stored 1 (.string (strB hv))
      clear s1 c1 hwl
      generalize w6.setCell ⟨w.heap.size, 1, none⟩ (.string (strB hv)) = w7 at *
      cases has
      · simp only [Bool.false_eq_true, if_false] at hI
        replace hI := Go.Lib.hid (hI.out.trans (if_neg (by simp)))
        have h1c := jcells_one [] hv []
        have tz0 : True := trivial
        go_wp2_with (first
          | (have _t := tz0; (with_reducible refine G_load ?_; refine L_load_agg agJ (by with_unfolding_all (conv => lhs; whnf)) hS rfl ?_); clear tz0; have tz1 : True := trivial)
          | (have _t := tz1; (with_reducible refine G_store ?_; refine L_store_agg agJ (by with_unfolding_all (conv => lhs; whnf)) (by with_unfolding_all (conv => lhs; whnf)) hS rfl rfl h1c ?_); intro wz hkz hgz hsz; have hEz := hE.grown hgz (fun e => by simp at e); have e0 : _ = some _ := hEz.cell 0; have e1 := hEz.frozen 0; clear tz1; have tz2 : True := trivial))
        have hcz : Chg (fun k => k = w.heap.size) w7 wz := Chg.grown hgz (fun k hk => by cases hk; rfl)
        have hWz : Below w.heap.size w wz := hW.trans (hcz.below hW.size (fun k hk => by cases hk; exact hps))
        exact parse_done (Blk.other (a := ⟨w.heap.size + 1, 0, none⟩) (by simpa using hkz) n1 _) (hEz.stored 0 (.int .i64 0)) (below_setn hWz (w.heap.size + 1) 0 (.int .i64 0) hpe hWz.size) hI.out rfl rfl
      · simp only [if_true] at hI
        generalize hrr : resI rs = rr at *
        obtain ⟨rv, re⟩ := rr
        simp only at hI
        by_cases hr0 : re = 0
        · subst hr0
          replace hI := Go.Lib.hid (hI.out.trans (if_neg (by simp)))
          go_wp2_with fail
          refine (nmust_ok _ eR rs rv _ (PR _ hW)).mono ?_
          rintro e w8 ⟨rfl, hb8⟩
          replace hS := hS.below hb8
          replace hE := hE.below hb8
          replace hW := below_below hW hb8
          have s2 := hS.frozen 2
          have c2 : _ = some _ := hS.cell 2
          go_upto_region 10 with fail
          have hwl := hS.lt
          replace hE := hE.other (a := ⟨w.heap.size, 2, none⟩) (fun e => n1 e.symm) (.string (strB rv))
          replace hW := below_setn hW w.heap.size 2 (.string (strB rv)) (Nat.le_refl _) (by omega)
          replace hS : Blk (w8.setCell ⟨w.heap.size, 2, none⟩ (.string (strB rv))) w.heap.size 23 (jCells [] hv rv) := hS.stored 2 (.string (strB rv))
          clear s2 c2 hwl
          generalize w8.setCell ⟨w.heap.size, 2, none⟩ (.string (strB rv)) = w9 at *
          have h1c := jcells_one [] hv rv
          have tz0 : True := trivial
          go_wp2_with (first
            | (have _t := tz0; (with_reducible refine G_load ?_; refine L_load_agg agJ (by with_unfolding_all (conv => lhs; whnf)) hS rfl ?_); clear tz0; have tz1 : True := trivial)
            | (have _t := tz1; (with_reducible refine G_store ?_; refine L_store_agg agJ (by with_unfolding_all (conv => lhs; whnf)) (by with_unfolding_all (conv => lhs; whnf)) hS rfl rfl h1c ?_); intro wz hkz hgz hsz; have hEz := hE.grown hgz (fun e => by simp at e); have e0 : _ = some _ := hEz.cell 0; have e1 := hEz.frozen 0; clear tz1; have tz2 : True := trivial))
          have hcz : Chg (fun k => k = w.heap.size) w9 wz := Chg.grown hgz (fun k hk => by cases hk; rfl)
          have hWz : Below w.heap.size w wz := hW.trans (hcz.below hW.size (fun k hk => by cases hk; exact hps))
          exact parse_done (Blk.other (a := ⟨w.heap.size + 1, 0, none⟩) (by simpa using hkz) n1 _) (hEz.stored 0 (.int .i64 0)) (below_setn hWz (w.heap.size + 1) 0 (.int .i64 0) hpe hWz.size) hI.out rfl rfl
        · replace hI := Go.Lib.hid (hI.out.trans (if_pos hr0))
          go_wp2_with fail
          refine (nmust_bad _ eR rs rv re hr0 _ (PR _ hW)).mono ?_
          rintro e w8 ⟨rfl, hb8⟩
          go_wp2_with fail
          exact parse_panic hps hpe n1 (hS.below hb8) rfl (hE.below hb8) (below_below hW hb8) hI.out rfl rfl
    · replace hI := Go.Lib.hid (hI.out.trans (if_pos hh0))
      go_wp2_with fail
      refine (nmust_bad _ eH bare hv he hh0 _ (PHv _ hW)).mono ?_
      rintro e w6 ⟨rfl, hb6⟩
      go_wp2_with fail
      exact parse_panic hps hpe n1 (hS.below hb6) rfl (hE.below hb6) (below_below hW hb6) hI.out rfl rfl
  · simp only [if_true] at hI
    generalize hll : localI us = lv at *
    obtain ⟨lv, le⟩ := lv
    simp only at hI
    by_cases hl0 : le = 0
    · subst hl0
      replace hI := Go.Lib.hid (hI.out.trans (if_neg (by simp)))
      go_wp2_with fail
      refine (nmust_ok _ eL us lv _ (PL _ hW)).mono ?_
      rintro e w5 ⟨rfl, hb5⟩
      replace hS := hS.below hb5
      replace hE := hE.below hb5
      replace hW := below_below hW hb5
      have s0 := hS.frozen 0
      have c0 : _ = some _ := hS.cell 0
      go_upto_region 7 with fail
      have hwl := hS.lt
      replace hE := hE.other (a := ⟨w.heap.size, 0, none⟩) (fun e => n1 e.symm) (.string (strB lv))
      replace hW := below_setn hW w.heap.size 0 (.string (strB lv)) (Nat.le_refl _) (by omega)
      replace hS : Blk (w5.setCell ⟨w.heap.size, 0, none⟩ (.string (strB lv))) w.heap.size 23 (jCells lv [] []) := hS.stored 0 (.string (strB lv))
      clear s0 c0 hwl
      generalize w5.setCell ⟨w.heap.size, 0, none⟩ (.string (strB lv)) = w5' at *
      generalize hhh : hostI ho = hv at *
      obtain ⟨hv, he⟩ := hv
      simp only at hI
      have PHv := fun w1 hb => PH ho w1 (by omega) hb
      rw [hhh] at PHv
      by_cases hh0 : he = 0
      · subst hh0
        replace hI := Go.Lib.hid (hI.out.trans (if_neg (by simp)))
        go_wp2_with fail
        refine (nmust_ok _ eH ho hv _ (PHv _ hW)).mono ?_
        rintro e w6 ⟨rfl, hb6⟩
        replace hS := hS.below hb6
        replace hE := hE.below hb6
        replace hW := below_below hW hb6
        have s1 := hS.frozen 1
        have c1 : _ = some _ := hS.cell 1
        go_upto_region 8 with fail
        have hwl := hS.lt
        replace hE := hE.other (a := ⟨w.heap.size, 1, none⟩) (fun e => n1 e.symm) (.string (strB hv))
        replace hW := below_setn hW w.heap.size 1 (.string (strB hv)) (Nat.le_refl _) (by omega)
        replace hS : Blk (w6.setCell ⟨w.heap.size, 1, none⟩ (.string (strB hv))) w.heap.size 23 (jCells lv hv []) := hS.stored 1 (.string (strB hv))
        clear s1 c1 hwl
        generalize w6.setCell ⟨w.heap.size, 1, none⟩ (.string (strB hv)) = w7 at *
        cases has
        · simp only [Bool.false_eq_true, if_false] at hI
          replace hI := Go.Lib.hid (hI.out.trans (if_neg (by simp)))
          have h1c := jcells_one lv hv []
          have tz0 : True := trivial
          go_wp2_with (first
            | (have _t := tz0; (with_reducible refine G_load ?_; refine L_load_agg agJ (by with_unfolding_all (conv => lhs; whnf)) hS rfl ?_); clear tz0; have tz1 : True := trivial)
            | (have _t := tz1; (with_reducible refine G_store ?_; refine L_store_agg agJ (by with_unfolding_all (conv => lhs; whnf)) (by with_unfolding_all (conv => lhs; whnf)) hS rfl rfl h1c ?_); intro wz hkz hgz hsz; have hEz := hE.grown hgz (fun e => by simp at e); have e0 : _ = some _ := hEz.cell 0; have e1 := hEz.frozen 0; clear tz1; have tz2 : True := trivial))
          have hcz : Chg (fun k => k = w.heap.size) w7 wz := Chg.grown hgz (fun k hk => by cases hk; rfl)
          have hWz : Below w.heap.size w wz := hW.trans (hcz.below hW.size (fun k hk => by cases hk; exact hps))
          exact parse_done (Blk.other (a := ⟨w.heap.size + 1, 0, none⟩) (by simpa using hkz) n1 _) (hEz.stored 0 (.int .i64 0)) (below_setn hWz (w.heap.size + 1) 0 (.int .i64 0) hpe hWz.size) hI.out rfl rfl
        · simp only [if_true] at hI
          generalize hrr : resI rs = rr at *
          obtain ⟨rv, re⟩ := rr
          simp only at hI
          by_cases hr0 : re = 0
          · subst hr0
            replace hI := Go.Lib.hid (hI.out.trans (if_neg (by simp)))
            go_wp2_with fail
            refine (nmust_ok _ eR rs rv _ (PR _ hW)).mono ?_
            rintro e w8 ⟨rfl, hb8⟩
            replace hS := hS.below hb8
            replace hE := hE.below hb8
            replace hW := below_below hW hb8
            have s2 := hS.frozen 2
            have c2 : _ = some _ := hS.cell 2
            go_upto_region 10 with fail
            have hwl := hS.lt
            replace hE := hE.other (a := ⟨w.heap.size, 2, none⟩) (fun e => n1 e.symm) (.string (strB rv))
            replace hW := below_setn hW w.heap.size 2 (.string (strB rv)) (Nat.le_refl _) (by omega)
            replace hS : Blk (w8.setCell ⟨w.heap.size, 2, none⟩ (.string (strB rv))) w.heap.size 23 (jCells lv hv rv) := hS.stored 2 (.string (strB rv))
            clear s2 c2 hwl
            generalize w8.setCell ⟨w.heap.size, 2, none⟩ (.string (strB rv)) = w9 at *
            have h1c := jcells_one lv hv rv
            have tz0 : True := trivial
            go_wp2_with (first
              | (have _t := tz0; (with_reducible refine G_load ?_; refine L_load_agg agJ (by with_unfolding_all (conv => lhs; whnf)) hS rfl ?_); clear tz0; have tz1 : True := trivial)
              | (have _t := tz1; (with_reducible refine G_store ?_; refine L_store_agg agJ (by with_unfolding_all (conv => lhs; whnf)) (by with_unfolding_all (conv => lhs; whnf)) hS rfl rfl h1c ?_); intro wz hkz hgz hsz; have hEz := hE.grown hgz (fun e => by simp at e); have e0 : _ = some _ := hEz.cell 0; have e1 := hEz.frozen 0; clear tz1; have tz2 : True := trivial))
            have hcz : Chg (fun k => k = w.heap.size) w9 wz := Chg.grown hgz (fun k hk => by cases hk; rfl)
            have hWz : Below w.heap.size w wz := hW.trans (hcz.below hW.size (fun k hk => by cases hk; exact hps))
            exact parse_done (Blk.other (a := ⟨w.heap.size + 1, 0, none⟩) (by simpa using hkz) n1 _) (hEz.stored 0 (.int .i64 0)) (below_setn hWz (w.heap.size + 1) 0 (.int .i64 0) hpe hWz.size) hI.out rfl rfl
          · replace hI := Go.Lib.hid (hI.out.trans (if_pos hr0))
            go_wp2_with fail
            refine (nmust_bad _ eR rs rv re hr0 _ (PR _ hW)).mono ?_
            rintro e w8 ⟨rfl, hb8⟩
            go_wp2_with fail
            exact parse_panic hps hpe n1 (hS.below hb8) rfl (hE.below hb8) (below_below hW hb8) hI.out rfl rfl
      · replace hI := Go.Lib.hid (hI.out.trans (if_pos hh0))
        go_wp2_with fail
        refine (nmust_bad _ eH ho hv he hh0 _ (PHv _ hW)).mono ?_
        rintro e w6 ⟨rfl, hb6⟩
        go_wp2_with fail
        exact parse_panic hps hpe n1 (hS.below hb6) rfl (hE.below hb6) (below_below hW hb6) hI.out rfl rfl
    · replace hI := Go.Lib.hid (hI.out.trans (if_pos hl0))
      go_wp2_with fail
      refine (nmust_bad _ eL us lv le hl0 _ (PL _ hW)).mono ?_
      rintro e w5 ⟨rfl, hb5⟩
      go_wp2_with fail
      exact parse_panic hps hpe n1 (hS.below hb5) rfl (hE.below hb5) (below_below hW hb5) hI.out rfl rfl
end Go.Proofs.YtfnlcnjflloecaaDoor
/-! ### Nam9 -/
set_option linter.unusedVariables false
set_option linter.unusedSimpArgs false
namespace Go.Proofs.YtfnlcnjflloecaaDoor
open Go.RowKit
theorem parse_ex : parseI [65, 110, 110, 64, 88, 46, 111, 114, 103, 47, 68, 101, 115, 107, 47, 50] = (([97, 110, 110], [120, 46, 111, 114, 103], [68, 101, 115, 107, 47, 50]), 0) := by decide +kernel
theorem local_ex : localI [97, 32, 98] = ([], 4) := by decide +kernel
set_option maxHeartbeats 1600000 in
theorem wakes2_c (w : World) (hT : Tabs w) (hM : MaxL w) : Calls Tryd.prog 14 #[] w (Ok w) := by
  have P : Calls Tryd.prog 10 #[.string ⟨#[65, 110, 110, 64, 88, 46, 111, 114, 103, 47, 68, 101, 115, 107, 47, 50]⟩] w (GivesJ w (parseI [65, 110, 110, 64, 88, 46, 111, 114, 103, 47, 68, 101, 115, 107, 47, 50])) := nparse_c [65, 110, 110, 64, 88, 46, 111, 114, 103, 47, 68, 101, 115, 107, 47, 50] w (by simp) hT hM
  have L : ∀ w1, Below w.heap.size w w1 → Calls Tryd.prog 15 #[.string ⟨#[97, 32, 98]⟩] w1 (GivesSE w1 (localI [97, 32, 98])) := fun w1 hb => local_c [97, 32, 98] w1 (by simp) (hT.below hb)
  rw [parse_ex] at P
  rw [local_ex] at L
  unfold GivesJ jCells at P
  unfold GivesSE at L
  simp only at P L
  have s1 : (strB [97, 110, 110]).toList = [97, 110, 110] := strB_toList _
  have s2 : (strB [120, 46, 111, 114, 103]).toList = [120, 46, 111, 114, 103] := strB_toList _
  have s3 : (strB [68, 101, 115, 107, 47, 50]).toList = [68, 101, 115, 107, 47, 50] := strB_toList _
  generalize strB [97, 110, 110] = S1 at *
  generalize strB [120, 46, 111, 114, 103] = S2 at *
  generalize strB [68, 101, 115, 107, 47, 50] = S3 at *
  go_enter Tryd.func14, Tryd.ntmps14
  have ta0 : True := trivial
  go_upto_region 2 with (first
    | (have _t := ta0; go_at_call 10; refine P.mono ?_; rintro e w1 ⟨rfl, hb1⟩; clear ta0; have ta1 : True := trivial))
  have hk := Blk.new w1 23 [.string S1, .string S2, .string S3]
  have hbA := below_below hb1 ((Below.refl w1.heap.size w1).alloc (Nat.le_refl _) (.cells #[.string S1, .string S2, .string S3] 23))
  generalize w1.alloc (.cells #[.string S1, .string S2, .string S3] 23) = W at *
  generalize w1.heap.size = G at *
  have tb0 : True := trivial
  go_upto_region 3 with (first
    | (have _t := tb0; go_at_call 15; refine (L _ hbA).mono ?_; rintro e w2 ⟨rfl, hb2⟩; clear tb0; have tb1 : True := trivial))
  have c0 : _ = some _ := (hk.below hb2).cell 0
  have c1 : _ = some _ := (hk.below hb2).cell 1
  have c2 : _ = some _ := (hk.below hb2).cell 2
  go_wp2_with fail
  go_ret
  exact ⟨rfl, below_below hbA hb2⟩
/-- Both answers are one: the tests are told. -/
theorem str_ne (l : List UInt8) : ((strB l).toList != (strB l).toList) = false := by simp
end Go.Proofs.YtfnlcnjflloecaaDoor
/-! ### NamW -/
set_option linter.unusedVariables false
set_option linter.unusedSimpArgs false
namespace Go.Proofs.YtfnlcnjflloecaaDoor
open Go.RowKit
theorem sized_big (s : List UInt8) (w : World) (h : 64 < s.length) : Calls Tryd.prog 46 #[.string (strB s)] w fun e w' => e = .returned (.int .i64 5) ∧ w = w' := by
  have hsz := strB_size s
  have q1 : (64 : Int) < ((strB s).size : Int) := by omega
  clear hsz
  generalize strB s = S at *
  go_enter Tryd.func46, Tryd.ntmps46
  go_wp2_with fail
  go_ret
  exact ⟨rfl, rfl⟩
theorem localI_big (s : List UInt8) (h : 64 < s.length) : localI s = ([], 5) := by unfold localI sizedI; simp [h]
theorem resI_big (s : List UInt8) (h : 64 < s.length) : resI s = ([], 5) := by unfold resI sizedI; simp [h]
theorem hostI_big (s : List UInt8) (h : 64 < s.length) : hostI s = ([], 5) := by unfold hostI; simp [h]
theorem local_any (s : List UInt8) (w : World) (hl : s.length ≤ 9223372036854775807) (hT : Tabs w) : Calls Tryd.prog 15 #[.string (strB s)] w (GivesSE w (localI s)) := by
  by_cases h : s.length ≤ 1000000000
  · exact local_c s w h hT
  · rw [localI_big s (by omega)]
    have SZ := sized_big s w (by omega)
    generalize strB s = S at *
    clear h hl
    go_enter Tryd.func15, Tryd.ntmps15
    go_wp2_with (go_at_call 46; refine SZ.mono ?_; rintro e w1 ⟨rfl, rfl⟩)
    go_ret2
    exact ⟨rfl, Below.refl _ _⟩
theorem resource_any (s : List UInt8) (w : World) (hl : s.length ≤ 9223372036854775807) (hT : Tabs w) : Calls Tryd.prog 40 #[.string (strB s)] w (GivesSE w (resI s)) := by
  by_cases h : s.length ≤ 1000000000
  · exact resource_c s w h hT
  · rw [resI_big s (by omega)]
    have SZ := sized_big s w (by omega)
    generalize strB s = S at *
    clear h hl
    go_enter Tryd.func40, Tryd.ntmps40
    go_wp2_with (go_at_call 46; refine SZ.mono ?_; rintro e w1 ⟨rfl, rfl⟩)
    go_ret2
    exact ⟨rfl, Below.refl _ _⟩
theorem host_any (s : List UInt8) (w : World) (hl : s.length ≤ 9223372036854775807) (hT : Tabs w) (hM : MaxL w) : Calls Tryd.prog 16 #[.string (strB s)] w (GivesSE w (hostI s)) := by
  by_cases h : s.length ≤ 1000000000
  · exact host_c s w h hT hM
  · rw [hostI_big s (by omega)]
    have SZ := sized_big s w (by omega)
    generalize strB s = S at *
    clear h hl
    go_enter Tryd.func16, Tryd.ntmps16
    go_wp2_with (go_at_call 46; refine SZ.mono ?_; rintro e w1 ⟨rfl, rfl⟩)
    go_ret2
    exact ⟨rfl, Below.refl _ _⟩
theorem reflocal_any (s : List UInt8) (w : World) (hl : s.length ≤ 9223372036854775807) : Calls Tryd.prog 42 #[.string (strB s)] w (GivesSE w (localI s)) := by
  by_cases h : s.length ≤ 1000000000
  · exact reflocal_c s w h
  · rw [localI_big s (by omega)]
    have hsz := strB_size s
    have q1 : (64 : Int) < ((strB s).size : Int) := by omega
    generalize strB s = S at *
    clear h hl hsz
    go_enter Tryd.func42, Tryd.ntmps42
    go_wp2_with fail
    go_ret2
    exact ⟨rfl, Below.refl _ _⟩
theorem refhost_any (s : List UInt8) (w : World) (hl : s.length ≤ 9223372036854775807) : Calls Tryd.prog 43 #[.string (strB s)] w (GivesSE w (hostI s)) := by
  by_cases h : s.length ≤ 1000000000
  · exact refhost_c s w h
  · rw [hostI_big s (by omega)]
    have hsz := strB_size s
    have q1 : (64 : Int) < ((strB s).size : Int) := by omega
    generalize strB s = S at *
    clear h hl hsz
    go_enter Tryd.func43, Tryd.ntmps43
    go_wp2_with fail
    go_ret2
    exact ⟨rfl, Below.refl _ _⟩
theorem refres_any (s : List UInt8) (w : World) (hl : s.length ≤ 9223372036854775807) : Calls Tryd.prog 44 #[.string (strB s)] w (GivesSE w (resI s)) := by
  by_cases h : s.length ≤ 1000000000
  · exact refres_c s w h
  · rw [resI_big s (by omega)]
    have hsz := strB_size s
    have q1 : (64 : Int) < ((strB s).size : Int) := by omega
    generalize strB s = S at *
    clear h hl hsz
    go_enter Tryd.func44, Tryd.ntmps44
    go_wp2_with fail
    go_ret2
    exact ⟨rfl, Below.refl _ _⟩
end Go.Proofs.YtfnlcnjflloecaaDoor
