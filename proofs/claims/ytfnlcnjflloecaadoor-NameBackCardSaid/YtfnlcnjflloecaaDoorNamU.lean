/- name.Text: what it gives up with and who catches it; the walk. -/
import Derived.Test.YtfnlcnjflloecaaDoorNamT
import Derived.RegionDies
set_option linter.unusedVariables false
set_option linter.unusedSimpArgs false
set_option linter.unnecessarySimpa false
namespace Go.Proofs.YtfnlcnjflloecaaDoor
open Go.RowKit
/-- The two results' blocks. -/
def tB (ps pe : Nat) (zs es : List Value) : GSpec := fun _ B w => Blk w ps 9 zs ∧ Blk w pe 25 es ∧ B ps ∧ B pe
theorem tB_loc (M0 : Nat → Prop) (w0 : World) (ps pe : Nat) (zs es : List Value) (u : Value) : O.Loc M0 w0 (tB ps pe zs es u) := by
  intro B w w' ⟨h1, h2, h3, h4⟩ hs hk
  exact ⟨by unfold Blk; rw [hk ps h1.lt (.inr h3)]; exact h1, by unfold Blk; rw [hk pe h2.lt (.inr h4)]; exact h2, h3, h4⟩
section
variable {ops : Array Oper} {w : World} {a : Act} {o : Oper} {ps pe x y : Nat} {M N : Nat → Prop} {es zs : List Value} {u : Value}
theorem goesTo_tS {z0 : Value} {k : Operand} {s : ByteArray} (hS : tB ps pe [z0] es u M w) (hne : ps ≠ pe) (hw : Region.wanted o (yielded ops a.tmps) = true) (ho : o.op = .store 9 (.tmp x) k)
    (hx : a.eval (.tmp x) = .pointer (some ⟨ps, 0, none⟩)) (hy : a.eval k = .string s) (hM : ∀ k, M k → N k) :
    GoesTo Tryd.prog ops o a w fun v w' => Chg N w w' ∧ tB ps pe [.string s] es v (fun b => N b ∨ (w.heap.size ≤ b ∧ b < w'.heap.size)) w' := by
  obtain ⟨k1, k2, k3, k4⟩ := hS
  have c0 : _ = some z0 := k1.cell 0
  have f0 := k1.frozen 0
  have hs := k1.stored 0 (.string s)
  unfold GoesTo
  rw [if_pos hw]
  have hr : (Instr.storeAt 9 (.pointer (some ⟨ps, 0, none⟩)) (.string s)).run Tryd.prog w = .ok () (w.setCell ⟨ps, 0, none⟩ (.string s)) := by simp [go_sem, c0, f0]
  simp only [execOp, ho, hx, hy]
  simp [hr]
  exact ⟨(Chg.setCell w ⟨ps, 0, none⟩ _).mono (fun k hk => by cases hk; exact hM _ k3), hs, k2.other (fun e => hne e.symm) _, .inl (hM _ k3), .inl (hM _ k4)⟩
theorem goesTo_tE {n : Int} {u0 : Value} (hS : tB ps pe zs [u0] u M w) (hne : ps ≠ pe) (hw : Region.wanted o (yielded ops a.tmps) = true) (ho : o.op = .store 25 (.tmp x) (.tmp y))
    (hx : a.eval (.tmp x) = .pointer (some ⟨pe, 0, none⟩)) (hy : a.eval (.tmp y) = .int .i64 n) (hM : ∀ k, M k → N k) :
    GoesTo Tryd.prog ops o a w fun v w' => Chg N w w' ∧ tB ps pe zs [.int .i64 n] v (fun b => N b ∨ (w.heap.size ≤ b ∧ b < w'.heap.size)) w' := by
  obtain ⟨k1, k2, k3, k4⟩ := hS
  have c0 : _ = some u0 := k2.cell 0
  have f0 := k2.frozen 0
  have hs := k2.stored 0 (.int .i64 n)
  unfold GoesTo
  rw [if_pos hw]
  have hr : (Instr.storeAt 25 (.pointer (some ⟨pe, 0, none⟩)) (.int .i64 n)).run Tryd.prog w = .ok () (w.setCell ⟨pe, 0, none⟩ (.int .i64 n)) := by simp [go_sem, c0, f0]
  simp only [execOp, ho, hx, hy]
  simp [hr]
  refine ⟨(Chg.setCell w ⟨pe, 0, none⟩ _).mono (fun k hk => by cases hk; exact hM _ k4), k1.other hne _, hs, .inl (hM _ k3), .inl (hM _ k4)⟩
end
set_option maxRecDepth 100000 in
theorem tcatch_c (ps pe : Nat) (x : Int) (w : World) (z0 u0 : Value) (hs : Blk w ps 9 [z0]) (he : Blk w pe 25 [u0]) (hne : ps ≠ pe) :
    CallsD Tryd.prog 45 #[.pointer (some ⟨ps, 0, none⟩), .pointer (some ⟨pe, 0, none⟩)] (.panicking ({ v := .iface 74 (.agg #[.int .i64 x]), recovered := false } :: [])) w fun e u' w' =>
      e = .returned (.tuple #[]) ∧ u' = .panicking ({ v := .iface 74 (.agg #[.int .i64 x]), recovered := true } :: []) ∧ Blk w' ps 9 [.string ⟨#[]⟩] ∧ Blk w' pe 25 [.int .i64 x] ∧ Chg (fun k => k = ps ∨ k = pe) w w' := by
  refine callsD_of_wpS Tryd.func45 rfl fun c₀ cs hu => ?_
  apply wpS_seq
  apply wpS_region
  simp [wpOpsS, go_sem, recoverD, hu, Tryd.ntmps45, Exit.thenS]
  refine wpS_of_wp ?_
  obtain ⟨T0, hT0⟩ : ∃ T0 : Array Value, T0 = #[.pointer (some ⟨ps, 0, none⟩), .pointer (some ⟨pe, 0, none⟩), .iface 74 (.agg #[.int .i64 x]), .iface 74 (.agg #[.int .i64 x]), undef, undef, undef, undef, undef] := ⟨_, rfl⟩
  have e0 : (#[Value.pointer (some { block := ps, off := 0 }), Value.pointer (some { block := pe, off := 0 })] ++
          ((Array.replicate 7 undef).setIfInBounds 1 (Value.iface 74 (Value.agg #[Value.int IntKind.i64 x]))).setIfInBounds 0 (Value.iface 74 (Value.agg #[Value.int IntKind.i64 x]))) = T0 := by rw [hT0]; rfl
  rw [e0, hT0]
  clear e0 hT0
  have hta : ∀ w : World, (Instr.typeAssert (.iface 74 (.agg #[.int .i64 x])) 20 74 false).run Tryd.prog w = .ok (.agg #[.int .i64 x]) w := fun _ => by kernel_rfl
  go_wp2_with fail
  refine O.region_making 5 (fun | 3 => [100] | 4 => [3] | _ => []) (fun | 3 => some fun _ => tB ps pe [.string ⟨#[]⟩] [u0] | 4 => some fun _ => tB ps pe [.string ⟨#[]⟩] [.int .i64 x] | _ => none) 3 100 (fun k => k = ps ∨ k = pe) (tB ps pe [z0] [u0] undef) (by kernel_rfl) (by kernel_rfl) ?_ ?_ ?_ ?_ ?_
  · intro i' S' h' e v'
    match i', h' with
    | 3, h' => cases h'; exact tB_loc _ _ _ _ _ _ _
    | 4, h' => cases h'; exact tB_loc _ _ _ _ _ _ _
  · exact tB_loc _ _ _ _ _ _ _
  · exact ⟨hs, he, .inl rfl, .inr rfl⟩
  · rintro k (rfl | rfl)
    · exact hs.lt
    · exact he.lt
  simp only [List.take_succ_cons, List.take_zero, List.drop_succ_cons, List.drop_zero]
  (apply O.wpG_pure; (focus rfl); (focus (intro wg Bg hbg hBg hFg; go_simp; (try go_bits); (first | done | exact ⟨rfl, Below.refl _ _⟩ | rfl))); simp only [Act.put, List.setIfInBounds_toArray, List.set_cons_succ, List.set_cons_zero])
  (apply O.wpG_pure; (focus rfl); (focus (intro wg Bg hbg hBg hFg; go_simp; (try go_bits); (first | done | exact ⟨rfl, Below.refl _ _⟩ | rfl))); simp only [Act.put, List.setIfInBounds_toArray, List.set_cons_succ, List.set_cons_zero])
  (apply O.wpG_pure; (focus rfl); (focus (intro wg Bg hbg hBg hFg; go_simp; (try go_bits); (first | done | exact ⟨rfl, Below.refl _ _⟩ | rfl))); simp only [Act.put, List.setIfInBounds_toArray, List.set_cons_succ, List.set_cons_zero])
  apply O.wpG_make; (focus rfl); (focus (intro wg Bg hbg hBg hFg; have hS : tB ps pe [z0] [u0] undef (Bg 100) wg := hFg 100 (by decide +kernel); exact goesTo_tS hS hne (by go_simp) rfl (by with_unfolding_all (conv => lhs; whnf)) rfl (fun k hk => ⟨100, by simp, hk⟩))); intro va; simp only [Act.put, List.setIfInBounds_toArray, List.set_cons_succ, List.set_cons_zero]
  apply O.wpG_make; (focus rfl); (focus (intro wg Bg hbg hBg hFg; have hS : tB ps pe [.string ⟨#[]⟩] [u0] va (Bg 3) wg := hFg 3 (by decide +kernel); exact goesTo_tE hS hne (by go_simp) rfl (by with_unfolding_all (conv => lhs; whnf)) rfl (fun k hk => ⟨3, by simp, hk⟩))); intro vb; simp only [Act.put, List.setIfInBounds_toArray, List.set_cons_succ, List.set_cons_zero]
  refine O.wpG_end (fun wg Bg hbg hBg hFg => ?_)
  have hR : tB ps pe [.string ⟨#[]⟩] [.int .i64 x] vb (Bg 4) wg := hFg 4
  go_wp2_with fail
  refine ⟨rfl, _, rfl, _, (by simp [results, Tryd.results45, go_sem]), rfl, rfl, hR.1, hR.2.1, (show Chg (fun k => k = ps ∨ k = pe) w wg from ⟨hbg.os, hbg.tape, hbg.output, hbg.size, hbg.block⟩)⟩
set_option maxRecDepth 100000 in
theorem tcatch_idle (c1 c2 : Value) (w : World) :
    CallsD Tryd.prog 45 #[c1, c2] .returning w fun e u' w' => e = .returned (.tuple #[]) ∧ u' = .returning ∧ w' = w := by
  refine callsD_of_wpS Tryd.func45 rfl fun c₀ cs hu => ?_
  apply wpS_seq
  apply wpS_region
  simp [wpOpsS, go_sem, recoverD, hu, Tryd.ntmps45, Exit.thenS]
  refine wpS_of_wp ?_
  obtain ⟨T0, hT0⟩ : ∃ T0 : Array Value, T0 = #[c1, c2, .nilIface, .nilIface, undef, undef, undef, undef, undef] := ⟨_, rfl⟩
  have e0 : (#[c1, c2] ++ ((Array.replicate 7 undef).setIfInBounds 1 Value.nilIface).setIfInBounds 0 Value.nilIface) = T0 := by rw [hT0]; rfl
  rw [e0, hT0]
  clear e0 hT0
  go_wp2_with fail
  cases c₀
  simp_all [bodyPostS, results, Tryd.results45, go_sem]
/-- Two results that lie in memory. -/
theorem results_txt (fn : Func) (hf : fn.results = #[.cell 2 9, .cell 3 25]) (tmps : Array Value) (w : World) (ps pe : Nat) (z : ByteArray) (x : Int) (h2 : tmps.getD 2 undef = .pointer (some ⟨ps, 0, none⟩)) (h3 : tmps.getD 3 undef = .pointer (some ⟨pe, 0, none⟩))
    (hs : Blk w ps 9 [.string z]) (he : Blk w pe 25 [.int .i64 x]) : (results fn tmps).run Tryd.prog w = .ok (.tuple #[.string z, .int .i64 x]) w := by
  have h2' : tmps[2]?.getD undef = .pointer (some ⟨ps, 0, none⟩) := by simpa using h2
  have h3' : tmps[3]?.getD undef = .pointer (some ⟨pe, 0, none⟩) := by simpa using h3
  have c0 : _ = some _ := hs.cell 0
  have c1 : _ = some _ := he.cell 0
  have r1 : (loadVar 9 ⟨ps, 0, none⟩).run Tryd.prog w = .ok (.string z) w := by simp [go_sem, c0]
  have r2 : (loadVar 25 ⟨pe, 0, none⟩).run Tryd.prog w = .ok (.int .i64 x) w := by simp [go_sem, c1]
  simp [results, hf, h2', h3', asAddr, r1, r2]
theorem text_panic {w wi : World} {ps pe : Nat} {x : Int} {z u : Value} (hps : w.heap.size ≤ ps) (hpe : w.heap.size ≤ pe) (hne : ps ≠ pe) (hS : Blk wi ps 9 [z]) (hE : Blk wi pe 25 [u])
    (hW : Below w.heap.size w wi) {I : List UInt8 × Int} (hI : I = ([], x)) {tmps : Array Value} (h2 : tmps.getD 2 undef = .pointer (some ⟨ps, 0, none⟩)) (h3 : tmps.getD 3 undef = .pointer (some ⟨pe, 0, none⟩)) :
    bodyPostD Tryd.prog Tryd.f12 (GivesSE w I) (Exit.panic (gaveN x)) { tmps := tmps, defers := [{ target := .fn (.func 45) #[.pointer (some ⟨ps, 0, none⟩), .pointer (some ⟨pe, 0, none⟩)], args := #[] }] } wi := by
  subst hI
  refine leaves_cons (f := 45) (args := #[.pointer (some ⟨ps, 0, none⟩), .pointer (some ⟨pe, 0, none⟩)]) (by simp) (by simp [go_sem]) ?_
  refine (tcatch_c ps pe x wi z u hS hE hne).mono ?_
  rintro e u' w'' ⟨rfl, rfl, k1, k2, hc2⟩
  refine ⟨_, results_txt _ rfl _ _ _ _ _ _ h2 h3 k1 k2, rfl, ?_⟩
  exact hW.trans (hc2.below hW.size (fun k hk => by rcases hk with rfl | rfl <;> assumption))
theorem text_done {w wi : World} {ps pe : Nat} {t : List UInt8} (hS : Blk wi ps 9 [.string (strB t)]) (hE : Blk wi pe 25 [.int .i64 0])
    (hW : Below w.heap.size w wi) {I : List UInt8 × Int} (hI : I = (t, 0)) {tmps : Array Value} (h2 : tmps.getD 2 undef = .pointer (some ⟨ps, 0, none⟩)) (h3 : tmps.getD 3 undef = .pointer (some ⟨pe, 0, none⟩)) :
    bodyPostD Tryd.prog Tryd.f12 (GivesSE w I) Exit.ret { tmps := tmps, defers := [{ target := .fn (.func 45) #[.pointer (some ⟨ps, 0, none⟩), .pointer (some ⟨pe, 0, none⟩)], args := #[] }] } wi := by
  subst hI
  refine leaves_cons (f := 45) (args := #[.pointer (some ⟨ps, 0, none⟩), .pointer (some ⟨pe, 0, none⟩)]) (by simp) (by simp [go_sem]) ?_
  refine (tcatch_idle _ _ wi).mono ?_
  rintro e u' w'' ⟨rfl, rfl, rfl⟩
  exact ⟨_, results_txt _ rfl _ _ _ _ _ _ h2 h3 hS hE, rfl, hW⟩
set_option maxRecDepth 100000 in
set_option maxHeartbeats 6400000 in
theorem ntext_c (l h r : List UInt8) (w : World) (hl : l.length ≤ 9223372036854775807) (hh : h.length ≤ 9223372036854775807) (hr : r.length ≤ 9223372036854775807) (hT : Tabs w) (hM : MaxL w) :
    Calls Tryd.prog 12 #[.agg (jCells l h r).toArray] w (GivesSE w (textJ (l, h, r))) := by
  have hmf : ∀ (fn : Fn) (first cap : Array Value) (w : World), (Instr.makeFunc fn first cap).run Tryd.prog w = .ok (.func fn first cap) w := fun _ _ _ _ => rfl
  have eL : ∀ args w, (callFunc 15 args).run Tryd.prog w = .ok (.enter 15 args) w := enters_of Tryd.func15 (by kernel_rfl) rfl
  have eH : ∀ args w, (callFunc 16 args).run Tryd.prog w = .ok (.enter 16 args) w := enters_of Tryd.func16 (by kernel_rfl) rfl
  have eR : ∀ args w, (callFunc 40 args).run Tryd.prog w = .ok (.enter 40 args) w := enters_of Tryd.func40 (by kernel_rfl) rfl
  have key : ∀ w1 : World, ∃ w2, w2 = (w1.alloc (.cells #[.string ⟨#[]⟩] 9)).alloc (.cells #[.int .i64 0] 25) ∧
      Blk w2 w1.heap.size 9 [.string ⟨#[]⟩] ∧ Blk w2 (w1.heap.size + 1) 25 [.int .i64 0] ∧ Below w1.heap.size w1 w2 := by
    intro w0
    have b1 := (Below.refl w0.heap.size w0).alloc (Nat.le_refl _) (.cells #[.string ⟨#[]⟩] 9)
    have k1 : Blk (w0.alloc (.cells #[.string ⟨#[]⟩] 9)) w0.heap.size 9 [.string ⟨#[]⟩] := Blk.new w0 9 [.string ⟨#[]⟩]
    have z1 : (w0.alloc (.cells #[.string ⟨#[]⟩] 9)).heap.size = w0.heap.size + 1 := by simp
    generalize w0.alloc (.cells #[.string ⟨#[]⟩] 9) = w1 at *
    have b2 := (Below.refl w1.heap.size w1).alloc (Nat.le_refl _) (.cells #[.int .i64 0] 25)
    have k2 : Blk (w1.alloc (.cells #[.int .i64 0] 25)) w1.heap.size 25 [.int .i64 0] := Blk.new w1 25 [.int .i64 0]
    rw [z1] at k2
    exact ⟨_, rfl, k1.below b2, k2, below_below b1 b2⟩
  have PL := fun w1 (hb : Below w.heap.size w w1) => local_any l w1 hl (hT.below hb)
  have PR := fun w1 (hb : Below w.heap.size w w1) => resource_any r w1 hr (hT.below hb)
  have PH := fun w1 (hb : Below w.heap.size w w1) => host_any h w1 hh (hT.below hb) (hM.below hb)
  have hI : textJ (l, h, r) = (if (hostI h).2 ≠ 0 then ([], (hostI h).2) else if (if l = [] then ([], 0) else localI l).2 ≠ 0 then ([], (if l = [] then ([], 0) else localI l).2)
    else if (if r = [] then ([], 0) else resI r).2 ≠ 0 then ([], (if r = [] then ([], 0) else resI r).2)
    else (catI (if l = [] then ([], 0) else localI l).1 (hostI h).1 (if r = [] then ([], 0) else resI r).1, 0)) := rfl
  have n1 := localI_len l
  have n2 := hostI_len h
  have n3 := resI_len r
  have d1 : (localI l).2 = 0 → (localI l).1 ≠ [] := fun e => (localI_ok (s := l) (a := (localI l).1) (Prod.ext rfl e)).ne
  have d3 : (resI r).2 = 0 → (resI r).1 ≠ [] := fun e => (resI_ok (s := r) (a := (resI r).1) (Prod.ext rfl e)).2
  unfold GivesSE at PH PL PR
  generalize textJ (l, h, r) = I at *
  generalize localI l = L at *
  generalize hostI h = H at *
  generalize resI r = R at *
  obtain ⟨l1, l2⟩ := L
  obtain ⟨k1, k2⟩ := H
  obtain ⟨r1, r2⟩ := R
  simp only at PH PL PR hI n1 n2 n3 d1 d3
  obtain ⟨T1, hT1⟩ : ∃ T1, T1 = (if l = [] then k1 else l1 ++ 64 :: k1) := ⟨_, rfl⟩
  obtain ⟨LE, hLE⟩ : ∃ LE, LE = (if l = [] then 0 else l2) := ⟨_, rfl⟩
  have hI2 : k2 = 0 → LE = 0 → I = if r = [] then (T1, 0) else if r2 ≠ 0 then ([], r2) else (T1 ++ 47 :: r1, 0) := by
    intro e1 e2
    rw [hI, if_neg (by simp [e1])]
    by_cases hle : l = []
    · simp only [if_pos hle] at hT1 ⊢
      subst hT1
      by_cases hre : r = []
      · simp [hre, catI]
      · simp only [if_neg hre]
        by_cases q3 : r2 = 0
        · simp [q3, catI, d3 q3]
        · simp [q3]
    · simp only [if_neg hle] at hT1 hLE ⊢
      rw [e2] at hLE
      have hne := d1 hLE.symm
      subst hT1
      rw [if_neg (by simp [← hLE])]
      by_cases hre : r = []
      · simp [hre, catI, hne]
      · simp only [if_neg hre]
        by_cases q3 : r2 = 0
        · simp [q3, catI, hne, d3 q3]
        · simp [q3]
  have hT1l : T1.length ≤ 200 := by
    rw [hT1]
    split
    · omega
    · simp; omega
  replace hI := Go.Lib.hid hI
  replace hI2 := Go.Lib.hid hI2
  replace hT1 := Go.Lib.hid hT1
  replace hLE := Go.Lib.hid hLE
  replace d1 := Go.Lib.hid d1
  replace d3 := Go.Lib.hid d3
  go_enter_defers Tryd.func12, Tryd.ntmps12
  have ta0 : True := trivial
  go_upto_region 2 with (first
    | (have _t := ta0; (with_reducible refine G_box ?_; refine L_box (by with_unfolding_all (conv => lhs; whnf)) ?_); intro w1 hk1 hb1 hs1; clear ta0; have ta1 : True := trivial))
  obtain ⟨w2, e2, hS, hE, hb2⟩ := key w1
  rw [← e2]
  clear e2 key
  rw [hs1] at hS hE
  have hk := hk1.below hb2
  have hW := below_below hb1 hb2
  have hps : w.heap.size ≤ w.heap.size + 1 := by omega
  have hpe : w.heap.size ≤ w.heap.size + 1 + 1 := by omega
  have m1 : w.heap.size + 1 ≠ w.heap.size + 1 + 1 := by omega
  have m2 : w.heap.size ≠ w.heap.size + 1 := by omega
  have m3 : w.heap.size + 1 + 1 ≠ w.heap.size + 1 := by omega
  clear hk1 hb1 hb2 hs1
  have c1 : _ = some _ := hk.cell 1
  by_cases q1 : k2 = 0
  · subst q1
    replace hI2 := Go.Lib.hid (hI2.out rfl)
    go_wp2_with fail
    refine (nmust_ok _ eH h k1 _ (PH _ hW)).mono ?_
    rintro e w6 ⟨rfl, hb6⟩
    replace hk := hk.below hb6
    replace hS := hS.below hb6
    replace hE := hE.below hb6
    replace hW := below_below hW hb6
    have s0 := hS.frozen 0
    have c0 : _ = some _ := hS.cell 0
    go_upto_region 3 with fail
    replace hE := hE.other (a := ⟨w.heap.size + 1, 0, none⟩) m3 (.string (strB k1))
    replace hk := hk.other (a := ⟨w.heap.size + 1, 0, none⟩) m2 (.string (strB k1))
    replace hW := below_setn hW (w.heap.size + 1) 0 (.string (strB k1)) hps hW.size
    replace hS : Blk (w6.setCell ⟨w.heap.size + 1, 0, none⟩ (.string (strB k1))) (w.heap.size + 1) 9 [.string (strB k1)] := hS.stored 0 (.string (strB k1))
    clear s0 c0 c1 hb6 PH
    generalize w6.setCell ⟨w.heap.size + 1, 0, none⟩ (.string (strB k1)) = w7 at *
    have c0 : _ = some _ := hk.cell 0
    obtain ⟨eb, hem⟩ : ∃ eb, (strB l).toList.isEmpty = eb := ⟨_, rfl⟩
    have heb : eb = true ↔ l = [] := by rw [← hem, strB_toList]; cases l <;> simp
    replace heb := Go.Lib.hid heb
    go_upto_if 10 with fail
    go_cut [] from 5 (fun wx => Blk wx w.heap.size 23 (jCells l h r) ∧ Blk wx (w.heap.size + 1) 9 [.string (strB T1)] ∧ Blk wx (w.heap.size + 1 + 1) 25 [.int .i64 0] ∧ Below w.heap.size w wx ∧ LE = 0)
    case first =>
      have x1 := hT1.out
      have x2 := hLE.out
      cases eb
      · have hle : ¬ l = [] := fun e => by have := heb.out.2 e; cases this
        rw [if_neg hle] at x1 x2
        subst x2
        by_cases q2 : LE = 0
        · subst q2
          have hc : (strB l1 ++ ⟨#[64]⟩) ++ strB k1 = strB T1 := by rw [x1, strB_mid]
          have z1 : ¬ 9223372036854775807 < (strB l1).size + 1 := by rw [strB_size]; omega
          have z2 : ¬ 9223372036854775807 < (strB l1).size + 1 + (strB k1).size := by rw [strB_size, strB_size]; omega
          replace hc := Go.Lib.hid hc
          clear x1
          go_wp2_with fail
          (refine region_making 6 (fun _ => []) (fun _ => none) (by kernel_rfl) (by kernel_rfl) ?_ ?_; (focus (intro i' S' h' e v'; cases h')); simp only [List.take_succ_cons, List.take_zero, List.drop_succ_cons, List.drop_zero])
          (apply wpG_pure; (focus rfl); (focus (intro wg Bg hbg hBg hFg; go_simp; (try go_bits); (first | done | exact ⟨rfl, Below.refl _ _⟩ | rfl))); simp only [Act.put, List.setIfInBounds_toArray, List.set_cons_succ, List.set_cons_zero])
          (apply wpG_pure; (focus rfl); (focus (intro wg Bg hbg hBg hFg; have c9 : _ = some _ := (hk.drew.below hbg).cell 0; go_simp; (try go_bits); (first | done | exact ⟨rfl, Below.refl _ _⟩ | rfl))); simp only [Act.put, List.setIfInBounds_toArray, List.set_cons_succ, List.set_cons_zero])
          (apply wpG_pure; (focus rfl); (focus (intro wg Bg hbg hBg hFg; go_simp; (try refine ⟨by kernel_rfl, ?_⟩); go_at_call 39; exact Calls.mono (nmust_ok _ eL l l1 wg (PL wg (hW.drew.trans (hbg.mono hW.size)))) (fun e w' h => (by obtain ⟨rfl, hb⟩ := h; exact ⟨rfl, hb⟩)))); simp only [Act.put, List.setIfInBounds_toArray, List.set_cons_succ, List.set_cons_zero])
          (apply wpG_pure; (focus rfl); (focus (intro wg Bg hbg hBg hFg; go_simp; (try go_bits); (first | done | exact ⟨rfl, Below.refl _ _⟩ | rfl))); simp only [Act.put, List.setIfInBounds_toArray, List.set_cons_succ, List.set_cons_zero])
          (apply wpG_pure; (focus rfl); (focus (intro wg Bg hbg hBg hFg; have c9 : _ = some _ := (hS.drew.below hbg).cell 0; go_simp; (try go_bits); (first | done | exact ⟨rfl, Below.refl _ _⟩ | rfl))); simp only [Act.put, List.setIfInBounds_toArray, List.set_cons_succ, List.set_cons_zero])
          (apply wpG_pure; (focus rfl); (focus (intro wg Bg hbg hBg hFg; go_simp; (try go_bits); (first | done | exact ⟨rfl, Below.refl _ _⟩ | rfl))); simp only [Act.put, List.setIfInBounds_toArray, List.set_cons_succ, List.set_cons_zero])
          refine wpG_end (fun wg Bg hbg hBg hFg => ?_)
          have hSg := hS.drew.below hbg
          have hkg := hk.drew.below hbg
          have hEg := hE.drew.below hbg
          have hWg := hW.drew.trans (hbg.mono hW.size)
          have s0 := hSg.frozen 0
          have c9 : _ = some _ := hSg.cell 0
          go_wp2_with fail
          go_meet
          case rel =>
            rw [hc.out]
            exact ⟨hkg.other (a := ⟨w.heap.size + 1, 0, none⟩) m2 _, hSg.stored 0 _, hEg.other (a := ⟨w.heap.size + 1, 0, none⟩) m3 _, below_setn hWg (w.heap.size + 1) 0 _ hps hWg.size, trivial⟩
        · have q5 : (LE != 0) = true := bne_iff_ne.2 q2
          have x3 := Go.Lib.hid (hI.out.trans (by rw [if_neg (by simp), if_neg hle, if_pos q2]))
          have PLd := PL _ hW.drew
          have e0 : _ = some _ := hk.drew.cell 0
          have e1 : _ = some _ := hS.drew.cell 0
          clear x1 hle
          go_wp2_with fail
          (first | go_region_dies | fail)
          all_goals (go_at_call 39; refine (nmust_bad _ eL l l1 LE q2 _ PLd).mono ?_; rintro e w8 ⟨rfl, hb8⟩; exact text_panic hps hpe m1 (hS.drew.below hb8) (hE.drew.below hb8) (below_below hW.drew hb8) x3.out rfl rfl)
      · have hle : l = [] := heb.out.1 rfl
        rw [if_pos hle] at x1 x2
        subst x1 x2
        clear hle
        go_wp2_with fail
        go_meet
        case rel => exact ⟨hk, hS, hE, hW, trivial⟩
    case rest =>
    obtain ⟨hk, hS, hE, hW, hLE0⟩ := hcut
    replace hI2 := Go.Lib.hid (hI2.out hLE0)
    clear PL hem heb hT1 hLE hI d1
    subst hLE0
    have c2 : _ = some _ := hk.cell 2
    obtain ⟨er, hem⟩ : ∃ er, (strB r).toList.isEmpty = er := ⟨_, rfl⟩
    have her : er = true ↔ r = [] := by rw [← hem, strB_toList]; cases r <;> simp
    replace her := Go.Lib.hid her
    go_upto_if 19 with fail
    cases er
    · have hre : ¬ r = [] := fun e => by have := her.out.2 e; cases this
      by_cases q3 : r2 = 0
      · subst q3
        replace hI2 := Go.Lib.hid (hI2.out.trans (by rw [if_neg hre, if_neg (by simp)]))
        have hc : strB T1 ++ (⟨#[47]⟩ ++ strB r1) = strB (T1 ++ 47 :: r1) := by rw [strB_mid, ByteArray.append_assoc]
        have z1 : ¬ 9223372036854775807 < 1 + (strB r1).size := by rw [strB_size]; omega
        have z2 : ¬ 9223372036854775807 < (strB T1).size + (1 + (strB r1).size) := by rw [strB_size, strB_size]; omega
        replace hc := Go.Lib.hid hc
        clear hre
        go_wp2_with fail
        (refine region_making 6 (fun _ => []) (fun _ => none) (by kernel_rfl) (by kernel_rfl) ?_ ?_; (focus (intro i' S' h' e v'; cases h')); simp only [List.take_succ_cons, List.take_zero, List.drop_succ_cons, List.drop_zero])
        (apply wpG_pure; (focus rfl); (focus (intro wg Bg hbg hBg hFg; have c9 : _ = some _ := (hS.drew.below hbg).cell 0; go_simp; (try go_bits); (first | done | exact ⟨rfl, Below.refl _ _⟩ | rfl))); simp only [Act.put, List.setIfInBounds_toArray, List.set_cons_succ, List.set_cons_zero])
        (apply wpG_pure; (focus rfl); (focus (intro wg Bg hbg hBg hFg; go_simp; (try go_bits); (first | done | exact ⟨rfl, Below.refl _ _⟩ | rfl))); simp only [Act.put, List.setIfInBounds_toArray, List.set_cons_succ, List.set_cons_zero])
        (apply wpG_pure; (focus rfl); (focus (intro wg Bg hbg hBg hFg; have c9 : _ = some _ := (hk.drew.below hbg).cell 2; go_simp; (try go_bits); (first | done | exact ⟨rfl, Below.refl _ _⟩ | rfl))); simp only [Act.put, List.setIfInBounds_toArray, List.set_cons_succ, List.set_cons_zero])
        (apply wpG_pure; (focus rfl); (focus (intro wg Bg hbg hBg hFg; go_simp; (try refine ⟨by kernel_rfl, ?_⟩); go_at_call 39; exact Calls.mono (nmust_ok _ eR r r1 wg (PR wg (hW.drew.trans (hbg.mono hW.size)))) (fun e w' h => (by obtain ⟨rfl, hb⟩ := h; exact ⟨rfl, hb⟩)))); simp only [Act.put, List.setIfInBounds_toArray, List.set_cons_succ, List.set_cons_zero])
        (apply wpG_pure; (focus rfl); (focus (intro wg Bg hbg hBg hFg; go_simp; (try go_bits); (first | done | exact ⟨rfl, Below.refl _ _⟩ | rfl))); simp only [Act.put, List.setIfInBounds_toArray, List.set_cons_succ, List.set_cons_zero])
        (apply wpG_pure; (focus rfl); (focus (intro wg Bg hbg hBg hFg; go_simp; (try go_bits); (first | done | exact ⟨rfl, Below.refl _ _⟩ | rfl))); simp only [Act.put, List.setIfInBounds_toArray, List.set_cons_succ, List.set_cons_zero])
        refine wpG_end (fun wg Bg hbg hBg hFg => ?_)
        replace hS := hS.drew.below hbg
        replace hk := hk.drew.below hbg
        replace hE := hE.drew.below hbg
        replace hW := hW.drew.trans (hbg.mono hW.size)
        have s0 := hS.frozen 0
        have c9 : _ = some _ := hS.cell 0
        go_upto_region 7 with fail
        rw [hc.out]
        replace hE := hE.other (a := ⟨w.heap.size + 1, 0, none⟩) m3 (.string (strB (T1 ++ 47 :: r1)))
        replace hW := below_setn hW (w.heap.size + 1) 0 (.string (strB (T1 ++ 47 :: r1))) hps hW.size
        replace hS := hS.stored 0 (.string (strB (T1 ++ 47 :: r1)))
        clear s0 c9
        generalize wg.setCell ⟨w.heap.size + 1, 0, none⟩ (.string (strB (T1 ++ 47 :: r1))) = w9 at *
        have s0 := hS.frozen 0
        have s1 := hE.frozen 0
        have c9 : _ = some _ := hS.cell 0
        have c8 : _ = some _ := hE.cell 0
        go_wp2_with fail
        exact text_done (t := T1 ++ 47 :: r1) ((hS.stored 0 _).other (a := ⟨w.heap.size + 1 + 1, 0, none⟩) m1 _) ((hE.other (a := ⟨w.heap.size + 1, 0, none⟩) m3 _).stored 0 _) (below_setn (below_setn hW _ 0 _ hps hW.size) _ 0 _ hpe (by simpa using hW.size)) hI2.out rfl rfl
      · have q5 : (r2 != 0) = true := bne_iff_ne.2 q3
        have x3 := Go.Lib.hid (hI2.out.trans (by rw [if_neg hre, if_pos q3]))
        have PRd := PR _ hW.drew
        have e0 : _ = some _ := hk.drew.cell 2
        have e1 : _ = some _ := hS.drew.cell 0
        clear hre
        go_wp2_with fail
        (first | go_region_dies | fail)
        all_goals (go_at_call 39; refine (nmust_bad _ eR r r1 r2 q3 _ PRd).mono ?_; rintro e w8 ⟨rfl, hb8⟩; exact text_panic hps hpe m1 (hS.drew.below hb8) (hE.drew.below hb8) (below_below hW.drew hb8) x3.out rfl rfl)
    · have hre : r = [] := her.out.1 rfl
      replace hI2 := Go.Lib.hid (hI2.out.trans (if_pos hre))
      have s0 := hS.frozen 0
      have s1 := hE.frozen 0
      have c9 : _ = some _ := hS.cell 0
      have c8 : _ = some _ := hE.cell 0
      clear hre
      go_wp2_with fail
      exact text_done (t := T1) ((hS.stored 0 _).other (a := ⟨w.heap.size + 1 + 1, 0, none⟩) m1 _) ((hE.other (a := ⟨w.heap.size + 1, 0, none⟩) m3 _).stored 0 _) (below_setn (below_setn hW _ 0 _ hps hW.size) _ 0 _ hpe (by simpa using hW.size)) hI2.out rfl rfl
  · have x1 := hI.out
    rw [if_pos q1] at x1
    replace x1 := Go.Lib.hid x1
    go_wp2_with fail
    refine (nmust_bad _ eH h k1 k2 q1 _ (PH _ hW)).mono ?_
    rintro e w6 ⟨rfl, hb6⟩
    go_wp2_with fail
    exact text_panic hps hpe m1 (hS.below hb6) (hE.below hb6) (below_below hW hb6) x1.out rfl rfl
end Go.Proofs.YtfnlcnjflloecaaDoor
