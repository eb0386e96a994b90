/- creds.must, what creds.Read gives up with and who catches it; arrays in the middle of a record. -/
import Derived.Test.YtfnlcnjflloecaaDoorCw5
set_option linter.unusedVariables false
set_option linter.unusedSimpArgs false
set_option linter.unnecessarySimpa false
namespace Go.Proofs.YtfnlcnjflloecaaDoor
open Go.RowKit
def gaveCr : Value := .iface 100 (.agg #[])
def chainCr : List PanicEntry := [{ v := gaveCr, recovered := false }]
theorem crmust_ok (w : World) : Calls Tryd.prog 70 #[.bool true] w fun e w' => e = .returned (.tuple #[]) ∧ w = w' := by
  go_enter Tryd.func70, Tryd.ntmps70
  go_wp2_with fail
  exact bodyPost_end (results_none rfl _ _ _) rfl ⟨rfl, rfl⟩
theorem crmust_bad (w : World) : Calls Tryd.prog 70 #[.bool false] w fun e w' => e = .panicked chainCr ∧ w = w' := by
  have hz : Tryd.prog.built 100 [] = some #[] := by kernel_rfl
  go_enter Tryd.func70, Tryd.ntmps70
  go_wp2_with fail
  exact ⟨rfl, rfl, rfl⟩
theorem agG : AggTy Tryd.prog 100 0 := ⟨⟨_, Tryd.underlying100, rfl⟩, by kernel_rfl⟩
theorem zG : (Tryd.prog.info? 100).map (·.zero) = some (some (.agg ([] : List Value).toArray)) := by kernel_rfl
set_option maxRecDepth 100000 in
set_option maxHeartbeats 1600000 in
theorem crcatch_c (ps pe : Nat) (w : World) (cs0 : List Value) (u0 : Value) (hs : Blk w ps 42 cs0) (hcs : cs0.length = 67) (he : Blk w pe 25 [u0]) (hne : ps ≠ pe) :
    CallsD Tryd.prog 68 #[.pointer (some ⟨ps, 0, none⟩), .pointer (some ⟨pe, 0, none⟩)] (.panicking ({ v := gaveCr, recovered := false } :: [])) w fun e u' w' =>
      e = .returned (.tuple #[]) ∧ u' = .panicking ({ v := gaveCr, recovered := true } :: []) ∧ Blk w' ps 42 (recC [] (.slice none 0 0) 0 zB zB) ∧ Blk w' pe 25 [.int .i64 2] ∧ Chg (fun k => k = ps ∨ k = pe) w w' := by
  unfold gaveCr
  refine callsD_of_wpS Tryd.func68 rfl fun c₀ cs hu => ?_
  apply wpS_seq
  apply wpS_region
  simp [wpOpsS, go_sem, recoverD, hu, Tryd.ntmps68, Exit.thenS]
  refine wpS_of_wp ?_
  obtain ⟨T0, hT0⟩ : ∃ T0 : Array Value, T0 = #[.pointer (some ⟨ps, 0, none⟩), .pointer (some ⟨pe, 0, none⟩), .iface 100 (.agg #[]), undef, undef, .iface 100 (.agg #[]), undef, undef, undef, undef, undef, undef, undef, undef, undef, undef, undef] := ⟨_, rfl⟩
  have e0 : (#[Value.pointer (some { block := ps, off := 0 }), Value.pointer (some { block := pe, off := 0 })] ++
          ((Array.replicate 15 undef).setIfInBounds 3 (Value.iface 100 (Value.agg #[]))).setIfInBounds 0 (Value.iface 100 (Value.agg #[]))) = T0 := by rw [hT0]; rfl
  rw [e0, hT0]
  clear e0 hT0
  have hta : ∀ w : World, (Instr.typeAssert (.iface 100 (.agg #[])) 20 100 true).run Tryd.prog w = .ok (.tuple #[.agg #[], .bool true]) w := fun _ => by kernel_rfl
  have nR := rec_zero_len
  have oR := rec_zero_one
  have zG' := zG
  have hs0 := hs
  have he0 := he
  have ta0 : True := trivial
  go_upto_region 5 with (first
    | (have _t := ta0; (with_reducible refine G_alloc ?_; refine L_alloc zG' ?_); intro w1 hk1 hb1 hs1; replace hs := hs.below hb1; replace he := he.below hb1; clear ta0; have ta1 : True := trivial)
    | (have _t := ta1; (with_reducible refine G_store ?_; refine L_store_agg agG (by with_unfolding_all (conv => lhs; whnf)) (by with_unfolding_all (conv => lhs; whnf)) hk1 rfl rfl (fun u hu => by simp at hu) ?_); intro w2 hk2 hg2 hs2; clear ta1; have ta2 : True := trivial))
  have lps := hs0.lt
  have lpe := he0.lt
  replace hs := hs.grown hg2 (by simp; omega)
  replace he := he.grown hg2 (by simp; omega)
  have hc2 : Chg (fun k => k = ps ∨ k = pe) w w2 := (Chg.refl _ w).chg_trans ((Chg.of_below (M := fun k => k = w.heap.size) hb1).chg_trans (Chg.grown hg2 (fun k hk => by cases hk; rfl)) (fun k hk => .inr hk)) (fun k hk => by subst hk; exact .inl (Nat.le_refl _))
  have tb0 : True := trivial
  go_wp2_with (first
    | (have _t := tb0; (with_reducible refine G_build ?_; refine L_build (recC [] (.slice none 0 0) 0 zB zB).toArray (by kernel_rfl) ?_); clear tb0; have tb1 : True := trivial)
    | (have _t := tb1; (with_reducible refine G_store ?_; refine L_store_agg agR (by with_unfolding_all (conv => lhs; whnf)) (by with_unfolding_all (conv => lhs; whnf)) hs hcs (by simpa using nR) (fun u hu => oR u (by simpa using hu)) ?_); intro w3 hk3 hg3 hs3; have he3 := he.grown hg3 (by simp; omega); have d0 : _ = some _ := he3.cell 0; have f0 := he3.frozen 0; clear tb1; have tb2 : True := trivial))
  replace hk3 : Blk w3 ps 42 (recC [] (.slice none 0 0) 0 zB zB) := by simpa using hk3
  refine ⟨rfl, _, rfl, _, (by simp [results, Tryd.results68, go_sem]), rfl, rfl, hk3.other (a := ⟨pe, 0, none⟩) hne _, he3.stored 0 _, ?_⟩
  refine hc2.chg_trans ((Chg.grown hg3 (M := fun k => k = ps ∨ k = pe) (fun k hk => by cases hk; exact .inl rfl)).chg_trans (Chg.setCell w3 ⟨pe, 0, none⟩ _) (fun k hk => by subst hk; exact .inr (.inr rfl))) (fun k hk => .inr hk)
theorem crcatch_idle (c1 c2 : Value) (w : World) :
    CallsD Tryd.prog 68 #[c1, c2] .returning w fun e u' w' => e = .returned (.tuple #[]) ∧ u' = .returning ∧ w' = w := by
  refine callsD_of_wpS Tryd.func68 rfl fun c₀ cs hu => ?_
  apply wpS_seq
  apply wpS_region
  simp [wpOpsS, go_sem, recoverD, hu, Tryd.ntmps68, Exit.thenS]
  refine wpS_of_wp ?_
  obtain ⟨T0, hT0⟩ : ∃ T0 : Array Value, T0 = #[c1, c2, .nilIface, undef, undef, .nilIface, undef, undef, undef, undef, undef, undef, undef, undef, undef, undef, undef] := ⟨_, rfl⟩
  have e0 : (#[c1, c2] ++ ((Array.replicate 15 undef).setIfInBounds 3 Value.nilIface).setIfInBounds 0 Value.nilIface) = T0 := by rw [hT0]; rfl
  rw [e0, hT0]
  clear e0 hT0
  go_wp2_with fail
  cases c₀
  simp_all [bodyPostS, results, Tryd.results68, go_sem]
/-- Two results that lie in memory. -/
theorem results_rec (fn : Func) (hf : fn.results = #[.cell 2 42, .cell 3 25]) (tmps : Array Value) (w : World) (ps pe : Nat) (zs : List Value) (x : Int) (h2 : tmps.getD 2 undef = .pointer (some ⟨ps, 0, none⟩)) (h3 : tmps.getD 3 undef = .pointer (some ⟨pe, 0, none⟩))
    (hs : Blk w ps 42 zs) (h8 : zs.length = 67) (he : Blk w pe 25 [.int .i64 x]) : (results fn tmps).run Tryd.prog w = .ok (.tuple #[.agg zs.toArray, .int .i64 x]) w := by
  have h2' : tmps[2]?.getD undef = .pointer (some ⟨ps, 0, none⟩) := by simpa using h2
  have h3' : tmps[3]?.getD undef = .pointer (some ⟨pe, 0, none⟩) := by simpa using h3
  have r1 := run_loadVar_row (P := Tryd.prog) w ps 42 42 zs.toArray (0, 0) _ hs Tryd.underlying42 rfl (by rw [agR.size]; simp [h8])
  have c0 : _ = some _ := he.cell 0
  have r2 : (loadVar 25 ⟨pe, 0, none⟩).run Tryd.prog w = .ok (.int .i64 x) w := by simp [go_sem, c0]
  simp [results, hf, h2', h3', asAddr, r1, r2]
theorem cread_panic {w wi : World} {ps pe : Nat} {zs : List Value} {u : Value} (hps : w.heap.size ≤ ps) (hpe : w.heap.size ≤ pe) (hne : ps ≠ pe) (hS : Blk wi ps 42 zs) (h8 : zs.length = 67) (hE : Blk wi pe 25 [u])
    (hW : Below w.heap.size w wi) {I : RecI} (hI : I = badR 2) {tmps : Array Value} (h2 : tmps.getD 2 undef = .pointer (some ⟨ps, 0, none⟩)) (h3 : tmps.getD 3 undef = .pointer (some ⟨pe, 0, none⟩)) :
    bodyPostD Tryd.prog Tryd.f26 (GivesR w I) (Exit.panic chainCr) { tmps := tmps, defers := [{ target := .fn (.func 68) #[.pointer (some ⟨ps, 0, none⟩), .pointer (some ⟨pe, 0, none⟩)], args := #[] }] } wi := by
  subst hI
  refine leaves_cons (f := 68) (args := #[.pointer (some ⟨ps, 0, none⟩), .pointer (some ⟨pe, 0, none⟩)]) (by simp) (by simp [go_sem]) ?_
  refine (crcatch_c ps pe wi zs u hS h8 hE hne).mono ?_
  rintro e u' w'' ⟨rfl, rfl, k1, k2, hc2⟩
  refine ⟨_, results_rec _ rfl _ _ _ _ _ _ h2 h3 k1 rfl k2, ?_⟩
  exact GivesR.bad 2 (hW.trans (hc2.below hW.size (fun k hk => by rcases hk with rfl | rfl <;> assumption)))
theorem cread_done {w wi : World} {ps pe : Nat} {u s : List UInt8} {v : Value} {n : Int} {A B : List UInt8} (hS : Blk wi ps 42 (recC u v n A B)) (hE : Blk wi pe 25 [.int .i64 0]) (hA : A.length = 32) (hB : B.length = 32)
    (hW : Below w.heap.size w wi) (hv : Own8 wi w.heap.size 5 v s) {I : RecI} (hI : I = ⟨u, s, n, A, B, 0⟩) {tmps : Array Value} (h2 : tmps.getD 2 undef = .pointer (some ⟨ps, 0, none⟩)) (h3 : tmps.getD 3 undef = .pointer (some ⟨pe, 0, none⟩)) :
    bodyPostD Tryd.prog Tryd.f26 (GivesR w I) Exit.ret { tmps := tmps, defers := [{ target := .fn (.func 68) #[.pointer (some ⟨ps, 0, none⟩), .pointer (some ⟨pe, 0, none⟩)], args := #[] }] } wi := by
  subst hI
  refine leaves_cons (f := 68) (args := #[.pointer (some ⟨ps, 0, none⟩), .pointer (some ⟨pe, 0, none⟩)]) (by simp) (by simp [go_sem]) ?_
  refine (crcatch_idle _ _ wi).mono ?_
  rintro e u' w'' ⟨rfl, rfl, rfl⟩
  exact ⟨_, results_rec _ rfl _ _ _ _ _ _ h2 h3 hS (recC_len hA hB) hE, v, rfl, hv, (own_vcells hv).2, hW⟩
/-! ### a whole array out of bytes and into the middle of a record -/
theorem range_rd {w : World} {b o n c : Nat} {l : List UInt8} (h : Rd w (.slice (some ⟨b, o, none⟩) n c) l) : w.rangeAt b o (bvs l) := by
  intro j x hx
  have hj : j < l.length := by have := (List.getElem?_eq_some_iff.1 hx).1; simpa [bvs] using this
  obtain ⟨A, c', e, h1, h2, h3⟩ := h.open
  cases e
  obtain ⟨b', o', e', hc⟩ := h3 (by omega)
  cases e'
  rw [hc j hj, ← bvs_get l j hj, hx]
theorem pureTo_load_mid {P : Program} {w : World} {ops : Array Oper} {a : Act} {dd : Option Nat} {ty : TypeId} {pos : String} {after : Array Edge} {gd : Option (Nat × Bool)} {x g k : Nat} {T : TypeId} {cs : List Value} (hw : Region.wanted { dst := dd, op := .load T (.tmp x), type := ty, pos := pos, after := after, guard := gd } (yielded ops a.tmps) = true) (AT : AggTy P T 32)
    (hx : a.eval (.tmp x) = .pointer (some ⟨g, k, none⟩)) (hb : w.rangeAt g k cs) (hn : cs.length = 32) : PureTo P ops { dst := dd, op := .load T (.tmp x), type := ty, pos := pos, after := after, guard := gd } a w (.agg cs.toArray) := by
  obtain ⟨dx, h1, h2⟩ := AT.shape
  have hr := run_loadAt_mid (P := P) w g k T cs dx hb h1 (by cases dx <;> simp_all) (by rw [AT.size, hn])
  unfold PureTo
  rw [if_pos hw]
  simp [execOp, hx, hr, Below.refl]
theorem grown_setCells2 (g : Nat) : ∀ (vs : List Value) (o : Nat) (w : World), w.grownBy (w.setCells g o vs) (some g)
  | [], _, _ => ⟨rfl, rfl, rfl, Nat.le_refl _, fun _ _ _ => rfl⟩
  | v :: r, o, w => by
    have h1 := grown_setCell w ⟨g, o, none⟩ v
    have h2 := grown_setCells2 g r (o + 1) (w.setCell ⟨g, o, none⟩ v)
    rw [World.setCells]
    exact ⟨h2.os.trans h1.os, h2.tape.trans h1.tape, h2.output.trans h1.output, Nat.le_trans h1.size h2.size, fun k hk hne => (h2.block k (Nat.lt_of_lt_of_le hk h1.size) hne).trans (h1.block k hk hne)⟩
theorem blk_setCells (g : Nat) (T : TypeId) : ∀ (vs pre mid post : List Value) (w : World), mid.length = vs.length → Blk w g T (pre ++ (mid ++ post)) → Blk (w.setCells g pre.length vs) g T (pre ++ (vs ++ post))
  | [], pre, mid, post, w, h, hb => by
    have : mid = [] := List.eq_nil_of_length_eq_zero h
    subst this; exact hb
  | v :: vs, pre, [], post, w, h, hb => by cases h
  | v :: vs, pre, m :: mid, post, w, h, hb => by
    rw [World.setCells]
    have h1 := hb.stored pre.length v
    have e : (pre ++ (m :: mid ++ post)).set pre.length v = (pre ++ [v]) ++ (mid ++ post) := by simp [List.set_append]
    rw [e] at h1
    have h2 := blk_setCells g T vs (pre ++ [v]) mid post _ (by simpa using h) h1
    rw [show (pre ++ [v]).length = pre.length + 1 by simp] at h2
    rw [show pre ++ (v :: vs ++ post) = (pre ++ [v]) ++ (vs ++ post) by simp]
    exact h2
theorem goesTo_midB {P : Program} {ops : Array Oper} {w : World} {a : Act} {dd : Option Nat} {ty : TypeId} {pos : String} {after : Array Edge} {gd : Option (Nat × Bool)} {p x y k : Nat} {T T' : TypeId} {M N : Nat → Prop} {pre mid post vs : List Value} {u : Value} (AT : AggTy P T 32) (hS : oneB p T' (pre ++ (mid ++ post)) u M w) (hw : Region.wanted { dst := dd, op := .store T (.tmp x) (.tmp y), type := ty, pos := pos, after := after, guard := gd } (yielded ops a.tmps) = true)
    (hx : a.eval (.tmp x) = .pointer (some ⟨p, k, none⟩)) (hy : a.eval (.tmp y) = .agg vs.toArray) (hk : pre.length = k) (hm : mid.length = 32) (hv : vs.length = 32) (h1 : ∀ v ∈ vs, v.oneCell' = true) (hM : ∀ k, M k → N k) :
    GoesTo P ops { dst := dd, op := .store T (.tmp x) (.tmp y), type := ty, pos := pos, after := after, guard := gd } a w fun u' w' => Chg N w w' ∧ oneB p T' (pre ++ (vs ++ post)) u' (fun b => N b ∨ (w.heap.size ≤ b ∧ b < w'.heap.size)) w' := by
  subst hk
  obtain ⟨k1, k3⟩ := hS
  have ht : w.there p pre.length vs.toArray.size := fun j hj => ⟨by rw [k1.cell, List.getElem?_append_right (by omega), List.getElem?_append_left (by simp at hj; omega)]; simp; simp at hj; omega, k1.frozen _⟩
  have hr := run_storeAt_mid (P := P) w p pre.length T vs.toArray ht (by rw [AT.size]; simp [hv]) (Array.all_eq_true_iff_forall_mem.2 fun u hu => h1 u (by simpa using hu))
  unfold GoesTo
  rw [if_pos hw]
  simp [execOp, hx, hy]
  rw [hr]
  exact ⟨Chg.grown (grown_setCells2 p vs _ w) (fun k hk => by cases hk; exact hM _ k3), blk_setCells p T' vs pre mid post w (by omega) k1, .inl (hM _ k3)⟩
theorem goesTo_rec3 {ops : Array Oper} {w : World} {a : Act} {dd : Option Nat} {ty : TypeId} {pos : String} {after : Array Edge} {gd : Option (Nat × Bool)} {p x y : Nat} {M N : Nat → Prop} {u : List UInt8} {v : Value} {n : Int} {A0 A B : List UInt8} {z : Value} (hS : oneB p 42 (recC u v n A0 B) z M w) (hw : Region.wanted { dst := dd, op := .store 40 (.tmp x) (.tmp y), type := ty, pos := pos, after := after, guard := gd } (yielded ops a.tmps) = true)
    (hx : a.eval (.tmp x) = .pointer (some ⟨p, 3, none⟩)) (hy : a.eval (.tmp y) = .agg (bvs A).toArray) (hA0 : A0.length = 32) (hA : A.length = 32) (hM : ∀ k, M k → N k) :
    GoesTo Tryd.prog ops { dst := dd, op := .store 40 (.tmp x) (.tmp y), type := ty, pos := pos, after := after, guard := gd } a w fun u' w' => Chg N w w' ∧ oneB p 42 (recC u v n A B) u' (fun b => N b ∨ (w.heap.size ≤ b ∧ b < w'.heap.size)) w' :=
  goesTo_midB (pre := [.string (strB u), v, .int .i64 n]) (mid := bvs A0) (post := bvs B) (vs := bvs A) ag32 hS hw hx hy rfl (by rw [bvs_length]; exact hA0) (by rw [bvs_length]; exact hA) (bvs_one A) hM
theorem goesTo_rec4 {ops : Array Oper} {w : World} {a : Act} {dd : Option Nat} {ty : TypeId} {pos : String} {after : Array Edge} {gd : Option (Nat × Bool)} {p x y : Nat} {M N : Nat → Prop} {u : List UInt8} {v : Value} {n : Int} {A B0 B : List UInt8} {z : Value} (hS : oneB p 42 (recC u v n A B0) z M w) (hw : Region.wanted { dst := dd, op := .store 40 (.tmp x) (.tmp y), type := ty, pos := pos, after := after, guard := gd } (yielded ops a.tmps) = true)
    (hx : a.eval (.tmp x) = .pointer (some ⟨p, 35, none⟩)) (hy : a.eval (.tmp y) = .agg (bvs B).toArray) (hA : A.length = 32) (hB0 : B0.length = 32) (hB : B.length = 32) (hM : ∀ k, M k → N k) :
    GoesTo Tryd.prog ops { dst := dd, op := .store 40 (.tmp x) (.tmp y), type := ty, pos := pos, after := after, guard := gd } a w fun u' w' => Chg N w w' ∧ oneB p 42 (recC u v n A B) u' (fun b => N b ∨ (w.heap.size ≤ b ∧ b < w'.heap.size)) w' := by
  have e : ∀ X : List UInt8, recC u v n A X = (.string (strB u) :: v :: .int .i64 n :: bvs A) ++ (bvs X ++ []) := fun X => by simp [recC]
  rw [e B0] at hS
  rw [e B]
  exact goesTo_midB (pre := .string (strB u) :: v :: .int .i64 n :: bvs A) (mid := bvs B0) (post := []) (vs := bvs B) ag32 hS hw hx hy (by simp [bvs_length, hA]) (by rw [bvs_length]; exact hB0) (by rw [bvs_length]; exact hB) (bvs_one B) hM
end Go.Proofs.YtfnlcnjflloecaaDoor
