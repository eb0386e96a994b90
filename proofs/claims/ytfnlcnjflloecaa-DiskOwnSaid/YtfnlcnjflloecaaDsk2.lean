/- disk: at, step. -/
import Derived.Test.YtfnlcnjflloecaaDsk1
set_option linter.unusedVariables false
set_option linter.unusedSimpArgs false
set_option linter.unnecessarySimpa false
namespace Go.Proofs.Ytfnlcnjflloecaa
open Go.RowKit
def ptrK (G : List UInt8 → Nat) (fs : List FileE) (s : ByteArray) : Option Value := (lookF fs s.data.toList).map fun _ => .pointer (some ⟨G s.data.toList, 0, none⟩)
theorem zPF : (Try.prog.info? 75).map (·.zero) = some (some (.pointer none)) := by kernel_rfl
theorem at_some (p r g : Nat) (rest : List Value) (f : ByteArray → Option Value) (s : ByteArray) (w : World) (h : Blk w p 68 (.map (some r) :: rest)) (hm : MapK w r f) (hf : f s = some (.pointer (some ⟨g, 0, none⟩))) :
    Calls Try.prog 39 #[.pointer (some ⟨p, 0, none⟩), .string s] w fun e w' => e = .returned (.pointer (some ⟨g, 0, none⟩)) ∧ w = w' := by
  have c0 : _ = some (Value.map (some r)) := h.cell 0
  have hl := (run_lookupK (P := Try.prog) hm Try.underlying66 Try.underlying9 zPF s).2
  rw [hf] at hl
  simp only [Option.getD_some] at hl
  go_enter Try.func39, Try.ntmps39
  go_wp2_with fail
  refine (dkmust_ok 7 _).mono ?_; rintro e w1 ⟨rfl, rfl⟩
  go_wp2_with fail
  go_ret
  exact ⟨rfl, rfl⟩
theorem at_none (p r : Nat) (rest : List Value) (f : ByteArray → Option Value) (s : ByteArray) (w : World) (h : Blk w p 68 (.map (some r) :: rest)) (hm : MapK w r f) (hf : f s = none) :
    Calls Try.prog 39 #[.pointer (some ⟨p, 0, none⟩), .string s] w fun e w' => e = .panicked (chainDk 7) ∧ w = w' := by
  have c0 : _ = some (Value.map (some r)) := h.cell 0
  have hl := (run_lookupK (P := Try.prog) hm Try.underlying66 Try.underlying9 zPF s).2
  rw [hf] at hl
  simp only [Option.getD_none] at hl
  go_enter Try.func39, Try.ntmps39
  go_wp2_with fail
  refine (dkmust_bad 7 _).mono ?_; rintro e w1 ⟨rfl, rfl⟩
  go_wp2_with fail
  exact ⟨rfl, rfl, rfl⟩
set_option maxRecDepth 100000 in
set_option maxHeartbeats 1600000 in
theorem dkcatch_c (pe : Nat) (x : Int) (w : World) (u0 : Value) (he : Blk w pe 24 [u0]) :
    CallsD Try.prog 48 #[.pointer (some ⟨pe, 0, none⟩)] (.panicking ({ v := gaveDk x, recovered := false } :: [])) w fun e u' w' =>
      e = .returned (.tuple #[]) ∧ u' = .panicking ({ v := gaveDk x, recovered := true } :: []) ∧ Blk w' pe 24 [.int .i64 x] ∧ w.grownBy w' (some pe) := by
  unfold gaveDk
  refine callsD_of_wpS Try.func48 rfl fun c₀ cs hu => ?_
  apply wpS_seq
  apply wpS_region
  simp [wpOpsS, go_sem, recoverD, hu, Try.ntmps48, Exit.thenS]
  refine wpS_of_wp ?_
  have c0 : _ = some _ := he.cell 0
  have f0 := he.frozen 0
  have h1 := he.stored 0 (.int .i64 x)
  have g1 := grown_setCell w ⟨pe, 0, none⟩ (.int .i64 x)
  have hta : ∀ w : World, (Instr.typeAssert (.iface 88 (.agg #[.int .i64 x])) 20 88 false).run Try.prog w = .ok (.agg #[.int .i64 x]) w := fun _ => by kernel_rfl
  have hfl : ∀ w : World, (Instr.field 88 (.agg #[.int .i64 x]) 0).run Try.prog w = .ok (.int .i64 x) w := fun _ => by kernel_rfl
  obtain ⟨T0, hT0⟩ : ∃ T0 : Array Value, T0 = #[.pointer (some ⟨pe, 0, none⟩), .iface 88 (.agg #[.int .i64 x]), .iface 88 (.agg #[.int .i64 x]), undef, undef, undef, undef, undef] := ⟨_, rfl⟩
  have e0 : (#[Value.pointer (some { block := pe, off := 0 })] ++
          ((Array.replicate 7 undef).setIfInBounds 1 (Value.iface 88 (Value.agg #[Value.int IntKind.i64 x]))).setIfInBounds 0 (Value.iface 88 (Value.agg #[Value.int IntKind.i64 x]))) = T0 := by rw [hT0]; rfl
  rw [e0, hT0]
  clear e0 hT0
  go_wp2_with fail
  exact ⟨rfl, _, rfl, _, (by simp [results, Try.results48, go_sem]), rfl, rfl, h1, g1⟩
set_option maxRecDepth 100000 in
theorem dkcatch_idle (c1 : Value) (w : World) :
    CallsD Try.prog 48 #[c1] .returning w fun e u' w' => e = .returned (.tuple #[]) ∧ u' = .returning ∧ w' = w := by
  refine callsD_of_wpS Try.func48 rfl fun c₀ cs hu => ?_
  apply wpS_seq
  apply wpS_region
  simp [wpOpsS, go_sem, recoverD, hu, Try.ntmps48, Exit.thenS]
  refine wpS_of_wp ?_
  obtain ⟨T0, hT0⟩ : ∃ T0 : Array Value, T0 = #[c1, .nilIface, .nilIface, undef, undef, undef, undef, undef] := ⟨_, rfl⟩
  have e0 : (#[c1] ++ ((Array.replicate 7 undef).setIfInBounds 1 Value.nilIface).setIfInBounds 0 Value.nilIface) = T0 := by rw [hT0]; rfl
  rw [e0, hT0]
  clear e0 hT0
  go_wp2_with fail
  cases c₀
  simp_all [bodyPostS, results, Try.results48, go_sem]
theorem results_errno (fn : Func) (hf : fn.results = #[.cell 4 24]) (tmps : Array Value) (w : World) (pe : Nat) (x : Int) (h4 : tmps.getD 4 undef = .pointer (some ⟨pe, 0, none⟩))
    (he : Blk w pe 24 [.int .i64 x]) : (results fn tmps).run Try.prog w = .ok (.int .i64 x) w := by
  have h4' : tmps[4]?.getD undef = .pointer (some ⟨pe, 0, none⟩) := by simpa using h4
  have c0 : _ = some _ := he.cell 0
  have r2 : (loadVar 24 ⟨pe, 0, none⟩).run Try.prog w = .ok (.int .i64 x) w := by simp [go_sem, c0]
  simp [results, hf, h4', asAddr, r2]
theorem step_panic {wi : World} {pe : Nat} {u : Value} {x : Int} {Post : Ending → World → Prop} (hE : Blk wi pe 24 [u]) {tmps : Array Value} (h4 : tmps.getD 4 undef = .pointer (some ⟨pe, 0, none⟩))
    (hP : ∀ w', wi.grownBy w' (some pe) → Post (.returned (.int .i64 x)) w') :
    bodyPostD Try.prog Try.f26 Post (Exit.panic (chainDk x)) { tmps := tmps, defers := [{ target := .fn (.func 48) #[.pointer (some ⟨pe, 0, none⟩)], args := #[] }] } wi := by
  refine leaves_cons (f := 48) (args := #[.pointer (some ⟨pe, 0, none⟩)]) (by simp) (by simp [go_sem]) ?_
  refine (dkcatch_c pe x wi u hE).mono ?_
  rintro e u' w'' ⟨rfl, rfl, k1, k2⟩
  exact ⟨_, results_errno _ rfl _ _ _ _ h4 k1, hP _ k2⟩
theorem step_done {wi : World} {pe : Nat} {x : Int} {Post : Ending → World → Prop} (hE : Blk wi pe 24 [.int .i64 x]) {tmps : Array Value} (h4 : tmps.getD 4 undef = .pointer (some ⟨pe, 0, none⟩))
    (hP : Post (.returned (.int .i64 x)) wi) :
    bodyPostD Try.prog Try.f26 Post Exit.ret { tmps := tmps, defers := [{ target := .fn (.func 48) #[.pointer (some ⟨pe, 0, none⟩)], args := #[] }] } wi := by
  refine leaves_cons (f := 48) (args := #[.pointer (some ⟨pe, 0, none⟩)]) (by simp) (by simp [go_sem]) ?_
  refine (dkcatch_idle _ wi).mono ?_
  rintro e u' w'' ⟨rfl, rfl, rfl⟩
  exact ⟨_, results_errno _ rfl _ _ _ _ h4 hE, hP⟩
theorem step_off (p : Nat) (cs : List Value) (fv : Value) (w : World) (h : Blk w p 68 cs) (ho : cs[4]? = some (.bool true)) :
    Calls Try.prog 26 #[.pointer (some ⟨p, 0, none⟩), fv] w fun e w' => e = .returned (.int .i64 13) ∧ Below w.heap.size w w' := by
  have hmf : ∀ (fn : Fn) (first cap : Array Value) (w : World), (Instr.makeFunc fn first cap).run Try.prog w = .ok (.func fn first cap) w := fun _ _ _ _ => rfl
  have hE : Blk (w.alloc (.cells #[.int .i64 0] 24)) w.heap.size 24 [.int .i64 0] := Blk.new w 24 [.int .i64 0]
  have bE := (Below.refl w.heap.size w).alloc (Nat.le_refl _) (.cells #[.int .i64 0] 24)
  have h1 := h.below bE
  have c4 : _ = some _ := (h1.cell 4).trans ho
  go_enter_defers Try.func26, Try.ntmps26
  go_wp2_with fail
  refine (dkmust_bad 13 _).mono ?_; rintro e w1 ⟨rfl, rfl⟩
  go_wp2_with fail
  refine step_panic hE rfl fun w' hg => ⟨rfl, bE.grown hg bE.size (fun k hk => by cases hk; exact Nat.le_refl _)⟩
/-- A step that finds the power on: what it does either comes back, or gives up with an error. -/
theorem step_on (p : Nat) (cs : List Value) (k : Nat) (caps : Array Value) (w : World) (h : Blk w p 68 cs) (ho : cs[4]? = some (.bool false)) (ek : ∀ args w, (callFunc k args).run Try.prog w = .ok (.enter k args) w) (N : Nat → Prop) (Q : Int → World → Prop)
    (hN : ¬ N w.heap.size) (hQ : ∀ x w2 w3, Q x w2 → w.heap.size < w2.heap.size → w2.grownBy w3 (some w.heap.size) → Q x w3)
    (HC : ∀ w1, Below w.heap.size w w1 → w.heap.size < w1.heap.size → Calls Try.prog k caps w1 fun e w2 => Chg N w1 w2 ∧ ∃ x, Q x w2 ∧ ((x = 0 ∧ e = .returned (.tuple #[])) ∨ e = .panicked (chainDk x))) :
    Calls Try.prog 26 #[.pointer (some ⟨p, 0, none⟩), .func (.func k) #[] caps] w fun e w' => ∃ x, e = .returned (.int .i64 x) ∧ Q x w' ∧ Chg N w w' := by
  have hmf : ∀ (fn : Fn) (first cap : Array Value) (w : World), (Instr.makeFunc fn first cap).run Try.prog w = .ok (.func fn first cap) w := fun _ _ _ _ => rfl
  have hE : Blk (w.alloc (.cells #[.int .i64 0] 24)) w.heap.size 24 [.int .i64 0] := Blk.new w 24 [.int .i64 0]
  have bE := (Below.refl w.heap.size w).alloc (Nat.le_refl _) (.cells #[.int .i64 0] 24)
  have h1 := h.below bE
  have c4 : _ = some _ := (h1.cell 4).trans ho
  have hz : w.heap.size < (w.alloc (.cells #[.int .i64 0] 24)).heap.size := by simp
  go_enter_defers Try.func26, Try.ntmps26
  go_wp2_with fail
  refine (dkmust_ok 13 _).mono ?_; rintro e w1 ⟨rfl, rfl⟩
  go_wp2_with fail
  refine (HC _ bE hz).mono ?_
  rintro e w2 ⟨hc, x, hq, ⟨rfl, rfl⟩ | rfl⟩
  · have hE2 := hE.chg hc hN
    have c0 : _ = some _ := hE2.cell 0
    have f0 := hE2.frozen 0
    have hE3 := hE2.stored 0 (.int .i64 0)
    have g3 := grown_setCell w2 ⟨w.heap.size, 0, none⟩ (.int .i64 0)
    go_wp2_with fail
    refine step_done hE3 rfl ⟨0, rfl, hQ _ _ _ hq (by have := hc.size; omega) g3, ?_⟩
    exact ((Chg.of_below bE).chg_trans hc (fun k hk => .inr hk)).chg_trans (Chg.grown g3 (M := fun k => k = w.heap.size) (fun k hk => by cases hk; rfl)) (fun k hk => .inl (by omega))
  · have hE2 := hE.chg hc hN
    go_wp2_with fail
    refine step_panic hE2 rfl fun w' hg => ⟨x, rfl, hQ _ _ _ hq (by have := hc.size; omega) hg, ?_⟩
    exact ((Chg.of_below bE).chg_trans hc (fun k hk => .inr hk)).chg_trans (Chg.grown hg (M := fun k => k = w.heap.size) (fun k hk => by cases hk; rfl)) (fun k hk => .inl (by omega))
end Go.Proofs.Ytfnlcnjflloecaa
