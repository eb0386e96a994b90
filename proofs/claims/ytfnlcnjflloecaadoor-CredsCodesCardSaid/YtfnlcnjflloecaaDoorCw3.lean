/- slices.Concat of bytes. -/
import Derived.Test.YtfnlcnjflloecaaDoorCw2
import Derived.Lib.AppendZerosOnto
set_option linter.unusedVariables false
set_option linter.unusedSimpArgs false
set_option linter.unnecessarySimpa false
namespace Go.Proofs.YtfnlcnjflloecaaDoor
open Go.RowKit
theorem flat_succ (ls : List (List UInt8)) (k : Nat) (h : k < ls.length) : (ls.take (k + 1)).flatten = (ls.take k).flatten ++ ls.getD k [] := by
  rw [List.take_succ_eq_append_getElem h, List.flatten_append, List.getD_eq_getElem?_getD, List.getElem?_eq_getElem h]
  simp
theorem flat_le (ls : List (List UInt8)) (k : Nat) : (ls.take k).flatten.length ≤ ls.flatten.length := by
  conv => rhs; rw [← List.take_append_drop k ls]
  rw [List.flatten_append, List.length_append]
  omega
theorem wpList_app_run {P : Program} {w w' : World} {t tx : TypeId} {ops : Array Oper} {rest : List Oper} {o : Oper} {a : Act} {Q : Exit → Act → World → Prop} {v xv v' : Value} (hgd : o.guard = none) (s x : Operand)
    (ho : o.op = .call { callee := .builtin .append, args := #[s, x], argTypes := #[t, tx] }) (hs : a.eval s = v) (hxv : a.eval x = xv)
    (hr : (Builtin.append_ #[t, tx] o.type #[v, xv]).run P w = .ok v' w') (h : wpList P ops Q rest (a.put o.dst v') w') : wpList P ops Q (o :: rest) a w :=
  wpList_plain hgd fun _ hK => by
    unfold Oper.wp execOp
    simp only [ho, resolve, invoke, builtin, Sem.run_bind, Sem.run_pure, Result.andThen_ok, List.map_toArray, List.map_cons, List.map_nil, hs, hxv, hr]
    exact hK _ _ h
/-- slices.Grow of nothing. -/
theorem grow_c (n : Nat) (w : World) (h0 : 0 < n) (hn : n ≤ 100000) : Calls Tryd.prog 108 #[.slice none 0 0, .int .i64 (n : Int)] w fun e w' => ∃ v, e = .returned v ∧ Own8 w' w.heap.size 5 v [] ∧ Below w.heap.size w w' := by
  obtain ⟨i, hi, hz, hs, hb⟩ := st8.info
  have hap := fun (w : World) ty => Lib.run_append_grow_zeros (P := Tryd.prog) w 37 3 ty 5 i _ .i64 .i64 Tryd.underlying37 Tryd.underlying3 hi hz none 0 0 [] (by rw [hs]; exact run_firstCells_none w.drew 1 0 0 0) n h0 (by omega) (by omega) (by omega) (by rw [hb]; omega) (by
    rw [Nat.zero_add]
    exact growslice_fits (by omega) (by rw [hb]; omega))
  simp only [Nat.zero_add] at hap
  have hap := fun ty => hap w ty
  have hge := grownCap_ge w n 0 5
  have hcm := grownCap_le_maxLen w n 0 5 (by unfold maxLen; omega)
  generalize grownCap w n 0 5 = cp at *
  obtain ⟨C, hC⟩ : ∃ C, C = ([] : List Value).toArray ++ Builtin.zeroCells (Value.int .u8 0).cells n ++ Builtin.zeroCells (Value.int .u8 0).cells (cp - n) := ⟨_, rfl⟩
  have hCs : C.size = cp := by
    rw [hC]
    simp only [Array.size_append, size_zeroCells, Value.cells]
    simp
    omega
  rw [← hC] at hap
  clear hC hi hz hs hb
  have hown : Own8 (w.drew.alloc (.cells C 5)) w.heap.size 5 (.slice (some ⟨w.heap.size, 0, none⟩) 0 cp) [] := by
    refine ⟨rfl, .inr ⟨w.heap.size, cp, C, rfl, Nat.le_refl _, heap_alloc_new w.drew _, Nat.zero_le _, hcm, by omega, by simp [bvs]⟩⟩
  have hbw : Below w.heap.size w (w.drew.alloc (.cells C 5)) := (Below.refl _ _).drew.alloc (Nat.le_refl _) _
  have q1 : ¬ ((n : Int) < 0) := by omega
  have q2 : (0 : Int) < n := by omega
  have q3 : (n : Int) ≤ 100000 := by omega
  unfold maxLen at hcm
  replace hCs := Go.Lib.hid hCs
  go_enter Tryd.func108, Tryd.ntmps108
  go_wp2_with (at_builtin; refine wpList_app_run rfl _ _ rfl (by with_unfolding_all (conv => lhs; whnf)) (by with_unfolding_all (conv => lhs; whnf)) (hap _) ?_)
  go_ret
  exact ⟨_, rfl, hown, hbw⟩
def CcA (w : World) (ls : List (List UInt8)) (z i : Value) (wr : World) : Prop := ∃ k : Nat, k ≤ ls.length ∧ z = .int .i64 ((ls.take k).flatten.length : Int) ∧ i = .int .i64 (k : Int) ∧ w = wr
def CcB (w : World) (ls : List (List UInt8)) (v i : Value) (wr : World) : Prop := ∃ k : Nat, k ≤ ls.length ∧ i = .int .i64 (k : Int) ∧ Own8 wr w.heap.size 5 v (ls.take k).flatten ∧ Below w.heap.size w wr
set_option maxRecDepth 100000 in
set_option maxHeartbeats 1600000 in
theorem concat_c (g c : Nat) (ls : List (List UInt8)) (w : World) (hc : ∀ k, k < ls.length → ∃ v, w.cell? ⟨g, k, none⟩ = some v ∧ Rd w v (ls.getD k [])) (hcap : ls.length ≤ c) (hN : ls.length ≤ 10) (hL : ls.flatten.length ≤ 100000) (h0 : 0 < ls.flatten.length) :
    Calls Tryd.prog 65 #[.slice (some ⟨g, 0, none⟩) ls.length c] w (Gives8 5 w ls.flatten) := by
  have GR := fun w1 => grow_c ls.flatten.length w1 h0 hL
  have hF := flat_le ls
  have hS := flat_succ ls
  obtain ⟨N, hNN⟩ : ∃ N, N = ls.length := ⟨_, rfl⟩
  rw [← hNN] at hc hcap hN ⊢
  have hfull : (ls.take N).flatten = ls.flatten := by rw [hNN, List.take_length]
  replace hNN := Go.Lib.hid hNN
  replace hfull := Go.Lib.hid hfull
  replace hc := Go.Lib.hid hc
  replace hF := Go.Lib.hid hF
  replace hS := Go.Lib.hid hS
  have z0 : (ls.take 0).flatten.length = 0 := by simp
  replace z0 := Go.Lib.hid z0
  go_enter Tryd.func65, Tryd.ntmps65
  go_wp2_with fail
  go_loopw [3, 11] (fun z i wr => CcA w ls z i wr) (fun _ i _ => (N - (intOf i).toNat))
  case atStart => exact ⟨0, by omega, by rw [z0.out]; rfl, rfl, rfl⟩
  case round =>
    obtain ⟨k, hk, rfl, rfl, rfl⟩ := hrel
    have hk' : k ≤ N := by rw [hNN.out]; exact hk
    have e1 := hF.out k
    by_cases hlt : k < N
    · have q1 : (k : Int) < N := by omega
      obtain ⟨v, hcell, hv⟩ := hc.out k hlt
      have e2 := hF.out (k + 1)
      have e3 := hS.out k (by rw [← hNN.out]; exact hlt)
      have e4 : (ls.take (k + 1)).flatten.length = (ls.take k).flatten.length + (ls.getD k []).length := by rw [e3, List.length_append]
      obtain ⟨A, cc, rfl, _, _, _⟩ := hv.open
      generalize (ls.getD k []) = lk at *
      have e5 := Go.Lib.hid e4
      have q2 : ((ls.take k).flatten.length : Int) + lk.length ≤ 100000 := by omega
      have q3 : ¬ (((ls.take k).flatten.length : Int) + lk.length < 0) := by omega
      clear e3 e4 e1 e2 hv
      generalize (ls.take k).flatten.length = M at *
      go_wp2_with fail
      refine ⟨⟨k + 1, by rw [← hNN.out]; omega, ?_, by go_num, rfl⟩, by simp [intOf]; omega⟩
      rw [e5.out]
      go_num
    · have q1 : ¬ (k : Int) < N := by omega
      have hkN : k = N := by omega
      have e6 : (ls.take k).flatten.length = ls.flatten.length := by rw [hkN, hfull.out]
      rw [e6]
      clear e6 e1 hkN
      generalize ls.flatten.length = M at *
      have ta0 : True := trivial
      go_wp2_with (first
        | (have _t := ta0; go_at_call 108; refine (GR _).mono ?_; rintro e w1 ⟨v1, rfl, ho1, hb1⟩; clear ta0; have ta1 : True := trivial))
      clear GR q1
      go_loopw [6, 27] (fun v i wr => CcB w ls v i wr) (fun _ i _ => (N - (intOf i).toNat))
      case atStart => exact ⟨0, by omega, rfl, by simpa using ho1, hb1⟩
      case round =>
        clear ho1 hb1
        obtain ⟨j, hj, rfl, ho, hb⟩ := hrel
        have hj' : j ≤ N := by rw [hNN.out]; exact hj
        by_cases hlt : j < N
        · have q1 : (j : Int) < N := by omega
          obtain ⟨v, hcell, hv⟩ := hc.out j hlt
          have hg := World.block_lt_of_cell? w _ hcell
          have hcw : _ = some v := (hb.cell (p := ⟨g, j, none⟩) hg).trans hcell
          have e3 := hS.out j (by rw [← hNN.out]; exact hlt)
          have e2 := hF.out (j + 1)
          rw [e3, List.length_append] at e2
          have hvb := hv.below hb
          have hbs := hb.size
          obtain ⟨A, cc, rfl, _, _, _⟩ := hv.open
          have e4 := Go.Lib.hid e3
          generalize (ls.getD j []) = lj at *
          clear hcell hv e3
          generalize (ls.take j).flatten = X at *
          have tb0 : True := trivial
          go_wp2_with (first
            | (have _t := tb0; (at_builtin; refine wpList_app8 rfl _ _ rfl st8 (by with_unfolding_all (conv => lhs; whnf)) ho rfl (Rd.src hvb Tryd.underlying37) (by first | omega | (simp; omega)) (by first | (simp; done) | omega | (simp; omega)) ?_); intro v3 w3 ho3 hg3 hb3; clear tb0; have tb1 : True := trivial))
          refine ⟨⟨j + 1, by rw [← hNN.out]; omega, by go_num, by rw [e4.out]; exact ho3, hb.grown hg3 hb.size (fun k hk => ho.base_le k hk)⟩, by simp [intOf]; omega⟩
        · have q1 : ¬ (j : Int) < N := by omega
          have hjN : j = N := by omega
          rw [hjN, hfull.out] at ho
          clear hjN
          go_wp2_with fail
          go_ret
          exact ⟨_, rfl, ho, hb⟩
end Go.Proofs.YtfnlcnjflloecaaDoor
