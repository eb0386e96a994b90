/- scram.plain. -/
import Derived.Test.YtfnlcnjflloecaaDoorSf1
import Derived.Test.YtfnlcnjflloecaaDoorBuild2
import Derived.Test.YtfnlcnjflloecaaDoorB64Enc
set_option linter.unusedVariables false
set_option linter.unusedSimpArgs false
set_option linter.unnecessarySimpa false
namespace Go.Proofs.YtfnlcnjflloecaaDoor
open Go.RowKit
/-- A name without its marks, behind what is out already. -/
def plainG : Nat → List UInt8 → List UInt8 → Option (List UInt8)
  | 0, _, _ => none
  | n + 1, out, s =>
    if (cutI 61 s).2.2 = false then some (out ++ (cutI 61 s).1)
    else if (cutI 61 s).2.1.length < 2 then none
    else if (cutI 61 s).2.1.take 2 = [50, 67] then plainG n (out ++ (cutI 61 s).1 ++ [44]) ((cutI 61 s).2.1.drop 2)
    else if (cutI 61 s).2.1.take 2 = [51, 68] then plainG n (out ++ (cutI 61 s).1 ++ [61]) ((cutI 61 s).2.1.drop 2)
    else none
def plainI (s : List UInt8) : Option (List UInt8) := if s = [] ∨ Lib.validD s = false then none else plainG (s.length + 1) [] s
theorem cutI_len (c : UInt8) : ∀ s : List UInt8, (cutI c s).1.length + (cutI c s).2.1.length ≤ s.length
  | [] => by simp [cutI]
  | b :: r => by
    have h := cutI_len c r
    unfold cutI
    split
    · simp
    · simp only [List.length_cons]; omega
def GivesP (w : World) (r : Option (List UInt8)) (e : Ending) (w' : World) : Prop := (match r with | some t => e = .returned (.string (strB t)) | none => e = .panicked chainSc) ∧ Below w.heap.size w w'
def slenS : Value → Nat
  | .string S => S.size
  | _ => 0
def PlRel (w w1 : World) (R : Option (List UInt8)) (v : Value) (wr : World) : Prop :=
  ∃ (n : Nat) (out s : List UInt8), v = .string (strB s) ∧ s.length < n ∧ plainG n out s = R ∧ out.length + s.length ≤ 2000 ∧ Lib.IsBuilder 122 5 w1.heap.size w1.heap.size (bvs out) wr ∧ Below w1.heap.size w1 wr ∧ Below w.heap.size w wr
theorem zBuild : ∃ z, (Tryd.prog.info? 122).map (·.zero) = some (some z) ∧ z = .agg #[.pointer none, .slice none 0 0] := ⟨_, by kernel_rfl, rfl⟩
theorem strB_ext (l : List UInt8) (i j : Nat) : (strB l).extract i j = strB ((l.drop i).take (j - i)) := by
  apply ByteArray.ext
  rw [ByteArray.data_extract]
  unfold strB
  simp [List.extract_eq_take_drop]
theorem builderAt_below {B b : Nat} {p : Value} {bs : List Value} {w w' : World} (h : Lib.BuilderAt 122 5 B b p bs w) (hb : Below w.heap.size w w') : Lib.BuilderAt 122 5 B b p bs w' := by
  have hlt := h.lt
  obtain ⟨hB, v, hk, hown, hne⟩ := h
  exact ⟨hB, v, by rw [hb.block b hlt]; exact hk, hown.kept (row := none) (grown_below hb none) (by cases v.ownBlock <;> simp), hne⟩
theorem builder_below {B b : Nat} {bs : List Value} {w w' : World} (h : Lib.IsBuilder 122 5 B b bs w) (hb : Below w.heap.size w w') : Lib.IsBuilder 122 5 B b bs w' := by
  rcases h with h | h
  · exact .inl (builderAt_below h hb)
  · exact .inr (builderAt_below h hb)
set_option maxRecDepth 100000 in
set_option maxHeartbeats 3200000 in
theorem plain_c (s : List UInt8) (w : World) (hl : s.length ≤ 2000) (hT : Tabs w) (hM : MaxL w) : Calls Tryd.prog 127 #[.string (strB s)] w (GivesP w (plainI s)) := by
  have V := nvalids_c s w (by omega) hT
  by_cases hne : s = []
  · have hI : plainI s = none := by unfold plainI; rw [if_pos (.inl hne)]
    rw [hI]
    have hem : (strB s).toList.isEmpty = true := by rw [strB_toList, hne]; rfl
    clear V hI hne
    generalize strB s = S at *
    go_enter Tryd.func127, Tryd.ntmps127
    have ta0 : True := trivial
    go_wp2_with (first
      | (have _t := ta0; go_at_call 126; refine (scmust_bad _).mono ?_; rintro e w1 ⟨rfl, rfl⟩; clear ta0; have ta1 : True := trivial))
    exact ⟨rfl, rfl, Below.refl _ _⟩
  have hem := s_empty s hne
  cases hv : Lib.validD s
  · have hI : plainI s = none := by unfold plainI; rw [if_pos (.inr hv)]
    rw [hI]
    rw [hv] at V
    clear hI hne hv
    generalize strB s = S at *
    go_enter Tryd.func127, Tryd.ntmps127
    have tb0 : True := trivial
    go_wp2_with (first
      | (have _t := tb0; go_at_call 55; refine V.mono ?_; rintro e w1 ⟨rfl, hb1⟩; clear tb0; have tb1 : True := trivial)
      | (have _t := tb1; go_at_call 126; refine (scmust_bad _).mono ?_; rintro e w2 ⟨rfl, rfl⟩; clear tb1; have tb2 : True := trivial))
    exact ⟨rfl, rfl, hb1⟩
  have hI : plainI s = plainG (s.length + 1) [] s := by unfold plainI; rw [if_neg (by rintro (h | h); exact hne h; rw [hv] at h; cases h)]
  rw [hv] at V
  rw [hI]
  obtain ⟨R, h0⟩ : ∃ R, plainG (s.length + 1) [] s = R := ⟨_, rfl⟩
  rw [h0]
  replace h0 := Go.Lib.hid h0
  obtain ⟨S, hS⟩ : ∃ S, S = strB s := ⟨_, rfl⟩
  rw [← hS] at V hem ⊢
  replace hS := Go.Lib.hid hS
  clear hI hne hv
  go_enter Tryd.func127, Tryd.ntmps127
  have tc0 : True := trivial
  go_upto_region 2 with (first
    | (have _t := tc0; go_at_call 55; refine V.mono ?_; rintro e w1 ⟨rfl, hb1⟩; clear tc0; have tc1 : True := trivial)
    | (have _t := tc1; go_at_call 126; refine (scmust_ok _).mono ?_; rintro e w2 ⟨rfl, rfl⟩; clear tc1; have tc2 : True := trivial))
  go_wp2_with fail
  go_loopw [0] (fun v wr => PlRel w w1 R v wr) (fun v _ => slenS v)
  case atStart =>
    refine ⟨s.length + 1, [], s, by rw [hS.out], by omega, h0.out, by simpa using hl, .inl ⟨Nat.le_refl _, .slice none 0 0, heap_alloc_new w1 _, World.ownsRow_nil _ _ _ _, by intro e; cases e⟩, (Below.refl _ _).alloc (Nat.le_refl _) _, below_below hb1 ((Below.refl _ _).alloc (Nat.le_refl _) _)⟩
  case round =>
    clear h0 hS hem V
    obtain ⟨n, out, s, rfl, hn, hG, hlen, hB, hbr, hbw⟩ := hrel
    obtain ⟨m, rfl⟩ : ∃ m, n = m + 1 := ⟨n - 1, by omega⟩
    have CU := cut_c 61 s wr (by omega) (hM.below hbw)
    have hcl := cutI_len 61 s
    unfold plainG at hG
    generalize cutI 61 s = C at *
    obtain ⟨a, r, sm⟩ := C
    simp only at hG hcl CU
    cases sm
    · rw [if_pos rfl] at hG
      subst hG
      have hlA : out.length + a.length ≤ 2000 := by omega
      have WS := fun w2 (h2 : Lib.IsBuilder 122 5 w1.heap.size w1.heap.size (bvs out) w2) (hz : w1.heap.size ≤ w2.heap.size) => writeString_c w1.heap.size w1.heap.size (bvs out) a w2 h2 (by rw [bvs_length]; omega) hz
      generalize strB s = S at *
      generalize strB a = A1 at *
      generalize strB r = R1 at *
      have td0 : True := trivial
      go_wp2_with (first
        | (have _t := td0; go_at_call 38; refine CU.mono ?_; rintro e w2 ⟨rfl, hb2⟩; have hB2 := builder_below hB hb2; have hbr2 := below_below hbr hb2; have hbw2 := below_below hbw hb2; clear td0; have td1 : True := trivial)
        | (have _t := td1; go_at_call 94; refine (WS _ hB2 hbr2.size).mono ?_; rintro e w3 ⟨rfl, hB3, hb3⟩; have hbr3 := hbr2.trans hb3; clear td1; have td2 : True := trivial)
        | (have _t := td2; go_at_call 98; refine (Tryd.Builder_String_any w1.heap.size _ (out ++ a) _ (by rw [byteCells_bvs, bvs_append]; exact .inr hB3) hbr3.size).mono ?_; rintro e w4 ⟨rfl, hb4⟩; clear td2; have td3 : True := trivial))
      go_ret
      exact ⟨rfl, hb1.trans ((hbr3.trans hb4).mono hb1.size)⟩
    · rw [if_neg (by decide)] at hG
      have hlA : out.length + a.length ≤ 2000 := by omega
      have WS := fun w2 (h2 : Lib.IsBuilder 122 5 w1.heap.size w1.heap.size (bvs out) w2) (hz : w1.heap.size ≤ w2.heap.size) => writeString_c w1.heap.size w1.heap.size (bvs out) a w2 h2 (by rw [bvs_length]; omega) hz
      have hzr := strB_size r
      by_cases h2 : r.length < 2
      · rw [if_pos h2] at hG
        subst hG
        have q1 : ¬ (2 : Int) ≤ ((strB r).size : Int) := by omega
        have q2 : decide ((2 : Int) ≤ ((strB r).size : Int)) = false := decide_eq_false q1
        clear hzr
        generalize strB s = S at *
        generalize strB a = A1 at *
        generalize strB r = R1 at *
        have te0 : True := trivial
        go_wp2_with (first
          | (have _t := te0; go_at_call 38; refine CU.mono ?_; rintro e w2 ⟨rfl, hb2⟩; have hB2 := builder_below hB hb2; have hbr2 := below_below hbr hb2; have hbw2 := below_below hbw hb2; clear te0; have te1 : True := trivial)
          | (have _t := te1; go_at_call 94; refine (WS _ hB2 hbr2.size).mono ?_; rintro e w3 ⟨rfl, hB3, hb3⟩; have hbr3 := hbr2.trans hb3; clear te1; have te2 : True := trivial)
          | (have _t := te2; go_at_call 126; refine (scmust_bad _).mono ?_; rintro e w4 ⟨rfl, rfl⟩; clear te2; have te3 : True := trivial))
        exact ⟨rfl, rfl, hb1.trans (hbr3.mono hb1.size)⟩
      rw [if_neg h2] at hG
      have q1 : (2 : Int) ≤ (r.length : Int) := by omega
      have q2 : decide ((2 : Int) ≤ (r.length : Int)) = true := decide_eq_true q1
      have q3 : (r.length : Int) ≤ 2000 := by omega
      generalize hSS : strB s = S at *
      generalize hAA : strB a = A1 at *
      obtain ⟨R1, hRR⟩ : ∃ R1, R1 = strB r := ⟨_, rfl⟩
      rw [← hRR] at CU hzr
      replace hRR := Go.Lib.hid hRR
      replace hSS := Go.Lib.hid hSS
      replace hAA := Go.Lib.hid hAA
      have x1 : ((R1.extract 0 2).toList == ([50, 67] : List UInt8)) = decide (r.take 2 = [50, 67]) := by
        rw [hRR.out, strB_ext, strB_toList]; simp only [List.drop_zero, Nat.sub_zero]; by_cases h : r.take 2 = [50, 67] <;> simp [h]
      have x2 : ((R1.extract 0 2).toList == ([51, 68] : List UInt8)) = decide (r.take 2 = [51, 68]) := by
        rw [hRR.out, strB_ext, strB_toList]; simp only [List.drop_zero, Nat.sub_zero]; by_cases h : r.take 2 = [51, 68] <;> simp [h]
      have x3 : R1.extract 2 r.length = strB (r.drop 2) := by
        rw [hRR.out, strB_ext, List.take_of_length_le (by simp)]
      replace x3 := Go.Lib.hid x3
      have WB := fun (c : Int) w2 (h2 : Lib.BuilderAt 122 5 w1.heap.size w1.heap.size (.pointer (some ⟨w1.heap.size, 0, none⟩)) (bvs out ++ bvs a) w2) (hz : w1.heap.size ≤ w2.heap.size) => writeByte_c w1.heap.size w1.heap.size (bvs out ++ bvs a) c w2 (.inr h2) (by rw [List.length_append, bvs_length, bvs_length]; omega) hz
      have hx3 : slenS (.string (R1.extract 2 r.length)) < s.length := by rw [x3.out]; show (strB (r.drop 2)).size < _; rw [strB_size]; simp; omega
      have hss : slenS (.string S) = s.length := by rw [← hSS.out]; exact strB_size s
      by_cases e1 : r.take 2 = [50, 67]
      · rw [decide_eq_true e1] at x1
        rw [if_pos e1] at hG
        have WB1 := WB 44
        clear x2 WB e1
        go_wp2_with fail
        refine CU.mono ?_; rintro e w2 ⟨rfl, hb2⟩
        have hB2 := builder_below hB hb2; have hbr2 := below_below hbr hb2; have hbw2 := below_below hbw hb2
        go_wp2_with fail
        refine (WS _ hB2 hbr2.size).mono ?_; rintro e w3 ⟨rfl, hB3, hb3⟩; have hbr3 := hbr2.trans hb3
        go_wp2_with fail
        refine (scmust_ok _).mono ?_; rintro e w4 ⟨rfl, rfl⟩
        go_wp2_with fail
        refine (WB1 _ hB3 hbr3.size).mono ?_; rintro e w5 ⟨rfl, hB5, hb5⟩; have hbr5 := hbr3.trans hb5
        go_wp2_with fail
        refine ⟨⟨m, out ++ a ++ [44], r.drop 2, by rw [← x3.out], by simp; omega, hG, by simp; omega, .inr (by rw [bvs_append, bvs_append]; exact hB5), hbr5, hb1.trans (hbr5.mono hb1.size)⟩, ?_⟩
        rw [hss]; exact hx3
      rw [decide_eq_false e1] at x1
      rw [if_neg e1] at hG
      by_cases e2 : r.take 2 = [51, 68]
      · rw [decide_eq_true e2] at x2
        rw [if_pos e2] at hG
        have WB1 := WB 61
        clear WB e1 e2
        go_wp2_with fail
        refine CU.mono ?_; rintro e w2 ⟨rfl, hb2⟩
        have hB2 := builder_below hB hb2; have hbr2 := below_below hbr hb2; have hbw2 := below_below hbw hb2
        go_wp2_with fail
        refine (WS _ hB2 hbr2.size).mono ?_; rintro e w3 ⟨rfl, hB3, hb3⟩; have hbr3 := hbr2.trans hb3
        go_wp2_with fail
        refine (scmust_ok _).mono ?_; rintro e w4 ⟨rfl, rfl⟩
        go_wp2_with fail
        refine (WB1 _ hB3 hbr3.size).mono ?_; rintro e w5 ⟨rfl, hB5, hb5⟩; have hbr5 := hbr3.trans hb5
        go_wp2_with fail
        refine ⟨⟨m, out ++ a ++ [61], r.drop 2, by rw [← x3.out], by simp; omega, hG, by simp; omega, .inr (by rw [bvs_append, bvs_append]; exact hB5), hbr5, hb1.trans (hbr5.mono hb1.size)⟩, ?_⟩
        rw [hss]; exact hx3
      · rw [decide_eq_false e2] at x2
        rw [if_neg e2] at hG
        subst hG
        clear WB e1 e2
        go_wp2_with fail
        refine CU.mono ?_; rintro e w2 ⟨rfl, hb2⟩
        have hB2 := builder_below hB hb2; have hbr2 := below_below hbr hb2; have hbw2 := below_below hbw hb2
        go_wp2_with fail
        refine (WS _ hB2 hbr2.size).mono ?_; rintro e w3 ⟨rfl, hB3, hb3⟩; have hbr3 := hbr2.trans hb3
        go_wp2_with fail
        refine (scmust_ok _).mono ?_; rintro e w4 ⟨rfl, rfl⟩
        go_wp2_with fail
        refine (scmust_bad _).mono ?_; rintro e w5 ⟨rfl, rfl⟩
        go_wp2_with fail
        exact ⟨rfl, rfl, hb1.trans (hbr3.mono hb1.size)⟩
end Go.Proofs.YtfnlcnjflloecaaDoor
