/- NameBack: what is prepared is prepared; there and back. -/
import Derived.Test.YtfnlcnjflloecaaDoorNamZ
set_option linter.unusedVariables false
set_option linter.unusedSimpArgs false
set_option linter.unnecessarySimpa false
namespace Go.Proofs.YtfnlcnjflloecaaDoor
open Go.RowKit
theorem JidOk.lens {l h r : List UInt8} (k : JidOk l h r) : l.length ≤ 64 ∧ h.length ≤ 64 ∧ r.length ≤ 64 := by
  refine ⟨?_, k.h.len, ?_⟩
  · rcases k.l with h | h
    · rw [h]; simp
    · exact h.len
  · rcases k.r with h | h
    · rw [h]; simp
    · have := resI_len r; rw [h] at this; exact this
theorem catI_len {l h r : List UInt8} (k : JidOk l h r) : (catI l h r).length ≤ 200 := by
  obtain ⟨a, b, c⟩ := k.lens
  unfold catI
  split <;> split <;> simp <;> omega
theorem textJ_len (j : Jid3) : (textJ j).1.length ≤ 200 := by
  by_cases h : (textJ j).2 = 0
  · obtain ⟨l, hh, k, e, _⟩ := text_jid (j := j) (t := (textJ j).1) (Prod.ext rfl h)
    rw [e]; exact catI_len k
  · obtain ⟨l, hh, r⟩ := j
    have e : textJ (l, hh, r) = (if (hostI hh).2 ≠ 0 then ([], (hostI hh).2) else if (if l = [] then ([], 0) else localI l).2 ≠ 0 then ([], (if l = [] then ([], 0) else localI l).2)
      else if (if r = [] then ([], 0) else resI r).2 ≠ 0 then ([], (if r = [] then ([], 0) else resI r).2)
      else (catI (if l = [] then ([], 0) else localI l).1 (hostI hh).1 (if r = [] then ([], 0) else resI r).1, 0)) := rfl
    rw [e] at h ⊢
    generalize (if l = [] then ([], 0) else localI l) = A at *
    generalize (if r = [] then ([], 0) else resI r) = B at *
    by_cases a : (hostI hh).2 ≠ 0
    · rw [if_pos a]; simp
    · by_cases b : A.2 ≠ 0
      · rw [if_neg a, if_pos b]; simp
      · by_cases c : B.2 ≠ 0
        · rw [if_neg a, if_neg b, if_pos c]; simp
        · rw [if_neg a, if_neg b, if_neg c] at h
          exact absurd rfl h
theorem isEmpty_iff_eq {a b : List UInt8} (h : a = [] ↔ b = []) : b.isEmpty = a.isEmpty := by
  cases a <;> cases b <;> simp_all
theorem parseI_len (s : List UInt8) : (parseI s).1.1.length ≤ 64 ∧ (parseI s).1.2.1.length ≤ 64 ∧ (parseI s).1.2.2.length ≤ 64 := by
  by_cases h : (parseI s).2 = 0
  · exact (parse_jid (s := s) (j := (parseI s).1) (Prod.ext rfl h)).lens
  · rw [parse_bad h]; simp [noJ]
set_option maxRecDepth 100000 in
set_option maxHeartbeats 12800000 in
theorem nameBack_w (w : World) (hT : Tabs w) (hM : MaxL w) (s0 : ByteArray) (h0 : s0.size ≤ maxLen) (j0 : ByteArray) (y0 : j0.size ≤ maxLen) (j1 : ByteArray) (y1 : j1.size ≤ maxLen) (j2 : ByteArray) (y2 : j2.size ≤ maxLen) :
    Calls Tryd.prog 4 #[.string s0, .agg #[.string j0, .string j1, .string j2]] w (Ok w) := by
  have TX := fun w1 => text_c s0.data.toList 300 w1 (by unfold maxLen at h0; exact h0) (by omega)
  have e0 : strB s0.data.toList = s0 := rfl
  rw [e0] at TX
  have hl : (s0.data.toList.take 300).length ≤ 300 := by simp; omega
  generalize s0.data.toList.take 300 = s at *
  have ea : (Value.agg #[.string j0, .string j1, .string j2]) = .agg (jCells j0.data.toList j1.data.toList j2.data.toList).toArray := rfl
  rw [ea]
  have z0 : j0.data.toList.length ≤ 9223372036854775807 := by unfold maxLen at y0; exact y0
  have z1 : j1.data.toList.length ≤ 9223372036854775807 := by unfold maxLen at y1; exact y1
  have z2 : j2.data.toList.length ≤ 9223372036854775807 := by unfold maxLen at y2; exact y2
  clear ea e0 y0 y1 y2 h0
  generalize j0.data.toList = l at *
  generalize j1.data.toList = h at *
  generalize j2.data.toList = r at *
  have PL := fun w1 (hb : Below w.heap.size w w1) => local_c s w1 (by omega) (hT.below hb)
  have LL := localI_len s
  have LK : (localI s).2 = 0 → localI (localI s).1 = ((localI s).1, 0) ∧ (localI s).1 ≠ [] := fun e => by
    have k := localI_ok (s := s) (a := (localI s).1) (Prod.ext rfl e)
    exact ⟨k.localI, k.ne⟩
  have PH := fun w1 (hb : Below w.heap.size w w1) => host_c s w1 (by omega) (hT.below hb) (hM.below hb)
  have HL := hostI_len s
  have HK : (hostI s).2 = 0 → hostI (hostI s).1 = ((hostI s).1, 0) := fun e => (hostI_ok (s := s) (a := (hostI s).1) (Prod.ext rfl e)).hostI
  have PT := fun w1 (hb : Below w.heap.size w w1) => ntext_c l h r w1 z0 z1 z2 (hT.below hb) (hM.below hb)
  have TL := textJ_len (l, h, r)
  have TK := fun (t : List UInt8) (e : textJ (l, h, r) = (t, 0)) => text_jid e
  have PP := fun w1 (hb : Below w.heap.size w w1) => nparse_c s w1 (by omega) (hT.below hb) (hM.below hb)
  have QL := parseI_len s
  have QK := fun (j : Jid3) (e : parseI s = (j, 0)) => parse_jid e
  have QB := parse_bad (s := s)
  have WK := fun w1 (hb : Below w.heap.size w w1) => wakes2_c w1 (hT.below hb) (hM.below hb)
  have XP := fun (t : List UInt8) w1 (ht : t.length ≤ 1000) (hb : Below w.heap.size w w1) => nparse_c t w1 (by omega) (hT.below hb) (hM.below hb)
  have XT := fun (a b c : List UInt8) w1 (ha : a.length ≤ 1000) (hb : b.length ≤ 1000) (hc : c.length ≤ 9223372036854775807) (hw : Below w.heap.size w w1) => ntext_c a b c w1 (by omega) (by omega) hc (hT.below hw) (hM.below hw)
  have XL := fun (t : List UInt8) w1 (ht : t.length ≤ 1000) (hb : Below w.heap.size w w1) => local_c t w1 (by omega) (hT.below hb)
  have XH := fun (t : List UInt8) w1 (ht : t.length ≤ 1000) (hb : Below w.heap.size w w1) => host_c t w1 (by omega) (hT.below hb) (hM.below hb)
  unfold GivesSE at PL PH PT XL XH XT
  unfold GivesJ at PP XP
  generalize localI s = A at *
  obtain ⟨a, e⟩ := A
  generalize hostI s = C at *
  obtain ⟨c, e2⟩ := C
  generalize textJ (l, h, r) = J at *
  obtain ⟨t, e3⟩ := J
  generalize parseI s = K at *
  obtain ⟨⟨k1, k2, k3⟩, e4⟩ := K
  simp only at PL PH PT PP LL LK HL HK TL TK QL QK QB
  have PLa := fun w1 hb => XL a w1 (by omega) hb
  have PHc := fun w1 hb => XH c w1 (by omega) hb
  have PPt := fun w1 hb => XP t w1 (by omega) hb
  generalize hLa : localI a = B at *
  obtain ⟨b, f⟩ := B
  generalize hHc : hostI c = D at *
  obtain ⟨d, f2⟩ := D
  generalize hPt : parseI t = M at *
  obtain ⟨⟨m1, m2, m3⟩, f3⟩ := M
  simp only at PLa PHc PPt
  have eA : ∀ a b c, (jCells a b c).toArray = #[.string (strB a), .string (strB b), .string (strB c)] := fun _ _ _ => rfl
  rw [eA] at PP PPt
  replace hLa := Go.Lib.hid hLa
  replace hHc := Go.Lib.hid hHc
  replace hPt := Go.Lib.hid hPt
  clear XL XH
  replace LK := Go.Lib.hid LK
  replace HK := Go.Lib.hid HK
  replace TK := Go.Lib.hid TK
  replace QK := Go.Lib.hid QK
  replace QB := Go.Lib.hid QB
  replace QL := Go.Lib.hid QL
  obtain ⟨S, hS⟩ : ∃ S, S = strB s := ⟨_, rfl⟩
  rw [← hS] at PL PH PP TX
  clear hS hT hM hl
  go_enter Tryd.func4, Tryd.ntmps4
  have ta0 : True := trivial
  go_upto_region 4 with (first
    | (have _t := ta0; (with_reducible refine G_box ?_; refine L_box (by with_unfolding_all (conv => lhs; whnf)) ?_); intro w1 hk1 hb1 hs1; clear hs1; clear ta0; have ta1 : True := trivial)
    | (have _t := ta1; go_at_call 9; refine (TX _).mono ?_; rintro e' w2 ⟨rfl, rfl⟩; clear ta1; have ta2 : True := trivial)
    | (have _t := ta2; go_at_call 15; refine (PL _ hb1).mono ?_; rintro e' w3 ⟨rfl, hb3⟩; replace hk1 := hk1.below hb3; replace hb1 := below_below hb1 hb3; clear ta2; have ta3 : True := trivial)
    | (have _t := ta3; go_at_call 15; refine (PLa _ hb1).mono ?_; rintro e' w4 ⟨rfl, hb4⟩; replace hk1 := hk1.below hb4; replace hb1 := below_below hb1 hb4; clear ta3; have ta4 : True := trivial))
  clear TX PL PLa
  go_cut [52] from 20 (fun v wx => v = .bool false ∧ w4 = wx)
  case first =>
    clear PH PT PP PHc PPt WK XP XT
    by_cases he : e = 0
    · subst he
      obtain ⟨x1, x2⟩ := LK.out rfl
      have x3 := x1
      simp only [Prod.mk.injEq] at x3
      obtain ⟨rfl, rfl⟩ := x3
      have q1 : ((strB b).toList != (strB b).toList) = false := by simp
      have q2 : 0 < b.length := by cases b with | nil => exact absurd rfl x2 | cons _ _ => simp
      have q3 : (((strB b).size : Int) == 0) = false := by rw [strB_size]; simp; omega
      have q4 : ¬ (64 : Int) < ((strB b).size : Int) := by rw [strB_size]; omega
      clear x1 x2 hLa
      go_wp2_with fail
      go_meet
      case rel => exact ⟨rfl, rfl⟩
    · have q1 : (e == 0) = false := by simpa using he
      go_wp2_with fail
      go_meet
      case rel => exact ⟨rfl, rfl⟩
  case rest =>
  obtain ⟨rfl, rfl⟩ := hcut
  clear LK hLa hb3 hb4
  have tb0 : True := trivial
  go_upto_region 8 with (first
    | (have _t := tb0; go_at_call 16; refine (PH _ hb1).mono ?_; rintro e' w5 ⟨rfl, hb5⟩; replace hk1 := hk1.below hb5; replace hb1 := below_below hb1 hb5; clear tb0; have tb1 : True := trivial)
    | (have _t := tb1; go_at_call 16; refine (PHc _ hb1).mono ?_; rintro e' w6 ⟨rfl, hb6⟩; replace hk1 := hk1.below hb6; replace hb1 := below_below hb1 hb6; clear tb1; have tb2 : True := trivial))
  clear PH PHc
  go_cut [73] from 20 (fun v wx => v = .bool false ∧ w6 = wx)
  case first =>
    clear PT PP PPt WK XP XT
    by_cases he : e2 = 0
    · subst he
      have x1 := HK.out rfl
      have x3 := x1
      simp only [Prod.mk.injEq] at x3
      obtain ⟨rfl, rfl⟩ := x3
      have q1 : ((strB d).toList != (strB d).toList) = false := by simp
      clear x1 hHc
      go_wp2_with fail
      go_meet
      case rel => exact ⟨rfl, rfl⟩
    · have q1 : (e2 == 0) = false := by simpa using he
      go_wp2_with fail
      go_meet
      case rel => exact ⟨rfl, rfl⟩
  case rest =>
  obtain ⟨rfl, rfl⟩ := hcut
  clear HK hHc hb5 hb6
  replace hk1 : Blk w6 w.heap.size 23 (jCells l h r) := hk1
  have tc0 : True := trivial
  go_upto_region 12 with (first
    | (have _t := tc0; (with_reducible refine G_load ?_; refine L_load_agg agJ (by with_unfolding_all (conv => lhs; whnf)) hk1 rfl ?_); clear tc0; have tc1 : True := trivial)
    | (have _t := tc1; go_at_call 12; refine (PT _ hb1).mono ?_; rintro e' w7 ⟨rfl, hb7⟩; replace hk1 := hk1.below hb7; replace hb1 := below_below hb1 hb7; clear tc1; have tc2 : True := trivial)
    | (have _t := tc2; go_at_call 10; refine (PPt _ hb1).mono ?_; rintro e' w8 ⟨rfl, hb8⟩; replace hk1 := hk1.below hb8; replace hb1 := below_below hb1 hb8; clear tc2; have tc3 : True := trivial))
  have hA := Blk.new w8 23 [.string (strB m1), .string (strB m2), .string (strB m3)]
  have bA := (Below.refl w8.heap.size w8).alloc (Nat.le_refl _) (.cells #[.string (strB m1), .string (strB m2), .string (strB m3)] 23)
  have zA : w.heap.size < w8.heap.size := hk1.lt
  generalize w8.alloc (.cells #[.string (strB m1), .string (strB m2), .string (strB m3)] 23) = wA at *
  replace hk1 := hk1.below bA
  replace hb1 := below_below hb1 bA
  generalize w8.heap.size = gA at *
  clear hb7 hb8 bA PT PPt
  go_upto_if 85 with fail
  go_cut [] from 20 (fun wx => Blk wx gA 23 (jCells m1 m2 m3) ∧ Below w.heap.size w wx)
  case first =>
    by_cases he : e3 = 0
    · subst he
      obtain ⟨l', h', kO, x1, x2⟩ := TK.out t rfl
      have x3 := parse_ok kO
      have x4 := text_ok kO
      have x5 := kO.lens
      rw [← x1] at x3 x4
      have x6 := hPt.out.symm.trans x3
      simp only [Prod.mk.injEq] at x6
      obtain ⟨⟨rfl, rfl, rfl⟩, rfl⟩ := x6
      have PT2 := fun w1 hb => XT m1 m2 m3 w1 (by omega) (by omega) (by omega) hb
      rw [x4] at PT2
      simp only at PT2
      have q1 : ((strB t).toList != (strB t).toList) = false := by simp
      have q2 : ((strB m3).toList != (strB m3).toList) = false := by simp
      obtain ⟨bL, hbL⟩ : ∃ bL, (strB m1).toList.isEmpty = bL := ⟨_, rfl⟩
      have hbL2 : (strB l).toList.isEmpty = bL := by
        rw [← hbL, strB_toList, strB_toList]; exact isEmpty_iff_eq x2
      obtain ⟨bR, hbR⟩ : ∃ bR, (strB m3).toList.isEmpty = bR := ⟨_, rfl⟩
      have q3 : (bL != bL) = false := by cases bL <;> rfl
      have q4 : (bR != bR) = false := by cases bR <;> rfl
      replace hA : Blk wA gA 23 (jCells m1 m2 m3) := hA
      have x1h := Go.Lib.hid x1
      clear x1 x2 x3 x4 x5 kO TK QK QB QL hPt PP WK XP XT
      have td0 : True := trivial
      go_upto_region 14 with (first
        | (have _t := td0; (with_reducible refine G_load ?_; refine L_load_agg agJ (by with_unfolding_all (conv => lhs; whnf)) hA rfl ?_); clear td0; have td1 : True := trivial)
        | (have _t := td1; go_at_call 12; refine (PT2 _ hb1).mono ?_; rintro e' w9 ⟨rfl, hb9⟩; replace hk1 := hk1.below hb9; replace hb1 := below_below hb1 hb9; replace hA := hA.below hb9; clear td1; have td2 : True := trivial))
      have c0 : _ = some _ := hA.cell 0
      have c2 : _ = some _ := hA.cell 2
      have d0 : _ = some _ := hk1.cell 0
      have d2 : _ = some _ := hk1.cell 2
      clear PT2
      go_wp2_with fail
      go_meet
      case rel => exact ⟨hA, hb1⟩
    · have q1 : (e3 == 0) = false := by simpa using he
      go_wp2_with fail
      go_meet
      case rel => exact ⟨hA, hb1⟩
  case rest =>
  obtain ⟨hA, hb1⟩ := hcut
  clear TK hPt TL
  have h1c : ∀ u ∈ (#[Value.string (strB k1), .string (strB k2), .string (strB k3)] : Array Value).toList, u.oneCell' = true := jcells_one k1 k2 k3
  have te0 : True := trivial
  go_upto_region 17 with (first
    | (have _t := te0; go_at_call 10; refine (PP _ hb1).mono ?_; rintro e' w9 ⟨rfl, hb9⟩; replace hb1 := below_below hb1 hb9; replace hA := hA.below hb9; clear te0; have te1 : True := trivial)
    | (have _t := te1; (with_reducible refine G_store ?_; refine L_store_agg agJ (by with_unfolding_all (conv => lhs; whnf)) (by with_unfolding_all (conv => lhs; whnf)) hA rfl rfl h1c ?_); intro wz hkz hgz hsz; clear te1; have te2 : True := trivial))
  have zA2 : w.heap.size ≤ gA := by omega
  have hcz : Chg (fun k => k = gA) w9 wz := Chg.grown hgz (fun k hk => by cases hk; rfl)
  have hWz : Below w.heap.size w wz := hb1.trans (hcz.below hb1.size (fun k hk => by cases hk; exact zA2))
  replace hkz : Blk wz gA 23 (jCells k1 k2 k3) := hkz
  clear hcz hgz hsz hA hb1 hb9 PP h1c
  by_cases he : e4 = 0
  · subst he
    have kO := QK.out _ rfl
    have x3 := parse_ok kO
    have x4 := text_ok kO
    have x5 := catI_len kO
    have x6 := kO.lens
    simp only at x3 x4 x5 x6
    have PT2 := fun w1 hb => XT k1 k2 k3 w1 (by omega) (by omega) (by omega) hb
    have PP2 := fun w1 hb => XP (catI k1 k2 k3) w1 (by omega) hb
    rw [x4] at PT2
    rw [x3, eA] at PP2
    simp only at PT2 PP2
    generalize strB (catI k1 k2 k3) = T2 at *
    clear x3 x4 x5 x6 kO QK QB QL XP XT
    have tf0 : True := trivial
    go_upto_region 20 with (first
      | (have _t := tf0; (with_reducible refine G_load ?_; refine L_load_agg agJ (by with_unfolding_all (conv => lhs; whnf)) hkz rfl ?_); clear tf0; have tf1 : True := trivial)
      | (have _t := tf1; go_at_call 12; refine (PT2 _ hWz).mono ?_; rintro e' wa ⟨rfl, hba⟩; replace hWz := below_below hWz hba; replace hkz := hkz.below hba; clear tf1; have tf2 : True := trivial)
      | (have _t := tf2; go_at_call 10; refine (PP2 _ hWz).mono ?_; rintro e' wb ⟨rfl, hbb⟩; replace hWz := below_below hWz hbb; replace hkz := hkz.below hbb; clear tf2; have tf3 : True := trivial))
    have hB := Blk.new wb 23 [.string (strB k1), .string (strB k2), .string (strB k3)]
    have bB := (Below.refl wb.heap.size wb).alloc (Nat.le_refl _) (.cells #[.string (strB k1), .string (strB k2), .string (strB k3)] 23)
    generalize wb.alloc (.cells #[.string (strB k1), .string (strB k2), .string (strB k3)] 23) = wc2 at *
    replace hkz := hkz.below bB
    replace hWz := below_below hWz bB
    generalize wb.heap.size = gB at *
    have c0 : _ = some _ := hkz.cell 0
    have c1 : _ = some _ := hkz.cell 1
    have c2 : _ = some _ := hkz.cell 2
    have d0 : _ = some _ := hB.cell 0
    have d1 : _ = some _ := hB.cell 1
    have d2 : _ = some _ := hB.cell 2
    have q1 := beq_self_str k1
    have q2 := beq_self_str k2
    have q3 := beq_self_str k3
    clear PT2 PP2 hba hbb bB
    have tg0 : True := trivial
    go_wp2_with (first
      | (have _t := tg0; go_at_call 14; refine (WK _ hWz).mono ?_; rintro e' wd ⟨rfl, hbd⟩; clear tg0; have tg1 : True := trivial))
    go_ret
    exact ⟨rfl, below_below hWz hbd⟩
  · have q1 : (e4 == 0) = false := by simpa using he
    have x1 := QB.out he
    simp only [noJ, Prod.mk.injEq] at x1
    obtain ⟨rfl, rfl, rfl⟩ := x1
    have c0 : _ = some _ := hkz.cell 0
    have c1 : _ = some _ := hkz.cell 1
    have c2 : _ = some _ := hkz.cell 2
    have hem := s_empty0
    clear QK QB QL XP XT
    have th0 : True := trivial
    go_wp2_with (first
      | (have _t := th0; go_at_call 14; refine (WK _ hWz).mono ?_; rintro e' wd ⟨rfl, hbd⟩; clear th0; have th1 : True := trivial))
    go_ret
    exact ⟨rfl, below_below hWz hbd⟩
end Go.Proofs.YtfnlcnjflloecaaDoor
