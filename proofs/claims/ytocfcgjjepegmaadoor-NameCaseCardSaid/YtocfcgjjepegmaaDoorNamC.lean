/- NameCase. -/
import Derived.Test.YtocfcgjjepegmaaDoorNam9
import Derived.Test.YtocfcgjjepegmaaDoorRowB
set_option linter.unusedVariables false
set_option linter.unnecessarySimpa false
set_option linter.unusedSimpArgs false
namespace Go.Proofs.YtocfcgjjepegmaaDoor
open Go.RowKit
theorem Upped.append {a b c d : List UInt8} (h : Upped a b) (k : Upped c d) : Upped (a ++ c) (b ++ d) := by
  induction h with
  | nil => exact k
  | same x _ ih => exact .same x ih
  | up x hx _ ih => exact .up x hx ih
def NcRel (w : World) (G n c : Nat) (s : List UInt8) (i : Value) (wr : World) : Prop :=
  ∃ (j : Nat) (p : List UInt8), j ≤ s.length ∧ i = .int .i64 (j : Int) ∧ BRow wr G n c (p ++ s.drop j) ∧ Upped (s.take j) p ∧ Below w.heap.size w wr
theorem bt_mid (p r : List UInt8) (c : UInt8) : bt (p ++ c :: r) p.length = (c.toNat : Int) := by
  unfold bt; simp [List.getD_eq_getElem?_getD]
theorem set_mid (p r : List UInt8) (c d : UInt8) : (p ++ c :: r).set p.length d = (p ++ [d]) ++ r := by
  rw [List.set_append_right _ _ (Nat.le_refl _)]
  simp
/-- Where the first '/' stands, or the end. -/
def K47 (p : List UInt8) : Nat := (cutI 47 p).1.length
theorem K47_le : ∀ p : List UInt8, K47 p ≤ p.length := fun p => (by
  have : ∀ p : List UInt8, (cutI 47 p).1.length ≤ p.length := by
    intro p
    induction p with
    | nil => simp [cutI]
    | cons b r ih =>
      by_cases h : b = 47
      · unfold cutI; rw [if_pos h]; simp
      · rw [cutI_ne h]; simp only [List.length_cons]; omega
  exact this p)
theorem K47_ne : ∀ (p : List UInt8) (i : Nat), i < K47 p → p.getD i 0 ≠ 47 := by
  intro p
  induction p with
  | nil => intro i hi; simp [K47, cutI] at hi
  | cons b r ih =>
    intro i hi
    unfold K47 at hi ih
    by_cases h : b = 47
    · unfold cutI at hi; rw [if_pos h] at hi; simp at hi
    · rw [cutI_ne h] at hi
      simp only [List.length_cons] at hi
      cases i with
      | zero => simpa using h
      | succ i => simpa using ih i (by omega)
theorem K47_eq : ∀ (p : List UInt8), K47 p < p.length → p.getD (K47 p) 0 = 47 := by
  intro p
  induction p with
  | nil => intro h; simp at h
  | cons b r ih =>
    intro hlt
    unfold K47 at hlt ih ⊢
    by_cases h : b = 47
    · unfold cutI; rw [if_pos h]; simpa using h
    · rw [cutI_ne h] at hlt ⊢
      simp only [List.length_cons] at hlt ⊢
      simpa using ih (by omega)
def NkRel (n K : Nat) (W : World) (k i : Value) (wr : World) : Prop :=
  ∃ j : Nat, j ≤ n ∧ i = .int .i64 (j : Int) ∧ ((j ≤ K ∧ k = .int .i64 (n : Int)) ∨ (j = K + 1 ∧ K < n ∧ k = .int .i64 (K : Int))) ∧ W = wr
theorem Upped.not47 {a b : List UInt8} (h : Upped a b) : ∀ i, b.getD i 0 ≠ 47 → a.getD i 0 ≠ 47 := by
  induction h with
  | nil => intro i h; exact h
  | same c _ ih =>
    intro i hi
    cases i with
    | zero => simpa using hi
    | succ i => simpa using ih i (by simpa using hi)
  | up c hc _ ih =>
    intro i hi
    cases i with
    | zero => intro e; have e' : c = 47 := by simpa using e
              subst e'; exact absurd hc (by decide)
    | succ i => simpa using ih i (by simpa using hi)
theorem Upped.is47 {a b : List UInt8} (h : Upped a b) : ∀ i, i < a.length → b.getD i 0 = 47 → a.getD i 0 = 47 := by
  induction h with
  | nil => intro i h; simp at h
  | same c _ ih =>
    intro i hl hi
    cases i with
    | zero => simpa using hi
    | succ i => simpa using ih i (by simpa using hl) (by simpa using hi)
  | up c hc _ ih =>
    intro i hl hi
    cases i with
    | zero =>
      have e' : c - 32 = 47 := by simpa using hi
      have := up_nat c hc
      rw [e'] at this
      have h47 : (47 : UInt8).toNat = 47 := rfl
      omega
    | succ i => simpa using ih i (by simpa using hl) (by simpa using hi)
theorem Upped.take {a b : List UInt8} (h : Upped a b) : ∀ k, Upped (a.take k) (b.take k) := by
  induction h with
  | nil => intro k; simp; exact .nil
  | same c _ ih =>
    intro k
    cases k with
    | zero => simp; exact .nil
    | succ k => simpa using .same c (ih k)
  | up c hc _ ih =>
    intro k
    cases k with
    | zero => simp; exact .nil
    | succ k => simpa using .up c hc (ih k)
theorem parse_case {s p : List UInt8} (h : Upped s p) : parseI (p.take (K47 p) ++ s.drop (K47 p)) = parseI s := by
  have hK := K47_le p
  rw [h.len] at hK
  have hx : (47 : UInt8) ∉ s.take (K47 p) := by
    intro hm
    obtain ⟨i, hi, e⟩ := List.mem_iff_getElem.1 hm
    rw [List.length_take] at hi
    rw [List.getElem_take] at e
    have := h.not47 i (K47_ne p i (by omega))
    rw [List.getD_eq_getElem?_getD, List.getElem?_eq_getElem (by omega), e] at this
    exact this rfl
  have hr : s.drop (K47 p) = [] ∨ ∃ t, s.drop (K47 p) = 47 :: t := by
    by_cases hlt : K47 p < s.length
    · right
      have := h.is47 _ hlt (K47_eq p (by rw [h.len]; exact hlt))
      rw [List.getD_eq_getElem?_getD, List.getElem?_eq_getElem hlt] at this
      exact ⟨s.drop (K47 p + 1), by rw [List.drop_eq_getElem_cons hlt]; simp at this; rw [this]⟩
    · left; exact List.drop_eq_nil_of_le (by omega)
  have := Upped.parse (h.take (K47 p)) hx hr
  rw [List.take_append_drop] at this
  exact this
set_option maxRecDepth 100000 in
set_option maxHeartbeats 6400000 in
theorem nameCase_w (w : World) (hT : Tabs w) (hM : MaxL w) (s0 : ByteArray) (h0 : s0.size ≤ maxLen) (vu : Value) (ub : List Bool) (hu : RdB w vu ub) :
    Calls Tryd.prog 9 #[.string s0, vu] w (Ok w) := by
  have TX := fun w1 => text_c s0.data.toList 200 w1 (by unfold maxLen at h0; exact h0) (by omega)
  have e0 : strB s0.data.toList = s0 := rfl
  rw [e0] at TX
  have hl : (s0.data.toList.take 200).length ≤ 200 := by simp; omega
  generalize s0.data.toList.take 200 = s at *
  obtain ⟨Au, cu, rfl, hu1, hu2, hu3⟩ := hu.open
  have hub : ub.length ≤ 9223372036854775807 := by unfold maxLen at hu2; omega
  clear hu1 hu2 hu h0 e0
  have hd : (strB s).data.toList = s := rfl
  have CB := fun w1 => conv_brow w1 (strB s) (by rw [strB_size]; omega)
  rw [strB_size, hd] at CB
  clear hd
  obtain ⟨S, hS⟩ : ∃ S, S = strB s := ⟨_, rfl⟩
  rw [← hS] at CB TX
  replace hS := Go.Lib.hid hS
  go_enter Tryd.func9, Tryd.ntmps9
  have ta0 : True := trivial
  go_upto_region 3 with (first
    | (have _t := ta0; go_at_call 30; refine (TX _).mono ?_; rintro e w1 ⟨rfl, rfl⟩; clear ta0; have ta1 : True := trivial)
    | (have _t := ta1; with_reducible refine G_conv ?_; refine L_convb (by with_unfolding_all (conv => lhs; whnf)) (CB _) ?_; rintro v7 w7 ⟨c7, rfl, hr7, hb7⟩; clear ta1; have ta2 : True := trivial))
  have hG : w.heap.size < w7.heap.size := by
    obtain ⟨cs, e, fr, hg, _⟩ := hr7.row
    exact (Array.getElem?_eq_some_iff.1 hg).1
  clear CB TX
  go_wp2_with fail
  go_loopw [7] (NcRel w w.heap.size s.length c7 s) (fun i _ => s.length - (intOf i).toNat)
  case atStart => exact ⟨0, [], by omega, rfl, hr7, .nil, hb7⟩
  clear hr7 hb7 hG
  case round =>
    obtain ⟨j, p, hj, rfl, hr, hup, hb⟩ := hrel
    have hpl : p.length = j := by rw [hup.len, List.length_take]; omega
    by_cases hlt : j < s.length
    · have q1 : (j : Int) < s.length := by omega
      have hdr : s.drop j = s.getD j 0 :: s.drop (j + 1) := by
        rw [List.getD_eq_getElem?_getD, List.getElem?_eq_getElem hlt]
        exact List.drop_eq_getElem_cons hlt
      have htk : s.take (j + 1) = s.take j ++ [s.getD j 0] := by
        rw [List.getD_eq_getElem?_getD, List.getElem?_eq_getElem hlt]
        exact List.take_succ_eq_append_getElem hlt
      rw [hdr] at hr
      have hcl := (s.getD j 0).toNat_lt
      generalize s.getD j 0 = ch at *
      have cj := hr.cell j hlt
      have fj := hr.frozen j hlt
      rw [← hpl, bt_mid, hpl] at cj
      have hsame : NcRel w w.heap.size s.length c7 s (.int .i64 ((j : Int) + 1)) wr := ⟨j + 1, p ++ [ch], by omega, by go_num, by rw [List.append_assoc]; exact hr, by rw [htk]; exact hup.append (.same ch .nil), hb⟩
      have hst : 97 ≤ ch.toNat → ch.toNat ≤ 122 → NcRel w w.heap.size s.length c7 s (.int .i64 ((j : Int) + 1)) (wr.setCell ⟨w.heap.size, j, none⟩ (.int .u8 ((ch.toNat : Int) - 32))) := fun k1 k2 => by
        have := hr.stored j hlt (ch - 32)
        have hu := up_nat ch ⟨k1, k2⟩
        have e32 : (((ch - 32).toNat : Nat) : Int) = (ch.toNat : Int) - 32 := by omega
        rw [e32] at this
        have hsm := set_mid p (s.drop (j + 1)) ch (ch - 32)
        rw [hpl] at hsm
        rw [hsm] at this
        exact ⟨j + 1, p ++ [ch - 32], by omega, by go_num, this, by rw [htk]; exact hup.append (.up ch ⟨k1, k2⟩ .nil), below_setn hb w.heap.size j _ (Nat.le_refl _) hb.size⟩
      clear hr hup hdr htk hpl
      have hms : s.length - (intOf (.int .i64 ((j : Int) + 1))).toNat < s.length - (intOf (.int .i64 (j : Int))).toNat := by simp [intOf]; omega
      by_cases hju : j < ub.length
      · have q2 : (j : Int) < ub.length := by omega
        obtain ⟨bu, ou, rfl, hbu, hcu⟩ := hu3 (by omega)
        have cu' : _ = some _ := (hb.cell (p := ⟨bu, ou + j, none⟩) hbu).trans (hcu j hju)
        generalize ub[j] = bj at *
        clear hcu
        cases bj
        · go_wp2_with fail
          exact ⟨hsame, hms⟩
        · by_cases k1 : 97 ≤ ch.toNat
          · have g1 : (97 : Int) ≤ (ch.toNat : Int) := by omega
            by_cases k2 : ch.toNat ≤ 122
            · have g2 : (ch.toNat : Int) ≤ 122 := by omega
              have hst' := hst k1 k2
              clear hst hsame
              go_wp2_with fail
              exact ⟨hst', hms⟩
            · have g2 : ¬ (ch.toNat : Int) ≤ 122 := by omega
              clear hst
              go_wp2_with fail
              exact ⟨hsame, hms⟩
          · have g1 : ¬ (97 : Int) ≤ (ch.toNat : Int) := by omega
            clear hst
            go_wp2_with fail
            exact ⟨hsame, hms⟩
      · have q2 : ¬ (j : Int) < ub.length := by omega
        clear hst hu3
        go_wp2_with fail
        exact ⟨hsame, hms⟩
    · have q1 : ¬ (j : Int) < s.length := by omega
      obtain rfl : j = s.length := by omega
      rw [List.drop_length, List.append_nil] at hr
      rw [List.take_length] at hup
      have hpl : p.length = s.length := hup.len
      have hrd := hr.rd
      have PLs := fun w1 (hb : Below w.heap.size w w1) => local_c s w1 (by omega) (hT.below hb)
      have PLp := fun w1 (hb : Below w.heap.size w w1) => local_c p w1 (by omega) (hT.below hb)
      rw [hup.localI] at PLp
      have PHs := fun w1 (hb : Below w.heap.size w w1) => host_c s w1 (by omega) (hT.below hb) (hM.below hb)
      have PHp := fun w1 (hb : Below w.heap.size w w1) => host_c p w1 (by omega) (hT.below hb) (hM.below hb)
      rw [hup.hostI] at PHp
      have PP := fun w1 (hb : Below w.heap.size w w1) => nparse_c s w1 (by omega) (hT.below hb) (hM.below hb)
      have PQ := fun w1 (hb : Below w.heap.size w w1) => nparse_c (p.take (K47 p) ++ s.drop (K47 p)) w1 (by simp; omega) (hT.below hb) (hM.below hb)
      rw [parse_case hup] at PQ
      have WK := fun w1 (hb : Below w.heap.size w w1) => wakes2_c w1 (hT.below hb) (hM.below hb)
      have K1 := K47_le p
      have K2 := K47_ne p
      have K3 := K47_eq p
      rw [hpl] at K1 K3
      have hY : strB (p.take (K47 p)) ++ S.extract (K47 p) S.size = strB (p.take (K47 p) ++ s.drop (K47 p)) := by
        rw [hS.out, Lib.extract_eq, ← strB_append]
        congr 1
        unfold strB
        congr 1
        have : (⟨s.toArray⟩ : ByteArray).size = s.length := by simp [ByteArray.size]
        rw [this]
        simp only [List.size_toArray]
        exact congrArg List.toArray (List.take_of_length_le (by simp))
      have hsz : S.size = s.length := by rw [hS.out, strB_size]
      have hcs : ¬ 9223372036854775807 < (strB (p.take (K47 p))).size + (S.extract (K47 p) S.size).size := by
        rw [strB_size, ByteArray.size_extract]; simp; omega
      replace hY := Go.Lib.hid hY
      replace hcs := Go.Lib.hid hcs
      rw [← hS.out] at PLs PHs PP
      unfold GivesSE at PLs PLp PHs PHp
      unfold GivesJ jCells at PP PQ
      generalize localI s = LI at *
      generalize hostI s = HI at *
      generalize parseI s = PI at *
      obtain ⟨l1, l2⟩ := LI
      obtain ⟨k1, k2⟩ := HI
      obtain ⟨⟨j1, j2, j3⟩, je⟩ := PI
      simp only at PLs PLp PHs PHp PP PQ
      have q2 := str_ne l1
      have q3 := str_ne k1
      have q5 : (l2 != l2) = false := by simp
      have q6 : (k2 != k2) = false := by simp
      clear hup hr hu3
      generalize K47 p = K at *
      generalize strB l1 = S1 at *
      generalize strB k1 = S2 at *
      have tb0 : True := trivial
      go_upto_region 16 with (first
        | (have _t := tb0; go_at_call 31; refine (PLs _ hb).mono ?_; rintro e w1 ⟨rfl, hb1⟩; replace hrd := hrd.below hb1; have hc1 := convert_str hrd; replace hb := below_below hb hb1; clear tb0; have tb1 : True := trivial)
        | (have _t := tb1; go_at_call 31; refine (PLp _ hb).mono ?_; rintro e w2 ⟨rfl, hb2⟩; replace hrd := hrd.below hb2; replace hb := below_below hb hb2; clear hc1; clear tb1; have tb2 : True := trivial)
        | (have _t := tb2; go_at_call 33; refine (PHs _ hb).mono ?_; rintro e w3 ⟨rfl, hb3⟩; replace hrd := hrd.below hb3; have hc2 := convert_str hrd; replace hb := below_below hb hb3; clear tb2; have tb3 : True := trivial)
        | (have _t := tb3; go_at_call 33; refine (PHp _ hb).mono ?_; rintro e w4 ⟨rfl, hb4⟩; replace hrd := hrd.below hb4; replace hb := below_below hb hb4; clear hc2; clear tb3; have tb4 : True := trivial))
      go_wp2_with fail
      go_loopw [12, 13] (NkRel s.length K w4) (fun _ i _ => s.length - (intOf i).toNat)
      case atStart => exact ⟨0, by omega, rfl, .inl ⟨by omega, rfl⟩, rfl⟩
      case round =>
        obtain ⟨j, hjn, rfl, halt, rfl⟩ := hrel
        obtain ⟨Ab, cb, eb, hb1, hb2, hb3⟩ := hrd.open
        rw [hpl] at eb hb3
        have fin : ∀ Kz : Nat, Kz = K → True := fun _ _ => trivial
        rcases halt with ⟨hjK, rfl⟩ | ⟨rfl, hKn, rfl⟩
        · by_cases hlt : j < s.length
          · have q1 : (j : Int) < s.length := by omega
            have qn : ((s.length : Int) == (s.length : Int)) = true := by simp
            obtain ⟨g, o, rfl, hcell⟩ := hb3 (by omega)
            cases eb
            have cj := hcell j (by omega)
            rw [Nat.zero_add] at cj
            have hbt : bt p j = ((p.getD j 0).toNat : Int) := rfl
            rw [hbt] at cj
            by_cases h47 : p.getD j 0 = 47
            · rw [h47] at cj
              have hjK' : j = K := by
                by_cases h : j < K
                · exact absurd h47 (K2 j h)
                · omega
              subst hjK'
              have e47 : (((47 : UInt8).toNat : Int) == 47) = true := rfl
              go_wp2_with fail
              exact ⟨⟨j + 1, by omega, by go_num, .inr ⟨rfl, hlt, rfl⟩, rfl⟩, by simp [intOf]; omega⟩
            · have hjK' : j < K := by
                by_cases h : j = K
                · subst h; exact absurd (K3 hlt) h47
                · omega
              have n47 : ¬ (p.getD j 0).toNat = 47 := fun e => h47 (UInt8.toNat_inj.1 e)
              have e47 : (((p.getD j 0).toNat : Int) == 47) = false := by rw [beq_eq_false_iff_ne]; omega
              generalize p.getD j 0 = ch at *
              go_wp2_with fail
              exact ⟨⟨j + 1, by omega, by go_num, .inl ⟨by omega, rfl⟩, rfl⟩, by simp [intOf]; omega⟩
          · have q1 : ¬ (j : Int) < s.length := by omega
            have hKe := Go.Lib.hid (show s.length = K by omega)
            go_upto_region 22 with fail
            have hKi : (s.length : Int) = K := by have := hKe.out; omega
            rw [hKi]
            clear hKi
            have tc0 : True := trivial
            go_upto_region 23 with (first
              | (have _t := tc0; go_at_call 38; refine (PP _ hb).mono ?_; rintro e w5 ⟨rfl, hb5⟩; replace hrd := hrd.below hb5; replace hb := below_below hb hb5; clear tc0; have tc1 : True := trivial))
            clear PP
            rw [← hY.out, hsz] at PQ
            have q9 : (K : Int) ≤ (S.size : Int) := by omega
            have q8 : (0 : Int) ≤ (K : Int) := by omega
            have hcs2 := hcs.out
            rw [ByteArray.size_extract, Nat.min_self, hsz] at hcs2
            have hk := Blk.new w5 66 [.string (strB j1), .string (strB j2), .string (strB j3)]
            have ha := (Below.refl w5.heap.size w5).alloc (Nat.le_refl _) (.cells #[.string (strB j1), .string (strB j2), .string (strB j3)] 66)
            replace hrd := hrd.below ha
            replace hb := below_below hb ha
            clear ha
            obtain ⟨vs, hvs, hrs, _⟩ := slice_run_h hrd K (by omega)
            generalize w5.alloc (.cells #[.string (strB j1), .string (strB j2), .string (strB j3)] 66) = W at *
            generalize w5.heap.size = G at *
            have hcv := fun w1 (hb1 : Below W.drew.heap.size W.drew w1) => convert_str (hrs.drew.below hb1)
            have hbd : Below W.heap.size W W.drew := drewN_below W 1
            generalize Value.slice (some ⟨w.heap.size, 0, none⟩) s.length c7 = vb at *
            have z1 := str_ne j1
            have z2 := str_ne j2
            have z3 := str_ne j3
            have e1 : ((strB j1).toList == (strB j1).toList) = true := by simp
            have e2 : ((strB j2).toList == (strB j2).toList) = true := by simp
            have e3 : ((strB j3).toList == (strB j3).toList) = true := by simp
            have e4 : (je == je) = true := by simp
            generalize strB j1 = J1 at *
            generalize strB j2 = J2 at *
            generalize strB j3 = J3 at *
            generalize strB (p.take K) = E1 at *
            clear hY hcs hb1 hb2 hb3
            go_upto_region 23 with fail
            have hz0 : (Tryd.prog.info? 66).map (·.zero) = some (some (.agg (jCells [] [] []).toArray)) := by kernel_rfl
            refine region_making 14 (fun | 13 => [12] | _ => []) (fun | 12 => some fun _ => newBlk 66 (jCells [] [] []) | 13 => some fun e => stBlk 66 [.string J1, .string J2, .string J3] (e 15) | _ => none) (by kernel_rfl) (by kernel_rfl) ?_ ?_
            · intro i S' h e v'
              match i, h with
              | 12, h => cases h; exact newBlk_loc _ _ _ _
              | 13, h => cases h; exact stBlk_loc _ _ _ _ _
            simp only [List.take_succ_cons, List.take_zero, List.drop_succ_cons, List.drop_zero]
            (apply wpG_pure; (focus rfl); (focus (intro wg Bg hbg hBg hFg; go_simp; (try go_bits); (first | done | exact ⟨rfl, Below.refl _ _⟩ | rfl))); simp only [Act.put, List.setIfInBounds_toArray, List.set_cons_succ, List.set_cons_zero])
            (apply wpG_pure; (focus rfl); (focus (intro wg Bg hbg hBg hFg; go_simp; (try go_bits); (first | done | exact ⟨rfl, Below.refl _ _⟩ | rfl))); simp only [Act.put, List.setIfInBounds_toArray, List.set_cons_succ, List.set_cons_zero])
            (apply wpG_pure; (focus rfl); (focus (intro wg Bg hbg hBg hFg; have hvs' := hvs; go_simp; (try go_bits); (first | done | exact ⟨rfl, Below.refl _ _⟩ | rfl))); simp only [Act.put, List.setIfInBounds_toArray, List.set_cons_succ, List.set_cons_zero])
            (apply wpG_pure; (focus rfl); (focus (intro wg Bg hbg hBg hFg; have hc := hcv _ hbg; go_simp; (try go_bits); (first | done | exact ⟨rfl, Below.refl _ _⟩ | rfl))); simp only [Act.put, List.setIfInBounds_toArray, List.set_cons_succ, List.set_cons_zero])
            (apply wpG_pure; (focus rfl); (focus (intro wg Bg hbg hBg hFg; go_simp; (try go_bits); (first | done | exact ⟨rfl, Below.refl _ _⟩ | rfl))); simp only [Act.put, List.setIfInBounds_toArray, List.set_cons_succ, List.set_cons_zero])
            (apply wpG_pure; (focus rfl); (focus (intro wg Bg hbg hBg hFg; go_simp; (try go_bits); (first | done | exact ⟨rfl, Below.refl _ _⟩ | rfl))); simp only [Act.put, List.setIfInBounds_toArray, List.set_cons_succ, List.set_cons_zero])
            (apply wpG_pure; (focus rfl); (focus (intro wg Bg hbg hBg hFg; go_simp; (try go_bits); (first | done | exact ⟨rfl, Below.refl _ _⟩ | rfl))); simp only [Act.put, List.setIfInBounds_toArray, List.set_cons_succ, List.set_cons_zero])
            (apply wpG_pure; (focus rfl); (focus (intro wg Bg hbg hBg hFg; go_simp; (try go_bits); (first | done | exact ⟨rfl, Below.refl _ _⟩ | rfl))); simp only [Act.put, List.setIfInBounds_toArray, List.set_cons_succ, List.set_cons_zero])
            (apply wpG_pure; (focus rfl); (focus (intro wg Bg hbg hBg hFg; go_simp; (try refine ⟨by kernel_rfl, ?_⟩); go_at_call 38; exact Calls.mono (PQ _ (below_below (below_below hb hbd) hbg)) (fun e w' h => (by obtain ⟨rfl, hb⟩ := h; exact ⟨rfl, hb⟩)))); simp only [Act.put, List.setIfInBounds_toArray, List.set_cons_succ, List.set_cons_zero])
            (apply wpG_pure; (focus rfl); (focus (intro wg Bg hbg hBg hFg; go_simp; (try go_bits); (first | done | exact ⟨rfl, Below.refl _ _⟩ | rfl))); simp only [Act.put, List.setIfInBounds_toArray, List.set_cons_succ, List.set_cons_zero])
            (apply wpG_pure; (focus rfl); (focus (intro wg Bg hbg hBg hFg; go_simp; (try go_bits); (first | done | exact ⟨rfl, Below.refl _ _⟩ | rfl))); simp only [Act.put, List.setIfInBounds_toArray, List.set_cons_succ, List.set_cons_zero])
            (apply wpG_pure; (focus rfl); (focus (intro wg Bg hbg hBg hFg; go_simp; (try go_bits); (first | done | exact ⟨rfl, Below.refl _ _⟩ | rfl))); simp only [Act.put, List.setIfInBounds_toArray, List.set_cons_succ, List.set_cons_zero])
            (apply wpG_make; (focus rfl); (focus (intro wg Bg hbg hBg hFg; exact goesTo_alloc hz0)); intro va; simp only [Act.put, List.setIfInBounds_toArray, List.set_cons_succ, List.set_cons_zero])
            (apply wpG_make; (focus rfl); (focus (intro wg Bg hbg hBg hFg; (obtain ⟨g, rfl, hM, hgb⟩ : newBlk 66 (jCells [] [] []) va (Bg 12) wg := hFg 12 (by decide +kernel); have hM := (⟨12, by simp, hM⟩ : ∃ j ∈ [12], Bg j g)); exact goesTo_store_agg (cs' := ([Value.string J1, Value.string J2, Value.string J3]).toArray) agJ (by with_unfolding_all (conv => lhs; whnf)) rfl (by assumption) rfl (by simpa using (rfl : [Value.string J1, .string J2, .string J3].length = 3)) (fun u hu => (show ∀ u ∈ [Value.string J1, .string J2, .string J3], u.oneCell' = true by intro u hu; simp at hu; rcases hu with rfl | rfl | rfl <;> rfl) u (by simpa using hu)) (by assumption) (by kernel_rfl))); intro _; simp only [Act.put])
            refine wpG_end (fun wg Bg hbg hBg hFg => ?_)
            obtain ⟨G2, e5, hB5, hk2⟩ : stBlk 66 [.string J1, .string J2, .string J3] va undef (Bg 13) wg := hFg 13
            subst e5
            replace hk := hk.below (below_below hbd hbg)
            replace hb := below_below (below_below hb hbd) hbg
            clear PQ hcv hvs hrs hrd hFg hbd hbg
            clear hBg hB5
            have c0 : _ = some _ := hk.cell 0
            have c1 : _ = some _ := hk.cell 1
            have c2 : _ = some _ := hk.cell 2
            have d0 : _ = some _ := hk2.cell 0
            have d1 : _ = some _ := hk2.cell 1
            have d2 : _ = some _ := hk2.cell 2
            have td0 : True := trivial
            go_wp2_with (first
              | (have _t := td0; go_at_call 37; refine (WK _ hb).mono ?_; rintro e w7 ⟨rfl, hb7⟩; clear td0; have td1 : True := trivial))
            go_ret
            exact ⟨rfl, below_below hb hb7⟩
        · have qn : ((K : Int) == (s.length : Int)) = false := by rw [beq_eq_false_iff_ne]; omega
          by_cases hlt : K + 1 < s.length
          · have q1 : ((K : Int) + 1) < s.length := by omega
            have q1' : (((K + 1 : Nat) : Int)) < s.length := by omega
            go_upto_region 22 with fail
            have tctwo0 : True := trivial
            go_upto_region 23 with (first
              | (have _t := tctwo0; go_at_call 38; refine (PP _ hb).mono ?_; rintro e w5 ⟨rfl, hb5⟩; replace hrd := hrd.below hb5; replace hb := below_below hb hb5; clear tctwo0; have tctwo1 : True := trivial))
            clear PP
            rw [← hY.out, hsz] at PQ
            have q9 : (K : Int) ≤ (S.size : Int) := by omega
            have q8 : (0 : Int) ≤ (K : Int) := by omega
            have hcs2 := hcs.out
            rw [ByteArray.size_extract, Nat.min_self, hsz] at hcs2
            have hk := Blk.new w5 66 [.string (strB j1), .string (strB j2), .string (strB j3)]
            have ha := (Below.refl w5.heap.size w5).alloc (Nat.le_refl _) (.cells #[.string (strB j1), .string (strB j2), .string (strB j3)] 66)
            replace hrd := hrd.below ha
            replace hb := below_below hb ha
            clear ha
            obtain ⟨vs, hvs, hrs, _⟩ := slice_run_h hrd K (by omega)
            generalize w5.alloc (.cells #[.string (strB j1), .string (strB j2), .string (strB j3)] 66) = W at *
            generalize w5.heap.size = G at *
            have hcv := fun w1 (hb1 : Below W.drew.heap.size W.drew w1) => convert_str (hrs.drew.below hb1)
            have hbd : Below W.heap.size W W.drew := drewN_below W 1
            generalize Value.slice (some ⟨w.heap.size, 0, none⟩) s.length c7 = vb at *
            have z1 := str_ne j1
            have z2 := str_ne j2
            have z3 := str_ne j3
            have e1 : ((strB j1).toList == (strB j1).toList) = true := by simp
            have e2 : ((strB j2).toList == (strB j2).toList) = true := by simp
            have e3 : ((strB j3).toList == (strB j3).toList) = true := by simp
            have e4 : (je == je) = true := by simp
            generalize strB j1 = J1 at *
            generalize strB j2 = J2 at *
            generalize strB j3 = J3 at *
            generalize strB (p.take K) = E1 at *
            clear hY hcs hb1 hb2 hb3
            go_upto_region 23 with fail
            have hz0 : (Tryd.prog.info? 66).map (·.zero) = some (some (.agg (jCells [] [] []).toArray)) := by kernel_rfl
            refine region_making 14 (fun | 13 => [12] | _ => []) (fun | 12 => some fun _ => newBlk 66 (jCells [] [] []) | 13 => some fun e => stBlk 66 [.string J1, .string J2, .string J3] (e 15) | _ => none) (by kernel_rfl) (by kernel_rfl) ?_ ?_
            · intro i S' h e v'
              match i, h with
              | 12, h => cases h; exact newBlk_loc _ _ _ _
              | 13, h => cases h; exact stBlk_loc _ _ _ _ _
            simp only [List.take_succ_cons, List.take_zero, List.drop_succ_cons, List.drop_zero]
            (apply wpG_pure; (focus rfl); (focus (intro wg Bg hbg hBg hFg; go_simp; (try go_bits); (first | done | exact ⟨rfl, Below.refl _ _⟩ | rfl))); simp only [Act.put, List.setIfInBounds_toArray, List.set_cons_succ, List.set_cons_zero])
            (apply wpG_pure; (focus rfl); (focus (intro wg Bg hbg hBg hFg; go_simp; (try go_bits); (first | done | exact ⟨rfl, Below.refl _ _⟩ | rfl))); simp only [Act.put, List.setIfInBounds_toArray, List.set_cons_succ, List.set_cons_zero])
            (apply wpG_pure; (focus rfl); (focus (intro wg Bg hbg hBg hFg; have hvs' := hvs; go_simp; (try go_bits); (first | done | exact ⟨rfl, Below.refl _ _⟩ | rfl))); simp only [Act.put, List.setIfInBounds_toArray, List.set_cons_succ, List.set_cons_zero])
            (apply wpG_pure; (focus rfl); (focus (intro wg Bg hbg hBg hFg; have hc := hcv _ hbg; go_simp; (try go_bits); (first | done | exact ⟨rfl, Below.refl _ _⟩ | rfl))); simp only [Act.put, List.setIfInBounds_toArray, List.set_cons_succ, List.set_cons_zero])
            (apply wpG_pure; (focus rfl); (focus (intro wg Bg hbg hBg hFg; go_simp; (try go_bits); (first | done | exact ⟨rfl, Below.refl _ _⟩ | rfl))); simp only [Act.put, List.setIfInBounds_toArray, List.set_cons_succ, List.set_cons_zero])
            (apply wpG_pure; (focus rfl); (focus (intro wg Bg hbg hBg hFg; go_simp; (try go_bits); (first | done | exact ⟨rfl, Below.refl _ _⟩ | rfl))); simp only [Act.put, List.setIfInBounds_toArray, List.set_cons_succ, List.set_cons_zero])
            (apply wpG_pure; (focus rfl); (focus (intro wg Bg hbg hBg hFg; go_simp; (try go_bits); (first | done | exact ⟨rfl, Below.refl _ _⟩ | rfl))); simp only [Act.put, List.setIfInBounds_toArray, List.set_cons_succ, List.set_cons_zero])
            (apply wpG_pure; (focus rfl); (focus (intro wg Bg hbg hBg hFg; go_simp; (try go_bits); (first | done | exact ⟨rfl, Below.refl _ _⟩ | rfl))); simp only [Act.put, List.setIfInBounds_toArray, List.set_cons_succ, List.set_cons_zero])
            (apply wpG_pure; (focus rfl); (focus (intro wg Bg hbg hBg hFg; go_simp; (try refine ⟨by kernel_rfl, ?_⟩); go_at_call 38; exact Calls.mono (PQ _ (below_below (below_below hb hbd) hbg)) (fun e w' h => (by obtain ⟨rfl, hb⟩ := h; exact ⟨rfl, hb⟩)))); simp only [Act.put, List.setIfInBounds_toArray, List.set_cons_succ, List.set_cons_zero])
            (apply wpG_pure; (focus rfl); (focus (intro wg Bg hbg hBg hFg; go_simp; (try go_bits); (first | done | exact ⟨rfl, Below.refl _ _⟩ | rfl))); simp only [Act.put, List.setIfInBounds_toArray, List.set_cons_succ, List.set_cons_zero])
            (apply wpG_pure; (focus rfl); (focus (intro wg Bg hbg hBg hFg; go_simp; (try go_bits); (first | done | exact ⟨rfl, Below.refl _ _⟩ | rfl))); simp only [Act.put, List.setIfInBounds_toArray, List.set_cons_succ, List.set_cons_zero])
            (apply wpG_pure; (focus rfl); (focus (intro wg Bg hbg hBg hFg; go_simp; (try go_bits); (first | done | exact ⟨rfl, Below.refl _ _⟩ | rfl))); simp only [Act.put, List.setIfInBounds_toArray, List.set_cons_succ, List.set_cons_zero])
            (apply wpG_make; (focus rfl); (focus (intro wg Bg hbg hBg hFg; exact goesTo_alloc hz0)); intro va; simp only [Act.put, List.setIfInBounds_toArray, List.set_cons_succ, List.set_cons_zero])
            (apply wpG_make; (focus rfl); (focus (intro wg Bg hbg hBg hFg; (obtain ⟨g, rfl, hM, hgb⟩ : newBlk 66 (jCells [] [] []) va (Bg 12) wg := hFg 12 (by decide +kernel); have hM := (⟨12, by simp, hM⟩ : ∃ j ∈ [12], Bg j g)); exact goesTo_store_agg (cs' := ([Value.string J1, Value.string J2, Value.string J3]).toArray) agJ (by with_unfolding_all (conv => lhs; whnf)) rfl (by assumption) rfl (by simpa using (rfl : [Value.string J1, .string J2, .string J3].length = 3)) (fun u hu => (show ∀ u ∈ [Value.string J1, .string J2, .string J3], u.oneCell' = true by intro u hu; simp at hu; rcases hu with rfl | rfl | rfl <;> rfl) u (by simpa using hu)) (by assumption) (by kernel_rfl))); intro _; simp only [Act.put])
            refine wpG_end (fun wg Bg hbg hBg hFg => ?_)
            obtain ⟨G2, e5, hB5, hk2⟩ : stBlk 66 [.string J1, .string J2, .string J3] va undef (Bg 13) wg := hFg 13
            subst e5
            replace hk := hk.below (below_below hbd hbg)
            replace hb := below_below (below_below hb hbd) hbg
            clear PQ hcv hvs hrs hrd hFg hbd hbg
            clear hBg hB5
            have c0 : _ = some _ := hk.cell 0
            have c1 : _ = some _ := hk.cell 1
            have c2 : _ = some _ := hk.cell 2
            have d0 : _ = some _ := hk2.cell 0
            have d1 : _ = some _ := hk2.cell 1
            have d2 : _ = some _ := hk2.cell 2
            have tdtwo0 : True := trivial
            go_wp2_with (first
              | (have _t := tdtwo0; go_at_call 37; refine (WK _ hb).mono ?_; rintro e w7 ⟨rfl, hb7⟩; clear tdtwo0; have tdtwo1 : True := trivial))
            go_ret
            exact ⟨rfl, below_below hb hb7⟩
          · have q1 : ¬ ((K : Int) + 1) < s.length := by omega
            have q1' : ¬ (((K + 1 : Nat) : Int)) < s.length := by omega
            go_upto_region 22 with fail
            have tcthree0 : True := trivial
            go_upto_region 23 with (first
              | (have _t := tcthree0; go_at_call 38; refine (PP _ hb).mono ?_; rintro e w5 ⟨rfl, hb5⟩; replace hrd := hrd.below hb5; replace hb := below_below hb hb5; clear tcthree0; have tcthree1 : True := trivial))
            clear PP
            rw [← hY.out, hsz] at PQ
            have q9 : (K : Int) ≤ (S.size : Int) := by omega
            have q8 : (0 : Int) ≤ (K : Int) := by omega
            have hcs2 := hcs.out
            rw [ByteArray.size_extract, Nat.min_self, hsz] at hcs2
            have hk := Blk.new w5 66 [.string (strB j1), .string (strB j2), .string (strB j3)]
            have ha := (Below.refl w5.heap.size w5).alloc (Nat.le_refl _) (.cells #[.string (strB j1), .string (strB j2), .string (strB j3)] 66)
            replace hrd := hrd.below ha
            replace hb := below_below hb ha
            clear ha
            obtain ⟨vs, hvs, hrs, _⟩ := slice_run_h hrd K (by omega)
            generalize w5.alloc (.cells #[.string (strB j1), .string (strB j2), .string (strB j3)] 66) = W at *
            generalize w5.heap.size = G at *
            have hcv := fun w1 (hb1 : Below W.drew.heap.size W.drew w1) => convert_str (hrs.drew.below hb1)
            have hbd : Below W.heap.size W W.drew := drewN_below W 1
            generalize Value.slice (some ⟨w.heap.size, 0, none⟩) s.length c7 = vb at *
            have z1 := str_ne j1
            have z2 := str_ne j2
            have z3 := str_ne j3
            have e1 : ((strB j1).toList == (strB j1).toList) = true := by simp
            have e2 : ((strB j2).toList == (strB j2).toList) = true := by simp
            have e3 : ((strB j3).toList == (strB j3).toList) = true := by simp
            have e4 : (je == je) = true := by simp
            generalize strB j1 = J1 at *
            generalize strB j2 = J2 at *
            generalize strB j3 = J3 at *
            generalize strB (p.take K) = E1 at *
            clear hY hcs hb1 hb2 hb3
            go_upto_region 23 with fail
            have hz0 : (Tryd.prog.info? 66).map (·.zero) = some (some (.agg (jCells [] [] []).toArray)) := by kernel_rfl
            refine region_making 14 (fun | 13 => [12] | _ => []) (fun | 12 => some fun _ => newBlk 66 (jCells [] [] []) | 13 => some fun e => stBlk 66 [.string J1, .string J2, .string J3] (e 15) | _ => none) (by kernel_rfl) (by kernel_rfl) ?_ ?_
            · intro i S' h e v'
              match i, h with
              | 12, h => cases h; exact newBlk_loc _ _ _ _
              | 13, h => cases h; exact stBlk_loc _ _ _ _ _
            simp only [List.take_succ_cons, List.take_zero, List.drop_succ_cons, List.drop_zero]
            (apply wpG_pure; (focus rfl); (focus (intro wg Bg hbg hBg hFg; go_simp; (try go_bits); (first | done | exact ⟨rfl, Below.refl _ _⟩ | rfl))); simp only [Act.put, List.setIfInBounds_toArray, List.set_cons_succ, List.set_cons_zero])
            (apply wpG_pure; (focus rfl); (focus (intro wg Bg hbg hBg hFg; go_simp; (try go_bits); (first | done | exact ⟨rfl, Below.refl _ _⟩ | rfl))); simp only [Act.put, List.setIfInBounds_toArray, List.set_cons_succ, List.set_cons_zero])
            (apply wpG_pure; (focus rfl); (focus (intro wg Bg hbg hBg hFg; have hvs' := hvs; go_simp; (try go_bits); (first | done | exact ⟨rfl, Below.refl _ _⟩ | rfl))); simp only [Act.put, List.setIfInBounds_toArray, List.set_cons_succ, List.set_cons_zero])
            (apply wpG_pure; (focus rfl); (focus (intro wg Bg hbg hBg hFg; have hc := hcv _ hbg; go_simp; (try go_bits); (first | done | exact ⟨rfl, Below.refl _ _⟩ | rfl))); simp only [Act.put, List.setIfInBounds_toArray, List.set_cons_succ, List.set_cons_zero])
            (apply wpG_pure; (focus rfl); (focus (intro wg Bg hbg hBg hFg; go_simp; (try go_bits); (first | done | exact ⟨rfl, Below.refl _ _⟩ | rfl))); simp only [Act.put, List.setIfInBounds_toArray, List.set_cons_succ, List.set_cons_zero])
            (apply wpG_pure; (focus rfl); (focus (intro wg Bg hbg hBg hFg; go_simp; (try go_bits); (first | done | exact ⟨rfl, Below.refl _ _⟩ | rfl))); simp only [Act.put, List.setIfInBounds_toArray, List.set_cons_succ, List.set_cons_zero])
            (apply wpG_pure; (focus rfl); (focus (intro wg Bg hbg hBg hFg; go_simp; (try go_bits); (first | done | exact ⟨rfl, Below.refl _ _⟩ | rfl))); simp only [Act.put, List.setIfInBounds_toArray, List.set_cons_succ, List.set_cons_zero])
            (apply wpG_pure; (focus rfl); (focus (intro wg Bg hbg hBg hFg; go_simp; (try go_bits); (first | done | exact ⟨rfl, Below.refl _ _⟩ | rfl))); simp only [Act.put, List.setIfInBounds_toArray, List.set_cons_succ, List.set_cons_zero])
            (apply wpG_pure; (focus rfl); (focus (intro wg Bg hbg hBg hFg; go_simp; (try refine ⟨by kernel_rfl, ?_⟩); go_at_call 38; exact Calls.mono (PQ _ (below_below (below_below hb hbd) hbg)) (fun e w' h => (by obtain ⟨rfl, hb⟩ := h; exact ⟨rfl, hb⟩)))); simp only [Act.put, List.setIfInBounds_toArray, List.set_cons_succ, List.set_cons_zero])
            (apply wpG_pure; (focus rfl); (focus (intro wg Bg hbg hBg hFg; go_simp; (try go_bits); (first | done | exact ⟨rfl, Below.refl _ _⟩ | rfl))); simp only [Act.put, List.setIfInBounds_toArray, List.set_cons_succ, List.set_cons_zero])
            (apply wpG_pure; (focus rfl); (focus (intro wg Bg hbg hBg hFg; go_simp; (try go_bits); (first | done | exact ⟨rfl, Below.refl _ _⟩ | rfl))); simp only [Act.put, List.setIfInBounds_toArray, List.set_cons_succ, List.set_cons_zero])
            (apply wpG_pure; (focus rfl); (focus (intro wg Bg hbg hBg hFg; go_simp; (try go_bits); (first | done | exact ⟨rfl, Below.refl _ _⟩ | rfl))); simp only [Act.put, List.setIfInBounds_toArray, List.set_cons_succ, List.set_cons_zero])
            (apply wpG_make; (focus rfl); (focus (intro wg Bg hbg hBg hFg; exact goesTo_alloc hz0)); intro va; simp only [Act.put, List.setIfInBounds_toArray, List.set_cons_succ, List.set_cons_zero])
            (apply wpG_make; (focus rfl); (focus (intro wg Bg hbg hBg hFg; (obtain ⟨g, rfl, hM, hgb⟩ : newBlk 66 (jCells [] [] []) va (Bg 12) wg := hFg 12 (by decide +kernel); have hM := (⟨12, by simp, hM⟩ : ∃ j ∈ [12], Bg j g)); exact goesTo_store_agg (cs' := ([Value.string J1, Value.string J2, Value.string J3]).toArray) agJ (by with_unfolding_all (conv => lhs; whnf)) rfl (by assumption) rfl (by simpa using (rfl : [Value.string J1, .string J2, .string J3].length = 3)) (fun u hu => (show ∀ u ∈ [Value.string J1, .string J2, .string J3], u.oneCell' = true by intro u hu; simp at hu; rcases hu with rfl | rfl | rfl <;> rfl) u (by simpa using hu)) (by assumption) (by kernel_rfl))); intro _; simp only [Act.put])
            refine wpG_end (fun wg Bg hbg hBg hFg => ?_)
            obtain ⟨G2, e5, hB5, hk2⟩ : stBlk 66 [.string J1, .string J2, .string J3] va undef (Bg 13) wg := hFg 13
            subst e5
            replace hk := hk.below (below_below hbd hbg)
            replace hb := below_below (below_below hb hbd) hbg
            clear PQ hcv hvs hrs hrd hFg hbd hbg
            clear hBg hB5
            have c0 : _ = some _ := hk.cell 0
            have c1 : _ = some _ := hk.cell 1
            have c2 : _ = some _ := hk.cell 2
            have d0 : _ = some _ := hk2.cell 0
            have d1 : _ = some _ := hk2.cell 1
            have d2 : _ = some _ := hk2.cell 2
            have tdthree0 : True := trivial
            go_wp2_with (first
              | (have _t := tdthree0; go_at_call 37; refine (WK _ hb).mono ?_; rintro e w7 ⟨rfl, hb7⟩; clear tdthree0; have tdthree1 : True := trivial))
            go_ret
            exact ⟨rfl, below_below hb hb7⟩
end Go.Proofs.YtocfcgjjepegmaaDoor
