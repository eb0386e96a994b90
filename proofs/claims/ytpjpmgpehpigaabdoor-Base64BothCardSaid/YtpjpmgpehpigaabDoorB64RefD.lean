/- The reference's Decode, and that both say the same. -/
import Derived.Test.YtpjpmgpehpigaabDoorB64Ref
import Derived.Test.YtpjpmgpehpigaabDoorB64Laws
set_option linter.unusedVariables false
set_option linter.unusedSimpArgs false
namespace Go.Proofs.YtpjpmgpehpigaabDoor
open Go.RowKit
def refD (s : List UInt8) : List UInt8 × Int := if s.length % 4 ≠ 0 then ([], 2) else if encL (rdecL s) = s then (rdecL s, 0) else ([], 2)
theorem refD_eq (s : List UInt8) : refD s = decI s := by
  rcases decI_back s with ⟨h1, h2⟩ | ⟨h1, h2⟩
  · have hl := encL_len _ (decI s).1 (Nat.le_refl _)
    have hr := rdec_enc _ (decI s).1 (Nat.le_refl _)
    rw [h2] at hl hr
    unfold refD
    rw [if_neg (by omega), hr, if_pos h2]
    exact Prod.ext rfl h1.symm
  · have : refD s = ([], 2) := by
      unfold refD
      split
      · rfl
      · split
        · rename_i hq
          exfalso
          have := decI_enc (rdecL s)
          rw [hq] at this
          rw [this] at h1
          cases h1
        · rfl
    rw [this]
    exact Prod.ext h2.symm h1.symm
theorem idx_get : ∀ c : Fin 256, Lib.indexByte digs (UInt8.ofNat c.val) = -1 ∨ dg (Lib.indexByte digs (UInt8.ofNat c.val)).toNat = UInt8.ofNat c.val := by decide +kernel
theorem dg_iff (c : UInt8) (j : Nat) (hj : j < 64) : (dg j = c) ↔ didx c = j := by
  constructor
  · intro h; rw [← h, didx_dg, Nat.mod_eq_of_lt hj]
  · intro h
    have h1 := idx_get ⟨c.toNat, c.toNat_lt⟩
    simp only [UInt8.ofNat_toNat] at h1
    unfold didx at h
    rcases h1 with h1 | h1
    · rw [if_pos h1] at h; omega
    · have h3 : Lib.indexByte digs c ≠ -1 := fun e => by rw [if_pos e] at h; omega
      rw [if_neg h3] at h
      rw [← h]; exact h1
theorem didx_le (c : UInt8) : didx c ≤ 64 := by
  unfold didx
  have := idx_range digs c
  have e : digs.length = 64 := rfl
  split <;> omega
def dval (c : UInt8) (j : Nat) : Nat := if didx c < j then didx c else 64
def rstK (t : List UInt8) (k : Nat) : Nat × Nat := (t.take k).foldl rst (0, 0)
theorem rstK_succ (t : List UInt8) (k : Nat) (h : k < t.length) : rstK t (k + 1) = rst (rstK t k) (t.getD k 0) := by
  unfold rstK
  rw [List.take_add_one, List.getElem?_eq_getElem h, List.foldl_append]
  simp [List.getD_eq_getElem?_getD, List.getElem?_eq_getElem h]
theorem rst_lt (s : Nat × Nat) (c : UInt8) (B : Nat) (h : s.1 < B) : (rst s c).1 < B * 64 ∧ (rst s c).2 ≤ s.2 + 1 := by
  unfold rst
  have := didx_le c
  split
  · exact ⟨by simp only; omega, Nat.le_refl _⟩
  · exact ⟨by simp only; omega, by simp only; omega⟩
theorem rstK_lt (t : List UInt8) (k : Nat) (h : k ≤ t.length) : (rstK t k).1 < 64 ^ k ∧ (rstK t k).2 ≤ k := by
  induction k with
  | zero => simp [rstK]
  | succ k ih =>
    have := ih (by omega)
    rw [rstK_succ t k (by omega), Nat.pow_succ]
    have h2 := rst_lt (rstK t k) (t.getD k 0) _ this.1
    exact ⟨h2.1, by omega⟩
theorem rdec_split (t : List UInt8) (h : 4 ≤ t.length) : rdecL t = (rb (rstK t 4).1).take (3 - (rstK t 4).2) ++ rdecL (t.drop 4) := by
  match t, h with
  | a :: b :: c :: d :: r, _ => simp [rdecL, rstK]
def RDcR (w : World) (s : List UInt8) (b i : Value) (wr : World) : Prop :=
  ∃ (q : Nat) (out : List UInt8), 4 * q ≤ s.length ∧ i = .int .i64 ((4 * q : Nat) : Int) ∧ Own8 wr w.heap.size 5 b out ∧ out ++ rdecL (s.drop (4 * q)) = rdecL s ∧ out.length ≤ 3 * q ∧ Below w.heap.size w wr
def RDkR (t : List UInt8) (w1 : World) (n pads k : Value) (wr : World) : Prop := ∃ j : Nat, j ≤ 4 ∧ n = .int .i64 ((rstK t j).1 : Int) ∧ pads = .int .i64 ((rstK t j).2 : Int) ∧ k = .int .i64 j ∧ Below w1.heap.size w1 wr
def RDjR (c : UInt8) (w1 : World) (d j : Value) (wr : World) : Prop := ∃ m : Nat, m ≤ 64 ∧ d = .int .i64 (dval c m) ∧ j = .int .i64 m ∧ Below w1.heap.size w1 wr
def RDoR (w : World) (P q : List UInt8) (M : Nat) (b k : Value) (wr : World) : Prop := ∃ j : Nat, j ≤ 3 ∧ j ≤ M ∧ k = .int .i64 j ∧ Own8 wr w.heap.size 5 b (P ++ q.take j) ∧ Below w.heap.size w wr
set_option maxRecDepth 100000 in
set_option maxHeartbeats 3200000 in
theorem refdecode_c (s : List UInt8) (w : World) (hs : s.length ≤ 1000000) :
    Calls Tryd.prog 33 #[.string (strB s)] w (GivesD w (refD s)) := by
  have hsz := strB_size s
  have hgetS : ∀ k (hk : k < (strB s).size), ((strB s)[k]'hk) = s.getD k 0 := fun k hk => by
    rw [List.getD_eq_getElem?_getD, List.getElem?_eq_getElem (by omega)]; rfl
  obtain ⟨S, hS⟩ : ∃ S, strB s = S := ⟨_, rfl⟩
  rw [hS] at hsz hgetS
  rw [hS]
  have hI : refD s = if s.length % 4 ≠ 0 then ([], 2) else if encL (rdecL s) = s then (rdecL s, 0) else ([], 2) := rfl
  generalize refD s = I at *
  go_enter Tryd.func33, Tryd.ntmps33
  by_cases h4 : s.length % 4 = 0
  · have q4 : (s.length : Int) % 4 = 0 := by omega
    rw [if_neg (by omega)] at hI
    go_wp2_with fail
    replace h4 := Go.Lib.hid h4
    clear q4
    go_loopw [4, 5, 6, 7, 8, 9, 10, 11] (fun b i _ _ _ _ _ _ wr => RDcR w s b i wr) (fun _ i _ _ _ _ _ _ _ => s.length - (intOf i).toNat)
    case atStart => exact ⟨0, [], by omega, rfl, Own8.nil _ _ _, rfl, by simp, Below.refl _ _⟩
    case round =>
      obtain ⟨q, out, hq, rfl, ho, hout, hol, hbr⟩ := hrel
      have hbs := hbr.size
      by_cases hlt : 4 * q < s.length
      · have q0 : ((4 * q : Nat) : Int) < s.length := by omega
        have h4' := h4.out
        generalize hj : 4 * q = j at *
        have hj4 : j + 4 ≤ s.length := by omega
        clear h4'
        have hdl : (s.drop j).length = s.length - j := by simp
        have hget : ∀ k, (s.drop j).getD k 0 = s.getD (j + k) 0 := fun k => by simp [List.getD_eq_getElem?_getD]
        go_wp2_with fail
        have hd4 : 4 ≤ (s.drop j).length := by omega
        clear hj4
        have hsplit := rdec_split (s.drop j) hd4
        go_loopw [6, 7, 8, 9, 10] (fun n pads k _ _ wr' => RDkR (s.drop j) wr n pads k wr') (fun _ _ k _ _ _ => 4 - (intOf k).toNat)
        case atStart => exact ⟨0, by omega, rfl, rfl, rfl, Below.refl _ _⟩
        case round =>
          obtain ⟨k, hk, rfl, rfl, rfl, hbk⟩ := hrel
          by_cases hk4 : k < 4
          · have q1 : (k : Int) < 4 := by omega
            have hkl := rstK_lt (s.drop j) k (by omega)
            have hstep := rstK_succ (s.drop j) k (by omega)
            obtain ⟨P, hP⟩ : ∃ P, j + k = P := ⟨_, rfl⟩
            have hPI : (j : Int) + (k : Int) = (P : Int) := by omega
            have hjk : P < S.size := by omega
            have hc0 : S[P]'hjk = (s.drop j).getD k 0 := by rw [hgetS P hjk, hget k, hP]
            generalize (s.drop j).getD k 0 = c at *
            have hn : (rstK (s.drop j) k).1 < 262144 := Nat.lt_of_lt_of_le hkl.1 (by have : k ≤ 3 := by omega
                                                                                     calc 64 ^ k ≤ 64 ^ 3 := Nat.pow_le_pow_right (by omega) this
                                                                                       _ = 262144 := by decide)
            have hp := hkl.2
            clear hkl
            generalize hr1 : (rstK (s.drop j) k).1 = N at *
            generalize hr2 : (rstK (s.drop j) k).2 = Pd at *
            go_wp2_with fail
            go_loopw [9, 10] (fun d j wr' => RDjR c wr d j wr') (fun _ j _ => 64 - (intOf j).toNat)
            case atStart => exact ⟨0, by omega, by simp [dval], rfl, Below.refl _ _⟩
            case round =>
              obtain ⟨m, hm, rfl, rfl, hbm⟩ := hrel
              by_cases hm4 : m < 64
              · have q2 : (m : Int) < 64 := by omega
                have q3 : (0 : Int) ≤ m := by omega
                have q5 : (P : Int) < S.size := by omega
                have hX : (((⟨#[65, 66, 67, 68, 69, 70, 71, 72, 73, 74, 75, 76, 77, 78, 79, 80, 81, 82, 83, 84, 85, 86, 87, 88, 89, 90, 97, 98, 99, 100, 101, 102, 103, 104, 105, 106, 107, 108, 109, 110, 111, 112, 113, 114, 115, 116, 117, 118, 119, 120, 121, 122, 48, 49, 50, 51, 52, 53, 54, 55, 56, 57, 43, 47]⟩ : ByteArray)[m]'hm4).toNat : Int) = ((dg m).toNat : Int) := congrArg (fun u : UInt8 => (u.toNat : Int)) (digB_get m hm4)
                have hY : ((S[P]'hjk).toNat : Int) = (c.toNat : Int) := congrArg (fun u : UInt8 => (u.toNat : Int)) hc0
                have hiff := dg_iff c m hm4
                clear hgetS hsz hc0 hS hget hP
                by_cases he : dg m = c
                · have hdm : didx c = m := hiff.1 he
                  have hv : dval c (m + 1) = m := by unfold dval; rw [hdm, if_pos (by omega)]
                  rw [he] at hX
                  go_wp2_with fail
                  refine region_making 8 (fun _ => []) (fun _ => none) (by kernel_rfl) (by kernel_rfl) ?_ ?_
                  · intro i' S' h' e v'
                    cases h'
                  simp only [List.take_succ_cons, List.take_zero, List.drop_succ_cons, List.drop_zero]
                  repeat (apply wpG_pure; (focus rfl); (focus (intro wg Bg hbg hBg hFg; go_simp; (try go_bits); (first | done | exact ⟨rfl, Below.refl _ _⟩ | rfl))); simp only [Act.put, List.setIfInBounds_toArray, List.set_cons_succ, List.set_cons_zero])
                  refine wpG_end (fun wg Bg hbg hBg hFg => ?_)
                  go_wp2_with fail
                  exact ⟨⟨m + 1, by omega, by rw [hv], by go_num, below_below hbm.drew hbg⟩, by simp only [intOf]; omega⟩
                · have hdm : ¬ didx c = m := fun e => he (hiff.2 e)
                  have hv : dval c (m + 1) = dval c m := by unfold dval; by_cases h9 : didx c < m; rw [if_pos h9, if_pos (by omega)]; rw [if_neg h9, if_neg (by omega)]
                  have hq : ¬ ((dg m).toNat : Int) = (c.toNat : Int) := fun e => he (UInt8.toNat_inj.1 (by omega))
                  go_wp2_with fail
                  refine region_making 8 (fun _ => []) (fun _ => none) (by kernel_rfl) (by kernel_rfl) ?_ ?_
                  · intro i' S' h' e v'
                    cases h'
                  simp only [List.take_succ_cons, List.take_zero, List.drop_succ_cons, List.drop_zero]
                  repeat (apply wpG_pure; (focus rfl); (focus (intro wg Bg hbg hBg hFg; go_simp; (try go_bits); (first | done | exact ⟨rfl, Below.refl _ _⟩ | rfl))); simp only [Act.put, List.setIfInBounds_toArray, List.set_cons_succ, List.set_cons_zero])
                  refine wpG_end (fun wg Bg hbg hBg hFg => ?_)
                  go_wp2_with fail
                  exact ⟨⟨m + 1, by omega, by rw [hv], by go_num, below_below hbm.drew hbg⟩, by simp only [intOf]; omega⟩
              · have q2 : ¬ (m : Int) < 64 := by omega
                obtain rfl : m = 64 := by omega
                have hdv : dval c 64 = didx c := by
                  unfold dval
                  have := didx_le c
                  split <;> omega
                rw [hdv]
                have hle := didx_le c
                by_cases h64 : didx c = 64
                · rw [h64]
                  have hr : rst (rstK (s.drop j) k) c = (N * 64, Pd + 1) := by unfold rst; rw [if_pos h64, hr1, hr2]
                  rw [hr] at hstep
                  have hor := orI64 N 0 6 (by omega) (by decide)
                  have hor2 : bits .or .i64 ((N : Int) * 64) 0 = (N : Int) * 64 := by rw [show ((N : Int) * 64) = ((N * 2 ^ 6 : Nat) : Int) by omega]; exact hor.trans (by omega)
                  clear hor
                  go_wp2_with fail
                  exact ⟨⟨k + 1, by omega, by rw [hstep]; simp, by rw [hstep]; simp, by go_num, below_below hbk hbm⟩, by simp only [intOf]; omega⟩
                · have hr : rst (rstK (s.drop j) k) c = (N * 64 + didx c, Pd) := by unfold rst; rw [if_neg h64, hr1, hr2]
                  rw [hr] at hstep
                  have q6 : ¬ ((didx c : Nat) : Int) = 64 := by omega
                  have hor := orI64 N (didx c) 6 (by omega) (by omega)
                  generalize didx c = D at *
                  have hor2 : bits .or .i64 ((N : Int) * 64) (D : Int) = ((N * 64 + D : Nat) : Int) := by rw [show ((N : Int) * 64) = ((N * 2 ^ 6 : Nat) : Int) by omega]; exact hor
                  clear hor
                  go_wp2_with fail
                  exact ⟨⟨k + 1, by omega, by rw [hstep]; simp, by rw [hstep], by go_num, below_below hbk hbm⟩, by simp only [intOf]; omega⟩
          · have q1 : ¬ (k : Int) < 4 := by omega
            obtain rfl : k = 4 := by omega
            have hkl := rstK_lt (s.drop j) 4 hd4
            generalize hr1 : (rstK (s.drop j) 4).1 = N at *
            generalize hr2 : (rstK (s.drop j) 4).2 = Pd at *
            have hN : N < 16777216 := hkl.1
            have hPd : Pd ≤ 4 := hkl.2
            have ho1 := ho.below hbk
            have hbr1 := below_below hbr hbk
            clear hkl hgetS hget
            go_wp2_with fail
            go_loopw [4, 11] (fun b k wr' => RDoR w out (rb N) (3 - Pd) b k wr') (fun _ k _ => 4 - (intOf k).toNat)
            case atStart => exact ⟨0, by omega, by omega, rfl, by simpa using ho1, hbr1⟩
            case round =>
              obtain ⟨m, hm, hmP, rfl, ho2, hbr2⟩ := hrel
              have hbs2 := hbr2.size
              by_cases hgo : m < 3 ∧ m + Pd < 3
              · have q2 : (m : Int) < 3 := by omega
                have q3 : (m : Int) < 3 - Pd := by omega
                have hcase : m = 0 ∨ m = 1 ∨ m = 2 := by omega
                rcases hcase with rfl | rfl | rfl
                · have hX := Go.Lib.hid (show (N : Int) / 65536 = ((UInt8.ofNat (N / 65536)).toNat : Int) by simp; omega)
                  have tok0 : True := trivial
                  go_wp2_with (first
                    | (have _t := tok0; (at_builtin; refine wpList_app8 rfl _ _ rfl st8 (by with_unfolding_all (conv => lhs; whnf)) (Own8.below ho2 ((Below.refl _ _).alloc (Nat.le_refl _) _)) rfl (Rd.src (Rd.lit _ _ _ [UInt8.ofNat (N / 65536)] (by rw [hX.out]; rfl) rfl (by omega) (by decide)) Tryd.underlying22) (by first | omega | (simp; omega)) (by first | (simp; done) | omega | (simp; omega)) ?_); intro v3 w3 ho3 hg3 hb3; clear tok0; have tok1 : True := trivial))
                  have hw3 := app_step hbr2 ho2 (Nat.le_refl _) hg3
                  exact ⟨⟨0 + 1, by omega, by omega, by go_num, by simpa [rb] using ho3, hw3.1⟩, by simp [intOf]⟩
                · have hX := Go.Lib.hid (show (N : Int) / 256 % 256 = ((UInt8.ofNat (N / 256)).toNat : Int) by simp; try omega)
                  have tok0 : True := trivial
                  go_wp2_with (first
                    | (have _t := tok0; (at_builtin; refine wpList_app8 rfl _ _ rfl st8 (by with_unfolding_all (conv => lhs; whnf)) (Own8.below ho2 ((Below.refl _ _).alloc (Nat.le_refl _) _)) rfl (Rd.src (Rd.lit _ _ _ [UInt8.ofNat (N / 256)] (by rw [hX.out]; rfl) rfl (by omega) (by decide)) Tryd.underlying22) (by first | omega | (simp; omega)) (by first | (simp; done) | omega | (simp; omega)) ?_); intro v3 w3 ho3 hg3 hb3; clear tok0; have tok1 : True := trivial))
                  have hw3 := app_step hbr2 ho2 (Nat.le_refl _) hg3
                  exact ⟨⟨1 + 1, by omega, by omega, by go_num, by simpa [rb] using ho3, hw3.1⟩, by simp [intOf]⟩
                · have hX := Go.Lib.hid (show (N : Int) % 256 = ((UInt8.ofNat (N)).toNat : Int) by simp; try omega)
                  have tok0 : True := trivial
                  go_wp2_with (first
                    | (have _t := tok0; (at_builtin; refine wpList_app8 rfl _ _ rfl st8 (by with_unfolding_all (conv => lhs; whnf)) (Own8.below ho2 ((Below.refl _ _).alloc (Nat.le_refl _) _)) rfl (Rd.src (Rd.lit _ _ _ [UInt8.ofNat (N)] (by rw [hX.out]; rfl) rfl (by omega) (by decide)) Tryd.underlying22) (by first | omega | (simp; omega)) (by first | (simp; done) | omega | (simp; omega)) ?_); intro v3 w3 ho3 hg3 hb3; clear tok0; have tok1 : True := trivial))
                  have hw3 := app_step hbr2 ho2 (Nat.le_refl _) hg3
                  exact ⟨⟨2 + 1, by omega, by omega, by go_num, by simpa [rb] using ho3, hw3.1⟩, by simp [intOf]⟩
              · have hmm : m = 3 - Pd := by omega
                have hfin : out ++ (rb N).take m ++ rdecL (s.drop (4 * (q + 1))) = rdecL s := by
                  rw [hmm, ← hout, hsplit, List.drop_drop, List.append_assoc, show 4 * (q + 1) = j + 4 by omega]
                have hlr : ((rb N).take m).length ≤ 3 := by simp [rb]; omega
                have hnext : RDcR w s _ (.int .i64 ((j : Int) + 4)) wr := ⟨q + 1, out ++ (rb N).take m, by omega, by congr 1; omega, ho2, hfin, by simp only [List.length_append]; omega, hbr2⟩
                by_cases hm3 : m < 3
                · have q2 : (m : Int) < 3 := by omega
                  have q3 : ¬ (m : Int) < 3 - Pd := by omega
                  replace hmm := Go.Lib.hid hmm
                  go_wp2_with fail
                  exact ⟨hnext, by simp only [intOf]; omega⟩
                · have q2 : ¬ (m : Int) < 3 := by omega
                  replace hmm := Go.Lib.hid hmm
                  go_wp2_with fail
                  exact ⟨hnext, by simp only [intOf]; omega⟩
      · have q0 : ¬ ((4 * q : Nat) : Int) < s.length := by omega
        have ho' : out = rdecL s := by
          rw [List.drop_eq_nil_of_le (by omega), show rdecL [] = [] from rfl, List.append_nil] at hout
          exact hout
        rw [ho'] at ho hol
        by_cases he : encL (rdecL s) = s
        · have hs2 : strB (encL (rdecL s)) = S := by rw [he, hS]
          have hqq : (S.toList == S.toList) = true := by simp
          rw [if_pos he] at hI
          clear hS hgetS
          have tok0 : True := trivial
          go_wp2_with (first
            | (have _t := tok0; go_at_call 36; refine (refencode_c _ (rdecL s) _ ho.rd (by omega)).mono ?_; rintro e w2 ⟨rfl, hb2⟩; rw [hs2]; clear tok0; have tok1 : True := trivial))
          go_ret2
          exact ⟨_, by rw [hI]; rfl, by rw [hI]; exact (ho.below hb2), below_below hbr hb2⟩
        · have hs2 : ((strB (encL (rdecL s))).toList == S.toList) = false := by rw [← hS, strB_beq]; exact decide_eq_false he
          rw [if_neg he] at hI
          clear hS hgetS
          have tok0 : True := trivial
          go_wp2_with (first
            | (have _t := tok0; go_at_call 36; refine (refencode_c _ (rdecL s) _ ho.rd (by omega)).mono ?_; rintro e w2 ⟨rfl, hb2⟩; clear tok0; have tok1 : True := trivial))
          go_ret2
          exact ⟨_, by rw [hI]; rfl, by rw [hI]; exact Own8.nil _ _ _, below_below hbr hb2⟩
  · have q4 : ¬ (s.length : Int) % 4 = 0 := by omega
    rw [if_pos (by omega)] at hI
    go_wp2_with fail
    go_ret2
    exact ⟨_, by rw [hI]; rfl, by rw [hI]; exact Own8.nil _ _ _, Below.refl _ _⟩
set_option maxRecDepth 100000 in
set_option maxHeartbeats 1600000 in
theorem base64Both_c (w : World) (v : Value) (l : List UInt8) (h : Rd w v l) (k : List UInt8) (hk : k.length ≤ 9223372036854775807) :
    Calls Tryd.prog 6 #[v, .string (strB k)] w (Ok w) := by
  have F1 := fun w1 (hb : Below w.heap.size w w1) => few6_c v l w1 (h.below hb)
  have hxl : (l.take 1000).length ≤ 1000 := by simp; omega
  have hkl : (k.take 1000).length ≤ 1000 := by simp; omega
  have T := fun w1 => text_c k 1000 w1 hk (by omega)
  generalize l.take 1000 = x at *
  generalize k.take 1000 = t at *
  clear h hk
  have D := fun w1 => decode_c t w1 (by omega)
  have R := fun w1 => refdecode_c t w1 (by omega)
  rw [refD_eq] at R
  unfold GivesD at D R
  generalize (decI t).2 = e at *
  generalize (decI t).1 = d at *
  go_enter Tryd.func6, Tryd.ntmps6
  have tok0 : True := trivial
  go_wp2_with (first
    | (have _t := tok0; go_at_call 29; refine (T _).mono ?_; rintro e w3 ⟨rfl, rfl⟩; clear tok0; have tok1 : True := trivial)
    | (have _t := tok1; go_at_call 32; refine (D _).mono ?_; rintro e w6 ⟨v6, rfl, ho6, hb6⟩; clear tok1; have tok2 : True := trivial)
    | (have _t := tok2; go_at_call 33; refine (R _).mono ?_; rintro e w7 ⟨v7, rfl, ho7, hb7⟩; have hb := below_below hb6 hb7; have r6 := ho6.rd.below hb7; have r7 := ho7.rd; clear tok2; have tok3 : True := trivial)
    | (have _t := tok3; go_at_call 35; refine (F1 _ hb).mono ?_; rintro e w8 ⟨v8, rfl, ho8, hb8⟩; clear tok3; have tok4 : True := trivial)
    | (have _t := tok4; go_at_call 34; refine (encode_c _ x _ ho8.rd (by omega)).mono ?_; rintro e w9 ⟨rfl, hb9⟩; have g1 := below_below hb8 hb9; clear tok4; have tok5 : True := trivial)
    | (have _t := tok5; go_at_call 35; refine (F1 _ (below_below hb g1)).mono ?_; rintro e w10 ⟨v10, rfl, ho10, hb10⟩; have g2 := below_below g1 hb10; clear tok5; have tok6 : True := trivial)
    | (have _t := tok6; go_at_call 36; refine (refencode_c _ x _ ho10.rd (by omega)).mono ?_; rintro e w11 ⟨rfl, hb11⟩; have g3 := below_below g2 hb11; have c6 := convert_str (r6.below g3); have c7 := convert_str (r7.below g3); clear tok6; have tok7 : True := trivial)
    | (have _t := tok7; go_at_call 37; refine (wakes6_c _).mono ?_; rintro e w12 ⟨rfl, hb12⟩; have hw := below_below (below_below hb g3) hb12; clear tok7; have tok8 : True := trivial))
  go_ret
  exact ⟨rfl, hw⟩
theorem base64Both_w (w : World) (v : Value) (l : List UInt8) (h : Rd w v l) (s : ByteArray) (hs : s.size ≤ maxLen) : Calls Tryd.prog 6 #[v, .string s] w (Ok w) := by
  have e : s = strB s.data.toList := rfl
  rw [e]
  exact base64Both_c w v l h _ (by unfold maxLen at hs; have : s.data.toList.length = s.size := rfl; omega)
end Go.Proofs.YtpjpmgpehpigaabDoor
