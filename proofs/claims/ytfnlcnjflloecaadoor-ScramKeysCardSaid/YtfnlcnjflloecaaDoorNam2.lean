/- roostref02: users' names, hosts, resources. -/
import Derived.Test.YtfnlcnjflloecaaDoorNam1
import Derived.Test.YtfnlcnjflloecaaDoorOct6
import Derived.Deep.LoopGhost
import Derived.Lib.OthersKept
import Derived.Shelf.GgClosure.StringsRunes
set_option linter.unusedVariables false
set_option linter.unusedSimpArgs false
namespace Go.Proofs.YtfnlcnjflloecaaDoor
open Go.RowKit
theorem s_empty (s : List UInt8) (h : s ≠ []) : (strB s).toList.isEmpty = false := by
  rw [strB_toList]; cases s <;> simp_all
theorem enc_utf8 (F : Int) : Utf8.encode F = strB (Lib.encodeRune F) := by
  unfold Utf8.encode Lib.encodeRune Lib.encodeRuneZ strB Utf8.valid Utf8.runeError
  by_cases h1 : 0 ≤ F ∧ F ≤ 127
  · have hv : (((0 : Int) ≤ F && decide (F < 55296)) || (decide ((57344 : Int) ≤ F) && decide (F ≤ 1114111))) = true := by simp; omega
    simp only [hv, if_true, if_pos h1, if_pos (by omega : F.toNat < 128)]
    rfl
  · by_cases h2 : 128 ≤ F ∧ F ≤ 2047
    · have hv : (((0 : Int) ≤ F && decide (F < 55296)) || (decide ((57344 : Int) ≤ F) && decide (F ≤ 1114111))) = true := by simp; omega
      simp only [hv, if_true, if_neg h1, if_pos h2, if_neg (by omega : ¬ F.toNat < 128), if_pos (by omega : F.toNat < 2048)]
      simp only [List.map_cons, List.map_nil]
      rw [show (192 + F / 64).toNat = 192 + F.toNat / 64 by omega, show (128 + F % 64).toNat = 128 + F.toNat % 64 by omega]
    · by_cases h3 : (2048 ≤ F ∧ F < 55296) ∨ (57343 < F ∧ F ≤ 65535)
      · have hv : (((0 : Int) ≤ F && decide (F < 55296)) || (decide ((57344 : Int) ≤ F) && decide (F ≤ 1114111))) = true := by simp; omega
        simp only [hv, if_true, if_neg h1, if_neg h2, if_pos h3, if_neg (by omega : ¬ F.toNat < 128), if_neg (by omega : ¬ F.toNat < 2048), if_pos (by omega : F.toNat < 65536)]
        simp only [List.map_cons, List.map_nil]
        rw [show (224 + F / 4096).toNat = 224 + F.toNat / 4096 by omega, show (128 + F / 64 % 64).toNat = 128 + F.toNat / 64 % 64 by omega, show (128 + F % 64).toNat = 128 + F.toNat % 64 by omega]
      · by_cases h4 : 65536 ≤ F ∧ F ≤ 1114111
        · have hv : (((0 : Int) ≤ F && decide (F < 55296)) || (decide ((57344 : Int) ≤ F) && decide (F ≤ 1114111))) = true := by simp; omega
          simp only [hv, if_true, if_neg h1, if_neg h2, if_neg h3, if_pos h4, if_neg (by omega : ¬ F.toNat < 128), if_neg (by omega : ¬ F.toNat < 2048), if_neg (by omega : ¬ F.toNat < 65536)]
          simp only [List.map_cons, List.map_nil]
          rw [show (240 + F / 262144).toNat = 240 + F.toNat / 262144 by omega, show (128 + F / 4096 % 64).toNat = 128 + F.toNat / 4096 % 64 by omega, show (128 + F / 64 % 64).toNat = 128 + F.toNat / 64 % 64 by omega, show (128 + F % 64).toNat = 128 + F.toNat % 64 by omega]
        · have hv : (((0 : Int) ≤ F && decide (F < 55296)) || (decide ((57344 : Int) ≤ F) && decide (F ≤ 1114111))) = false := by simp; omega
          simp only [hv, Bool.false_eq_true, if_false, if_neg h1, if_neg h2, if_neg h3, if_neg h4]
          rfl
set_option maxHeartbeats 1600000 in
theorem reffold_c (r : Int) (h0 : 0 ≤ r) (h1 : r ≤ 1114111) (w : World) : Calls Tryd.prog 90 #[.int .i32 r] w fun e w' => e = .returned (.int .i32 (foldI r)) ∧ w = w' := by
  have hc : r < 65 ∨ (65 ≤ r ∧ r ≤ 90) ∨ (90 < r ∧ r < 192) ∨ (192 ≤ r ∧ r ≤ 222 ∧ r ≠ 215) ∨ r = 215 ∨ (222 < r ∧ r < 913) ∨ (913 ≤ r ∧ r ≤ 937 ∧ r ≠ 930) ∨ r = 930 ∨ (937 < r ∧ r < 1040) ∨ (1040 ≤ r ∧ r ≤ 1071) ∨ 1071 < r := by omega
  have hf : foldI r = if (65 ≤ r ∧ r ≤ 90) ∨ ((192 ≤ r ∧ r ≤ 222) ∧ r ≠ 215) ∨ ((913 ≤ r ∧ r ≤ 937) ∧ r ≠ 930) ∨ (1040 ≤ r ∧ r ≤ 1071) then r + 32 else r := rfl
  rcases hc with h | ⟨h, h'⟩ | ⟨h, h'⟩ | ⟨h, h', h''⟩ | rfl | ⟨h, h'⟩ | ⟨h, h', h''⟩ | rfl | ⟨h, h'⟩ | ⟨h, h'⟩ | h
  all_goals
    first
    | rw [if_pos (by omega)] at hf
    | rw [if_neg (by omega)] at hf
    replace hf := Go.Lib.hid hf
    go_enter Tryd.func90, Tryd.ntmps90
    go_wp2
    all_goals
      go_ret
      rw [hf.out]
      exact ⟨rfl, rfl⟩
set_option maxHeartbeats 3200000 in
theorem refletter_c (r : Int) (h0 : 0 ≤ r) (h1 : r ≤ 1114111) (w : World) : Calls Tryd.prog 89 #[.int .i32 r] w fun e w' => e = .returned (.bool (lttI r)) ∧ w = w' := by
  have hl : lttI r = decide ((((((((97 ≤ r ∧ r ≤ 122) ∨ (48 ≤ r ∧ r ≤ 57)) ∨ r = 46) ∨ r = 45) ∨ r = 95) ∨ ((223 ≤ r ∧ r ≤ 255) ∧ r ≠ 247)) ∨ (945 ≤ r ∧ r ≤ 969)) ∨ (1072 ≤ r ∧ r ≤ 1103)) := by
    rw [Bool.eq_iff_iff]
    unfold lttI
    simp only [Bool.or_eq_true, Bool.and_eq_true, decide_eq_true_eq, beq_iff_eq, bne_iff_ne]
  have hc : r < 45 ∨ r = 45 ∨ r = 46 ∨ r = 47 ∨ (48 ≤ r ∧ r ≤ 57) ∨ (57 < r ∧ r < 95) ∨ r = 95 ∨ r = 96 ∨ (97 ≤ r ∧ r ≤ 122) ∨ (122 < r ∧ r < 223) ∨ (223 ≤ r ∧ r ≤ 255 ∧ r ≠ 247) ∨ r = 247 ∨ (255 < r ∧ r < 945) ∨ (945 ≤ r ∧ r ≤ 969) ∨ (969 < r ∧ r < 1072) ∨ (1072 ≤ r ∧ r ≤ 1103) ∨ 1103 < r := by omega
  rcases hc with h | rfl | rfl | rfl | ⟨h, h'⟩ | ⟨h, h'⟩ | rfl | rfl | ⟨h, h'⟩ | ⟨h, h'⟩ | ⟨h, h', h''⟩ | rfl | ⟨h, h'⟩ | ⟨h, h'⟩ | ⟨h, h'⟩ | ⟨h, h'⟩ | h
  all_goals
    first
    | rw [decide_eq_true (by omega)] at hl
    | rw [decide_eq_false (by omega)] at hl
    replace hl := Go.Lib.hid hl
    try (have q46 : (r == 46) = false := beq_eq_false_iff_ne.2 (by omega))
    try (have q45 : (r == 45) = false := beq_eq_false_iff_ne.2 (by omega))
    try (have q95 : (r == 95) = false := beq_eq_false_iff_ne.2 (by omega))
    try (have g1 : ¬ r ≤ 57 := by omega)
    try (have g2 : ¬ r ≤ 122 := by omega)
    try (have g3 : ¬ r ≤ 255 := by omega)
    try (have g4 : ¬ r ≤ 969 := by omega)
    try (have g5 : ¬ r ≤ 1103 := by omega)
    try (have q247 : (r != 247) = true := bne_iff_ne.2 (by omega))
    go_enter Tryd.func89, Tryd.ntmps89
    go_wp2
    all_goals
      go_ret
      rw [hl.out]
      exact ⟨rfl, rfl⟩
def GivesSE (w : World) (r : List UInt8 × Int) (e : Ending) (w' : World) : Prop := e = .returned (.tuple #[.string (strB r.1), .int .i64 r.2]) ∧ Below w.heap.size w w'
theorem fold_range (R : Nat) (h : R ≤ 1114111) (hr : runeOk R) : 0 ≤ foldI (R : Int) ∧ foldI (R : Int) ≤ 1114111 := by
  unfold foldI
  split <;> omega
theorem decodeS (s : List UInt8) (pos : Nat) : Utf8.decode (strB s) pos = Lib.decodeL (s.drop pos) := by
  rw [← Lib.decodeL_drop]; rfl
def LcRel (w : World) (s : List UInt8) (gf : Nat) (out : Value) (wx : World) : Prop :=
  ∃ (pos : Nat) (O : List UInt8), wx.heap[w.heap.size]? = some (.stringIter (strB s) pos) ∧ Below w.heap.size w wx ∧ s.length ≤ pos + gf ∧ out = .string (strB O) ∧
    allD (fun r => lttI (foldI r)) (s.drop pos) = allD (fun r => lttI (foldI r)) s ∧ O ++ Lib.mapD foldI (s.drop pos) = Lib.mapD foldI s
set_option maxRecDepth 100000 in
set_option maxHeartbeats 3200000 in
theorem reflocal_c (s : List UInt8) (w : World) (hl : s.length ≤ 1000000000) : Calls Tryd.prog 42 #[.string (strB s)] w (GivesSE w (localI s)) := by
  have hsz := strB_size s
  have hI : localI s = if sizedI s ≠ 0 then ([], sizedI s) else if allD lttI (Lib.mapD foldI s) = true then (Lib.mapD foldI s, 0) else ([], 4) := rfl
  have hz : sizedI s = if 64 < s.length then 5 else if s = [] ∨ Lib.validD s = false then 4 else 0 := rfl
  generalize localI s = I at *
  by_cases h64 : 64 < s.length
  · rw [if_pos h64] at hz
    rw [hz, if_pos (by omega)] at hI
    subst hI
    have q1 : (64 : Int) < ((strB s).size : Int) := by omega
    clear hz hsz
    generalize strB s = S at *
    go_enter Tryd.func42, Tryd.ntmps42
    go_wp2_with fail
    go_ret2
    exact ⟨rfl, Below.refl _ _⟩
  rw [if_neg h64] at hz
  have q1 : ¬ (64 : Int) < ((strB s).size : Int) := by omega
  have V := fun w1 => refvalid_c s w1 hl
  by_cases hne : s = []
  · subst hne
    rw [if_pos (.inl rfl)] at hz
    rw [hz, if_pos (by omega)] at hI
    subst hI
    clear hz hsz V
    have hem : (strB []).toList.isEmpty = true := by rw [strB_toList]; rfl
    go_enter Tryd.func42, Tryd.ntmps42
    go_wp2_with fail
    go_ret2
    exact ⟨rfl, Below.refl _ _⟩
  have hem := s_empty s hne
  cases hv : Lib.validD s
  · rw [if_pos (.inr hv)] at hz
    rw [hz, if_pos (by omega)] at hI
    subst hI
    rw [hv] at V
    clear hz hsz
    generalize strB s = S at *
    go_enter Tryd.func42, Tryd.ntmps42
    go_wp2_with (go_at_call 58; refine (V _).mono ?_; rintro e w1 ⟨rfl, rfl⟩)
    go_ret2
    exact ⟨rfl, Below.refl _ _⟩
  · rw [if_neg (by rintro (h | h); exact hne h; rw [hv] at h; cases h)] at hz
    rw [hz, if_neg (by simp), all_fold s] at hI
    rw [hv] at V
    clear hz
    have hml := map_len foldI_ok foldI_sized s.length s (Nat.le_refl _) hv
    have hlen : ∀ {a b : List UInt8}, a ++ b = Lib.mapD foldI s → (a ++ b).length ≤ 1000000000 := fun {a b} e => by rw [e, hml]; exact hl
    clear hml
    replace hI := Go.Lib.hid hI
    have hdec := fun pos => decodeS s pos
    obtain ⟨S, hS⟩ : ∃ S, S = strB s := ⟨_, rfl⟩
    rw [← hS] at V hem q1 hsz hdec
    have hLc : LcRel w s s.length (.string ⟨#[]⟩) (w.alloc (.stringIter S 0)) := ⟨0, [], by rw [← hS]; exact World.iter_heap w S 0, (Below.refl _ w).alloc (Nat.le_refl _) _, by omega, rfl, rfl, rfl⟩
    rw [← hS]
    replace hS := Go.Lib.hid hS
    go_enter Tryd.func42, Tryd.ntmps42
    go_wp2_with (go_at_call 58; refine (V _).mono ?_; rintro e w1 ⟨rfl, rfl⟩)
    go_loopg [4] s.length (fun gf out wx => LcRel w s gf out wx)
    case atStart => exact hLc
    case round =>
      obtain ⟨pos, O, hit, hbw, hfu, rfl, hall, hmap⟩ := hrel
      rw [← hS.out] at hit
      by_cases hps : pos < S.size
      · obtain ⟨g', rfl⟩ : ∃ g', gk = g' + 1 := ⟨gk - 1, by omega⟩
        have hnx : ∀ ty, (Instr.next (.pointer (some ⟨w.heap.size, 0, none⟩)) true ty).run Tryd.prog wr = _ := fun ty => Lib.run_next_any_at wr w.heap.size S pos ty hit hps
        have hwd := Lib.width_pos S pos
        have hrk := Lib.rune_le S pos
        have hro := decode_ok (s.drop pos)
        have hnd : s.drop pos ≠ [] := by intro e; have := congrArg List.length e; rw [List.length_drop] at this; simp at this; omega
        have hst := allD_step (fun r => lttI (foldI r)) (s.drop pos) hnd
        have hmt := Lib.mapD_step foldI (s.drop pos) hnd
        rw [hdec pos] at hnx hwd hrk
        generalize Lib.decodeL (s.drop pos) = D at *
        obtain ⟨R, K⟩ := D
        simp only at hst hmt hnx hwd hrk hro
        rw [List.drop_drop] at hst hmt
        have hF := fold_range R hrk hro
        rw [if_pos hF.1] at hmt
        have C1 := fun w1 => reffold_c (R : Int) (by omega) (by omega) w1
        have C2 := fun w1 => refletter_c (foldI (R : Int)) hF.1 hF.2 w1
        have hit2 := Lib.iterAt_heap wr w.heap.size S pos (pos + K) hit
        have hbw2 := Lib.below_iterAt hbw (k := w.heap.size) (Nat.le_refl _) S (pos + K)
        obtain ⟨W, hWd⟩ : ∃ W, wr.iterAt w.heap.size S (pos + K) = W := ⟨_, rfl⟩
        rw [hWd] at hnx hit2 hbw2
        clear hdec hro hWd hit hbw hF
        generalize hFe : foldI (R : Int) = F at *
        clear hFe
        have hue := enc_utf8 F
        cases hL : lttI F
        · rw [hL] at hst C2
          have hbad : allD (fun r => lttI (foldI r)) s = false := by rw [← hall, hst]; rfl
          have hI2 := Go.Lib.hid (hI.out.trans (by rw [hbad]; rfl : _ = (([] : List UInt8), (4 : Int))))
          clear hI hall hst hmt hmap hbad hue
          go_wp2_with (first | (go_at_call 90; refine (C1 _).mono ?_; rintro e w1 ⟨rfl, rfl⟩) | (go_at_call 89; refine (C2 _).mono ?_; rintro e w1 ⟨rfl, rfl⟩))
          go_ret2
          rw [hI2.out]
          exact ⟨rfl, hbw2⟩
        · rw [hL] at hst C2
          have hall2 := Go.Lib.hid (hst.symm.trans hall)
          have hmap2 := Go.Lib.hid (show (O ++ Lib.encodeRune F) ++ Lib.mapD foldI (s.drop (pos + K)) = Lib.mapD foldI s by rw [List.append_assoc, ← hmt]; exact hmap)
          have hou := Go.Lib.hid (show strB O ++ Utf8.encode F = strB (O ++ Lib.encodeRune F) by rw [hue, strB_append])
          have hsum : ¬ 9223372036854775807 < (strB O).size + (Utf8.encode F).size := by
            have := hlen hmap
            rw [hue, strB_size, strB_size]
            rw [hmt] at this
            simp only [List.length_append] at this
            omega
          clear hall hst hmt hmap hue
          generalize strB O = SO at *
          go_wp2_with (first | (go_at_call 90; refine (C1 _).mono ?_; rintro e w1 ⟨rfl, rfl⟩) | (go_at_call 89; refine (C2 _).mono ?_; rintro e w1 ⟨rfl, rfl⟩))
          go_roundg g'
          case measure => omega
          case rel => exact ⟨pos + K, O ++ Lib.encodeRune F, by rw [← hS.out]; exact hit2, hbw2, by omega, by rw [hou.out], hall2.out, hmap2.out⟩
      · have hnx : ∀ ty, (Instr.next (.pointer (some ⟨w.heap.size, 0, none⟩)) true ty).run Tryd.prog wr = _ := fun ty => Lib.run_next_end_at wr w.heap.size S pos ty hit hps
        have hd : s.drop pos = [] := List.drop_eq_nil_of_le (by omega)
        rw [hd] at hall hmap
        rw [Lib.mapD_nil, List.append_nil] at hmap
        have hI2 := Go.Lib.hid (hI.out.trans (by rw [← hall, ← hmap]; rfl : _ = (O, (0 : Int))))
        clear hI hall hmap hd
        go_wp2_with fail
        go_ret2
        rw [hI2.out]
        exact ⟨rfl, hbw⟩
end Go.Proofs.YtfnlcnjflloecaaDoor
