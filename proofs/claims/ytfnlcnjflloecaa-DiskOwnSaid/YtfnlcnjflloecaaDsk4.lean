/- disk.named, the disk's names. -/
import Derived.Test.YtfnlcnjflloecaaDsk3
set_option linter.unusedVariables false
set_option linter.unusedSimpArgs false
set_option linter.unnecessarySimpa false
namespace Go.Proofs.Ytfnlcnjflloecaa
open Go.RowKit
def NdRel (w : World) (l : List (List UInt8)) (R : Bool) (i : Value) (wr : World) : Prop := ∃ j : Nat, j ≤ l.length ∧ i = .int .i64 (j : Int) ∧ (l.drop j).all rightD = R ∧ Below w.heap.size w wr
set_option maxRecDepth 100000 in
set_option maxHeartbeats 1600000 in
theorem named_c (v : Value) (l : List (List UInt8)) (w : World) (h : RdT w v l) (hl : ∀ x ∈ l, x.length ≤ 9223372036854775807) :
    Calls Try.prog 28 #[v] w fun e w' => ((l.all rightD = true ∧ e = .returned (.tuple #[])) ∨ (l.all rightD = false ∧ e = .panicked (chainDk 4))) ∧ Below w.heap.size w w' := by
  obtain ⟨A, c, rfl, h1, h2, h3⟩ := h.open
  have hlen := h.len_le
  obtain ⟨R, hR⟩ : ∃ R, l.all rightD = R := ⟨_, rfl⟩
  rw [hR]
  replace hR := Go.Lib.hid hR
  go_enter Try.func28, Try.ntmps28
  go_wp2_with fail
  go_loopw [6] (NdRel w l R) (fun i _ => l.length - (intOf i).toNat)
  case atStart => exact ⟨0, by omega, rfl, hR.out, Below.refl _ _⟩
  case round =>
    obtain ⟨j, hj, rfl, hE, hb⟩ := hrel
    clear hR
    by_cases hlt : j < l.length
    · have q1 : (j : Int) < l.length := by omega
      obtain ⟨b, off, rfl, hbl, hc⟩ := h3 (by omega)
      have hcj : _ = some _ := (hb.cell (p := ⟨b, off + j, none⟩) hbl).trans (hc j hlt)
      rw [List.drop_eq_getElem_cons hlt, List.all_cons] at hE
      have T := fun wr => right_c l[j] wr (hl _ (List.getElem_mem hlt))
      generalize l[j] = X at *
      clear h3 hc
      cases hr : rightD X
      · rw [hr] at hE T
        have hE2 : R = false := hE.symm
        subst hE2
        go_wp2_with fail
        refine (T _).mono ?_; rintro e w1 ⟨rfl, hb1⟩
        go_wp2_with fail
        refine (dkmust_bad 4 _).mono ?_; rintro e w2 ⟨rfl, rfl⟩
        go_wp2_with fail
        exact ⟨rfl, rfl, below_below hb hb1⟩
      · rw [hr, Bool.true_and] at hE
        rw [hr] at T
        replace hE := Go.Lib.hid hE
        go_wp2_with fail
        refine (T _).mono ?_; rintro e w1 ⟨rfl, hb1⟩
        go_wp2_with fail
        refine (dkmust_ok 4 _).mono ?_; rintro e w2 ⟨rfl, rfl⟩
        go_wp2_with fail
        exact ⟨⟨j + 1, by omega, by go_num, hE.out, below_below hb hb1⟩, by simp [intOf]; omega⟩
    · have q1 : ¬ (j : Int) < l.length := by omega
      rw [List.drop_eq_nil_of_le (by omega)] at hE
      have hE2 : R = true := hE.symm
      subst hE2
      go_wp2_with fail
      exact bodyPost_end (results_none rfl _ _ _) rfl ⟨rfl, hb⟩
theorem ownsRow_low {w : World} {base base' : Nat} {e : TypeId} {size : Nat} {v : Value} {n : Nat} {xs : List Value} (h : w.ownsRow base e size v n xs) (hb : base' ≤ base) : w.ownsRow base' e size v n xs := by
  obtain ⟨h1, h2⟩ := h
  refine ⟨h1, ?_⟩
  rcases h2 with h2 | ⟨g, cap, cur, a, b, c⟩
  · exact .inl h2
  · exact .inr ⟨g, cap, cur, a, by omega, c⟩
theorem names_nodup {fs : List FileE} (hu : upF fs) : (namesF fs).Nodup := (upF_names.1 hu).imp fun h => ne_of_name_lt h
theorem names_sorted {fs : List FileE} (hu : upF fs) : (namesF fs).mergeSort (fun x y => decide (x ≤ y)) = namesF fs :=
  List.mergeSort_of_pairwise ((upF_names.1 hu).imp fun h => decide_eq_true (List.le_of_lt h))
theorem mem_names {fs : List FileE} (s : List UInt8) : s ∈ namesF fs ↔ (lookF fs s).isSome = true := by
  constructor
  · intro h
    cases hl : lookF fs s with
    | some f => rfl
    | none =>
      obtain ⟨f, hf, e⟩ := List.mem_map.1 h
      exact absurd e (lookF_none.1 hl f hf)
  · intro h
    obtain ⟨f, hf⟩ := Option.isSome_iff_exists.1 h
    obtain ⟨h1, h2⟩ := lookF_some hf
    exact List.mem_map.2 ⟨f, h1, h2⟩
set_option maxHeartbeats 1600000 in
theorem names_c (p r : Nat) (rest : List Value) (G : List UInt8 → Nat) (fs : List FileE) (w : World) (h : Blk w p 68 (.map (some r) :: rest)) (hm : MapK w r (ptrK G fs)) (hu : upF fs) (hl : fs.length ≤ 1099511627776) (hn : ∀ f ∈ fs, f.name.length ≤ 64) :
    Calls Try.prog 44 #[.pointer (some ⟨p, 0, none⟩)] w fun e w' => ∃ u, e = .returned u ∧ OwnT w' w.heap.size u (namesF fs) ∧ Below w.heap.size w w' := by
  have hlen : (namesF fs).length = fs.length := by simp [namesF]
  obtain ⟨D, h1, h2, h3⟩ := hm.owns (P := Try.prog) Try.underlying9 (names_nodup hu) (fun s => by
    rw [mem_names]
    show _ ↔ (((lookF fs (strB s).data.toList).map fun _ => Value.pointer (some ⟨G (strB s).data.toList, 0, none⟩))).isSome = true
    rw [Option.isSome_map]; rfl) (fun s hs => by
    obtain ⟨f, hf, rfl⟩ := List.mem_map.1 hs
    have := hn f hf
    unfold maxLen; omega) (by unfold maxLen; omega)
  have c0 : _ = some (Value.map (some r)) := h.cell 0
  have KY := fun w1 => callsIn_wide.1 (Try.maps_Keys_53 (some r) w1)
  have KS := callsIn_wide.1 (Try.slices_Sorted_keys_52_53 r _ D anyR w h1 (by rw [h2]; unfold maxLen; omega) (by rw [h2]; omega))
  have hsrt : ∀ ss : List (List UInt8), ss.Perm (strKeys D) → ss.mergeSort (fun x y => decide (x ≤ y)) = namesF fs ∧ ss.length = (namesF fs).length := fun ss hs => by
    have hp := hs.trans h3
    exact ⟨(mergeSort_of_perm hp).trans (names_sorted hu), hp.length_eq⟩
  clear h1 h2 h3 hm
  generalize namesF fs = NS at *
  replace hsrt := Go.Lib.hid hsrt
  have hz := (Below.refl w.heap.size w).alloc (Nat.le_refl _) (.cells #[.map (some r)] 66)
  go_enter Try.func44, Try.ntmps44
  go_wp2_with fail
  refine (KY _).mono ?_; rintro e w1 ⟨rfl, rfl⟩
  go_wp2_with fail
  refine KS.mono ?_; rintro e w2 ⟨u, ss, rfl, hs, ho, _, hb⟩
  obtain ⟨e1, e2⟩ := hsrt.out ss hs
  rw [e1, e2] at ho
  clear KS KY hsrt
  go_wp2_with fail
  go_ret
  exact ⟨u, rfl, ownsRow_low ho (by simp), hz.trans (hb.mono hz.size)⟩
end Go.Proofs.Ytfnlcnjflloecaa
