/- stanza: the reader's list. -/
import Derived.Test.YtocfcgjjepegmaaDoorStz1
set_option linter.unusedVariables false
set_option linter.unusedSimpArgs false
namespace Go.Proofs.YtocfcgjjepegmaaDoor
open Go.RowKit
def RdL (w : World) (p bits : Nat) (r : List (List UInt8) × List UInt8 × Int) (e : Ending) (w' : World) : Prop :=
  Chg (fun k => k = p) w w' ∧ ((r.2.2 = 0 ∧ ∃ u, e = .returned u ∧ OwnT w' w.heap.size u r.1 ∧ RdrX w' p bits r.2.1) ∨ (r.2.2 ≠ 0 ∧ e = .panicked (gaveC r.2.2)))
/-- What has been read so far: the reader's block alone has turned, but for new blocks. -/
def LiRel (w : World) (p bits n : Nat) (T : List (List UInt8) × List UInt8 × Int) (out i : Value) (wr : World) : Prop :=
  ∃ (j : Nat) (acc : List (List UInt8)) (b : List UInt8) (v : Value), j ≤ n ∧ i = .int .u64 (j : Int) ∧ acc.length = j ∧ OwnT wr w.heap.size out acc ∧
    Blk wr p 111 [v, .int .u8 (bits : Int)] ∧ Rd wr v b ∧ (∀ g, v.ownBlock = some g → p < g ∧ out.ownBlock ≠ some g) ∧ b.length ≤ 10000000 ∧ textsI (n - j) acc b = T ∧ Chg (fun k => k = p) w wr
set_option maxRecDepth 100000 in
set_option maxHeartbeats 1600000 in
theorem rlist_c (w : World) (hT : Tabs w) (p bits : Nat) (l : List UInt8) (h : RdrAt w p bits l) (hl : l.length ≤ 10000000) (hTp : ∀ w', Chg (fun k => k = p) w w' → Tabs w') :
    Calls Tryd.prog 75 #[.pointer (some ⟨p, 0, none⟩)] w (RdL w p bits (listI l)) := by
  have hpl := h.lt
  have U := ruint_c w p bits l h hl
  have hI : listI l = if (uintI l).2.2 = 0 then
    if 64 < (uintI l).1 then ([], [], 5) else if (uintI l).1 = 0 then ([], [], 2) else textsI (uintI l).1 [] (uintI l).2.1
  else ([], [], (uintI l).2.2) := rfl
  have hr := uintI_rest l
  generalize listI l = I at *
  generalize uintI l = r at *
  obtain ⟨n, l1, e1⟩ := r
  simp only at U hI hr
  by_cases he : e1 = 0
  · subst he
    rw [if_pos rfl] at hI
    by_cases h64 : 64 < n
    · rw [if_pos h64] at hI
      subst hI
      have q : decide ((n : Int) ≤ 64) = false := decide_eq_false (by omega)
      go_enter Tryd.func75, Tryd.ntmps75
      have c0 : True := trivial
      go_wp2_with (first
        | (have _t := c0; go_at_call 71; refine U.mono ?_; rintro e w1 ⟨hc, ⟨_, rfl, hr1⟩ | ⟨hx, _⟩⟩ <;> first | exact absurd rfl hx | skip; clear c0; have c1 : True := trivial)
        | (have _t := c1; go_at_call 72; refine (must_bad 5 (by omega) _).mono ?_; rintro e w2 ⟨rfl, rfl⟩; clear c1; have c2 : True := trivial))
      exact ⟨rfl, hc, .inr ⟨by simp, rfl⟩⟩
    rw [if_neg h64] at hI
    have q : decide ((n : Int) ≤ 64) = true := decide_eq_true (by omega)
    by_cases h0 : n = 0
    · subst h0
      rw [if_pos rfl] at hI
      subst hI
      clear q h64 hr
      go_enter Tryd.func75, Tryd.ntmps75
      have c0 : True := trivial
      go_wp2_with (first
        | (have _t := c0; go_at_call 71; refine U.mono ?_; rintro e w1 ⟨hc, ⟨_, rfl, hr1⟩ | ⟨hx, _⟩⟩ <;> first | exact absurd rfl hx | skip; clear c0; have c1 : True := trivial)
        | (have _t := c1; go_at_call 72; refine (must_ok 5 _).mono ?_; rintro e w2 ⟨rfl, rfl⟩; clear c1; have c2 : True := trivial))
      go_loopw [11] (fun i wr => i = .int .u64 0 ∧ wr = w1) (fun _ _ => 0)
      case atStart => exact ⟨rfl, rfl⟩
      case round =>
        obtain ⟨rfl, rfl⟩ := hrel
        have c0 : True := trivial
        go_wp2_with (first
          | (have _t := c0; go_at_call 72; refine (must_bad 2 (by omega) _).mono ?_; rintro e w2 ⟨rfl, rfl⟩; clear c0; have c1 : True := trivial))
        exact ⟨rfl, hc, .inr ⟨by simp, rfl⟩⟩
    rw [if_neg h0] at hI
    have q2 : decide ((0 : Int) < n) = true := decide_eq_true (by omega)
    have q4 : decide (0 < n) = true := decide_eq_true (by omega)
    go_enter Tryd.func75, Tryd.ntmps75
    have c0 : True := trivial
    go_wp2_with (first
      | (have _t := c0; go_at_call 71; refine U.mono ?_; rintro e w1 ⟨hc, ⟨_, rfl, hr1⟩ | ⟨hx, _⟩⟩ <;> first | exact absurd rfl hx | skip; clear c0; have c1 : True := trivial)
      | (have _t := c1; go_at_call 72; refine (must_ok 5 _).mono ?_; rintro e w2 ⟨rfl, rfl⟩; clear c1; have c2 : True := trivial))
    obtain ⟨T, hT0⟩ : ∃ T, T = textsI n [] l1 := ⟨_, rfl⟩
    rw [← hT0] at hI
    subst hI
    replace hT0 := Go.Lib.hid hT0
    go_loopw [4, 11] (LiRel w p bits n I) (fun _ i _ => n - (intOf i).toNat)
    case atStart =>
      obtain ⟨v, k1, k2, k3, k4⟩ := hr1
      exact ⟨0, [], l1, v, by omega, rfl, rfl, OwnT.nil _ _, k1, k2, fun g hg => ⟨by have := (k4 g hg).1; omega, by simp [Value.ownBlock]⟩, by omega, hT0.out.symm, hc⟩
    clear hr1 hT0 hr U
    case round =>
      obtain ⟨j, acc, b, v, hj, rfl, hja, ho, k1, k2, k3, hbl, hI, hcr⟩ := hrel
      by_cases hlt : j < n
      · have q3 : (j : Int) < n := by omega
        have TX := rtext_c wr (hTp wr hcr) p bits b ⟨v, k1, k2, fun _ g hg => by have := (k3 g hg).1; omega⟩ hbl
        have hrest := textI_rest b 1024
        obtain ⟨m, hm⟩ : ∃ m, n - j = m + 1 := ⟨n - j - 1, by omega⟩
        have hm2 : n - (j + 1) = m := by omega
        rw [hm] at hI
        have hI2 : I = if (textI b 1024).2.2 = 0 then textsI m (acc ++ [(textI b 1024).1]) (textI b 1024).2.1 else ([], [], (textI b 1024).2.2) := by rw [← hI]; rfl
        clear hI hm
        generalize textI b 1024 = r at *
        obtain ⟨s, l2, e2⟩ := r
        simp only at TX hI2 hrest
        have hz := hcr.size
        by_cases he2 : e2 = 0
        · subst he2
          rw [if_pos rfl] at hI2
          replace hI2 := Go.Lib.hid hI2
          replace hm2 := Go.Lib.hid hm2
          have hal : acc.length + 1 ≤ 1000000 := by omega
          replace hja := Go.Lib.hid hja
          unfold sv at TX
          clear k1 k2 k3
          have c0 : True := trivial
          go_wp2_with (first
            | (have _t := c0; go_at_call 125; refine TX.mono ?_; rintro e w2 ⟨hc2, ⟨_, rfl, hr2⟩ | ⟨hx, _⟩⟩ <;> first | exact absurd rfl hx | skip; have ho2 : OwnT w2 w.heap.size _ acc := ho.chg hc2 (fun g hg e => by have := ho.base_le g hg; omega); have hz2 := hc2.size; clear c0; have c1 : True := trivial)
            | (have _t := c1; at_builtin; refine wpList_appT rfl _ _ rfl (by with_unfolding_all (conv => lhs; whnf)) (ho2.below ((Below.refl _ _).alloc (Nat.le_refl _) _)) (by with_unfolding_all (conv => lhs; whnf)) (rdT_one _ _ s) (by simp; omega) (by simp; omega) ?_; intro v3 w3 ho3 hg3 hb3; clear c1; have c2 : True := trivial))
          obtain ⟨v2, k1, k2, k3, k4⟩ := hr2
          have hBl := (Below.refl w2.heap.size w2).alloc (Nat.le_refl _) (.cells #[.string (strB s)] 9)
          have hpne : u4.ownBlock ≠ some p := fun e => by have := ho2.base_le p e; omega
          have ovne : ∀ g, v2.ownBlock = some g → u4.ownBlock ≠ some g := fun g hg e => by have := (k4 g hg).1; have := ho.lt g e; omega
          refine ⟨⟨j + 1, acc ++ [s], l2, v2, by omega, by go_num, by simp [hja.out], ho3, (k1.below hBl).grown hg3 (fun e => hpne e.symm), (k2.below hBl).grown hg3 (fun _ e => ?_), fun g hg => ⟨by have := (k4 g hg).1; omega, fun e => ?_⟩, by omega, by rw [hm2.out]; exact hI2.out.symm, ?_⟩, by simp [intOf]; omega⟩
          · have hp0 : 0 < l2.length := by assumption
            obtain ⟨A', c', rfl, _, _, hA'⟩ := k2.open
            obtain ⟨b', o', rfl, _⟩ := hA' hp0
            exact ovne b' rfl (by rw [← e]; rfl)
          · have hlt2 := (k4 g hg).2
            rcases hb3 with h | h
            · exact ovne g hg (by rw [← h]; exact e)
            · rw [e] at h
              have : some g = some (w2.heap.size + 1) := by simpa using h
              cases this
              omega
          · refine Chg.chg_trans (Chg.chg_trans hcr hc2 (fun k hk => .inr hk)) (Chg.chg_trans (M := fun k => u4.ownBlock = some k) (Chg.of_below hBl) (Chg.grown hg3 (fun k hk => hk)) (fun k hk => .inr hk)) (fun k hk => .inl (ho2.base_le k hk))
        · rw [if_neg he2] at hI2
          subst hI2
          have c0 : True := trivial
          go_wp2_with (first
            | (have _t := c0; go_at_call 125; refine TX.mono ?_; rintro e w2 ⟨hc2, ⟨hx, _⟩ | ⟨_, rfl⟩⟩ <;> first | exact absurd hx he2 | skip; clear c0; have c1 : True := trivial))
          exact ⟨rfl, Chg.chg_trans hcr hc2 (fun k hk => .inr hk), .inr ⟨he2, rfl⟩⟩
      · obtain rfl : j = n := by omega
        rw [Nat.sub_self] at hI
        have hI2 : I = (acc, b, 0) := hI.symm
        subst hI2
        have c0 : True := trivial
        go_wp2_with (first
          | (have _t := c0; go_at_call 72; refine (must_ok 2 _).mono ?_; rintro e w2 ⟨rfl, rfl⟩; clear c0; have c1 : True := trivial))
        go_ret
        exact ⟨hcr, .inl ⟨rfl, _, rfl, ho, v, k1, k2, fun g hg => (k3 g hg).1⟩⟩
  · rw [if_neg he] at hI
    subst hI
    go_enter Tryd.func75, Tryd.ntmps75
    have c0 : True := trivial
    go_wp2_with (first
      | (have _t := c0; go_at_call 71; refine U.mono ?_; rintro e w1 ⟨hc, ⟨hx, _⟩ | ⟨_, rfl⟩⟩ <;> first | exact absurd hx he | skip; clear c0; have c1 : True := trivial))
    exact ⟨rfl, hc, .inr ⟨he, rfl⟩⟩
end Go.Proofs.YtocfcgjjepegmaaDoor
