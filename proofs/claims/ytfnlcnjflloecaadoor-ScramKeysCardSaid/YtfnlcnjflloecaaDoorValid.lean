/- utf8.Valid over bytes. -/
import Derived.Test.YtfnlcnjflloecaaDoorWord
import Derived.Test.YtfnlcnjflloecaaDoorValidPure
import Derived.Deep.DeepBigQuietO
import Derived.Deep.CutBlock
import Derived.Deep.DeepCutAuto
import Derived.WalkSmall
set_option linter.unusedVariables false
set_option linter.unusedSimpArgs false
namespace Go.Proofs.YtfnlcnjflloecaaDoor
open Go.RowKit
abbrev Tabs (w : World) : Prop := Lib.Utf8Tabs 0 1 w
theorem Tabs.below {w w' : World} (h : Tabs w) (hb : Below w.heap.size w w') : Tabs w' :=
  ⟨fun c hc => by rw [hb.cell (World.block_lt_of_cell? w _ (h.1 c hc))]; exact h.1 c hc,
   fun i hi => ⟨by rw [hb.cell (World.block_lt_of_cell? w _ (h.2 i hi).1)]; exact (h.2 i hi).1, by rw [hb.cell (World.block_lt_of_cell? w _ (h.2 i hi).2)]; exact (h.2 i hi).2⟩⟩
def AscL (l : List UInt8) (k : Nat) : Prop := ∀ b ∈ l.take k, b.toNat < 128
theorem ascl_add (l : List UInt8) (a b : Nat) (ha : AscL l a) (hb : AscL (l.drop a) b) : AscL l (a + b) := by
  unfold AscL at *
  rw [List.take_add]
  intro x hx
  rcases List.mem_append.1 hx with h | h
  · exact ha x h
  · exact hb x h
theorem le8_asc (l : List UInt8) (h : 8 ≤ l.length) : (le8 l &&& 9259542123273814144 = 0) ↔ AscL l 8 := by
  have h8 : (l.take 8).length = 8 := by rw [List.length_take]; omega
  have := Lib.leNat_mask (l.take 8)
  rw [h8, Lib.maskN8] at this
  exact this
theorem valid_skip (l : List UInt8) (k : Nat) (h : AscL l k) : Lib.validD (l.drop k) = Lib.validD l := (Lib.validD_ascii k l h).symm
set_option maxRecDepth 100000 in
theorem and7v : ∀ X : Fin 256, bits .and .u8 ((X.val : Nat) : Int) 7 = ((X.val % 8 : Nat) : Int) := by decide
def VaR (w : World) (ANS : Bool) (m : Nat) (s : Value) (wr : World) : Prop := ∃ t, Rd w s t ∧ Lib.validD t = ANS ∧ t.length ≤ m ∧ Below w.heap.size w wr
theorem below_drewNb {B : Nat} {a w : World} (h : Below B a w) (n : Nat) : Below B a (w.drewN n) := h.trans ⟨rfl, rfl, rfl, Nat.le_refl _, fun _ _ => rfl⟩
set_option maxRecDepth 100000 in
set_option maxHeartbeats 16000000 in
theorem valid_c (v : Value) (l : List UInt8) (w : World) (h : Rd w v l) (hT : Tabs w) :
    Calls Tryd.prog 110 #[v] w fun e w' => e = .returned (.bool (Lib.validD l)) ∧ Below w.heap.size w w' := by
  have mixed : Tryd.prog.follows .mixedOrders = true := by kernel_rfl
  have hll := h.len_le
  obtain ⟨ANS, hANS⟩ : ∃ ANS, Lib.validD l = ANS := ⟨_, rfl⟩
  rw [hANS]
  obtain ⟨v2, hv2, hrd2⟩ : ∃ v2, (Instr.sliceAt 37 v none (some (.int .i64 l.length)) (some (.int .i64 l.length))).run Tryd.prog w = .ok v2 w ∧ Rd w v2 l := by
    obtain ⟨A, c, rfl, h1, h2, h3⟩ := h.open
    obtain ⟨i, hi', hz, hs1, hb⟩ := st8.info
    refine ⟨.slice A l.length l.length, ?_, Rd.mk rfl (Nat.le_refl _) (by omega) h3⟩
    simp [Instr.sliceAt, Instr.slice, run_underlying st8.under, Instr.sliceBounds, Instr.sliceBound, asIntOf, sizeOf, typeInfo, hi', h1]
    intro hne
    obtain ⟨b, off, rfl, _⟩ := h3 (List.length_pos_iff.2 hne)
    simp [add_lit]
  go_enter Tryd.func110, Tryd.ntmps110
  go_wp2_with (first | (with_reducible refine G_len ?_; refine L8_len Tryd.underlying37 (by with_unfolding_all (conv => lhs; whnf)) (by assumption) ?_))
  have hANS' := hANS
  clear hANS
  go_loopw [0] (fun s wr => VaR w ANS l.length s wr) (fun s _ => slen s)
  case atStart => exact ⟨l, hrd2, hANS', Nat.le_refl _, Below.refl _ _⟩
  case round =>
    clear hANS' hrd2
    obtain ⟨t, hr, hv, htl, hbw⟩ := hrel
    have hrr := hr.below hbw
    have hTr := hT.below hbw
    have hsl := hr.slen
    have hts := hr.len_le
    by_cases h0 : 0 < t.length
    · have q0 : (0 : Int) < t.length := by omega
      obtain ⟨x0, hx0⟩ : ∃ x0, t.getD 0 0 = x0 := ⟨_, rfl⟩
      have hx : bt t 0 = (x0.toNat : Int) := by unfold bt; rw [hx0]
      have hx0lt := x0.toNat_lt
      by_cases hasc : x0.toNat < 128
      · have hascz : (x0.toNat : Int) < 128 := by omega
        have a1 : AscL t 1 := by
          match t, h0, hx0 with
          | a :: r, _, hx0 => intro b hb; simp at hb hx0; rw [hb, hx0]; exact hasc
        obtain ⟨t1, ht1⟩ : ∃ t1, t.drop 1 = t1 := ⟨_, rfl⟩
        have z1 : t1.length + 1 = t.length := by rw [← ht1, List.length_drop]; omega
        have v1 : Lib.validD t1 = ANS := by rw [← ht1, valid_skip t 1 a1]; exact hv
        clear hTr hT hv a1
        by_cases c8 : 8 < t1.length
        · have c8z : (8 : Int) < (t1.length : Int) := by omega
          obtain ⟨A1, hA1⟩ : ∃ A1, le8 t1 = A1 := ⟨_, rfl⟩
          have lA1 : A1 < 18446744073709551616 := hA1 ▸ le8_lt t1
          have kA1 := le8_asc t1 (by omega)
          rw [hA1] at kA1
          have hand1 : bits .and .u64 (A1 : Int) 9259542123273814144 = ((A1 &&& 9259542123273814144 : Nat) : Int) := u64_and_nat A1 9259542123273814144 lA1 (by omega)
          obtain ⟨Z1, hZ1⟩ : ∃ Z1, A1 &&& 9259542123273814144 = Z1 := ⟨_, rfl⟩
          rw [hZ1] at hand1 kA1
          clear hZ1
          by_cases hz1 : Z1 = 0
          · have hz1b : ((Z1 : Int) == 0) = true := by simp [hz1]
            have a8 : AscL t1 8 := kA1.1 hz1
            obtain ⟨t2, ht2⟩ : ∃ t2, t1.drop 8 = t2 := ⟨_, rfl⟩
            have z2 : t2.length + 8 = t1.length := by rw [← ht2, List.length_drop]; omega
            have v2 : Lib.validD t2 = ANS := by rw [← ht2, valid_skip t1 8 a8]; exact v1
            clear kA1 a8 v1
            have tok0 : True := trivial
            go_upto_region 8 with (first
              | (have _t := tok0; (with_reducible refine G_index ?_; refine L8_index st8 (i := 0) (by with_unfolding_all (conv => lhs; whnf)) (by assumption) (by with_unfolding_all (conv => lhs; whnf)) (by omega) (by omega) ?_); intro b o hbo hcl; rw [hx] at hcl; clear hrr; clear tok0; have tok1 : True := trivial)
              | ((with_reducible refine G_len ?_; refine L8_len Tryd.underlying37 (by with_unfolding_all (conv => lhs; whnf)) (by assumption) ?_))
              | (have _t := tok1; (with_reducible refine G_slice ?_; refine L8_slice_l st8 (lo := 1) (by with_unfolding_all (conv => lhs; whnf)) (by assumption) (by with_unfolding_all (conv => lhs; whnf)) (by omega) (by omega) ?_); intro u1 r1 _; rw [ht1] at r1; obtain ⟨b1, o1, cc1, e1, hc1, hm1, s1⟩ := r1.sp (by omega); subst e1; clear tok1; have tok2 : True := trivial)
              | (have _t := tok2; go_at_call 138; have W1 := word_c _ b1 o1 _ cc1 t1 (s1.below hbw) (by omega) hc1; rw [hA1] at W1; refine W1.mono ?_; clear W1; rintro e w' ⟨rfl, q1, rfl⟩; have hbq := below_drewNb hbw q1; generalize wr.drewN q1 = wq at hbq ⊢; clear tok2; have tok3 : True := trivial)
              | (have _t := tok3; clear hr; (with_reducible refine G_slice ?_; refine L8_slice_l st8 (lo := 8) (by with_unfolding_all (conv => lhs; whnf)) (by assumption) (by with_unfolding_all (conv => lhs; whnf)) (by omega) (by omega) ?_); intro u2 r2 _; rw [ht2] at r2; obtain ⟨b2, o2, cc2, e2, hc2, hm2, s2⟩ := r2.sp (by omega); subst e2; clear tok3; have tok4 : True := trivial))
            clear c8z hand1 hz1b lA1 hA1
            by_cases c16 : 16 < t2.length
            · have c16z : (16 : Int) < (t2.length : Int) := by omega
              have s8z : (8 : Int) ≤ (t2.length : Int) := by omega
              have s8n : 8 ≤ t2.length := by omega
              have e8 : ¬ (cc2 = 8) := by omega
              have e8' : ¬ (cc2 - 8 = 0) := by omega
              obtain ⟨A2, hA2⟩ : ∃ A2, le8 t2 = A2 := ⟨_, rfl⟩
              have lA2 : A2 < 18446744073709551616 := hA2 ▸ le8_lt t2
              have sq2 : ∀ n, Sp (wq.drewN n) b2 o2 t2.length t2 := fun n => s2.below (below_drewNb hbq n)
              have cW2 : ∀ n, Calls Tryd.prog 138 #[.slice (some ⟨b2, o2, none⟩) t2.length cc2] (wq.drewN n) fun e w' => e = .returned (.int .u64 A2) ∧ ∃ q, w' = (wq.drewN n).drewN q := fun n => by rw [← hA2]; exact word_c _ _ _ _ _ _ (sq2 n) (by omega) hc2
              have kA2 := le8_asc t2 (by omega)
              rw [hA2] at kA2
              obtain ⟨A3, hA3⟩ : ∃ A3, le8 (t2.drop 8) = A3 := ⟨_, rfl⟩
              have lA3 : A3 < 18446744073709551616 := hA3 ▸ le8_lt _
              have cW3 : ∀ n, Calls Tryd.prog 138 #[.slice (some ⟨b2, o2 + 8, none⟩) (t2.length - 8) (cc2 - 8)] (wq.drewN n) fun e w' => e = .returned (.int .u64 A3) ∧ ∃ q, w' = (wq.drewN n).drewN q := fun n => by rw [← hA3]; exact word_c _ _ _ _ _ _ (sq2 n).drop (by omega) (by omega)
              have kA3 := le8_asc (t2.drop 8) (by rw [List.length_drop]; omega)
              rw [hA3] at kA3
              have hor2 : bits .or .u64 (A2 : Int) (A3 : Int) = ((A2 ||| A3 : Nat) : Int) := u64_or_nat A2 A3 lA2 lA3
              have lor2 : A2 ||| A3 < 18446744073709551616 := Nat.or_lt_two_pow (n := 64) lA2 lA3
              have hand2 : bits .and .u64 ((A2 ||| A3 : Nat) : Int) 9259542123273814144 = (((A2 ||| A3) &&& 9259542123273814144 : Nat) : Int) := u64_and_nat _ 9259542123273814144 lor2 (by omega)
              have k2 : (A2 ||| A3) &&& 9259542123273814144 = 0 → AscL t2 16 := fun h0' => by
                obtain ⟨e1, e2⟩ := (Lib.or_mask A2 A3 _).1 h0'
                exact ascl_add t2 8 8 (kA2.1 e1) (kA3.1 e2)
              obtain ⟨O2, hO2⟩ : ∃ O2, A2 ||| A3 = O2 := ⟨_, rfl⟩
              rw [hO2] at hor2 hand2 k2
              obtain ⟨Z2, hZ2⟩ : ∃ Z2, O2 &&& 9259542123273814144 = Z2 := ⟨_, rfl⟩
              rw [hZ2] at hand2 k2
              clear kA2 kA3 lor2 hO2 hZ2 sq2 cW2 cW3
              by_cases hz2 : Z2 = 0
              · have hz2b : ((Z2 : Int) == 0) = true := by simp [hz2]
                have a16 := k2 hz2
                obtain ⟨t3, ht3⟩ : ∃ t3, t2.drop 16 = t3 := ⟨_, rfl⟩
                have z3 : t3.length + 16 = t2.length := by rw [← ht3, List.length_drop]; omega
                have v3 : Lib.validD t3 = ANS := by rw [← ht3, valid_skip t2 16 a16]; exact v2
                clear k2 a16 v2
                have sg2 : Sp wq.drew b2 o2 t2.length t2 := s2.below hbq.drew
                (refine region_making 13 (fun _ => []) (fun _ => none) (by kernel_rfl) (by kernel_rfl) ?_ ?_; (focus (intro i' S' h' e v'; cases h')); simp only [List.take_succ_cons, List.take_zero, List.drop_succ_cons, List.drop_zero])
                (apply wpG_pure; (focus rfl); (focus (intro wg Bg hbg hBg hFg; go_simp; (try go_bits); (first | done | exact ⟨rfl, Below.refl _ _⟩ | rfl))); simp only [Act.put, List.setIfInBounds_toArray, List.set_cons_succ, List.set_cons_zero])
                (apply wpG_pure; (focus rfl); (focus (intro wg Bg hbg hBg hFg; go_simp; (try go_bits); (first | done | exact ⟨rfl, Below.refl _ _⟩ | rfl))); simp only [Act.put, List.setIfInBounds_toArray, List.set_cons_succ, List.set_cons_zero])
                (apply wpG_pure; (focus rfl); (focus (intro wg Bg hbg hBg hFg; go_simp; (try go_bits); (first | done | exact ⟨rfl, Below.refl _ _⟩ | rfl))); simp only [Act.put, List.setIfInBounds_toArray, List.set_cons_succ, List.set_cons_zero])
                (apply wpG_pure; (focus rfl); (focus (intro wg Bg hbg hBg hFg; go_simp; (try go_bits); (first | done | exact ⟨rfl, Below.refl _ _⟩ | rfl))); simp only [Act.put, List.setIfInBounds_toArray, List.set_cons_succ, List.set_cons_zero])
                (apply wpG_pure; (focus rfl); (focus (intro wg Bg hbg hBg hFg; go_simp; (try go_bits); (first | done | exact ⟨rfl, Below.refl _ _⟩ | rfl))); simp only [Act.put, List.setIfInBounds_toArray, List.set_cons_succ, List.set_cons_zero])
                (apply wpG_pure; (focus rfl); (focus (intro wg Bg hbg hBg hFg; go_simp; (try refine ⟨by kernel_rfl, ?_⟩); go_at_call 138; exact Calls.mono ((by have W := word_b wg b2 o2 _ cc2 t2 (sg2.below hbg) (by omega) hc2; rw [hA2] at W; exact W)) (fun e w' h => (by obtain ⟨rfl, hb⟩ := h; exact ⟨rfl, hb⟩)))); simp only [Act.put, List.setIfInBounds_toArray, List.set_cons_succ, List.set_cons_zero])
                (apply wpG_pure; (focus rfl); (focus (intro wg Bg hbg hBg hFg; go_simp; (try go_bits); (first | done | exact ⟨rfl, Below.refl _ _⟩ | rfl))); simp only [Act.put, List.setIfInBounds_toArray, List.set_cons_succ, List.set_cons_zero])
                (apply wpG_pure; (focus rfl); (focus (intro wg Bg hbg hBg hFg; go_simp; (try go_bits); (first | done | exact ⟨rfl, Below.refl _ _⟩ | rfl))); simp only [Act.put, List.setIfInBounds_toArray, List.set_cons_succ, List.set_cons_zero])
                (apply wpG_pure; (focus rfl); (focus (intro wg Bg hbg hBg hFg; go_simp; (try refine ⟨by kernel_rfl, ?_⟩); go_at_call 138; exact Calls.mono ((by have W := word_b wg b2 (o2 + 8) _ (cc2 - 8) (t2.drop 8) (sg2.below hbg).drop (by omega) (by omega); rw [hA3] at W; exact W)) (fun e w' h => (by obtain ⟨rfl, hb⟩ := h; exact ⟨rfl, hb⟩)))); simp only [Act.put, List.setIfInBounds_toArray, List.set_cons_succ, List.set_cons_zero])
                repeat (apply wpG_pure; (focus rfl); (focus (intro wg Bg hbg hBg hFg; go_simp; (try go_bits); (first | done | exact ⟨rfl, Below.refl _ _⟩ | rfl))); simp only [Act.put, List.setIfInBounds_toArray, List.set_cons_succ, List.set_cons_zero])
                refine wpG_end (fun wq2 Bg hbg hBg hFg => ?_)
                have hb2 := below_below hbq.drew hbg
                clear hor2 hand2 hz2b e8 e8' hbq sg2 hA2 hA3 hbg hBg hFg
                have tok0 : True := trivial
                go_wp2_with (first
                  | (have _t := tok0; (with_reducible refine G_slice ?_; refine L8_slice_l st8 (lo := 16) (by with_unfolding_all (conv => lhs; whnf)) (by assumption) (by with_unfolding_all (conv => lhs; whnf)) (by omega) (by omega) ?_); intro u3 r3 _; rw [ht3] at r3; clear tok0; have tok1 : True := trivial))
                go_loopw [0] (fun s wr' => VaR w ANS t3.length s wr') (fun s _ => slen s)
                case atStart => exact ⟨t3, r3, v3, Nat.le_refl _, hb2⟩
                case round =>
                  clear hb2 r3
                  obtain ⟨u, hu, vu, hut, hbu⟩ := hrel
                  by_cases c32 : 32 < u.length
                  · have c32z : (32 : Int) < (u.length : Int) := by omega
                    obtain ⟨b3, o3, cc3, e3, hc3, hm3, s3⟩ := hu.sp (by omega)
                    subst e3
                    have n8 : 8 ≤ u.length := by omega
                    have n16 : 16 ≤ u.length := by omega
                    have n24 : 24 ≤ u.length := by omega
                    have i8 : (8 : Int) ≤ (u.length : Int) := by omega
                    have i16 : (16 : Int) ≤ (u.length : Int) := by omega
                    have i24 : (24 : Int) ≤ (u.length : Int) := by omega
                    have e8 : ¬ (cc3 = 8) := by omega
                    have e8' : ¬ (cc3 - 8 = 0) := by omega
                    have e16 : ¬ (cc3 = 16) := by omega
                    have e16' : ¬ (cc3 - 16 = 0) := by omega
                    have e24 : ¬ (cc3 = 24) := by omega
                    have e24' : ¬ (cc3 - 24 = 0) := by omega
                    obtain ⟨B0, hB0⟩ : ∃ B, le8 u = B := ⟨_, rfl⟩
                    have lB0 : B0 < 18446744073709551616 := hB0 ▸ le8_lt _
                    have kB0 := le8_asc u (by omega)
                    rw [hB0] at kB0
                    obtain ⟨B1, hB1⟩ : ∃ B, le8 (u.drop 8) = B := ⟨_, rfl⟩
                    have lB1 : B1 < 18446744073709551616 := hB1 ▸ le8_lt _
                    have kB1 := le8_asc (u.drop 8) (by rw [List.length_drop]; omega)
                    rw [hB1] at kB1
                    obtain ⟨B2, hB2⟩ : ∃ B, le8 (u.drop 16) = B := ⟨_, rfl⟩
                    have lB2 : B2 < 18446744073709551616 := hB2 ▸ le8_lt _
                    have kB2 := le8_asc (u.drop 16) (by rw [List.length_drop]; omega)
                    rw [hB2] at kB2
                    obtain ⟨B3, hB3⟩ : ∃ B, le8 (u.drop 24) = B := ⟨_, rfl⟩
                    have lB3 : B3 < 18446744073709551616 := hB3 ▸ le8_lt _
                    have kB3 := le8_asc (u.drop 24) (by rw [List.length_drop]; omega)
                    rw [hB3] at kB3
                    have ho1 : bits .or .u64 (B0 : Int) (B1 : Int) = ((B0 ||| B1 : Nat) : Int) := u64_or_nat B0 B1 lB0 lB1
                    have ho2 : bits .or .u64 (B2 : Int) (B3 : Int) = ((B2 ||| B3 : Nat) : Int) := u64_or_nat B2 B3 lB2 lB3
                    have lo1 : B0 ||| B1 < 18446744073709551616 := Nat.or_lt_two_pow (n := 64) lB0 lB1
                    have lo2 : B2 ||| B3 < 18446744073709551616 := Nat.or_lt_two_pow (n := 64) lB2 lB3
                    have ho3 : bits .or .u64 ((B0 ||| B1 : Nat) : Int) ((B2 ||| B3 : Nat) : Int) = (((B0 ||| B1) ||| (B2 ||| B3) : Nat) : Int) := u64_or_nat _ _ lo1 lo2
                    have lo3 : (B0 ||| B1) ||| (B2 ||| B3) < 18446744073709551616 := Nat.or_lt_two_pow (n := 64) lo1 lo2
                    have hand3 : bits .and .u64 (((B0 ||| B1) ||| (B2 ||| B3) : Nat) : Int) 9259542123273814144 = ((((B0 ||| B1) ||| (B2 ||| B3)) &&& 9259542123273814144 : Nat) : Int) := u64_and_nat _ 9259542123273814144 lo3 (by omega)
                    have k3 : ((B0 ||| B1) ||| (B2 ||| B3)) &&& 9259542123273814144 = 0 → AscL u 32 := fun h0' => by
                      obtain ⟨e01, e23⟩ := (Lib.or_mask _ _ _).1 h0'
                      obtain ⟨e0, e1⟩ := (Lib.or_mask _ _ _).1 e01
                      obtain ⟨e2, e3⟩ := (Lib.or_mask _ _ _).1 e23
                      have s16 : AscL u 16 := ascl_add u 8 8 (kB0.1 e0) (kB1.1 e1)
                      have s24 : AscL u 24 := ascl_add u 16 8 s16 (kB2.1 e2)
                      exact ascl_add u 24 8 s24 (kB3.1 e3)
                    obtain ⟨P1, hP1⟩ : ∃ P1, B0 ||| B1 = P1 := ⟨_, rfl⟩
                    obtain ⟨P2, hP2⟩ : ∃ P2, B2 ||| B3 = P2 := ⟨_, rfl⟩
                    rw [hP1, hP2] at ho3 hand3 k3
                    rw [hP1] at ho1
                    rw [hP2] at ho2
                    obtain ⟨P3, hP3⟩ : ∃ P3, P1 ||| P2 = P3 := ⟨_, rfl⟩
                    rw [hP3] at ho3 hand3 k3
                    obtain ⟨Z3, hZ3⟩ : ∃ Z3, P3 &&& 9259542123273814144 = Z3 := ⟨_, rfl⟩
                    rw [hZ3] at hand3 k3
                    clear kB0 kB1 kB2 kB3 lo1 lo2 lo3 hP1 hP2 hP3 hZ3
                    have sg3 : Sp wr.drew b3 o3 u.length u := s3.below hbu.drew
                    by_cases hz3 : Z3 = 0
                    · as_aux_lemma =>
                        have hz3b : ((Z3 : Int) == 0) = true := by simp [hz3]
                        have a32 := k3 hz3
                        obtain ⟨u2, hu2⟩ : ∃ u2, u.drop 32 = u2 := ⟨_, rfl⟩
                        have zu2 : u2.length + 32 = u.length := by rw [← hu2, List.length_drop]; omega
                        have vu2 : Lib.validD u2 = ANS := by rw [← hu2, valid_skip u 32 a32]; exact vu
                        go_wp2_with fail
                        (refine region_making 21 (fun _ => []) (fun _ => none) (by kernel_rfl) (by kernel_rfl) ?_ ?_; (focus (intro i' S' h' e v'; cases h')); simp only [List.take_succ_cons, List.take_zero, List.drop_succ_cons, List.drop_zero])
                        (apply wpG_pure; (focus rfl); (focus (intro wg Bg hbg hBg hFg; go_simp; (try go_bits); (first | done | exact ⟨rfl, Below.refl _ _⟩ | rfl))); simp only [Act.put, List.setIfInBounds_toArray, List.set_cons_succ, List.set_cons_zero])
                        (apply wpG_pure; (focus rfl); (focus (intro wg Bg hbg hBg hFg; go_simp; (try go_bits); (first | done | exact ⟨rfl, Below.refl _ _⟩ | rfl))); simp only [Act.put, List.setIfInBounds_toArray, List.set_cons_succ, List.set_cons_zero])
                        (apply wpG_pure; (focus rfl); (focus (intro wg Bg hbg hBg hFg; go_simp; (try go_bits); (first | done | exact ⟨rfl, Below.refl _ _⟩ | rfl))); simp only [Act.put, List.setIfInBounds_toArray, List.set_cons_succ, List.set_cons_zero])
                        (apply wpG_pure; (focus rfl); (focus (intro wg Bg hbg hBg hFg; go_simp; (try go_bits); (first | done | exact ⟨rfl, Below.refl _ _⟩ | rfl))); simp only [Act.put, List.setIfInBounds_toArray, List.set_cons_succ, List.set_cons_zero])
                        (apply wpG_pure; (focus rfl); (focus (intro wg Bg hbg hBg hFg; go_simp; (try go_bits); (first | done | exact ⟨rfl, Below.refl _ _⟩ | rfl))); simp only [Act.put, List.setIfInBounds_toArray, List.set_cons_succ, List.set_cons_zero])
                        (apply wpG_pure; (focus rfl); (focus (intro wg Bg hbg hBg hFg; go_simp; (try refine ⟨by kernel_rfl, ?_⟩); go_at_call 138; exact Calls.mono ((by have W := word_b wg b3 o3 _ cc3 u (sg3.below hbg) (by omega) (by omega); rw [hB0] at W; exact W)) (fun e w' h => (by obtain ⟨rfl, hb⟩ := h; exact ⟨rfl, hb⟩)))); simp only [Act.put, List.setIfInBounds_toArray, List.set_cons_succ, List.set_cons_zero])
                        (apply wpG_pure; (focus rfl); (focus (intro wg Bg hbg hBg hFg; go_simp; (try go_bits); (first | done | exact ⟨rfl, Below.refl _ _⟩ | rfl))); simp only [Act.put, List.setIfInBounds_toArray, List.set_cons_succ, List.set_cons_zero])
                        (apply wpG_pure; (focus rfl); (focus (intro wg Bg hbg hBg hFg; go_simp; (try go_bits); (first | done | exact ⟨rfl, Below.refl _ _⟩ | rfl))); simp only [Act.put, List.setIfInBounds_toArray, List.set_cons_succ, List.set_cons_zero])
                        (apply wpG_pure; (focus rfl); (focus (intro wg Bg hbg hBg hFg; go_simp; (try refine ⟨by kernel_rfl, ?_⟩); go_at_call 138; exact Calls.mono ((by have W := word_b wg b3 (o3 + 8) _ (cc3 - 8) (u.drop 8) (sg3.below hbg).drop (by omega) (by omega); rw [hB1] at W; exact W)) (fun e w' h => (by obtain ⟨rfl, hb⟩ := h; exact ⟨rfl, hb⟩)))); simp only [Act.put, List.setIfInBounds_toArray, List.set_cons_succ, List.set_cons_zero])
                        (apply wpG_pure; (focus rfl); (focus (intro wg Bg hbg hBg hFg; go_simp; (try go_bits); (first | done | exact ⟨rfl, Below.refl _ _⟩ | rfl))); simp only [Act.put, List.setIfInBounds_toArray, List.set_cons_succ, List.set_cons_zero])
                        (apply wpG_pure; (focus rfl); (focus (intro wg Bg hbg hBg hFg; go_simp; (try go_bits); (first | done | exact ⟨rfl, Below.refl _ _⟩ | rfl))); simp only [Act.put, List.setIfInBounds_toArray, List.set_cons_succ, List.set_cons_zero])
                        (apply wpG_pure; (focus rfl); (focus (intro wg Bg hbg hBg hFg; go_simp; (try go_bits); (first | done | exact ⟨rfl, Below.refl _ _⟩ | rfl))); simp only [Act.put, List.setIfInBounds_toArray, List.set_cons_succ, List.set_cons_zero])
                        (apply wpG_pure; (focus rfl); (focus (intro wg Bg hbg hBg hFg; go_simp; (try refine ⟨by kernel_rfl, ?_⟩); go_at_call 138; exact Calls.mono ((by have W := word_b wg b3 (o3 + 16) _ (cc3 - 16) (u.drop 16) (sg3.below hbg).drop (by omega) (by omega); rw [hB2] at W; exact W)) (fun e w' h => (by obtain ⟨rfl, hb⟩ := h; exact ⟨rfl, hb⟩)))); simp only [Act.put, List.setIfInBounds_toArray, List.set_cons_succ, List.set_cons_zero])
                        (apply wpG_pure; (focus rfl); (focus (intro wg Bg hbg hBg hFg; go_simp; (try go_bits); (first | done | exact ⟨rfl, Below.refl _ _⟩ | rfl))); simp only [Act.put, List.setIfInBounds_toArray, List.set_cons_succ, List.set_cons_zero])
                        (apply wpG_pure; (focus rfl); (focus (intro wg Bg hbg hBg hFg; go_simp; (try go_bits); (first | done | exact ⟨rfl, Below.refl _ _⟩ | rfl))); simp only [Act.put, List.setIfInBounds_toArray, List.set_cons_succ, List.set_cons_zero])
                        (apply wpG_pure; (focus rfl); (focus (intro wg Bg hbg hBg hFg; go_simp; (try refine ⟨by kernel_rfl, ?_⟩); go_at_call 138; exact Calls.mono ((by have W := word_b wg b3 (o3 + 24) _ (cc3 - 24) (u.drop 24) (sg3.below hbg).drop (by omega) (by omega); rw [hB3] at W; exact W)) (fun e w' h => (by obtain ⟨rfl, hb⟩ := h; exact ⟨rfl, hb⟩)))); simp only [Act.put, List.setIfInBounds_toArray, List.set_cons_succ, List.set_cons_zero])
                        repeat (apply wpG_pure; (focus rfl); (focus (intro wg Bg hbg hBg hFg; go_simp; (try go_bits); (first | done | exact ⟨rfl, Below.refl _ _⟩ | rfl))); simp only [Act.put, List.setIfInBounds_toArray, List.set_cons_succ, List.set_cons_zero])
                        refine wpG_end (fun wg Bg hbg hBg hFg => ?_)
                        have hb4 := below_below hbu.drew hbg
                        have tok0 : True := trivial
                        go_wp2_with (first
                          | (have _t := tok0; (with_reducible refine G_slice ?_; refine L8_slice_l st8 (lo := 32) (by with_unfolding_all (conv => lhs; whnf)) (by assumption) (by with_unfolding_all (conv => lhs; whnf)) (by omega) (by omega) ?_); intro u5 r5 _; rw [hu2] at r5; have l5 := r5.slen; clear tok0; have tok1 : True := trivial))
                        exact ⟨⟨u2, r5, vu2, by omega, hb4⟩, by rw [l5]; simp only [slen]; omega⟩
                    · as_aux_lemma =>
                        have hz3b : ((Z3 : Int) == 0) = false := by simp; omega
                        go_wp2_with fail
                        (refine region_making 21 (fun _ => []) (fun _ => none) (by kernel_rfl) (by kernel_rfl) ?_ ?_; (focus (intro i' S' h' e v'; cases h')); simp only [List.take_succ_cons, List.take_zero, List.drop_succ_cons, List.drop_zero])
                        (apply wpG_pure; (focus rfl); (focus (intro wg Bg hbg hBg hFg; go_simp; (try go_bits); (first | done | exact ⟨rfl, Below.refl _ _⟩ | rfl))); simp only [Act.put, List.setIfInBounds_toArray, List.set_cons_succ, List.set_cons_zero])
                        (apply wpG_pure; (focus rfl); (focus (intro wg Bg hbg hBg hFg; go_simp; (try go_bits); (first | done | exact ⟨rfl, Below.refl _ _⟩ | rfl))); simp only [Act.put, List.setIfInBounds_toArray, List.set_cons_succ, List.set_cons_zero])
                        (apply wpG_pure; (focus rfl); (focus (intro wg Bg hbg hBg hFg; go_simp; (try go_bits); (first | done | exact ⟨rfl, Below.refl _ _⟩ | rfl))); simp only [Act.put, List.setIfInBounds_toArray, List.set_cons_succ, List.set_cons_zero])
                        (apply wpG_pure; (focus rfl); (focus (intro wg Bg hbg hBg hFg; go_simp; (try go_bits); (first | done | exact ⟨rfl, Below.refl _ _⟩ | rfl))); simp only [Act.put, List.setIfInBounds_toArray, List.set_cons_succ, List.set_cons_zero])
                        (apply wpG_pure; (focus rfl); (focus (intro wg Bg hbg hBg hFg; go_simp; (try go_bits); (first | done | exact ⟨rfl, Below.refl _ _⟩ | rfl))); simp only [Act.put, List.setIfInBounds_toArray, List.set_cons_succ, List.set_cons_zero])
                        (apply wpG_pure; (focus rfl); (focus (intro wg Bg hbg hBg hFg; go_simp; (try refine ⟨by kernel_rfl, ?_⟩); go_at_call 138; exact Calls.mono ((by have W := word_b wg b3 o3 _ cc3 u (sg3.below hbg) (by omega) (by omega); rw [hB0] at W; exact W)) (fun e w' h => (by obtain ⟨rfl, hb⟩ := h; exact ⟨rfl, hb⟩)))); simp only [Act.put, List.setIfInBounds_toArray, List.set_cons_succ, List.set_cons_zero])
                        (apply wpG_pure; (focus rfl); (focus (intro wg Bg hbg hBg hFg; go_simp; (try go_bits); (first | done | exact ⟨rfl, Below.refl _ _⟩ | rfl))); simp only [Act.put, List.setIfInBounds_toArray, List.set_cons_succ, List.set_cons_zero])
                        (apply wpG_pure; (focus rfl); (focus (intro wg Bg hbg hBg hFg; go_simp; (try go_bits); (first | done | exact ⟨rfl, Below.refl _ _⟩ | rfl))); simp only [Act.put, List.setIfInBounds_toArray, List.set_cons_succ, List.set_cons_zero])
                        (apply wpG_pure; (focus rfl); (focus (intro wg Bg hbg hBg hFg; go_simp; (try refine ⟨by kernel_rfl, ?_⟩); go_at_call 138; exact Calls.mono ((by have W := word_b wg b3 (o3 + 8) _ (cc3 - 8) (u.drop 8) (sg3.below hbg).drop (by omega) (by omega); rw [hB1] at W; exact W)) (fun e w' h => (by obtain ⟨rfl, hb⟩ := h; exact ⟨rfl, hb⟩)))); simp only [Act.put, List.setIfInBounds_toArray, List.set_cons_succ, List.set_cons_zero])
                        (apply wpG_pure; (focus rfl); (focus (intro wg Bg hbg hBg hFg; go_simp; (try go_bits); (first | done | exact ⟨rfl, Below.refl _ _⟩ | rfl))); simp only [Act.put, List.setIfInBounds_toArray, List.set_cons_succ, List.set_cons_zero])
                        (apply wpG_pure; (focus rfl); (focus (intro wg Bg hbg hBg hFg; go_simp; (try go_bits); (first | done | exact ⟨rfl, Below.refl _ _⟩ | rfl))); simp only [Act.put, List.setIfInBounds_toArray, List.set_cons_succ, List.set_cons_zero])
                        (apply wpG_pure; (focus rfl); (focus (intro wg Bg hbg hBg hFg; go_simp; (try go_bits); (first | done | exact ⟨rfl, Below.refl _ _⟩ | rfl))); simp only [Act.put, List.setIfInBounds_toArray, List.set_cons_succ, List.set_cons_zero])
                        (apply wpG_pure; (focus rfl); (focus (intro wg Bg hbg hBg hFg; go_simp; (try refine ⟨by kernel_rfl, ?_⟩); go_at_call 138; exact Calls.mono ((by have W := word_b wg b3 (o3 + 16) _ (cc3 - 16) (u.drop 16) (sg3.below hbg).drop (by omega) (by omega); rw [hB2] at W; exact W)) (fun e w' h => (by obtain ⟨rfl, hb⟩ := h; exact ⟨rfl, hb⟩)))); simp only [Act.put, List.setIfInBounds_toArray, List.set_cons_succ, List.set_cons_zero])
                        (apply wpG_pure; (focus rfl); (focus (intro wg Bg hbg hBg hFg; go_simp; (try go_bits); (first | done | exact ⟨rfl, Below.refl _ _⟩ | rfl))); simp only [Act.put, List.setIfInBounds_toArray, List.set_cons_succ, List.set_cons_zero])
                        (apply wpG_pure; (focus rfl); (focus (intro wg Bg hbg hBg hFg; go_simp; (try go_bits); (first | done | exact ⟨rfl, Below.refl _ _⟩ | rfl))); simp only [Act.put, List.setIfInBounds_toArray, List.set_cons_succ, List.set_cons_zero])
                        (apply wpG_pure; (focus rfl); (focus (intro wg Bg hbg hBg hFg; go_simp; (try refine ⟨by kernel_rfl, ?_⟩); go_at_call 138; exact Calls.mono ((by have W := word_b wg b3 (o3 + 24) _ (cc3 - 24) (u.drop 24) (sg3.below hbg).drop (by omega) (by omega); rw [hB3] at W; exact W)) (fun e w' h => (by obtain ⟨rfl, hb⟩ := h; exact ⟨rfl, hb⟩)))); simp only [Act.put, List.setIfInBounds_toArray, List.set_cons_succ, List.set_cons_zero])
                        repeat (apply wpG_pure; (focus rfl); (focus (intro wg Bg hbg hBg hFg; go_simp; (try go_bits); (first | done | exact ⟨rfl, Below.refl _ _⟩ | rfl))); simp only [Act.put, List.setIfInBounds_toArray, List.set_cons_succ, List.set_cons_zero])
                        refine wpG_end (fun wg Bg hbg hBg hFg => ?_)
                        have hb4 := below_below hbu.drew hbg
                        go_wp2_with fail
                        exact ⟨⟨u, hu, vu, by omega, hb4⟩, by rw [hsl]; simp only [slen]; omega⟩
                  · as_aux_lemma =>
                      have c32z : ¬ ((32 : Int) < (u.length : Int)) := by omega
                      have c32b : decide ((32 : Int) < (u.length : Int)) = false := decide_eq_false c32z
                      have hul := hu.slen
                      go_wp2_with fail
                      (refine region_making 21 (fun _ => []) (fun _ => none) (by kernel_rfl) (by kernel_rfl) ?_ ?_; (focus (intro i' S' h' e v'; cases h')); simp only [List.take_succ_cons, List.take_zero, List.drop_succ_cons, List.drop_zero])
                      (apply wpG_pure; (focus rfl); (focus (intro wg Bg hbg hBg hFg; go_simp; (try go_bits); (first | done | exact ⟨rfl, Below.refl _ _⟩ | rfl))); simp only [Act.put, List.setIfInBounds_toArray, List.set_cons_succ, List.set_cons_zero])
                      (refine wpG_len rfl Tryd.underlying37 (by with_unfolding_all (conv => lhs; whnf)) hu ?_; simp only [Act.put, List.setIfInBounds_toArray, List.set_cons_succ, List.set_cons_zero])
                      repeat (apply wpG_pure; (focus rfl); (focus (intro wg Bg hbg hBg hFg; go_simp; (try go_bits); (first | done | exact ⟨rfl, Below.refl _ _⟩ | rfl))); simp only [Act.put, List.setIfInBounds_toArray, List.set_cons_succ, List.set_cons_zero])
                      refine wpG_end (fun wg Bg hbg hBg hFg => ?_)
                      have hb4 := below_below hbu.drew hbg
                      go_wp2_with fail
                      exact ⟨⟨u, hu, vu, by omega, hb4⟩, by rw [hsl, hul]; omega⟩
              · as_aux_lemma =>
                  have hz2b : ((Z2 : Int) == 0) = false := by simp; omega
                  have sg2 : Sp wq.drew b2 o2 t2.length t2 := s2.below hbq.drew
                  (refine region_making 13 (fun _ => []) (fun _ => none) (by kernel_rfl) (by kernel_rfl) ?_ ?_; (focus (intro i' S' h' e v'; cases h')); simp only [List.take_succ_cons, List.take_zero, List.drop_succ_cons, List.drop_zero])
                  (apply wpG_pure; (focus rfl); (focus (intro wg Bg hbg hBg hFg; go_simp; (try go_bits); (first | done | exact ⟨rfl, Below.refl _ _⟩ | rfl))); simp only [Act.put, List.setIfInBounds_toArray, List.set_cons_succ, List.set_cons_zero])
                  (apply wpG_pure; (focus rfl); (focus (intro wg Bg hbg hBg hFg; go_simp; (try go_bits); (first | done | exact ⟨rfl, Below.refl _ _⟩ | rfl))); simp only [Act.put, List.setIfInBounds_toArray, List.set_cons_succ, List.set_cons_zero])
                  (apply wpG_pure; (focus rfl); (focus (intro wg Bg hbg hBg hFg; go_simp; (try go_bits); (first | done | exact ⟨rfl, Below.refl _ _⟩ | rfl))); simp only [Act.put, List.setIfInBounds_toArray, List.set_cons_succ, List.set_cons_zero])
                  (apply wpG_pure; (focus rfl); (focus (intro wg Bg hbg hBg hFg; go_simp; (try go_bits); (first | done | exact ⟨rfl, Below.refl _ _⟩ | rfl))); simp only [Act.put, List.setIfInBounds_toArray, List.set_cons_succ, List.set_cons_zero])
                  (apply wpG_pure; (focus rfl); (focus (intro wg Bg hbg hBg hFg; go_simp; (try go_bits); (first | done | exact ⟨rfl, Below.refl _ _⟩ | rfl))); simp only [Act.put, List.setIfInBounds_toArray, List.set_cons_succ, List.set_cons_zero])
                  (apply wpG_pure; (focus rfl); (focus (intro wg Bg hbg hBg hFg; go_simp; (try refine ⟨by kernel_rfl, ?_⟩); go_at_call 138; exact Calls.mono ((by have W := word_b wg b2 o2 _ cc2 t2 (sg2.below hbg) (by omega) hc2; rw [hA2] at W; exact W)) (fun e w' h => (by obtain ⟨rfl, hb⟩ := h; exact ⟨rfl, hb⟩)))); simp only [Act.put, List.setIfInBounds_toArray, List.set_cons_succ, List.set_cons_zero])
                  (apply wpG_pure; (focus rfl); (focus (intro wg Bg hbg hBg hFg; go_simp; (try go_bits); (first | done | exact ⟨rfl, Below.refl _ _⟩ | rfl))); simp only [Act.put, List.setIfInBounds_toArray, List.set_cons_succ, List.set_cons_zero])
                  (apply wpG_pure; (focus rfl); (focus (intro wg Bg hbg hBg hFg; go_simp; (try go_bits); (first | done | exact ⟨rfl, Below.refl _ _⟩ | rfl))); simp only [Act.put, List.setIfInBounds_toArray, List.set_cons_succ, List.set_cons_zero])
                  (apply wpG_pure; (focus rfl); (focus (intro wg Bg hbg hBg hFg; go_simp; (try refine ⟨by kernel_rfl, ?_⟩); go_at_call 138; exact Calls.mono ((by have W := word_b wg b2 (o2 + 8) _ (cc2 - 8) (t2.drop 8) (sg2.below hbg).drop (by omega) (by omega); rw [hA3] at W; exact W)) (fun e w' h => (by obtain ⟨rfl, hb⟩ := h; exact ⟨rfl, hb⟩)))); simp only [Act.put, List.setIfInBounds_toArray, List.set_cons_succ, List.set_cons_zero])
                  repeat (apply wpG_pure; (focus rfl); (focus (intro wg Bg hbg hBg hFg; go_simp; (try go_bits); (first | done | exact ⟨rfl, Below.refl _ _⟩ | rfl))); simp only [Act.put, List.setIfInBounds_toArray, List.set_cons_succ, List.set_cons_zero])
                  refine wpG_end (fun wq2 Bg hbg hBg hFg => ?_)
                  have hb2 := below_below hbq.drew hbg
                  go_wp2_with fail
                  exact ⟨⟨t2, r2, v2, by omega, hb2⟩, by rw [hsl]; simp only [slen]; omega⟩
            · as_aux_lemma =>
                have c16z : ¬ ((16 : Int) < (t2.length : Int)) := by omega
                (refine region_making 13 (fun _ => []) (fun _ => none) (by kernel_rfl) (by kernel_rfl) ?_ ?_; (focus (intro i' S' h' e v'; cases h')); simp only [List.take_succ_cons, List.take_zero, List.drop_succ_cons, List.drop_zero])
                repeat (apply wpG_pure; (focus rfl); (focus (intro wg Bg hbg hBg hFg; go_simp; (try go_bits); (first | done | exact ⟨rfl, Below.refl _ _⟩ | rfl))); simp only [Act.put, List.setIfInBounds_toArray, List.set_cons_succ, List.set_cons_zero])
                refine wpG_end (fun wq2 Bg hbg hBg hFg => ?_)
                have hb2 := below_below hbq.drew hbg
                go_wp2_with fail
                exact ⟨⟨t2, r2, v2, by omega, hb2⟩, by rw [hsl]; simp only [slen]; omega⟩
          · as_aux_lemma =>
              have hz1b : ((Z1 : Int) == 0) = false := by simp; omega
              have tok0 : True := trivial
              go_wp2_with (first
                | (have _t := tok0; (with_reducible refine G_index ?_; refine L8_index st8 (i := 0) (by with_unfolding_all (conv => lhs; whnf)) (by assumption) (by with_unfolding_all (conv => lhs; whnf)) (by omega) (by omega) ?_); intro b o hbo hcl; rw [hx] at hcl; clear hrr; clear tok0; have tok1 : True := trivial)
                | ((with_reducible refine G_len ?_; refine L8_len Tryd.underlying37 (by with_unfolding_all (conv => lhs; whnf)) (by assumption) ?_))
                | (have _t := tok1; (with_reducible refine G_slice ?_; refine L8_slice_l st8 (lo := 1) (by with_unfolding_all (conv => lhs; whnf)) (by assumption) (by with_unfolding_all (conv => lhs; whnf)) (by omega) (by omega) ?_); intro u1 r1 _; rw [ht1] at r1; obtain ⟨b1, o1, cc1, e1, hc1, hm1, s1⟩ := r1.sp (by omega); subst e1; clear tok1; have tok2 : True := trivial)
                | (have _t := tok2; go_at_call 138; have W1 := word_c _ b1 o1 _ cc1 t1 (s1.below hbw) (by omega) hc1; rw [hA1] at W1; refine W1.mono ?_; clear W1; rintro e w' ⟨rfl, q1, rfl⟩; have hbq := below_drewNb hbw q1; generalize wr.drewN q1 = wq at hbq ⊢; clear tok2; have tok3 : True := trivial))
              exact ⟨⟨t1, r1, v1, by omega, hbq⟩, by rw [hsl]; simp only [slen]; omega⟩
        · as_aux_lemma =>
            have c8z : ¬ ((8 : Int) < (t1.length : Int)) := by omega
            have tok0 : True := trivial
            go_wp2_with (first
              | (have _t := tok0; (with_reducible refine G_index ?_; refine L8_index st8 (i := 0) (by with_unfolding_all (conv => lhs; whnf)) (by assumption) (by with_unfolding_all (conv => lhs; whnf)) (by omega) (by omega) ?_); intro b o hbo hcl; rw [hx] at hcl; clear hrr; clear tok0; have tok1 : True := trivial)
              | ((with_reducible refine G_len ?_; refine L8_len Tryd.underlying37 (by with_unfolding_all (conv => lhs; whnf)) (by assumption) ?_))
              | (have _t := tok1; (with_reducible refine G_slice ?_; refine L8_slice_l st8 (lo := 1) (by with_unfolding_all (conv => lhs; whnf)) (by assumption) (by with_unfolding_all (conv => lhs; whnf)) (by omega) (by omega) ?_); intro u1 r1 _; rw [ht1] at r1; have l1 := r1.slen; clear tok1; have tok2 : True := trivial))
            exact ⟨⟨t1, r1, v1, by omega, hbw⟩, by rw [hsl, l1]; omega⟩
      · have hge : 128 ≤ x0.toNat := by omega
        have hascz : ¬ ((x0.toNat : Int) < 128) := by omega
        have hne : t ≠ [] := List.length_pos_iff.1 h0
        have hlead := Lib.validD_lead t hne (by rw [hx0]; exact hge)
        rw [hx0, hv] at hlead
        have hc0 := hTr.1 x0.toNat hx0lt
        have hXlt : Lib.firstT x0.toNat < 256 := by rcases Lib.firstT_cases x0.toNat with h | h | h | h | h | h | h | h | h <;> omega
        obtain ⟨X, hX⟩ : ∃ X, Lib.firstT x0.toNat = X := ⟨_, rfl⟩
        rw [hX] at hc0 hXlt hlead
        have h7 := and7v ⟨X, hXlt⟩
        simp only at h7
        have ha0 : wr.cell? ⟨1, X / 16 * 2, none⟩ = some (.int .u8 (Lib.accLo (X / 16))) := by rw [Nat.mul_comm]; exact (hTr.2 (X / 16) (by omega)).1
        have ha1 : wr.cell? ⟨1, X / 16 * 2 + 1, none⟩ = some (.int .u8 (Lib.accHi (X / 16))) := by rw [Nat.mul_comm]; exact (hTr.2 (X / 16) (by omega)).2
        obtain ⟨LO, hLO⟩ : ∃ LO, Lib.accLo (X / 16) = LO := ⟨_, rfl⟩
        obtain ⟨HI, hHI⟩ : ∃ HI, Lib.accHi (X / 16) = HI := ⟨_, rfl⟩
        rw [hLO] at ha0 hlead
        rw [hHI] at ha1 hlead
        obtain ⟨SZ, hSZ⟩ : ∃ SZ, X % 8 = SZ := ⟨_, rfl⟩
        rw [hSZ] at hlead
        clear hTr hT hX hv hLO hHI hne
        have tok0 : True := trivial
        go_upto_region 17 with (first
          | (have _t := tok0; (with_reducible refine G_index ?_; refine L8_index st8 (i := 0) (by with_unfolding_all (conv => lhs; whnf)) (by assumption) (by with_unfolding_all (conv => lhs; whnf)) (by omega) (by omega) ?_); intro b o hbo hcl; rw [hx] at hcl; clear hrr; clear tok0; have tok1 : True := trivial)
          | ((with_reducible refine G_len ?_; refine L8_len Tryd.underlying37 (by with_unfolding_all (conv => lhs; whnf)) (by assumption) ?_)))
        have hka : Blk (wr.alloc (Obj.cells #[Value.int IntKind.u8 (LO : Int), Value.int IntKind.u8 (HI : Int)] 140)) wr.heap.size 140 [.int .u8 (LO : Int), .int .u8 (HI : Int)] := Blk.new wr _ [.int .u8 (LO : Int), .int .u8 (HI : Int)]
        have hba := below_below hbw ((Below.refl wr.heap.size wr).alloc (Nat.le_refl _) (Obj.cells #[Value.int IntKind.u8 (LO : Int), Value.int IntKind.u8 (HI : Int)] 140))
        generalize wr.alloc (Obj.cells #[Value.int IntKind.u8 (LO : Int), Value.int IntKind.u8 (HI : Int)] 140) = wa at hka hba ⊢
        obtain ⟨b0, o0, cc0, e0, hcc0, hmm0, s0⟩ := hr.sp h0
        subst e0
        have sa : Sp wa b0 o0 t.length t := s0.below hba
        generalize hga : wr.heap.size = ga at *
        have hLOc : ∀ wg, Below wa.drew.heap.size wa.drew wg → wg.cell? ⟨ga, 0, none⟩ = some (.int .u8 (LO : Int)) := fun wg hb => (hka.drew.below hb).cell 0
        have hHIc : ∀ wg, Below wa.drew.heap.size wa.drew wg → wg.cell? ⟨ga, 1, none⟩ = some (.int .u8 (HI : Int)) := fun wg hb => (hka.drew.below hb).cell 1
        obtain ⟨x1, hx1⟩ : ∃ x1, t.getD 1 0 = x1 := ⟨_, rfl⟩
        obtain ⟨x2, hx2⟩ : ∃ x2, t.getD 2 0 = x2 := ⟨_, rfl⟩
        obtain ⟨x3, hx3⟩ : ∃ x3, t.getD 3 0 = x3 := ⟨_, rfl⟩
        have hc1 : ∀ wg, Below wa.drew.heap.size wa.drew wg → 1 < t.length → wg.cell? ⟨b0, o0 + 1, none⟩ = some (.int .u8 (x1.toNat : Int)) := fun wg hb hl => by rw [← hx1]; exact (sa.below (w := wa.drew) hb).2 1 hl
        have hc2 : ∀ wg, Below wa.drew.heap.size wa.drew wg → 2 < t.length → wg.cell? ⟨b0, o0 + 2, none⟩ = some (.int .u8 (x2.toNat : Int)) := fun wg hb hl => by rw [← hx2]; exact (sa.below (w := wa.drew) hb).2 2 hl
        have hc3 : ∀ wg, Below wa.drew.heap.size wa.drew wg → 3 < t.length → wg.cell? ⟨b0, o0 + 3, none⟩ = some (.int .u8 (x3.toNat : Int)) := fun wg hb hl => by rw [← hx3]; exact (sa.below (w := wa.drew) hb).2 3 hl
        rw [hx1, hx2, hx3] at hlead
        have l1 := x1.toNat_lt
        have l2 := x2.toNat_lt
        have l3 := x3.toNat_lt
        clear hx1 hx2 hx3 sa s0 hka hc0 ha0 ha1 h7 hcl hbo
        by_cases s2 : SZ = 2
        · subst s2
          simp only [Lib.checkN, Nat.reduceEqDiff, if_true, if_false] at hlead
          go_upto_region 18 with fail
          by_cases q0 : t.length < 2
          · as_aux_lemma =>
              have q0z : (t.length : Int) < 2 := by omega
              (refine region_making 19 (fun _ => []) (fun _ => none) (by kernel_rfl) (by kernel_rfl) ?_ ?_; (focus (intro i' S' h' e v'; cases h')); simp only [List.take_succ_cons, List.take_zero, List.drop_succ_cons, List.drop_zero])
              repeat (apply wpG_pure; (focus rfl); (focus (intro wg Bg hbg hBg hFg; have k0 := hLOc wg hbg; have k1 := hHIc wg hbg; go_simp; (try go_bits); (first | done | exact ⟨rfl, Below.refl _ _⟩ | rfl))); simp only [Act.put, List.setIfInBounds_toArray, List.set_cons_succ, List.set_cons_zero])
              refine wpG_end (fun wg Bg hbg hBg hFg => ?_)
              have hbz := below_below hba.drew hbg
              rw [if_pos (by omega)] at hlead
              go_wp2_with fail
              go_ret
              exact ⟨by first | rfl | (rw [hlead]; rfl), hbz⟩
          · have q0z : ¬ ((t.length : Int) < 2) := by omega
            have q0b : decide ((t.length : Int) < 2) = false := decide_eq_false q0z
            have p1 : 1 < t.length := by omega
            have p1z : (1 : Int) < (t.length : Int) := by omega
            by_cases q1 : x1.toNat < LO
            · as_aux_lemma =>
                have q1z : (x1.toNat : Int) < (LO : Int) := by omega
                (refine region_making 19 (fun _ => []) (fun _ => none) (by kernel_rfl) (by kernel_rfl) ?_ ?_; (focus (intro i' S' h' e v'; cases h')); simp only [List.take_succ_cons, List.take_zero, List.drop_succ_cons, List.drop_zero])
                repeat (apply wpG_pure; (focus rfl); (focus (intro wg Bg hbg hBg hFg; have k0 := hLOc wg hbg; have k1 := hHIc wg hbg; have c1 := hc1 wg hbg (by omega); go_simp; (try go_bits); (first | done | exact ⟨rfl, Below.refl _ _⟩ | rfl))); simp only [Act.put, List.setIfInBounds_toArray, List.set_cons_succ, List.set_cons_zero])
                refine wpG_end (fun wg Bg hbg hBg hFg => ?_)
                have hbz := below_below hba.drew hbg
                rw [if_pos (by omega)] at hlead
                go_wp2_with fail
                go_ret
                exact ⟨by first | rfl | (rw [hlead]; rfl), hbz⟩
            · have q1z : ¬ ((x1.toNat : Int) < (LO : Int)) := by omega
              have q1b : decide ((x1.toNat : Int) < (LO : Int)) = false := decide_eq_false q1z
              by_cases q2 : HI < x1.toNat
              · as_aux_lemma =>
                  have q2z : (HI : Int) < (x1.toNat : Int) := by omega
                  (refine region_making 19 (fun _ => []) (fun _ => none) (by kernel_rfl) (by kernel_rfl) ?_ ?_; (focus (intro i' S' h' e v'; cases h')); simp only [List.take_succ_cons, List.take_zero, List.drop_succ_cons, List.drop_zero])
                  repeat (apply wpG_pure; (focus rfl); (focus (intro wg Bg hbg hBg hFg; have k0 := hLOc wg hbg; have k1 := hHIc wg hbg; have c1 := hc1 wg hbg (by omega); go_simp; (try go_bits); (first | done | exact ⟨rfl, Below.refl _ _⟩ | rfl))); simp only [Act.put, List.setIfInBounds_toArray, List.set_cons_succ, List.set_cons_zero])
                  refine wpG_end (fun wg Bg hbg hBg hFg => ?_)
                  have hbz := below_below hba.drew hbg
                  rw [if_pos (by omega)] at hlead
                  go_wp2_with fail
                  go_ret
                  exact ⟨by first | rfl | (rw [hlead]; rfl), hbz⟩
              · have q2z : ¬ ((HI : Int) < (x1.toNat : Int)) := by omega
                have q2b : decide ((HI : Int) < (x1.toNat : Int)) = false := decide_eq_false q2z
                as_aux_lemma =>
                  (refine region_making 19 (fun _ => []) (fun _ => none) (by kernel_rfl) (by kernel_rfl) ?_ ?_; (focus (intro i' S' h' e v'; cases h')); simp only [List.take_succ_cons, List.take_zero, List.drop_succ_cons, List.drop_zero])
                  repeat (apply wpG_pure; (focus rfl); (focus (intro wg Bg hbg hBg hFg; have k0 := hLOc wg hbg; have k1 := hHIc wg hbg; have c1 := hc1 wg hbg (by omega); go_simp; (try go_bits); (first | done | exact ⟨rfl, Below.refl _ _⟩ | rfl))); simp only [Act.put, List.setIfInBounds_toArray, List.set_cons_succ, List.set_cons_zero])
                  refine wpG_end (fun wg Bg hbg hBg hFg => ?_)
                  have hbz := below_below hba.drew hbg
                  rw [if_neg (by omega)] at hlead
                  have tok0 : True := trivial
                  go_wp2_with (first
                    | (have _t := tok0; (with_reducible refine G_slice ?_; refine L8_slice_l st8 (lo := 2) (by with_unfolding_all (conv => lhs; whnf)) (by assumption) (by with_unfolding_all (conv => lhs; whnf)) (by omega) (by omega) ?_); intro u9 r9 _; have l9 := r9.slen; clear tok0; have tok1 : True := trivial))
                  exact ⟨⟨t.drop 2, r9, hlead.symm, by simp; omega, hbz⟩, by rw [l9, List.length_drop]; simp only [slen]; omega⟩
        have s2z : ¬ ((SZ : Int) = 2) := by omega
        by_cases s3 : SZ = 3
        · subst s3
          simp only [Lib.checkN, Nat.reduceEqDiff, if_true, if_false] at hlead
          go_upto_region 22 with fail
          by_cases q0 : t.length < 3
          · as_aux_lemma =>
              have q0z : (t.length : Int) < 3 := by omega
              (refine region_making 31 (fun _ => []) (fun _ => none) (by kernel_rfl) (by kernel_rfl) ?_ ?_; (focus (intro i' S' h' e v'; cases h')); simp only [List.take_succ_cons, List.take_zero, List.drop_succ_cons, List.drop_zero])
              repeat (apply wpG_pure; (focus rfl); (focus (intro wg Bg hbg hBg hFg; have k0 := hLOc wg hbg; have k1 := hHIc wg hbg; go_simp; (try go_bits); (first | done | exact ⟨rfl, Below.refl _ _⟩ | rfl))); simp only [Act.put, List.setIfInBounds_toArray, List.set_cons_succ, List.set_cons_zero])
              refine wpG_end (fun wg Bg hbg hBg hFg => ?_)
              have hbz := below_below hba.drew hbg
              rw [if_pos (by omega)] at hlead
              go_wp2_with fail
              go_ret
              exact ⟨by first | rfl | (rw [hlead]; rfl), hbz⟩
          · have q0z : ¬ ((t.length : Int) < 3) := by omega
            have q0b : decide ((t.length : Int) < 3) = false := decide_eq_false q0z
            have p1 : 1 < t.length := by omega
            have p1z : (1 : Int) < (t.length : Int) := by omega
            have p2 : 2 < t.length := by omega
            have p2z : (2 : Int) < (t.length : Int) := by omega
            by_cases q1 : x1.toNat < LO
            · as_aux_lemma =>
                have q1z : (x1.toNat : Int) < (LO : Int) := by omega
                (refine region_making 31 (fun _ => []) (fun _ => none) (by kernel_rfl) (by kernel_rfl) ?_ ?_; (focus (intro i' S' h' e v'; cases h')); simp only [List.take_succ_cons, List.take_zero, List.drop_succ_cons, List.drop_zero])
                repeat (apply wpG_pure; (focus rfl); (focus (intro wg Bg hbg hBg hFg; have k0 := hLOc wg hbg; have k1 := hHIc wg hbg; have c1 := hc1 wg hbg (by omega); go_simp; (try go_bits); (first | done | exact ⟨rfl, Below.refl _ _⟩ | rfl))); simp only [Act.put, List.setIfInBounds_toArray, List.set_cons_succ, List.set_cons_zero])
                refine wpG_end (fun wg Bg hbg hBg hFg => ?_)
                have hbz := below_below hba.drew hbg
                rw [if_pos (by omega)] at hlead
                go_wp2_with fail
                go_ret
                exact ⟨by first | rfl | (rw [hlead]; rfl), hbz⟩
            · have q1z : ¬ ((x1.toNat : Int) < (LO : Int)) := by omega
              have q1b : decide ((x1.toNat : Int) < (LO : Int)) = false := decide_eq_false q1z
              by_cases q2 : HI < x1.toNat
              · as_aux_lemma =>
                  have q2z : (HI : Int) < (x1.toNat : Int) := by omega
                  (refine region_making 31 (fun _ => []) (fun _ => none) (by kernel_rfl) (by kernel_rfl) ?_ ?_; (focus (intro i' S' h' e v'; cases h')); simp only [List.take_succ_cons, List.take_zero, List.drop_succ_cons, List.drop_zero])
                  repeat (apply wpG_pure; (focus rfl); (focus (intro wg Bg hbg hBg hFg; have k0 := hLOc wg hbg; have k1 := hHIc wg hbg; have c1 := hc1 wg hbg (by omega); go_simp; (try go_bits); (first | done | exact ⟨rfl, Below.refl _ _⟩ | rfl))); simp only [Act.put, List.setIfInBounds_toArray, List.set_cons_succ, List.set_cons_zero])
                  refine wpG_end (fun wg Bg hbg hBg hFg => ?_)
                  have hbz := below_below hba.drew hbg
                  rw [if_pos (by omega)] at hlead
                  go_wp2_with fail
                  go_ret
                  exact ⟨by first | rfl | (rw [hlead]; rfl), hbz⟩
              · have q2z : ¬ ((HI : Int) < (x1.toNat : Int)) := by omega
                have q2b : decide ((HI : Int) < (x1.toNat : Int)) = false := decide_eq_false q2z
                by_cases q3 : x2.toNat < 128
                · as_aux_lemma =>
                    have q3z : (x2.toNat : Int) < 128 := by omega
                    (refine region_making 31 (fun _ => []) (fun _ => none) (by kernel_rfl) (by kernel_rfl) ?_ ?_; (focus (intro i' S' h' e v'; cases h')); simp only [List.take_succ_cons, List.take_zero, List.drop_succ_cons, List.drop_zero])
                    repeat (apply wpG_pure; (focus rfl); (focus (intro wg Bg hbg hBg hFg; have k0 := hLOc wg hbg; have k1 := hHIc wg hbg; have c1 := hc1 wg hbg (by omega); have c2 := hc2 wg hbg (by omega); go_simp; (try go_bits); (first | done | exact ⟨rfl, Below.refl _ _⟩ | rfl))); simp only [Act.put, List.setIfInBounds_toArray, List.set_cons_succ, List.set_cons_zero])
                    refine wpG_end (fun wg Bg hbg hBg hFg => ?_)
                    have hbz := below_below hba.drew hbg
                    rw [if_pos (by omega)] at hlead
                    go_wp2_with fail
                    go_ret
                    exact ⟨by first | rfl | (rw [hlead]; rfl), hbz⟩
                · have q3z : ¬ ((x2.toNat : Int) < 128) := by omega
                  have q3b : decide ((x2.toNat : Int) < 128) = false := decide_eq_false q3z
                  by_cases q4 : 191 < x2.toNat
                  · as_aux_lemma =>
                      have q4z : (191 : Int) < (x2.toNat : Int) := by omega
                      (refine region_making 31 (fun _ => []) (fun _ => none) (by kernel_rfl) (by kernel_rfl) ?_ ?_; (focus (intro i' S' h' e v'; cases h')); simp only [List.take_succ_cons, List.take_zero, List.drop_succ_cons, List.drop_zero])
                      repeat (apply wpG_pure; (focus rfl); (focus (intro wg Bg hbg hBg hFg; have k0 := hLOc wg hbg; have k1 := hHIc wg hbg; have c1 := hc1 wg hbg (by omega); have c2 := hc2 wg hbg (by omega); go_simp; (try go_bits); (first | done | exact ⟨rfl, Below.refl _ _⟩ | rfl))); simp only [Act.put, List.setIfInBounds_toArray, List.set_cons_succ, List.set_cons_zero])
                      refine wpG_end (fun wg Bg hbg hBg hFg => ?_)
                      have hbz := below_below hba.drew hbg
                      rw [if_pos (by omega)] at hlead
                      go_wp2_with fail
                      go_ret
                      exact ⟨by first | rfl | (rw [hlead]; rfl), hbz⟩
                  · have q4z : ¬ ((191 : Int) < (x2.toNat : Int)) := by omega
                    have q4b : decide ((191 : Int) < (x2.toNat : Int)) = false := decide_eq_false q4z
                    as_aux_lemma =>
                      (refine region_making 31 (fun _ => []) (fun _ => none) (by kernel_rfl) (by kernel_rfl) ?_ ?_; (focus (intro i' S' h' e v'; cases h')); simp only [List.take_succ_cons, List.take_zero, List.drop_succ_cons, List.drop_zero])
                      repeat (apply wpG_pure; (focus rfl); (focus (intro wg Bg hbg hBg hFg; have k0 := hLOc wg hbg; have k1 := hHIc wg hbg; have c1 := hc1 wg hbg (by omega); have c2 := hc2 wg hbg (by omega); go_simp; (try go_bits); (first | done | exact ⟨rfl, Below.refl _ _⟩ | rfl))); simp only [Act.put, List.setIfInBounds_toArray, List.set_cons_succ, List.set_cons_zero])
                      refine wpG_end (fun wg Bg hbg hBg hFg => ?_)
                      have hbz := below_below hba.drew hbg
                      rw [if_neg (by omega)] at hlead
                      have tok0 : True := trivial
                      go_wp2_with (first
                        | (have _t := tok0; (with_reducible refine G_slice ?_; refine L8_slice_l st8 (lo := 3) (by with_unfolding_all (conv => lhs; whnf)) (by assumption) (by with_unfolding_all (conv => lhs; whnf)) (by omega) (by omega) ?_); intro u9 r9 _; have l9 := r9.slen; clear tok0; have tok1 : True := trivial))
                      exact ⟨⟨t.drop 3, r9, hlead.symm, by simp; omega, hbz⟩, by rw [l9, List.length_drop]; simp only [slen]; omega⟩
        have s3z : ¬ ((SZ : Int) = 3) := by omega
        by_cases s4 : SZ = 4
        · subst s4
          simp only [Lib.checkN, Nat.reduceEqDiff, if_true, if_false] at hlead
          go_upto_region 26 with fail
          by_cases q0 : t.length < 4
          · as_aux_lemma =>
              have q0z : (t.length : Int) < 4 := by omega
              (refine region_making 43 (fun _ => []) (fun _ => none) (by kernel_rfl) (by kernel_rfl) ?_ ?_; (focus (intro i' S' h' e v'; cases h')); simp only [List.take_succ_cons, List.take_zero, List.drop_succ_cons, List.drop_zero])
              repeat (apply wpG_pure; (focus rfl); (focus (intro wg Bg hbg hBg hFg; have k0 := hLOc wg hbg; have k1 := hHIc wg hbg; go_simp; (try go_bits); (first | done | exact ⟨rfl, Below.refl _ _⟩ | rfl))); simp only [Act.put, List.setIfInBounds_toArray, List.set_cons_succ, List.set_cons_zero])
              refine wpG_end (fun wg Bg hbg hBg hFg => ?_)
              have hbz := below_below hba.drew hbg
              rw [if_pos (by omega)] at hlead
              go_wp2_with fail
              go_ret
              exact ⟨by first | rfl | (rw [hlead]; rfl), hbz⟩
          · have q0z : ¬ ((t.length : Int) < 4) := by omega
            have q0b : decide ((t.length : Int) < 4) = false := decide_eq_false q0z
            have p1 : 1 < t.length := by omega
            have p1z : (1 : Int) < (t.length : Int) := by omega
            have p2 : 2 < t.length := by omega
            have p2z : (2 : Int) < (t.length : Int) := by omega
            have p3 : 3 < t.length := by omega
            have p3z : (3 : Int) < (t.length : Int) := by omega
            by_cases q1 : x1.toNat < LO
            · as_aux_lemma =>
                have q1z : (x1.toNat : Int) < (LO : Int) := by omega
                (refine region_making 43 (fun _ => []) (fun _ => none) (by kernel_rfl) (by kernel_rfl) ?_ ?_; (focus (intro i' S' h' e v'; cases h')); simp only [List.take_succ_cons, List.take_zero, List.drop_succ_cons, List.drop_zero])
                repeat (apply wpG_pure; (focus rfl); (focus (intro wg Bg hbg hBg hFg; have k0 := hLOc wg hbg; have k1 := hHIc wg hbg; have c1 := hc1 wg hbg (by omega); go_simp; (try go_bits); (first | done | exact ⟨rfl, Below.refl _ _⟩ | rfl))); simp only [Act.put, List.setIfInBounds_toArray, List.set_cons_succ, List.set_cons_zero])
                refine wpG_end (fun wg Bg hbg hBg hFg => ?_)
                have hbz := below_below hba.drew hbg
                rw [if_pos (by omega)] at hlead
                go_wp2_with fail
                go_ret
                exact ⟨by first | rfl | (rw [hlead]; rfl), hbz⟩
            · have q1z : ¬ ((x1.toNat : Int) < (LO : Int)) := by omega
              have q1b : decide ((x1.toNat : Int) < (LO : Int)) = false := decide_eq_false q1z
              by_cases q2 : HI < x1.toNat
              · as_aux_lemma =>
                  have q2z : (HI : Int) < (x1.toNat : Int) := by omega
                  (refine region_making 43 (fun _ => []) (fun _ => none) (by kernel_rfl) (by kernel_rfl) ?_ ?_; (focus (intro i' S' h' e v'; cases h')); simp only [List.take_succ_cons, List.take_zero, List.drop_succ_cons, List.drop_zero])
                  repeat (apply wpG_pure; (focus rfl); (focus (intro wg Bg hbg hBg hFg; have k0 := hLOc wg hbg; have k1 := hHIc wg hbg; have c1 := hc1 wg hbg (by omega); go_simp; (try go_bits); (first | done | exact ⟨rfl, Below.refl _ _⟩ | rfl))); simp only [Act.put, List.setIfInBounds_toArray, List.set_cons_succ, List.set_cons_zero])
                  refine wpG_end (fun wg Bg hbg hBg hFg => ?_)
                  have hbz := below_below hba.drew hbg
                  rw [if_pos (by omega)] at hlead
                  go_wp2_with fail
                  go_ret
                  exact ⟨by first | rfl | (rw [hlead]; rfl), hbz⟩
              · have q2z : ¬ ((HI : Int) < (x1.toNat : Int)) := by omega
                have q2b : decide ((HI : Int) < (x1.toNat : Int)) = false := decide_eq_false q2z
                by_cases q3 : x2.toNat < 128
                · as_aux_lemma =>
                    have q3z : (x2.toNat : Int) < 128 := by omega
                    (refine region_making 43 (fun _ => []) (fun _ => none) (by kernel_rfl) (by kernel_rfl) ?_ ?_; (focus (intro i' S' h' e v'; cases h')); simp only [List.take_succ_cons, List.take_zero, List.drop_succ_cons, List.drop_zero])
                    repeat (apply wpG_pure; (focus rfl); (focus (intro wg Bg hbg hBg hFg; have k0 := hLOc wg hbg; have k1 := hHIc wg hbg; have c1 := hc1 wg hbg (by omega); have c2 := hc2 wg hbg (by omega); go_simp; (try go_bits); (first | done | exact ⟨rfl, Below.refl _ _⟩ | rfl))); simp only [Act.put, List.setIfInBounds_toArray, List.set_cons_succ, List.set_cons_zero])
                    refine wpG_end (fun wg Bg hbg hBg hFg => ?_)
                    have hbz := below_below hba.drew hbg
                    rw [if_pos (by omega)] at hlead
                    go_wp2_with fail
                    go_ret
                    exact ⟨by first | rfl | (rw [hlead]; rfl), hbz⟩
                · have q3z : ¬ ((x2.toNat : Int) < 128) := by omega
                  have q3b : decide ((x2.toNat : Int) < 128) = false := decide_eq_false q3z
                  by_cases q4 : 191 < x2.toNat
                  · as_aux_lemma =>
                      have q4z : (191 : Int) < (x2.toNat : Int) := by omega
                      (refine region_making 43 (fun _ => []) (fun _ => none) (by kernel_rfl) (by kernel_rfl) ?_ ?_; (focus (intro i' S' h' e v'; cases h')); simp only [List.take_succ_cons, List.take_zero, List.drop_succ_cons, List.drop_zero])
                      repeat (apply wpG_pure; (focus rfl); (focus (intro wg Bg hbg hBg hFg; have k0 := hLOc wg hbg; have k1 := hHIc wg hbg; have c1 := hc1 wg hbg (by omega); have c2 := hc2 wg hbg (by omega); go_simp; (try go_bits); (first | done | exact ⟨rfl, Below.refl _ _⟩ | rfl))); simp only [Act.put, List.setIfInBounds_toArray, List.set_cons_succ, List.set_cons_zero])
                      refine wpG_end (fun wg Bg hbg hBg hFg => ?_)
                      have hbz := below_below hba.drew hbg
                      rw [if_pos (by omega)] at hlead
                      go_wp2_with fail
                      go_ret
                      exact ⟨by first | rfl | (rw [hlead]; rfl), hbz⟩
                  · have q4z : ¬ ((191 : Int) < (x2.toNat : Int)) := by omega
                    have q4b : decide ((191 : Int) < (x2.toNat : Int)) = false := decide_eq_false q4z
                    by_cases q5 : x3.toNat < 128
                    · as_aux_lemma =>
                        have q5z : (x3.toNat : Int) < 128 := by omega
                        (refine region_making 43 (fun _ => []) (fun _ => none) (by kernel_rfl) (by kernel_rfl) ?_ ?_; (focus (intro i' S' h' e v'; cases h')); simp only [List.take_succ_cons, List.take_zero, List.drop_succ_cons, List.drop_zero])
                        repeat (apply wpG_pure; (focus rfl); (focus (intro wg Bg hbg hBg hFg; have k0 := hLOc wg hbg; have k1 := hHIc wg hbg; have c1 := hc1 wg hbg (by omega); have c2 := hc2 wg hbg (by omega); have c3 := hc3 wg hbg (by omega); go_simp; (try go_bits); (first | done | exact ⟨rfl, Below.refl _ _⟩ | rfl))); simp only [Act.put, List.setIfInBounds_toArray, List.set_cons_succ, List.set_cons_zero])
                        refine wpG_end (fun wg Bg hbg hBg hFg => ?_)
                        have hbz := below_below hba.drew hbg
                        rw [if_pos (by omega)] at hlead
                        go_wp2_with fail
                        go_ret
                        exact ⟨by first | rfl | (rw [hlead]; rfl), hbz⟩
                    · have q5z : ¬ ((x3.toNat : Int) < 128) := by omega
                      have q5b : decide ((x3.toNat : Int) < 128) = false := decide_eq_false q5z
                      by_cases q6 : 191 < x3.toNat
                      · as_aux_lemma =>
                          have q6z : (191 : Int) < (x3.toNat : Int) := by omega
                          (refine region_making 43 (fun _ => []) (fun _ => none) (by kernel_rfl) (by kernel_rfl) ?_ ?_; (focus (intro i' S' h' e v'; cases h')); simp only [List.take_succ_cons, List.take_zero, List.drop_succ_cons, List.drop_zero])
                          repeat (apply wpG_pure; (focus rfl); (focus (intro wg Bg hbg hBg hFg; have k0 := hLOc wg hbg; have k1 := hHIc wg hbg; have c1 := hc1 wg hbg (by omega); have c2 := hc2 wg hbg (by omega); have c3 := hc3 wg hbg (by omega); go_simp; (try go_bits); (first | done | exact ⟨rfl, Below.refl _ _⟩ | rfl))); simp only [Act.put, List.setIfInBounds_toArray, List.set_cons_succ, List.set_cons_zero])
                          refine wpG_end (fun wg Bg hbg hBg hFg => ?_)
                          have hbz := below_below hba.drew hbg
                          rw [if_pos (by omega)] at hlead
                          go_wp2_with fail
                          go_ret
                          exact ⟨by first | rfl | (rw [hlead]; rfl), hbz⟩
                      · have q6z : ¬ ((191 : Int) < (x3.toNat : Int)) := by omega
                        have q6b : decide ((191 : Int) < (x3.toNat : Int)) = false := decide_eq_false q6z
                        as_aux_lemma =>
                          (refine region_making 43 (fun _ => []) (fun _ => none) (by kernel_rfl) (by kernel_rfl) ?_ ?_; (focus (intro i' S' h' e v'; cases h')); simp only [List.take_succ_cons, List.take_zero, List.drop_succ_cons, List.drop_zero])
                          repeat (apply wpG_pure; (focus rfl); (focus (intro wg Bg hbg hBg hFg; have k0 := hLOc wg hbg; have k1 := hHIc wg hbg; have c1 := hc1 wg hbg (by omega); have c2 := hc2 wg hbg (by omega); have c3 := hc3 wg hbg (by omega); go_simp; (try go_bits); (first | done | exact ⟨rfl, Below.refl _ _⟩ | rfl))); simp only [Act.put, List.setIfInBounds_toArray, List.set_cons_succ, List.set_cons_zero])
                          refine wpG_end (fun wg Bg hbg hBg hFg => ?_)
                          have hbz := below_below hba.drew hbg
                          rw [if_neg (by omega)] at hlead
                          have tok0 : True := trivial
                          go_wp2_with (first
                            | (have _t := tok0; (with_reducible refine G_slice ?_; refine L8_slice_l st8 (lo := 4) (by with_unfolding_all (conv => lhs; whnf)) (by assumption) (by with_unfolding_all (conv => lhs; whnf)) (by omega) (by omega) ?_); intro u9 r9 _; have l9 := r9.slen; clear tok0; have tok1 : True := trivial))
                          exact ⟨⟨t.drop 4, r9, hlead.symm, by simp; omega, hbz⟩, by rw [l9, List.length_drop]; simp only [slen]; omega⟩
        have s4z : ¬ ((SZ : Int) = 4) := by omega
        have hA : ANS = false := by
          rw [hlead]
          unfold Lib.checkN
          rw [if_neg s2, if_neg s3, if_neg s4]
        clear hlead
        go_wp2_with fail
        go_ret
        exact ⟨by first | rfl | (rw [hA]; rfl), hba⟩
    · have q0 : ¬ (0 : Int) < t.length := by omega
      have ht : t = [] := List.eq_nil_of_length_eq_zero (by omega)
      rw [ht, Lib.validD_nil] at hv
      go_wp2_with (first | (with_reducible refine G_len ?_; refine L8_len Tryd.underlying37 (by with_unfolding_all (conv => lhs; whnf)) (by assumption) ?_))
      go_ret
      exact ⟨by rw [← hv]; rfl, hbw⟩
end Go.Proofs.YtfnlcnjflloecaaDoor
