/- StanzaWrite. -/
import Derived.Test.YtocfcgjjepegmaaDoorStzBack
import Derived.Test.YtocfcgjjepegmaaDoorStz5
import Derived.Test.YtocfcgjjepegmaaDoorStz12
set_option linter.unusedVariables false
set_option linter.unusedSimpArgs false
namespace Go.Proofs.YtocfcgjjepegmaaDoor
open Go.RowKit
/-- A new stanza. -/
def newZ (s : Stz) : GSpec := fun u B w => ∃ v, u = stzV s v ∧ OwnT w 0 v s.l ∧ ∀ g, v.ownBlock = some g → B g
theorem newZ_loc (s : Stz) (w0 : World) (u : Value) : Loc w0 (newZ s u) := by
  intro B w w' ⟨v, e, h1, h2⟩ hs hk
  refine ⟨v, e, ⟨h1.1, ?_⟩, h2⟩
  rcases h1.2 with h | ⟨g, cap, cur, rfl, hb, hg, rest⟩
  · exact .inl h
  · refine .inr ⟨g, cap, cur, rfl, hb, ?_, rest⟩
    rw [hk g (Array.getElem?_eq_some_iff.1 hg).1 (.inr (h2 g rfl))]; exact hg
theorem newZ_of {w w' : World} {s : Stz} {u : Value} {M : Nat → Prop} (ho : OwnT w' w.heap.size u s.l) : newZ s (stzV s u) (fun b => M b ∨ (w.heap.size ≤ b ∧ b < w'.heap.size)) w' :=
  ⟨u, rfl, ho.mono (Nat.zero_le _), fun g hg => .inr ⟨ho.base_le g hg, ho.lt g hg⟩⟩
theorem writeI_e (s : Stz) : writeI s = ((writeI s).1, checkI s) := by
  unfold writeI
  split
  · rename_i h; rw [h]
  · rfl
theorem client_b (k : Int) (w : World) : Calls Tryd.prog 19 #[.int .i64 k] w fun e w' => e = .returned (.bool (decide (1 ≤ k) && decide (k ≤ 19))) ∧ Below w.heap.size w w' :=
  (client_c k w).mono fun e w' h => ⟨h.1, by rw [← h.2]; exact Below.refl _ _⟩
set_option maxRecDepth 100000 in
set_option maxHeartbeats 6400000 in
theorem stanzaWrite_c (w : World) (hT : Tabs w) (s : Stz) (vl : Value) (hl : RdT w vl s.l) (hs : StzIn s) (hid : s.id < 18446744073709551616) (hn : -9223372036854775808 ≤ s.n ∧ s.n ≤ 9223372036854775807) (hf : s.f < 18446744073709551616) :
    Calls Tryd.prog 3 #[stzV s vl] w (Ok w) := by
  have hok := twinS_ok s hid hn hf
  have T1 := fun w1 (hb : Below w.heap.size w w1) => twin4_c w1 s vl (hl.below hb) hs
  have T2 := fun w1 u h => twin4_c w1 (twinS s) u h (stzIn_of hok)
  rw [twinS_twinS] at T2
  have hsf := fun (W : World) (a : Addr) (x : Nat) m => run_store Tryd.prog W a (.float .f64 x) m rfl
  obtain ⟨S, hS⟩ : ∃ S, S = twinS s := ⟨_, rfl⟩
  rw [← hS] at T1 T2 hok
  clear hS
  have WR := fun w1 (hb : Below w.heap.size w w1) u h => write_c w1 (hT.below hb) S u h hok
  rw [writeI_e] at WR
  have CK := fun w1 (hb : Below w.heap.size w w1) u h => check_c w1 (hT.below hb) S u h hok
  have FC := fun w1 u h => refcheck_c w1 S u h hok
  have RW := fun hC w1 u h => refwrite_c w1 S u h hok hC
  have CL := fun w1 => client_b S.kind w1
  have WK := fun w1 (hb : Below w.heap.size w w1) => wakes4_c w1 (hT.below hb)
  have B0 : checkI S = 0 → (writeI S).1 = writeL S := fun h => by unfold writeI; rw [if_pos h]
  have B1 : checkI S ≠ 0 → (writeI S).1 = [] := fun h => by unfold writeI; rw [if_neg h]
  have hBl : (writeI S).1.length ≤ 500000 := by
    by_cases h : checkI S = 0
    · rw [B0 h]; exact writeL_len S h hok
    · rw [B1 h]; simp
  generalize (writeI S).1 = B at *
  generalize checkI S = E at *
  unfold stzV at T1 T2 WR CK FC RW ⊢
  unfold GivesZ stzV at T1 T2
  unfold GivesW at WR
  try simp only at T1 T2 WR CK FC RW ⊢
  go_enter Tryd.func3, Tryd.ntmps3
  have ta0 : True := trivial
  go_upto_region 2 with (first
    | (have _t := ta0; (with_reducible refine G_box ?_; refine L_box (by with_unfolding_all (conv => lhs; whnf)) ?_); intro wx hkx hbx hsx; clear hsx; clear ta0; have ta1 : True := trivial)
    | (have _t := ta1; (with_reducible refine G_load ?_; refine L_load_agg agS (by with_unfolding_all (conv => lhs; whnf)) hkx rfl ?_); clear ta1; have ta2 : True := trivial)
    | (have _t := ta2; go_at_call 15; refine (T1 _ hbx).mono ?_; rintro e w2 ⟨u, rfl, ho, hb2⟩; obtain ⟨Au, cu, eu, eur⟩ := ho.rd.open; clear eur; generalize hnu : S.l.length = nu at eu; subst eu; clear ta2; have ta3 : True := trivial))
  have hk7 := stz_new w2 S (.slice Au nu cu)
  have hb3 := (Below.refl w2.heap.size w2).alloc (Nat.le_refl _) (.cells #[.int .i64 S.kind, .int .u64 (S.id : Int), .string (strB S.a), .string (strB S.b), .string (strB S.t), (.slice Au nu cu), .int .i64 S.n, .float .f64 S.f] 26)
  have hbW := below_below (below_below hbx hb2) hb3
  have hr7 := ho.rd.below hb3
  generalize w2.alloc (.cells #[.int .i64 S.kind, .int .u64 (S.id : Int), .string (strB S.a), .string (strB S.b), .string (strB S.t), (.slice Au nu cu), .int .i64 S.n, .float .f64 S.f] 26) = W1 at *
  generalize w2.heap.size = G at *
  clear hb3 hb2 hbx hkx ho T1 hsf
  have tb0 : True := trivial
  go_upto_region 4 with (first
    | (have _t := tb0; (with_reducible refine G_load ?_; refine L_load_agg agS (by with_unfolding_all (conv => lhs; whnf)) hk7 rfl ?_); clear tb0; have tb1 : True := trivial)
    | (have _t := tb1; go_at_call 15; refine (T2 _ _ hr7).mono ?_; rintro e w4 ⟨u4, rfl, ho4, hb4⟩; clear tb1; have tb2 : True := trivial)
    | (have _t := tb2; go_at_call 16; refine (WR _ (below_below hbW hb4) _ ho4.rd).mono ?_; rintro e w5 ⟨v5, rfl, ho5, hb5⟩; have hbX := below_below (below_below hbW hb4) hb5; replace hk7 := (hk7.below hb4).below hb5; replace hr7 := (hr7.below hb4).below hb5; have hr5 := ho5.rd; clear tb2; have tb3 : True := trivial)
    | (have _t := tb3; (with_reducible refine G_load ?_; refine L_load_agg agS (by with_unfolding_all (conv => lhs; whnf)) hk7 rfl ?_); clear tb3; have tb4 : True := trivial)
    | (have _t := tb4; go_at_call 17; refine (FC _ _ hr7).mono ?_; rintro e Wx ⟨rfl, hb6⟩; replace hbX := below_below hbX hb6; replace hk7 := hk7.below hb6; replace hr7 := hr7.below hb6; replace hr5 := hr5.below hb6; clear tb4; have tb5 : True := trivial))
  clear ho5 hb5 ho4 hb4 hb6 hbW WR FC
  go_cut [40] from 17 (fun c wc => c = .bool false ∧ Below Wx.heap.size Wx wc)
  case first =>
    clear WK RW B0 B1
    rcases (by omega : (1 ≤ S.kind ∧ S.kind ≤ 19) ∨ (1 ≤ S.kind ∧ ¬ S.kind ≤ 19) ∨ ¬ 1 ≤ S.kind) with ⟨k1, k2⟩ | ⟨k1, k2⟩ | k1
    · rw [decide_eq_true k1, decide_eq_true k2] at CL
      refine region_making 24 (fun _ => []) (fun | 5 => some fun _ => newZ S | _ => none) (by kernel_rfl) (by kernel_rfl) ?_ ?_
      · intro i' S' h' e v'
        match i', h' with
        | 5, h' => cases h'; exact newZ_loc _ _ _
      simp only [List.take_succ_cons, List.take_zero, List.drop_succ_cons, List.drop_zero]
      (apply wpG_pure; (focus rfl); (focus (intro wg Bg hbg hBg hFg; go_simp; (try go_bits); (first | done | exact ⟨rfl, Below.refl _ _⟩ | rfl))); simp only [Act.put, List.setIfInBounds_toArray, List.set_cons_succ, List.set_cons_zero])
      (apply wpG_pure; (focus rfl); (focus (intro wg Bg hbg hBg hFg; go_simp; (try go_bits); (first | done | exact ⟨rfl, Below.refl _ _⟩ | rfl))); simp only [Act.put, List.setIfInBounds_toArray, List.set_cons_succ, List.set_cons_zero])
      (apply wpG_pure; (focus rfl); (focus (intro wg Bg hbg hBg hFg; go_simp; (try go_bits); (first | done | exact ⟨rfl, Below.refl _ _⟩ | rfl))); simp only [Act.put, List.setIfInBounds_toArray, List.set_cons_succ, List.set_cons_zero])
      (apply wpG_pure; (focus rfl); (focus (intro wg Bg hbg hBg hFg; go_simp; (try go_bits); (first | done | exact ⟨rfl, Below.refl _ _⟩ | rfl))); simp only [Act.put, List.setIfInBounds_toArray, List.set_cons_succ, List.set_cons_zero])
      (apply wpG_pure; (focus rfl); (focus (intro wg Bg hbg hBg hFg; exact pureTo_load_aggw (by go_simp) agS (by with_unfolding_all (conv => lhs; whnf)) (hk7.drew.below hbg) rfl)); simp only [Act.put, List.setIfInBounds_toArray, List.set_cons_succ, List.set_cons_zero])
      apply wpG_make; (focus rfl); (focus (intro wg Bg hbg hBg hFg; go_simp; go_at_call 15; exact Calls.mono (T2 wg _ (hr7.drew.below hbg)) (fun e w' h => (by obtain ⟨u, rfl, ho, hb⟩ := h; exact ⟨_, rfl, Chg.of_below hb, u, rfl, ho.mono (Nat.zero_le _), fun g hg => (by first | exact .inr ⟨ho.base_le g hg, ho.lt g hg⟩ | exact ⟨ho.base_le g hg, ho.lt g hg⟩)⟩)))); intro vz; simp only [Act.put, List.setIfInBounds_toArray, List.set_cons_succ, List.set_cons_zero]
      apply wpG_pure; (focus rfl); (focus (intro wg Bg hbg hBg hFg; obtain ⟨u, e1, ho1, _⟩ : newZ S vz (Bg 5) wg := hFg 5 (by decide +kernel); unfold stzV at e1; subst e1; go_simp; (try refine ⟨by kernel_rfl, ?_⟩); go_at_call 18; exact Calls.mono (CK wg (hbX.drew.trans (hbg.mono hbX.size)) u ho1.rd) (fun e w' h => (by obtain ⟨rfl, hb⟩ := h; exact ⟨rfl, hb⟩)))); simp only [Act.put, List.setIfInBounds_toArray, List.set_cons_succ, List.set_cons_zero]
      (apply wpG_pure; (focus rfl); (focus (intro wg Bg hbg hBg hFg; go_simp; (try go_bits); (first | done | exact ⟨rfl, Below.refl _ _⟩ | rfl))); simp only [Act.put, List.setIfInBounds_toArray, List.set_cons_succ, List.set_cons_zero])
      (apply wpG_pure; (focus rfl); (focus (intro wg Bg hbg hBg hFg; go_simp; (try go_bits); (first | done | exact ⟨rfl, Below.refl _ _⟩ | rfl))); simp only [Act.put, List.setIfInBounds_toArray, List.set_cons_succ, List.set_cons_zero])
      (apply wpG_pure; (focus rfl); (focus (intro wg Bg hbg hBg hFg; go_simp; (try go_bits); (first | done | exact ⟨rfl, Below.refl _ _⟩ | rfl))); simp only [Act.put, List.setIfInBounds_toArray, List.set_cons_succ, List.set_cons_zero])
      (apply wpG_pure; (focus rfl); (focus (intro wg Bg hbg hBg hFg; go_simp; (try go_bits); (first | done | exact ⟨rfl, Below.refl _ _⟩ | rfl))); simp only [Act.put, List.setIfInBounds_toArray, List.set_cons_succ, List.set_cons_zero])
      (apply wpG_pure; (focus rfl); (focus (intro wg Bg hbg hBg hFg; go_simp; (try go_bits); (first | done | exact ⟨rfl, Below.refl _ _⟩ | rfl))); simp only [Act.put, List.setIfInBounds_toArray, List.set_cons_succ, List.set_cons_zero])
      (apply wpG_pure; (focus rfl); (focus (intro wg Bg hbg hBg hFg; have c0 : _ = some _ := (hk7.drew.below hbg).cell 0; go_simp; (try go_bits); (first | done | exact ⟨rfl, Below.refl _ _⟩ | rfl))); simp only [Act.put, List.setIfInBounds_toArray, List.set_cons_succ, List.set_cons_zero])
      (apply wpG_pure; (focus rfl); (focus (intro wg Bg hbg hBg hFg; go_simp; (try refine ⟨by kernel_rfl, ?_⟩); go_at_call 19; exact Calls.mono (CL _) (fun e w' h => (by obtain ⟨rfl, hb⟩ := h; exact ⟨rfl, hb⟩)))); simp only [Act.put, List.setIfInBounds_toArray, List.set_cons_succ, List.set_cons_zero])
      (apply wpG_pure; (focus rfl); (focus (intro wg Bg hbg hBg hFg; go_simp; (try go_bits); (first | done | exact ⟨rfl, Below.refl _ _⟩ | rfl))); simp only [Act.put, List.setIfInBounds_toArray, List.set_cons_succ, List.set_cons_zero])
      (apply wpG_pure; (focus rfl); (focus (intro wg Bg hbg hBg hFg; have c0 : _ = some _ := (hk7.drew.below hbg).cell 0; go_simp; (try go_bits); (first | done | exact ⟨rfl, Below.refl _ _⟩ | rfl))); simp only [Act.put, List.setIfInBounds_toArray, List.set_cons_succ, List.set_cons_zero])
      (apply wpG_pure; (focus rfl); (focus (intro wg Bg hbg hBg hFg; go_simp; (try go_bits); (first | done | exact ⟨rfl, Below.refl _ _⟩ | rfl))); simp only [Act.put, List.setIfInBounds_toArray, List.set_cons_succ, List.set_cons_zero])
      (apply wpG_pure; (focus rfl); (focus (intro wg Bg hbg hBg hFg; go_simp; (try go_bits); (first | done | exact ⟨rfl, Below.refl _ _⟩ | rfl))); simp only [Act.put, List.setIfInBounds_toArray, List.set_cons_succ, List.set_cons_zero])
      (apply wpG_pure; (focus rfl); (focus (intro wg Bg hbg hBg hFg; go_simp; (try go_bits); (first | done | exact ⟨rfl, Below.refl _ _⟩ | rfl))); simp only [Act.put, List.setIfInBounds_toArray, List.set_cons_succ, List.set_cons_zero])
      (apply wpG_pure; (focus rfl); (focus (intro wg Bg hbg hBg hFg; have c0 : _ = some _ := (hk7.drew.below hbg).cell 0; go_simp; (try go_bits); (first | done | exact ⟨rfl, Below.refl _ _⟩ | rfl))); simp only [Act.put, List.setIfInBounds_toArray, List.set_cons_succ, List.set_cons_zero])
      (apply wpG_pure; (focus rfl); (focus (intro wg Bg hbg hBg hFg; go_simp; (try go_bits); (first | done | exact ⟨rfl, Below.refl _ _⟩ | rfl))); simp only [Act.put, List.setIfInBounds_toArray, List.set_cons_succ, List.set_cons_zero])
      (apply wpG_pure; (focus rfl); (focus (intro wg Bg hbg hBg hFg; go_simp; (try go_bits); (first | done | exact ⟨rfl, Below.refl _ _⟩ | rfl))); simp only [Act.put, List.setIfInBounds_toArray, List.set_cons_succ, List.set_cons_zero])
      (apply wpG_pure; (focus rfl); (focus (intro wg Bg hbg hBg hFg; go_simp; (try go_bits); (first | done | exact ⟨rfl, Below.refl _ _⟩ | rfl))); simp only [Act.put, List.setIfInBounds_toArray, List.set_cons_succ, List.set_cons_zero])
      (apply wpG_pure; (focus rfl); (focus (intro wg Bg hbg hBg hFg; go_simp; (try go_bits); (first | done | exact ⟨rfl, Below.refl _ _⟩ | rfl))); simp only [Act.put, List.setIfInBounds_toArray, List.set_cons_succ, List.set_cons_zero])
      refine wpG_end (fun wg Bg hbg hBg hFg => ?_)
      have hbG : Below Wx.heap.size Wx wg := (Below.refl Wx.heap.size Wx).drew.trans (hbg.mono (Nat.le_refl _))
      clear hFg hBg
      go_wp2_with fail
      go_meet
      case rel => exact ⟨rfl, hbG⟩
    · rw [decide_eq_true k1, decide_eq_false k2] at CL
      refine region_making 24 (fun _ => []) (fun | 5 => some fun _ => newZ S | _ => none) (by kernel_rfl) (by kernel_rfl) ?_ ?_
      · intro i' S' h' e v'
        match i', h' with
        | 5, h' => cases h'; exact newZ_loc _ _ _
      simp only [List.take_succ_cons, List.take_zero, List.drop_succ_cons, List.drop_zero]
      (apply wpG_pure; (focus rfl); (focus (intro wg Bg hbg hBg hFg; go_simp; (try go_bits); (first | done | exact ⟨rfl, Below.refl _ _⟩ | rfl))); simp only [Act.put, List.setIfInBounds_toArray, List.set_cons_succ, List.set_cons_zero])
      (apply wpG_pure; (focus rfl); (focus (intro wg Bg hbg hBg hFg; go_simp; (try go_bits); (first | done | exact ⟨rfl, Below.refl _ _⟩ | rfl))); simp only [Act.put, List.setIfInBounds_toArray, List.set_cons_succ, List.set_cons_zero])
      (apply wpG_pure; (focus rfl); (focus (intro wg Bg hbg hBg hFg; go_simp; (try go_bits); (first | done | exact ⟨rfl, Below.refl _ _⟩ | rfl))); simp only [Act.put, List.setIfInBounds_toArray, List.set_cons_succ, List.set_cons_zero])
      (apply wpG_pure; (focus rfl); (focus (intro wg Bg hbg hBg hFg; go_simp; (try go_bits); (first | done | exact ⟨rfl, Below.refl _ _⟩ | rfl))); simp only [Act.put, List.setIfInBounds_toArray, List.set_cons_succ, List.set_cons_zero])
      (apply wpG_pure; (focus rfl); (focus (intro wg Bg hbg hBg hFg; exact pureTo_load_aggw (by go_simp) agS (by with_unfolding_all (conv => lhs; whnf)) (hk7.drew.below hbg) rfl)); simp only [Act.put, List.setIfInBounds_toArray, List.set_cons_succ, List.set_cons_zero])
      apply wpG_make; (focus rfl); (focus (intro wg Bg hbg hBg hFg; go_simp; go_at_call 15; exact Calls.mono (T2 wg _ (hr7.drew.below hbg)) (fun e w' h => (by obtain ⟨u, rfl, ho, hb⟩ := h; exact ⟨_, rfl, Chg.of_below hb, u, rfl, ho.mono (Nat.zero_le _), fun g hg => (by first | exact .inr ⟨ho.base_le g hg, ho.lt g hg⟩ | exact ⟨ho.base_le g hg, ho.lt g hg⟩)⟩)))); intro vz; simp only [Act.put, List.setIfInBounds_toArray, List.set_cons_succ, List.set_cons_zero]
      apply wpG_pure; (focus rfl); (focus (intro wg Bg hbg hBg hFg; obtain ⟨u, e1, ho1, _⟩ : newZ S vz (Bg 5) wg := hFg 5 (by decide +kernel); unfold stzV at e1; subst e1; go_simp; (try refine ⟨by kernel_rfl, ?_⟩); go_at_call 18; exact Calls.mono (CK wg (hbX.drew.trans (hbg.mono hbX.size)) u ho1.rd) (fun e w' h => (by obtain ⟨rfl, hb⟩ := h; exact ⟨rfl, hb⟩)))); simp only [Act.put, List.setIfInBounds_toArray, List.set_cons_succ, List.set_cons_zero]
      (apply wpG_pure; (focus rfl); (focus (intro wg Bg hbg hBg hFg; go_simp; (try go_bits); (first | done | exact ⟨rfl, Below.refl _ _⟩ | rfl))); simp only [Act.put, List.setIfInBounds_toArray, List.set_cons_succ, List.set_cons_zero])
      (apply wpG_pure; (focus rfl); (focus (intro wg Bg hbg hBg hFg; go_simp; (try go_bits); (first | done | exact ⟨rfl, Below.refl _ _⟩ | rfl))); simp only [Act.put, List.setIfInBounds_toArray, List.set_cons_succ, List.set_cons_zero])
      (apply wpG_pure; (focus rfl); (focus (intro wg Bg hbg hBg hFg; go_simp; (try go_bits); (first | done | exact ⟨rfl, Below.refl _ _⟩ | rfl))); simp only [Act.put, List.setIfInBounds_toArray, List.set_cons_succ, List.set_cons_zero])
      (apply wpG_pure; (focus rfl); (focus (intro wg Bg hbg hBg hFg; go_simp; (try go_bits); (first | done | exact ⟨rfl, Below.refl _ _⟩ | rfl))); simp only [Act.put, List.setIfInBounds_toArray, List.set_cons_succ, List.set_cons_zero])
      (apply wpG_pure; (focus rfl); (focus (intro wg Bg hbg hBg hFg; go_simp; (try go_bits); (first | done | exact ⟨rfl, Below.refl _ _⟩ | rfl))); simp only [Act.put, List.setIfInBounds_toArray, List.set_cons_succ, List.set_cons_zero])
      (apply wpG_pure; (focus rfl); (focus (intro wg Bg hbg hBg hFg; have c0 : _ = some _ := (hk7.drew.below hbg).cell 0; go_simp; (try go_bits); (first | done | exact ⟨rfl, Below.refl _ _⟩ | rfl))); simp only [Act.put, List.setIfInBounds_toArray, List.set_cons_succ, List.set_cons_zero])
      (apply wpG_pure; (focus rfl); (focus (intro wg Bg hbg hBg hFg; go_simp; (try refine ⟨by kernel_rfl, ?_⟩); go_at_call 19; exact Calls.mono (CL _) (fun e w' h => (by obtain ⟨rfl, hb⟩ := h; exact ⟨rfl, hb⟩)))); simp only [Act.put, List.setIfInBounds_toArray, List.set_cons_succ, List.set_cons_zero])
      (apply wpG_pure; (focus rfl); (focus (intro wg Bg hbg hBg hFg; go_simp; (try go_bits); (first | done | exact ⟨rfl, Below.refl _ _⟩ | rfl))); simp only [Act.put, List.setIfInBounds_toArray, List.set_cons_succ, List.set_cons_zero])
      (apply wpG_pure; (focus rfl); (focus (intro wg Bg hbg hBg hFg; have c0 : _ = some _ := (hk7.drew.below hbg).cell 0; go_simp; (try go_bits); (first | done | exact ⟨rfl, Below.refl _ _⟩ | rfl))); simp only [Act.put, List.setIfInBounds_toArray, List.set_cons_succ, List.set_cons_zero])
      (apply wpG_pure; (focus rfl); (focus (intro wg Bg hbg hBg hFg; go_simp; (try go_bits); (first | done | exact ⟨rfl, Below.refl _ _⟩ | rfl))); simp only [Act.put, List.setIfInBounds_toArray, List.set_cons_succ, List.set_cons_zero])
      (apply wpG_pure; (focus rfl); (focus (intro wg Bg hbg hBg hFg; go_simp; (try go_bits); (first | done | exact ⟨rfl, Below.refl _ _⟩ | rfl))); simp only [Act.put, List.setIfInBounds_toArray, List.set_cons_succ, List.set_cons_zero])
      (apply wpG_pure; (focus rfl); (focus (intro wg Bg hbg hBg hFg; go_simp; (try go_bits); (first | done | exact ⟨rfl, Below.refl _ _⟩ | rfl))); simp only [Act.put, List.setIfInBounds_toArray, List.set_cons_succ, List.set_cons_zero])
      (apply wpG_pure; (focus rfl); (focus (intro wg Bg hbg hBg hFg; have c0 : _ = some _ := (hk7.drew.below hbg).cell 0; go_simp; (try go_bits); (first | done | exact ⟨rfl, Below.refl _ _⟩ | rfl))); simp only [Act.put, List.setIfInBounds_toArray, List.set_cons_succ, List.set_cons_zero])
      (apply wpG_pure; (focus rfl); (focus (intro wg Bg hbg hBg hFg; go_simp; (try go_bits); (first | done | exact ⟨rfl, Below.refl _ _⟩ | rfl))); simp only [Act.put, List.setIfInBounds_toArray, List.set_cons_succ, List.set_cons_zero])
      (apply wpG_pure; (focus rfl); (focus (intro wg Bg hbg hBg hFg; go_simp; (try go_bits); (first | done | exact ⟨rfl, Below.refl _ _⟩ | rfl))); simp only [Act.put, List.setIfInBounds_toArray, List.set_cons_succ, List.set_cons_zero])
      (apply wpG_pure; (focus rfl); (focus (intro wg Bg hbg hBg hFg; go_simp; (try go_bits); (first | done | exact ⟨rfl, Below.refl _ _⟩ | rfl))); simp only [Act.put, List.setIfInBounds_toArray, List.set_cons_succ, List.set_cons_zero])
      (apply wpG_pure; (focus rfl); (focus (intro wg Bg hbg hBg hFg; go_simp; (try go_bits); (first | done | exact ⟨rfl, Below.refl _ _⟩ | rfl))); simp only [Act.put, List.setIfInBounds_toArray, List.set_cons_succ, List.set_cons_zero])
      refine wpG_end (fun wg Bg hbg hBg hFg => ?_)
      have hbG : Below Wx.heap.size Wx wg := (Below.refl Wx.heap.size Wx).drew.trans (hbg.mono (Nat.le_refl _))
      clear hFg hBg
      go_wp2_with fail
      go_meet
      case rel => exact ⟨rfl, hbG⟩
    · rw [decide_eq_false k1] at CL
      refine region_making 24 (fun _ => []) (fun | 5 => some fun _ => newZ S | _ => none) (by kernel_rfl) (by kernel_rfl) ?_ ?_
      · intro i' S' h' e v'
        match i', h' with
        | 5, h' => cases h'; exact newZ_loc _ _ _
      simp only [List.take_succ_cons, List.take_zero, List.drop_succ_cons, List.drop_zero]
      (apply wpG_pure; (focus rfl); (focus (intro wg Bg hbg hBg hFg; go_simp; (try go_bits); (first | done | exact ⟨rfl, Below.refl _ _⟩ | rfl))); simp only [Act.put, List.setIfInBounds_toArray, List.set_cons_succ, List.set_cons_zero])
      (apply wpG_pure; (focus rfl); (focus (intro wg Bg hbg hBg hFg; go_simp; (try go_bits); (first | done | exact ⟨rfl, Below.refl _ _⟩ | rfl))); simp only [Act.put, List.setIfInBounds_toArray, List.set_cons_succ, List.set_cons_zero])
      (apply wpG_pure; (focus rfl); (focus (intro wg Bg hbg hBg hFg; go_simp; (try go_bits); (first | done | exact ⟨rfl, Below.refl _ _⟩ | rfl))); simp only [Act.put, List.setIfInBounds_toArray, List.set_cons_succ, List.set_cons_zero])
      (apply wpG_pure; (focus rfl); (focus (intro wg Bg hbg hBg hFg; go_simp; (try go_bits); (first | done | exact ⟨rfl, Below.refl _ _⟩ | rfl))); simp only [Act.put, List.setIfInBounds_toArray, List.set_cons_succ, List.set_cons_zero])
      (apply wpG_pure; (focus rfl); (focus (intro wg Bg hbg hBg hFg; exact pureTo_load_aggw (by go_simp) agS (by with_unfolding_all (conv => lhs; whnf)) (hk7.drew.below hbg) rfl)); simp only [Act.put, List.setIfInBounds_toArray, List.set_cons_succ, List.set_cons_zero])
      apply wpG_make; (focus rfl); (focus (intro wg Bg hbg hBg hFg; go_simp; go_at_call 15; exact Calls.mono (T2 wg _ (hr7.drew.below hbg)) (fun e w' h => (by obtain ⟨u, rfl, ho, hb⟩ := h; exact ⟨_, rfl, Chg.of_below hb, u, rfl, ho.mono (Nat.zero_le _), fun g hg => (by first | exact .inr ⟨ho.base_le g hg, ho.lt g hg⟩ | exact ⟨ho.base_le g hg, ho.lt g hg⟩)⟩)))); intro vz; simp only [Act.put, List.setIfInBounds_toArray, List.set_cons_succ, List.set_cons_zero]
      apply wpG_pure; (focus rfl); (focus (intro wg Bg hbg hBg hFg; obtain ⟨u, e1, ho1, _⟩ : newZ S vz (Bg 5) wg := hFg 5 (by decide +kernel); unfold stzV at e1; subst e1; go_simp; (try refine ⟨by kernel_rfl, ?_⟩); go_at_call 18; exact Calls.mono (CK wg (hbX.drew.trans (hbg.mono hbX.size)) u ho1.rd) (fun e w' h => (by obtain ⟨rfl, hb⟩ := h; exact ⟨rfl, hb⟩)))); simp only [Act.put, List.setIfInBounds_toArray, List.set_cons_succ, List.set_cons_zero]
      (apply wpG_pure; (focus rfl); (focus (intro wg Bg hbg hBg hFg; go_simp; (try go_bits); (first | done | exact ⟨rfl, Below.refl _ _⟩ | rfl))); simp only [Act.put, List.setIfInBounds_toArray, List.set_cons_succ, List.set_cons_zero])
      (apply wpG_pure; (focus rfl); (focus (intro wg Bg hbg hBg hFg; go_simp; (try go_bits); (first | done | exact ⟨rfl, Below.refl _ _⟩ | rfl))); simp only [Act.put, List.setIfInBounds_toArray, List.set_cons_succ, List.set_cons_zero])
      (apply wpG_pure; (focus rfl); (focus (intro wg Bg hbg hBg hFg; go_simp; (try go_bits); (first | done | exact ⟨rfl, Below.refl _ _⟩ | rfl))); simp only [Act.put, List.setIfInBounds_toArray, List.set_cons_succ, List.set_cons_zero])
      (apply wpG_pure; (focus rfl); (focus (intro wg Bg hbg hBg hFg; go_simp; (try go_bits); (first | done | exact ⟨rfl, Below.refl _ _⟩ | rfl))); simp only [Act.put, List.setIfInBounds_toArray, List.set_cons_succ, List.set_cons_zero])
      (apply wpG_pure; (focus rfl); (focus (intro wg Bg hbg hBg hFg; go_simp; (try go_bits); (first | done | exact ⟨rfl, Below.refl _ _⟩ | rfl))); simp only [Act.put, List.setIfInBounds_toArray, List.set_cons_succ, List.set_cons_zero])
      (apply wpG_pure; (focus rfl); (focus (intro wg Bg hbg hBg hFg; have c0 : _ = some _ := (hk7.drew.below hbg).cell 0; go_simp; (try go_bits); (first | done | exact ⟨rfl, Below.refl _ _⟩ | rfl))); simp only [Act.put, List.setIfInBounds_toArray, List.set_cons_succ, List.set_cons_zero])
      (apply wpG_pure; (focus rfl); (focus (intro wg Bg hbg hBg hFg; go_simp; (try refine ⟨by kernel_rfl, ?_⟩); go_at_call 19; exact Calls.mono (CL _) (fun e w' h => (by obtain ⟨rfl, hb⟩ := h; exact ⟨rfl, hb⟩)))); simp only [Act.put, List.setIfInBounds_toArray, List.set_cons_succ, List.set_cons_zero])
      (apply wpG_pure; (focus rfl); (focus (intro wg Bg hbg hBg hFg; go_simp; (try go_bits); (first | done | exact ⟨rfl, Below.refl _ _⟩ | rfl))); simp only [Act.put, List.setIfInBounds_toArray, List.set_cons_succ, List.set_cons_zero])
      (apply wpG_pure; (focus rfl); (focus (intro wg Bg hbg hBg hFg; have c0 : _ = some _ := (hk7.drew.below hbg).cell 0; go_simp; (try go_bits); (first | done | exact ⟨rfl, Below.refl _ _⟩ | rfl))); simp only [Act.put, List.setIfInBounds_toArray, List.set_cons_succ, List.set_cons_zero])
      (apply wpG_pure; (focus rfl); (focus (intro wg Bg hbg hBg hFg; go_simp; (try go_bits); (first | done | exact ⟨rfl, Below.refl _ _⟩ | rfl))); simp only [Act.put, List.setIfInBounds_toArray, List.set_cons_succ, List.set_cons_zero])
      (apply wpG_pure; (focus rfl); (focus (intro wg Bg hbg hBg hFg; go_simp; (try go_bits); (first | done | exact ⟨rfl, Below.refl _ _⟩ | rfl))); simp only [Act.put, List.setIfInBounds_toArray, List.set_cons_succ, List.set_cons_zero])
      (apply wpG_pure; (focus rfl); (focus (intro wg Bg hbg hBg hFg; go_simp; (try go_bits); (first | done | exact ⟨rfl, Below.refl _ _⟩ | rfl))); simp only [Act.put, List.setIfInBounds_toArray, List.set_cons_succ, List.set_cons_zero])
      (apply wpG_pure; (focus rfl); (focus (intro wg Bg hbg hBg hFg; have c0 : _ = some _ := (hk7.drew.below hbg).cell 0; go_simp; (try go_bits); (first | done | exact ⟨rfl, Below.refl _ _⟩ | rfl))); simp only [Act.put, List.setIfInBounds_toArray, List.set_cons_succ, List.set_cons_zero])
      (apply wpG_pure; (focus rfl); (focus (intro wg Bg hbg hBg hFg; go_simp; (try go_bits); (first | done | exact ⟨rfl, Below.refl _ _⟩ | rfl))); simp only [Act.put, List.setIfInBounds_toArray, List.set_cons_succ, List.set_cons_zero])
      (apply wpG_pure; (focus rfl); (focus (intro wg Bg hbg hBg hFg; go_simp; (try go_bits); (first | done | exact ⟨rfl, Below.refl _ _⟩ | rfl))); simp only [Act.put, List.setIfInBounds_toArray, List.set_cons_succ, List.set_cons_zero])
      (apply wpG_pure; (focus rfl); (focus (intro wg Bg hbg hBg hFg; go_simp; (try go_bits); (first | done | exact ⟨rfl, Below.refl _ _⟩ | rfl))); simp only [Act.put, List.setIfInBounds_toArray, List.set_cons_succ, List.set_cons_zero])
      (apply wpG_pure; (focus rfl); (focus (intro wg Bg hbg hBg hFg; go_simp; (try go_bits); (first | done | exact ⟨rfl, Below.refl _ _⟩ | rfl))); simp only [Act.put, List.setIfInBounds_toArray, List.set_cons_succ, List.set_cons_zero])
      refine wpG_end (fun wg Bg hbg hBg hFg => ?_)
      have hbG : Below Wx.heap.size Wx wg := (Below.refl Wx.heap.size Wx).drew.trans (hbg.mono (Nat.le_refl _))
      clear hFg hBg
      go_wp2_with fail
      go_meet
      case rel => exact ⟨rfl, hbG⟩
  case rest =>
  obtain ⟨rfl, hbc⟩ := hcut
  replace hbX := below_below hbX hbc
  replace hk7 := hk7.below hbc
  replace hr7 := hr7.below hbc
  replace hr5 := hr5.below hbc
  clear hbc CL CK T2
  go_upto_region 6 with fail
  by_cases hC : E = 0
  · replace RW := RW hC
    rw [← B0 hC] at RW
    subst hC
    clear B0 B1
    refine region_making 23 (fun _ => []) (fun | 14 => some fun _ => new8 5 B | _ => none) (by kernel_rfl) (by kernel_rfl) ?_ ?_
    · intro i' S' h' e v'
      match i', h' with
      | 14, h' => cases h'; exact new8_loc _ _ _ _
    simp only [List.take_succ_cons, List.take_zero, List.drop_succ_cons, List.drop_zero]
    (apply wpG_pure; (focus rfl); (focus (intro wg Bg hbg hBg hFg; go_simp; (try go_bits); (first | done | exact ⟨rfl, Below.refl _ _⟩ | rfl))); simp only [Act.put, List.setIfInBounds_toArray, List.set_cons_succ, List.set_cons_zero])
    (apply wpG_pure; (focus rfl); (focus (intro wg Bg hbg hBg hFg; go_simp; (try go_bits); (first | done | exact ⟨rfl, Below.refl _ _⟩ | rfl))); simp only [Act.put, List.setIfInBounds_toArray, List.set_cons_succ, List.set_cons_zero])
    (apply wpG_pure; (focus rfl); (focus (intro wg Bg hbg hBg hFg; go_simp; (try go_bits); (first | done | exact ⟨rfl, Below.refl _ _⟩ | rfl))); simp only [Act.put, List.setIfInBounds_toArray, List.set_cons_succ, List.set_cons_zero])
    (apply wpG_pure; (focus rfl); (focus (intro wg Bg hbg hBg hFg; go_simp; (try go_bits); (first | done | exact ⟨rfl, Below.refl _ _⟩ | rfl))); simp only [Act.put, List.setIfInBounds_toArray, List.set_cons_succ, List.set_cons_zero])
    (apply wpG_pure; (focus rfl); (focus (intro wg Bg hbg hBg hFg; go_simp; (try go_bits); (first | done | exact ⟨rfl, Below.refl _ _⟩ | rfl))); simp only [Act.put, List.setIfInBounds_toArray, List.set_cons_succ, List.set_cons_zero])
    (apply wpG_pure; (focus rfl); (focus (intro wg Bg hbg hBg hFg; go_simp; (try go_bits); (first | done | exact ⟨rfl, Below.refl _ _⟩ | rfl))); simp only [Act.put, List.setIfInBounds_toArray, List.set_cons_succ, List.set_cons_zero])
    (apply wpG_pure; (focus rfl); (focus (intro wg Bg hbg hBg hFg; go_simp; (try go_bits); (first | done | exact ⟨rfl, Below.refl _ _⟩ | rfl))); simp only [Act.put, List.setIfInBounds_toArray, List.set_cons_succ, List.set_cons_zero])
    (apply wpG_pure; (focus rfl); (focus (intro wg Bg hbg hBg hFg; go_simp; (try go_bits); (first | done | exact ⟨rfl, Below.refl _ _⟩ | rfl))); simp only [Act.put, List.setIfInBounds_toArray, List.set_cons_succ, List.set_cons_zero])
    (apply wpG_pure; (focus rfl); (focus (intro wg Bg hbg hBg hFg; go_simp; (try go_bits); (first | done | exact ⟨rfl, Below.refl _ _⟩ | rfl))); simp only [Act.put, List.setIfInBounds_toArray, List.set_cons_succ, List.set_cons_zero])
    (apply wpG_pure; (focus rfl); (focus (intro wg Bg hbg hBg hFg; go_simp; (try go_bits); (first | done | exact ⟨rfl, Below.refl _ _⟩ | rfl))); simp only [Act.put, List.setIfInBounds_toArray, List.set_cons_succ, List.set_cons_zero])
    (apply wpG_pure; (focus rfl); (focus (intro wg Bg hbg hBg hFg; go_simp; (try go_bits); (first | done | exact ⟨rfl, Below.refl _ _⟩ | rfl))); simp only [Act.put, List.setIfInBounds_toArray, List.set_cons_succ, List.set_cons_zero])
    (apply wpG_pure; (focus rfl); (focus (intro wg Bg hbg hBg hFg; go_simp; (try go_bits); (first | done | exact ⟨rfl, Below.refl _ _⟩ | rfl))); simp only [Act.put, List.setIfInBounds_toArray, List.set_cons_succ, List.set_cons_zero])
    (apply wpG_pure; (focus rfl); (focus (intro wg Bg hbg hBg hFg; have hc := convert_str (hr5.drew.below hbg); go_simp; (try go_bits); (first | done | exact ⟨rfl, Below.refl _ _⟩ | rfl))); simp only [Act.put, List.setIfInBounds_toArray, List.set_cons_succ, List.set_cons_zero])
    (apply wpG_pure; (focus rfl); (focus (intro wg Bg hbg hBg hFg; exact pureTo_load_aggw (by go_simp) agS (by with_unfolding_all (conv => lhs; whnf)) (hk7.drew.below hbg) rfl)); simp only [Act.put, List.setIfInBounds_toArray, List.set_cons_succ, List.set_cons_zero])
    apply wpG_make; (focus rfl); (focus (intro wg Bg hbg hBg hFg; go_simp; go_at_call 20; exact Calls.mono (RW wg _ (hr7.drew.below hbg)) (fun e w' h => (by obtain ⟨u, rfl, ho, hb⟩ := h; exact ⟨u, rfl, Chg.of_below hb, ho.mono (Nat.zero_le _), fun g hg => (by first | exact .inr ⟨ho.base_le g hg, ho.lt g hg⟩ | exact ⟨ho.base_le g hg, ho.lt g hg⟩)⟩)))); intro vw; simp only [Act.put, List.setIfInBounds_toArray, List.set_cons_succ, List.set_cons_zero]
    (apply wpG_pure; (focus rfl); (focus (intro wg Bg hbg hBg hFg; have hN : new8 5 B vw (Bg 14) wg := hFg 14 (by decide +kernel); have hc := convert_str hN.1.rd; go_simp; (try go_bits); (first | done | exact ⟨rfl, Below.refl _ _⟩ | rfl))); simp only [Act.put, List.setIfInBounds_toArray, List.set_cons_succ, List.set_cons_zero])
    (apply wpG_pure; (focus rfl); (focus (intro wg Bg hbg hBg hFg; go_simp; (try go_bits); (first | done | exact ⟨rfl, Below.refl _ _⟩ | rfl))); simp only [Act.put, List.setIfInBounds_toArray, List.set_cons_succ, List.set_cons_zero])
    (apply wpG_pure; (focus rfl); (focus (intro wg Bg hbg hBg hFg; go_simp; (try go_bits); (first | done | exact ⟨rfl, Below.refl _ _⟩ | rfl))); simp only [Act.put, List.setIfInBounds_toArray, List.set_cons_succ, List.set_cons_zero])
    (apply wpG_pure; (focus rfl); (focus (intro wg Bg hbg hBg hFg; go_simp; (try go_bits); (first | done | exact ⟨rfl, Below.refl _ _⟩ | rfl))); simp only [Act.put, List.setIfInBounds_toArray, List.set_cons_succ, List.set_cons_zero])
    (apply wpG_pure; (focus rfl); (focus (intro wg Bg hbg hBg hFg; go_simp; (try go_bits); (first | done | exact ⟨rfl, Below.refl _ _⟩ | rfl))); simp only [Act.put, List.setIfInBounds_toArray, List.set_cons_succ, List.set_cons_zero])
    (apply wpG_pure; (focus rfl); (focus (intro wg Bg hbg hBg hFg; go_simp; (try refine ⟨by kernel_rfl, ?_⟩); go_at_call 21; exact Calls.mono ((WK _ (hbX.drew.trans (hbg.mono hbX.size)))) (fun e w' h => (by obtain ⟨rfl, hb⟩ := h; exact ⟨rfl, hb⟩)))); simp only [Act.put, List.setIfInBounds_toArray, List.set_cons_succ, List.set_cons_zero])
    (apply wpG_pure; (focus rfl); (focus (intro wg Bg hbg hBg hFg; go_simp; (try go_bits); (first | done | exact ⟨rfl, Below.refl _ _⟩ | rfl))); simp only [Act.put, List.setIfInBounds_toArray, List.set_cons_succ, List.set_cons_zero])
    (apply wpG_pure; (focus rfl); (focus (intro wg Bg hbg hBg hFg; go_simp; (try go_bits); (first | done | exact ⟨rfl, Below.refl _ _⟩ | rfl))); simp only [Act.put, List.setIfInBounds_toArray, List.set_cons_succ, List.set_cons_zero])
    refine wpG_end (fun wg Bg hbg hBg hFg => ?_)
    have hbG : Below w.heap.size w wg := hbX.drew.trans (hbg.mono hbX.size)
    clear hFg hBg
    go_wp2_with fail
    go_ret
    exact ⟨rfl, hbG⟩
  · have q0 : (E != 0) = true := by simpa using hC
    have hB := B1 hC
    subst hB
    clear B0 B1 RW
    refine region_making 23 (fun _ => []) (fun | _ => none) (by kernel_rfl) (by kernel_rfl) ?_ ?_
    · intro i' S' h' e v'
      cases h'
    simp only [List.take_succ_cons, List.take_zero, List.drop_succ_cons, List.drop_zero]
    (apply wpG_pure; (focus rfl); (focus (intro wg Bg hbg hBg hFg; go_simp; (try go_bits); (first | done | exact ⟨rfl, Below.refl _ _⟩ | rfl))); simp only [Act.put, List.setIfInBounds_toArray, List.set_cons_succ, List.set_cons_zero])
    (apply wpG_pure; (focus rfl); (focus (intro wg Bg hbg hBg hFg; go_simp; (try go_bits); (first | done | exact ⟨rfl, Below.refl _ _⟩ | rfl))); simp only [Act.put, List.setIfInBounds_toArray, List.set_cons_succ, List.set_cons_zero])
    (apply wpG_pure; (focus rfl); (focus (intro wg Bg hbg hBg hFg; go_simp; (try go_bits); (first | done | exact ⟨rfl, Below.refl _ _⟩ | rfl))); simp only [Act.put, List.setIfInBounds_toArray, List.set_cons_succ, List.set_cons_zero])
    (apply wpG_pure; (focus rfl); (focus (intro wg Bg hbg hBg hFg; go_simp; (try go_bits); (first | done | exact ⟨rfl, Below.refl _ _⟩ | rfl))); simp only [Act.put, List.setIfInBounds_toArray, List.set_cons_succ, List.set_cons_zero])
    (refine wpG_lenw rfl (by go_simp) Tryd.underlying28 (by with_unfolding_all (conv => lhs; whnf)) hr5 ?_; simp only [Act.put, List.setIfInBounds_toArray, List.set_cons_succ, List.set_cons_zero])
    (apply wpG_pure; (focus rfl); (focus (intro wg Bg hbg hBg hFg; go_simp; (try go_bits); (first | done | exact ⟨rfl, Below.refl _ _⟩ | rfl))); simp only [Act.put, List.setIfInBounds_toArray, List.set_cons_succ, List.set_cons_zero])
    (apply wpG_pure; (focus rfl); (focus (intro wg Bg hbg hBg hFg; go_simp; (try go_bits); (first | done | exact ⟨rfl, Below.refl _ _⟩ | rfl))); simp only [Act.put, List.setIfInBounds_toArray, List.set_cons_succ, List.set_cons_zero])
    (apply wpG_pure; (focus rfl); (focus (intro wg Bg hbg hBg hFg; go_simp; (try go_bits); (first | done | exact ⟨rfl, Below.refl _ _⟩ | rfl))); simp only [Act.put, List.setIfInBounds_toArray, List.set_cons_succ, List.set_cons_zero])
    (apply wpG_pure; (focus rfl); (focus (intro wg Bg hbg hBg hFg; go_simp; (try go_bits); (first | done | exact ⟨rfl, Below.refl _ _⟩ | rfl))); simp only [Act.put, List.setIfInBounds_toArray, List.set_cons_succ, List.set_cons_zero])
    (apply wpG_pure; (focus rfl); (focus (intro wg Bg hbg hBg hFg; go_simp; (try go_bits); (first | done | exact ⟨rfl, Below.refl _ _⟩ | rfl))); simp only [Act.put, List.setIfInBounds_toArray, List.set_cons_succ, List.set_cons_zero])
    (apply wpG_pure; (focus rfl); (focus (intro wg Bg hbg hBg hFg; go_simp; (try go_bits); (first | done | exact ⟨rfl, Below.refl _ _⟩ | rfl))); simp only [Act.put, List.setIfInBounds_toArray, List.set_cons_succ, List.set_cons_zero])
    (apply wpG_pure; (focus rfl); (focus (intro wg Bg hbg hBg hFg; go_simp; (try go_bits); (first | done | exact ⟨rfl, Below.refl _ _⟩ | rfl))); simp only [Act.put, List.setIfInBounds_toArray, List.set_cons_succ, List.set_cons_zero])
    (apply wpG_pure; (focus rfl); (focus (intro wg Bg hbg hBg hFg; go_simp; (try go_bits); (first | done | exact ⟨rfl, Below.refl _ _⟩ | rfl))); simp only [Act.put, List.setIfInBounds_toArray, List.set_cons_succ, List.set_cons_zero])
    (apply wpG_pure; (focus rfl); (focus (intro wg Bg hbg hBg hFg; go_simp; (try go_bits); (first | done | exact ⟨rfl, Below.refl _ _⟩ | rfl))); simp only [Act.put, List.setIfInBounds_toArray, List.set_cons_succ, List.set_cons_zero])
    (apply wpG_pure; (focus rfl); (focus (intro wg Bg hbg hBg hFg; go_simp; (try go_bits); (first | done | exact ⟨rfl, Below.refl _ _⟩ | rfl))); simp only [Act.put, List.setIfInBounds_toArray, List.set_cons_succ, List.set_cons_zero])
    (apply wpG_pure; (focus rfl); (focus (intro wg Bg hbg hBg hFg; go_simp; (try go_bits); (first | done | exact ⟨rfl, Below.refl _ _⟩ | rfl))); simp only [Act.put, List.setIfInBounds_toArray, List.set_cons_succ, List.set_cons_zero])
    (apply wpG_pure; (focus rfl); (focus (intro wg Bg hbg hBg hFg; go_simp; (try go_bits); (first | done | exact ⟨rfl, Below.refl _ _⟩ | rfl))); simp only [Act.put, List.setIfInBounds_toArray, List.set_cons_succ, List.set_cons_zero])
    (apply wpG_pure; (focus rfl); (focus (intro wg Bg hbg hBg hFg; go_simp; (try go_bits); (first | done | exact ⟨rfl, Below.refl _ _⟩ | rfl))); simp only [Act.put, List.setIfInBounds_toArray, List.set_cons_succ, List.set_cons_zero])
    (apply wpG_pure; (focus rfl); (focus (intro wg Bg hbg hBg hFg; go_simp; (try go_bits); (first | done | exact ⟨rfl, Below.refl _ _⟩ | rfl))); simp only [Act.put, List.setIfInBounds_toArray, List.set_cons_succ, List.set_cons_zero])
    (apply wpG_pure; (focus rfl); (focus (intro wg Bg hbg hBg hFg; go_simp; (try go_bits); (first | done | exact ⟨rfl, Below.refl _ _⟩ | rfl))); simp only [Act.put, List.setIfInBounds_toArray, List.set_cons_succ, List.set_cons_zero])
    (apply wpG_pure; (focus rfl); (focus (intro wg Bg hbg hBg hFg; go_simp; (try refine ⟨by kernel_rfl, ?_⟩); go_at_call 21; exact Calls.mono ((WK _ (hbX.drew.trans (hbg.mono hbX.size)))) (fun e w' h => (by obtain ⟨rfl, hb⟩ := h; exact ⟨rfl, hb⟩)))); simp only [Act.put, List.setIfInBounds_toArray, List.set_cons_succ, List.set_cons_zero])
    (apply wpG_pure; (focus rfl); (focus (intro wg Bg hbg hBg hFg; go_simp; (try go_bits); (first | done | exact ⟨rfl, Below.refl _ _⟩ | rfl))); simp only [Act.put, List.setIfInBounds_toArray, List.set_cons_succ, List.set_cons_zero])
    (apply wpG_pure; (focus rfl); (focus (intro wg Bg hbg hBg hFg; go_simp; (try go_bits); (first | done | exact ⟨rfl, Below.refl _ _⟩ | rfl))); simp only [Act.put, List.setIfInBounds_toArray, List.set_cons_succ, List.set_cons_zero])
    refine wpG_end (fun wg Bg hbg hBg hFg => ?_)
    have hbG : Below w.heap.size w wg := hbX.drew.trans (hbg.mono hbX.size)
    clear hFg hBg
    go_wp2_with fail
    go_ret
    exact ⟨rfl, hbG⟩
theorem stanzaWrite_w (w : World) (hT : Tabs w) (k : Int) (hk : -9223372036854775808 ≤ k ∧ k ≤ 9223372036854775807) (i : Int) (hi : 0 ≤ i ∧ i < 18446744073709551616) (a : ByteArray) (ha : a.size ≤ maxLen) (b : ByteArray) (hb : b.size ≤ maxLen) (t : ByteArray) (ht : t.size ≤ maxLen)
    (vl : Value) (l : List (List UInt8)) (hl : RdT w vl l) (hll : ∀ y ∈ l, y.length ≤ 9223372036854775807) (n : Int) (hn : -9223372036854775808 ≤ n ∧ n ≤ 9223372036854775807) (f : Nat) (hf : f < 18446744073709551616) :
    Calls Tryd.prog 3 #[.agg #[.int .i64 k, .int .u64 i, .string a, .string b, .string t, vl, .int .i64 n, .float .f64 f]] w (Ok w) := by
  obtain ⟨i, rfl⟩ := Int.eq_ofNat_of_zero_le hi.1
  have la : a.data.toList.length = a.size := rfl
  have lb : b.data.toList.length = b.size := rfl
  have lt : t.data.toList.length = t.size := rfl
  unfold maxLen at ha hb ht
  exact stanzaWrite_c w hT ⟨k, i, a.data.toList, b.data.toList, t.data.toList, l, n, f⟩ vl hl ⟨by simp only; omega, by simp only; omega, by simp only; omega, hll⟩ (by simp only; omega) hn hf
end Go.Proofs.YtocfcgjjepegmaaDoor
