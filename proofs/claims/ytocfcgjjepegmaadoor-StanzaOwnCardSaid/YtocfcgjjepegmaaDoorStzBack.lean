/- StanzaBack. -/
import Derived.Test.YtocfcgjjepegmaaDoorStz11
set_option linter.unusedVariables false
set_option linter.unusedSimpArgs false
namespace Go.Proofs.YtocfcgjjepegmaaDoor
open Go.RowKit
theorem stzIn_of {s : Stz} (h : StzOk s) : StzIn s := ⟨by have := h.a; omega, by have := h.b; omega, by have := h.t; omega, fun x hx => by have := h.l x hx; omega⟩
/-- A stanza that is laid into a new block. -/
theorem stz_new (w : World) (s : Stz) (vl : Value) : Blk (w.alloc (.cells #[.int .i64 s.kind, .int .u64 (s.id : Int), .string (strB s.a), .string (strB s.b), .string (strB s.t), vl, .int .i64 s.n, .float .f64 s.f] 26)) w.heap.size 26 (stzCells s vl) := Blk.new w 26 (stzCells s vl)
theorem stzOk_read {l : List UInt8} (h : (readI l).2 = 0) : StzOk (readI l).1 := by
  obtain ⟨h1, _, h3, _, h5, h6⟩ := readI_back l h
  obtain ⟨a, b, c, d, e, _⟩ := checkI_ok h1
  exact ⟨by have := (textE_ok a).1; omega, by have := (textE_ok b).1; omega, by have := (textE_ok c).1; omega, fun x hx => by have := (textE_ok (d x hx)).1; omega, by omega, h3, h5, h6⟩
theorem readI_zero (l : List UInt8) (h : (readI l).2 ≠ 0) : (readI l).1 = zS := by
  unfold readI at h ⊢
  split at h
  · rename_i h0
    rw [if_pos h0]
    split at h
    · rename_i h1; rw [if_pos h1]
    · rename_i h1
      rw [if_neg h1]
      split at h
      · rename_i h2
        rw [if_pos h2]
        split at h
        · rename_i h3; (try rw [h3]); rfl
        · rename_i c r h3
          try rw [h3]
          try simp only
          unfold bodyI at h ⊢
          split at h
          · rename_i h4; rw [if_pos h4]
          · rename_i h4
            rw [if_neg h4]
            split at h
            · rename_i h5
              rw [if_pos h5]
              split at h
              · exact absurd rfl h
              · rename_i h6; rw [if_neg h6]
            · rename_i h5; rw [if_neg h5]
      · rename_i h2; rw [if_neg h2]
  · rename_i h0; rw [if_neg h0]
theorem L_load_aggw {P : Program} {w : World} {ops : Array Oper} {rest : List Oper} {o : Oper} {a : Act} {Q : Exit → Act → World → Prop} {x : Nat} {T T' : TypeId} {n g : Nat} {cs : List Value} (hw : Region.wanted o (yielded ops a.tmps) = true) (ho : o.op = .load T (.tmp x)) (AT : AggTy P T n)
    (hx : a.eval (.tmp x) = .pointer (some ⟨g, 0, none⟩)) (hb : Blk w g T' cs) (hn : cs.length = n) (h : wpList P ops Q rest (a.put o.dst (.agg cs.toArray)) w) : wpList P ops Q (o :: rest) a w := by
  obtain ⟨dd, h1, h2⟩ := AT.shape
  exact wpList_want hw fun _ hK => wp_load_row T (.tmp x) ho g hx T' cs.toArray (0, 0) dd hb h1 (by cases dd <;> simp_all) (by rw [AT.size]; simp [hn]) (hK _ _ h)
theorem writeL_len (s : Stz) (h : checkI s = 0) (ok : StzOk s) : (writeL s).length ≤ 500000 := by
  obtain ⟨a, b, c, d, e, k1, k2⟩ := checkI_ok h
  have la := (textE_ok a).1
  have lb := (textE_ok b).1
  have lt := (textE_ok c).1
  have lx := fun x hx => (textE_ok (d x hx)).1
  have e1 := formU_len64 s.kind.toNat (by omega)
  have e2 := formU_len64 s.id ok.id
  have e3 := pT_len s.a (by omega)
  have e4 := pT_len s.b (by omega)
  have e5 := pT_len s.t (by omega)
  have e6 : (pL s.l).length ≤ 70000 := by
    unfold pL
    split
    · simp
    · have t1 := txtsF_len s.l lx
      have t2 := formU_len64 s.l.length (by omega)
      simp; omega
  have e7 : (pN s.n).length ≤ 10 := by
    unfold pN
    split
    · simp
    · exact formU_len64 _ (zig_lt _ ok.n)
  have e8 : (pF s.f).length ≤ 8 := by
    unfold pF
    split
    · simp
    · simp [beBs]
  unfold writeL
  simp
  omega
set_option maxRecDepth 100000 in
set_option maxHeartbeats 3200000 in
theorem stanzaBack_c (w : World) (hT : Tabs w) (s : Stz) (vl : Value) (hl : RdT w vl s.l) (hs : StzIn s) (hid : s.id < 18446744073709551616) (hn : -9223372036854775808 ≤ s.n ∧ s.n ≤ 9223372036854775807) (hf : s.f < 18446744073709551616)
    (v2 : Value) (l2 : List UInt8) (h2 : Rd w v2 l2) (m : UInt8) :
    Calls Tryd.prog 5 #[stzV s vl, v2, .int .u8 (m.toNat : Int)] w (Ok w) := by
  have hok := twinS_ok s hid hn hf
  have T1 := fun w1 (hb : Below w.heap.size w w1) => twin4_c w1 s vl (hl.below hb) hs
  have T2 := fun w1 u h => twin4_c w1 (twinS s) u h (stzIn_of hok)
  rw [twinS_twinS] at T2
  have hsf := fun (W : World) (a : Addr) (x : Nat) m => run_store Tryd.prog W a (.float .f64 x) m rfl
  obtain ⟨S, hS⟩ : ∃ S, S = twinS s := ⟨_, rfl⟩
  rw [← hS] at T1 T2 hok
  clear hS
  have WR := fun w1 (hb : Below w.heap.size w w1) u h => write_c w1 (hT.below hb) S u h hok
  have TW := fun w1 (hb : Below w.heap.size w w1) => twin_c v2 l2 5000 w1 (h2.below hb) (by omega) (by omega)
  rw [show (5000 : Int).toNat = 5000 from rfl] at TW
  have hc5 : (l2.take 5000).length ≤ 5000 := by simp; omega
  have TW2 := fun w1 u (h : Rd w1 u (l2.take 5000)) => twin_c u (l2.take 5000) 5000 w1 h (by omega) (by omega)
  rw [show (5000 : Int).toNat = 5000 from rfl, show (l2.take 5000).take 5000 = l2.take 5000 by rw [List.take_take]; simp] at TW2
  generalize l2.take 5000 = c at *
  clear h2 hl
  unfold stzV at T1 T2 WR ⊢
  unfold GivesZ stzV at T1 T2
  try simp only at T1 T2 WR ⊢
  go_enter Tryd.func5, Tryd.ntmps5
  have ta0 : True := trivial
  go_upto_region 2 with (first
    | (have _t := ta0; (with_reducible refine G_box ?_; refine L_box (by with_unfolding_all (conv => lhs; whnf)) ?_); intro wx hkx hbx hsx; clear hsx; clear ta0; have ta1 : True := trivial)
    | (have _t := ta1; (with_reducible refine G_load ?_; refine L_load_agg agS (by with_unfolding_all (conv => lhs; whnf)) hkx rfl ?_); clear ta1; have ta2 : True := trivial)
    | (have _t := ta2; go_at_call 15; refine (T1 _ hbx).mono ?_; rintro e w2 ⟨u, rfl, ho, hb2⟩; obtain ⟨Au, cu, eu, eur⟩ := ho.rd.open; clear eur; generalize hnu : S.l.length = nu at eu; subst eu; clear ta2; have ta3 : True := trivial))
  have hk7 := stz_new w2 S (.slice Au nu cu)
  have hb3 := (Below.refl w2.heap.size w2).alloc (Nat.le_refl _) (.cells #[.int .i64 S.kind, .int .u64 (S.id : Int), .string (strB S.a), .string (strB S.b), .string (strB S.t), (.slice Au nu cu), .int .i64 S.n, .float .f64 S.f] 26)
  have hbW := below_below (below_below hbx hb2) hb3
  have hr7 := ho.rd.below hb3
  generalize w2.alloc (.cells #[.int .i64 S.kind, .int .u64 (S.id : Int), .string (strB S.a), .string (strB S.b), .string (strB S.t), (.slice Au nu cu), .int .i64 S.n, .float .f64 S.f] 26) = W1 at *
  generalize w2.heap.size = G at *
  clear hb3 hb2 hbx hkx ho T1
  have NX : checkI S = 0 → writeI S = (writeL S, 0) := fun h => by unfold writeI; rw [if_pos h]
  have NE : checkI S ≠ 0 → writeI S = ([], checkI S) := fun h => by unfold writeI; rw [if_neg h]
  have FW := fun more h => readI_write S more h hok.id hok.n hok.f
  have hWl := fun h => writeL_len S h hok
  unfold GivesW at WR
  generalize checkI S = E at *
  by_cases hC : E = 0
  focus
    rw [NX hC] at WR
    replace hWl := hWl hC
    have FW0 := FW [] hC
    have FW1 := FW [m] hC
    rw [if_pos rfl, List.append_nil] at FW0
    rw [if_neg (by simp)] at FW1
    generalize writeL S = B at *
    have RD0 := fun w1 v (hb : Below w.heap.size w w1) (h : Rd w1 v B) => read_c w1 (hT.below hb) v B h (by omega)
    have RD1 := fun w1 v (hb : Below w.heap.size w w1) (h : Rd w1 v (B ++ [m])) => read_c w1 (hT.below hb) v (B ++ [m]) h (by simp; omega)
    rw [FW0] at RD0
    rw [FW1] at RD1
    have SM := fun w1 (u1 u2 : Value) (h1 : RdT w1 u1 S.l) (h2 : RdT w1 u2 S.l) => same4_c w1 S { S with f := bitsI S.f } u1 u2 h1 h2 rfl (bitsI_bitsI _).symm
    unfold stzV at SM
    unfold GivesS stzV at RD0 RD1
    clear NX NE FW FW0 FW1 hC
    try simp only at WR RD0 RD1 SM
    have tb0 : True := trivial
    go_upto_region 5 with (first
      | (have _t := tb0; (with_reducible refine G_load ?_; refine L_load_agg agS (by with_unfolding_all (conv => lhs; whnf)) hk7 rfl ?_); clear tb0; have tb1 : True := trivial)
      | (have _t := tb1; go_at_call 15; refine (T2 _ _ hr7).mono ?_; rintro e w4 ⟨u4, rfl, ho4, hb4⟩; clear tb1; have tb2 : True := trivial)
      | (have _t := tb2; go_at_call 16; refine (WR _ (below_below hbW hb4) _ ho4.rd).mono ?_; rintro e w5 ⟨v5, rfl, ho5, hb5⟩; have hbX := below_below (below_below hbW hb4) hb5; replace hk7 := (hk7.below hb4).below hb5; replace hr7 := (hr7.below hb4).below hb5; clear tb2; have tb3 : True := trivial)
      | (have _t := tb3; (at_builtin; refine wpList_cp8 rfl _ _ rfl st8 Tryd.underlying28 rfl rfl ho5.rd (by omega) ?_); intro v6 w6 ho6 hb6; replace hbX := below_below hbX hb6; replace hk7 := hk7.below hb6; replace hr7 := hr7.below hb6; have hr5 := ho5.rd.below hb6; clear tb3; have tb4 : True := trivial)
      | (have _t := tb4; go_at_call 23; refine (RD0 _ _ hbX ho6.rd).mono ?_; rintro e w7 ⟨u7, rfl, ho7, hb7⟩; replace hbX := below_below hbX hb7; replace hk7 := hk7.below hb7; replace hr7 := hr7.below hb7; replace hr5 := hr5.below hb7; obtain ⟨A7, c7, e7, r7⟩ := ho7.rd.open; clear r7; generalize hn7 : S.l.length = n7 at e7; subst e7; clear tb4; have tb5 : True := trivial))
    have hk10 := stz_new w7 { S with f := bitsI S.f } (.slice A7 n7 c7)
    have hbA := (Below.refl w7.heap.size w7).alloc (Nat.le_refl _) (.cells #[.int .i64 S.kind, .int .u64 (S.id : Int), .string (strB S.a), .string (strB S.b), .string (strB S.t), (.slice A7 n7 c7), .int .i64 S.n, .float .f64 (bitsI S.f)] 26)
    replace hk7 := hk7.below hbA
    replace hr7 := hr7.below hbA
    replace hr5 := hr5.below hbA
    have hr10 := ho7.rd.below hbA
    replace hbX := below_below hbX hbA
    simp only at hk10
    generalize w7.alloc (.cells #[.int .i64 S.kind, .int .u64 (S.id : Int), .string (strB S.a), .string (strB S.b), .string (strB S.t), (.slice A7 n7 c7), .int .i64 S.n, .float .f64 (bitsI S.f)] 26) = W7 at *
    generalize w7.heap.size = G7 at *
    clear hbA hb7 ho7 RD0 T2 hb6 ho6 hb5 ho5 hb4 ho4 WR
    have tc0 : True := trivial
    go_upto_region 6 with (first
      | (have _t := tc0; (at_builtin; refine wpList_cp8 rfl _ _ rfl st8 Tryd.underlying28 rfl rfl hr5 (by omega) ?_); intro v8 w8 ho8 hb8; have hz8 := hb8.size; clear tc0; have tc1 : True := trivial)
      | (have _t := tc1; (at_builtin; refine wpList_app8 rfl _ _ rfl st8 (by with_unfolding_all (conv => lhs; whnf)) (Own8.below ho8 ((Below.refl _ _).alloc (Nat.le_refl _) _)) rfl (Rd.src (Rd.lit _ _ _ [m] rfl rfl (by simp) (by decide)) Tryd.underlying28) (by first | omega | (simp; omega)) (by first | (simp; done) | omega | (simp; omega)) ?_); intro v9 w9 ho9 hg9 hq9; have hb9 := (app_step hb8 ho8 (Nat.le_refl _) hg9).1; replace hk7 := hk7.below hb9; replace hr7 := hr7.below hb9; replace hk10 := hk10.below hb9; replace hr10 := hr10.below hb9; replace hbX := below_below hbX hb9; clear tc1; have tc2 : True := trivial)
      | (have _t := tc2; go_at_call 23; refine (RD1 _ _ hbX ho9.rd).mono ?_; rintro e wa ⟨ua, rfl, hoa, hba⟩; replace hk7 := hk7.below hba; replace hr7 := hr7.below hba; replace hk10 := hk10.below hba; replace hr10 := hr10.below hba; replace hbX := below_below hbX hba; obtain ⟨Aa, ca, ea, ra⟩ := hoa.rd.open; clear ra; subst ea; clear tc2; have tc3 : True := trivial))
    have hbA := (Below.refl wa.heap.size wa).alloc (Nat.le_refl _) (.cells #[.int .i64 zS.kind, .int .u64 (zS.id : Int), .string (strB zS.a), .string (strB zS.b), .string (strB zS.t), (.slice Aa zS.l.length ca), .int .i64 zS.n, .float .f64 zS.f] 26)
    replace hk7 := hk7.below hbA
    replace hr7 := hr7.below hbA
    replace hk10 := hk10.below hbA
    replace hr10 := hr10.below hbA
    replace hbX := below_below hbX hbA
    generalize wa.alloc (.cells #[.int .i64 zS.kind, .int .u64 (zS.id : Int), .string (strB zS.a), .string (strB zS.b), .string (strB zS.t), (.slice Aa zS.l.length ca), .int .i64 zS.n, .float .f64 zS.f] 26) = Wb at *
    clear hbA hba hoa hb9 hg9 hq9 ho9 ho8 hb8 hz8 RD1
    have td0 : True := trivial
    go_upto_region 8 with (first
      | (have _t := td0; (refine L_load_aggw (by go_simp) rfl agS (by with_unfolding_all (conv => lhs; whnf)) hk7 rfl ?_); clear td0; have td1 : True := trivial)
      | (have _t := td1; (refine L_load_aggw (by go_simp) rfl agS (by with_unfolding_all (conv => lhs; whnf)) hk10 rfl ?_); clear td1; have td2 : True := trivial)
      | (have _t := td2; go_at_call 25; refine (SM _ _ _ hr7 hr10).mono ?_; rintro e wz ⟨rfl, hbb⟩; have hbZ := below_below hbX hbb; clear td2; have td3 : True := trivial))
    clear hbb hbX hk7 hk10 hr7 hr10 hr5 SM hsf hok hbW
  rotate_left
  focus
    rw [NE hC] at WR
    have q0 : (E == 0) = false := by simpa using hC
    clear NX NE FW hC hWl
    try simp only at WR
    have tg0 : True := trivial
    go_upto_region 8 with (first
      | (have _t := tg0; (with_reducible refine G_load ?_; refine L_load_agg agS (by with_unfolding_all (conv => lhs; whnf)) hk7 rfl ?_); clear tg0; have tg1 : True := trivial)
      | (have _t := tg1; go_at_call 15; refine (T2 _ _ hr7).mono ?_; rintro e w4 ⟨u4, rfl, ho4, hb4⟩; clear tg1; have tg2 : True := trivial)
      | (have _t := tg2; go_at_call 16; refine (WR _ (below_below hbW hb4) _ ho4.rd).mono ?_; rintro e wz ⟨v5, rfl, ho5, hb5⟩; have hbZ := below_below (below_below hbW hb4) hb5; clear tg2; have tg3 : True := trivial))
    clear ho5 hb5 ho4 hb4 WR T2 hk7 hr7 hbW hok hsf
  all_goals
    have RC := fun w1 v (hb : Below w.heap.size w w1) (h : Rd w1 v c) => read_c w1 (hT.below hb) v c h (by omega)
    have WK := fun w1 (hb : Below w.heap.size w w1) => wakes4_c w1 (hT.below hb)
    have hsf := fun (W : World) (a : Addr) (x : Nat) m => run_store Tryd.prog W a (.float .f64 x) m rfl
    by_cases hR : (readI c).2 = 0
    focus
      have WC := fun w1 (hb : Below w.heap.size w w1) u h => write_c w1 (hT.below hb) (readI c).1 u h (stzOk_read hR)
      have hwc : writeI (readI c).1 = (c, 0) := by unfold writeI; rw [if_pos (readI_back c hR).1, (readI_back c hR).2.1]
      rw [hwc] at WC
      have hrr : readI c = ((readI c).1, 0) := by rw [← hR]
      rw [hrr] at RC
      clear hwc hrr hR
      generalize (readI c).1 = R at *
      unfold GivesS stzV at RC
      unfold GivesW stzV at WC
      simp only at RC WC
      have te0 : True := trivial
      go_upto_region 10 with (first
        | (have _t := te0; go_at_call 22; refine (TW _ hbZ).mono ?_; rintro e wc ⟨vc, rfl, hoc, hbc⟩; replace hbZ := below_below hbZ hbc; clear te0; have te1 : True := trivial)
        | (have _t := te1; go_at_call 22; refine (TW2 _ _ hoc.rd).mono ?_; rintro e wd ⟨vd, rfl, hod, hbd⟩; replace hbZ := below_below hbZ hbd; have hrc := hoc.rd.below hbd; clear te1; have te2 : True := trivial)
        | (have _t := te2; go_at_call 23; refine (RC _ _ hbZ hod.rd).mono ?_; rintro e we ⟨ve, rfl, hoe, hbe⟩; replace hbZ := below_below hbZ hbe; replace hrc := hrc.below hbe; obtain ⟨Ae, ce, ee, re⟩ := hoe.rd.open; clear re; generalize hne : R.l.length = ne at ee; subst ee; clear te2; have te3 : True := trivial))
      have hk15 := stz_new we R (.slice Ae ne ce)
      have hbA := (Below.refl we.heap.size we).alloc (Nat.le_refl _) (.cells #[.int .i64 R.kind, .int .u64 (R.id : Int), .string (strB R.a), .string (strB R.b), .string (strB R.t), (.slice Ae ne ce), .int .i64 R.n, .float .f64 R.f] 26)
      have hre := hoe.rd.below hbA
      replace hrc := hrc.below hbA
      replace hbZ := below_below hbZ hbA
      generalize we.alloc (.cells #[.int .i64 R.kind, .int .u64 (R.id : Int), .string (strB R.a), .string (strB R.b), .string (strB R.t), (.slice Ae ne ce), .int .i64 R.n, .float .f64 R.f] 26) = Wf at *
      generalize we.heap.size = G15 at *
      clear hbA hoe hbe hod hbd hoc hbc RC TW TW2
      have tf0 : True := trivial
      go_wp2_with (first
        | (have _t := tf0; (with_reducible refine G_load ?_; refine L_load_agg agS (by with_unfolding_all (conv => lhs; whnf)) hk15 rfl ?_); clear tf0; have tf1 : True := trivial)
        | (have _t := tf1; go_at_call 16; refine (WC _ hbZ _ hre).mono ?_; rintro e wg ⟨vg, rfl, hog, hbg⟩; replace hbZ := below_below hbZ hbg; have hc1 := convert_str hog.rd; have hc2 := convert_str (hrc.below hbg); clear tf1; have tf2 : True := trivial)
        | (have _t := tf2; go_at_call 21; refine (WK _ hbZ).mono ?_; rintro e wh ⟨rfl, hbh⟩; clear tf2; have tf3 : True := trivial))
      go_ret
      exact ⟨rfl, below_below hbZ hbh⟩
    focus
      have hrr : readI c = (zS, (readI c).2) := by rw [← readI_zero c hR]
      rw [hrr] at RC
      clear hrr
      generalize (readI c).2 = X at *
      have RC0 : ∀ w1 v, Below w.heap.size w w1 → Rd w1 v c → Calls Tryd.prog 23 #[v] w1 fun e w' => ∃ vl, e = .returned (.tuple #[.agg #[.int .i64 0, .int .u64 0, .string ⟨#[]⟩, .string ⟨#[]⟩, .string ⟨#[]⟩, vl, .int .i64 0, .float .f64 0], .int .i64 X]) ∧ OwnT w' w1.heap.size vl [] ∧ Below w1.heap.size w1 w' := RC
      have SM0 : ∀ w1 u1, RdT w1 u1 [] → Calls Tryd.prog 25 #[.agg #[.int .i64 0, .int .u64 0, .string ⟨#[]⟩, .string ⟨#[]⟩, .string ⟨#[]⟩, u1, .int .i64 0, .float .f64 0], .agg #[.int .i64 0, .int .u64 0, .string ⟨#[]⟩, .string ⟨#[]⟩, .string ⟨#[]⟩, .slice none 0 0, .int .i64 0, .float .f64 0]] w1 (Ok w1) := fun w1 u1 h => same4_c w1 zS zS u1 (.slice none 0 0) h (RdT.nil _) rfl rfl
      have q1 : (X != 0) = true := by simpa using hR
      clear RC hR
      have te0 : True := trivial
      go_upto_region 10 with (first
        | (have _t := te0; go_at_call 22; refine (TW _ hbZ).mono ?_; rintro e wc ⟨vc, rfl, hoc, hbc⟩; replace hbZ := below_below hbZ hbc; clear te0; have te1 : True := trivial)
        | (have _t := te1; go_at_call 22; refine (TW2 _ _ hoc.rd).mono ?_; rintro e wd ⟨vd, rfl, hod, hbd⟩; replace hbZ := below_below hbZ hbd; clear te1; have te2 : True := trivial)
        | (have _t := te2; go_at_call 23; refine (RC0 _ _ hbZ hod.rd).mono ?_; rintro e we ⟨ve, rfl, hoe, hbe⟩; replace hbZ := below_below hbZ hbe; obtain ⟨Ae, ce, ee, re⟩ := hoe.rd.open; clear re; subst ee; clear te2; have te3 : True := trivial))
      have hk15 := stz_new we zS (.slice Ae 0 ce)
      have hbA := (Below.refl we.heap.size we).alloc (Nat.le_refl _) (.cells #[.int .i64 0, .int .u64 0, .string ⟨#[]⟩, .string ⟨#[]⟩, .string ⟨#[]⟩, .slice Ae 0 ce, .int .i64 0, .float .f64 0] 26)
      have hre := hoe.rd.below hbA
      replace hbZ := below_below hbZ hbA
      replace hk15 : Blk (we.alloc (.cells #[.int .i64 0, .int .u64 0, .string ⟨#[]⟩, .string ⟨#[]⟩, .string ⟨#[]⟩, .slice Ae 0 ce, .int .i64 0, .float .f64 0] 26)) we.heap.size 26 [.int .i64 0, .int .u64 0, .string ⟨#[]⟩, .string ⟨#[]⟩, .string ⟨#[]⟩, .slice Ae 0 ce, .int .i64 0, .float .f64 0] := hk15
      simp only [List.length_nil] at hre ⊢
      generalize we.alloc (.cells #[.int .i64 0, .int .u64 0, .string ⟨#[]⟩, .string ⟨#[]⟩, .string ⟨#[]⟩, .slice Ae 0 ce, .int .i64 0, .float .f64 0] 26) = Wf at *
      generalize we.heap.size = G15 at *
      clear hbA hoe hbe hod hbd hoc hbc RC0 TW TW2
      have tf0 : True := trivial
      go_wp2_with (first
        | (have _t := tf0; (with_reducible refine G_load ?_; refine L_load_agg agS (by with_unfolding_all (conv => lhs; whnf)) hk15 rfl ?_); clear tf0; have tf1 : True := trivial)
        | (have _t := tf1; go_at_call 25; refine (SM0 _ _ hre).mono ?_; rintro e wg ⟨rfl, hbg⟩; replace hbZ := below_below hbZ hbg; clear tf1; have tf2 : True := trivial)
        | (have _t := tf2; go_at_call 21; refine (WK _ hbZ).mono ?_; rintro e wh ⟨rfl, hbh⟩; clear tf2; have tf3 : True := trivial))
      go_ret
      exact ⟨rfl, below_below hbZ hbh⟩
theorem stanzaBack_w (w : World) (hT : Tabs w) (k : Int) (hk : -9223372036854775808 ≤ k ∧ k ≤ 9223372036854775807) (i : Int) (hi : 0 ≤ i ∧ i < 18446744073709551616) (a : ByteArray) (ha : a.size ≤ maxLen) (b : ByteArray) (hb : b.size ≤ maxLen) (t : ByteArray) (ht : t.size ≤ maxLen)
    (vl : Value) (l : List (List UInt8)) (hl : RdT w vl l) (hll : ∀ y ∈ l, y.length ≤ 9223372036854775807) (n : Int) (hn : -9223372036854775808 ≤ n ∧ n ≤ 9223372036854775807) (f : Nat) (hf : f < 18446744073709551616)
    (v2 : Value) (l2 : List UInt8) (h2 : Rd w v2 l2) (m : Int) (hm : 0 ≤ m ∧ m < 256) :
    Calls Tryd.prog 5 #[.agg #[.int .i64 k, .int .u64 i, .string a, .string b, .string t, vl, .int .i64 n, .float .f64 f], v2, .int .u8 m] w (Ok w) := by
  obtain ⟨i, rfl⟩ := Int.eq_ofNat_of_zero_le hi.1
  obtain ⟨m, rfl⟩ := Int.eq_ofNat_of_zero_le hm.1
  have em : ((m : Int)) = (((UInt8.ofNat m).toNat : Nat) : Int) := by rw [UInt8.toNat_ofNat']; omega
  rw [em]
  have la : a.data.toList.length = a.size := rfl
  have lb : b.data.toList.length = b.size := rfl
  have lt : t.data.toList.length = t.size := rfl
  unfold maxLen at ha hb ht
  exact stanzaBack_c w hT ⟨k, i, a.data.toList, b.data.toList, t.data.toList, l, n, f⟩ vl hl ⟨by simp only; omega, by simp only; omega, by simp only; omega, hll⟩ (by simp only; omega) hn hf v2 l2 h2 (UInt8.ofNat m)
end Go.Proofs.YtocfcgjjepegmaaDoor
