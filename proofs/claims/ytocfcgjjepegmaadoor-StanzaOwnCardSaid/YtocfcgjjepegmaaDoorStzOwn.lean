/- StanzaOwn. -/
import Derived.Test.YtocfcgjjepegmaaDoorKeepX
import Derived.Test.YtocfcgjjepegmaaDoorStzRead
set_option linter.unusedVariables false
set_option linter.unusedSimpArgs false
namespace Go.Proofs.YtocfcgjjepegmaaDoor
open Go.RowKit
theorem writeI_len (s : Stz) (ok : StzOk s) : (writeI s).1.length ≤ 500000 := by
  unfold writeI
  split
  · rename_i h; exact writeL_len s h ok
  · simp
def XOf (G : Nat) (v : Value) (k : Nat) : Prop := k = G ∨ v.ownBlock = some k
def StzOwnRel (wx : World) (pB G7 bs0 : Nat) (S : Stz) (vs : Value) (i : Value) (wr : World) : Prop :=
  ∃ (j : Nat) (es : List Lent) (bs : List Kept), j ≤ 2 ∧ i = .int .i64 (j : Int) ∧ es.length ≤ 2 * j ∧ bs.length ≤ j ∧ KeepX wr wx.heap.size wx.heap.size pB (XOf G7 vs) es bs ∧
    Blk wr G7 26 (stzCells S vs) ∧ OwnT wr bs0 vs S.l ∧ Below wx.heap.size wx wr
def OwnIn (W : World) (bu : Nat) (vu : Value) (n : Nat) (k : Value) (wr : World) : Prop :=
  ∃ (m : Nat) (l : List (List UInt8)), m ≤ n ∧ k = .int .i64 (m : Int) ∧ l.length = n ∧ OwnT wr bu vu l ∧ Chg (fun k => vu.ownBlock = some k) W wr
theorem chg_trans {M : Nat → Prop} {w w1 w2 : World} (h1 : Chg M w w1) (h2 : Chg M w1 w2) : Chg M w w2 :=
  ⟨h2.os.trans h1.os, h2.tape.trans h1.tape, h2.output.trans h1.output, Nat.le_trans h1.size h2.size, fun k hk hm => (h2.block k (Nat.lt_of_lt_of_le hk h1.size) hm).trans (h1.block k hk hm)⟩
theorem svs_set (l : List (List UInt8)) (j : Nat) (x : List UInt8) : (svs l).set j (sv x) = svs (l.set j x) := by simp [svs, List.map_set]
theorem OwnT.open {w : World} {base n c : Nat} {A : Option Addr} {l : List (List UInt8)} (h : OwnT w base (.slice A n c) l) (hn : 0 < n) : ∃ g, A = some ⟨g, 0, none⟩ ∧ n = l.length := by
  rcases h.2 with ⟨e, h0⟩ | ⟨g', cap, cur, e, _⟩
  · cases e; omega
  · cases e; exact ⟨g', rfl, rfl⟩
theorem OwnT.at {w : World} {base g n c : Nat} {l : List (List UInt8)} (h : OwnT w base (.slice (some ⟨g, 0, none⟩) n c) l) (j : Nat) (hj : j < l.length) :
    w.cell? ⟨g, j, none⟩ = some (.string (strB l[j])) ∧ w.frozen? ⟨g, j, none⟩ = false ∧ OwnT (w.setCell ⟨g, j, none⟩ (.string (strB [120]))) base (.slice (some ⟨g, 0, none⟩) n c) (l.set j [120]) := by
  have hn : n = l.length := by
    rcases h.2 with ⟨e, h0⟩ | ⟨g', cap, cur, e, _⟩
    · cases e
    · cases e; rfl
  subst hn
  refine ⟨?_, World.ownsRow.frozenAt h j, ?_⟩
  · rw [World.ownsRow.cellAt h j (by omega), svs_get l j hj]
  · have := (World.ownsRow.stored h j (sv [120])).1
    rw [svs_set] at this
    unfold OwnT
    rw [List.length_set]; exact this
set_option maxRecDepth 100000 in
set_option maxHeartbeats 6400000 in
theorem stanzaOwn_c (w : World) (hT : Tabs w) (s : Stz) (vl : Value) (hl : RdT w vl s.l) (hs : StzIn s) (hid : s.id < 18446744073709551616) (hn : -9223372036854775808 ≤ s.n ∧ s.n ≤ 9223372036854775807) (hf : s.f < 18446744073709551616)
    (v2 : Value) (l2 : List UInt8) (h2 : Rd w v2 l2) :
    Calls Tryd.prog 6 #[stzV s vl, v2] w (Ok w) := by
  have hok := twinS_ok s hid hn hf
  have T1 := fun w1 (hb : Below w.heap.size w w1) => twin4_c w1 s vl (hl.below hb) hs
  have T2 := fun w1 u h => twin4_c w1 (twinS s) u h (stzIn_of hok)
  rw [twinS_twinS] at T2
  have hsf := fun (W : World) (a : Addr) (x : Nat) m => run_store Tryd.prog W a (.float .f64 x) m rfl
  obtain ⟨S, hS⟩ : ∃ S, S = twinS s := ⟨_, rfl⟩
  rw [← hS] at T1 T2 hok
  clear hS
  have WR := fun w1 (hb : Below w.heap.size w w1) u h => write_c w1 (hT.below hb) S u h hok
  have hWl := writeI_len S hok
  have SS := fun w1 (u1 u2 : Value) (h1 : RdT w1 u1 S.l) (h2 : RdT w1 u2 S.l) => same4_c w1 S S u1 u2 h1 h2 rfl rfl
  have TW := fun w1 (hb : Below w.heap.size w w1) => twin_c v2 l2 2000 w1 (h2.below hb) (by omega) (by omega)
  rw [show (2000 : Int).toNat = 2000 from rfl] at TW
  have hc2 : (l2.take 2000).length ≤ 2000 := by simp; omega
  generalize l2.take 2000 = c at *
  have RC := fun w1 v (hb : Below w.heap.size w w1) (h : Rd w1 v c) => read_c w1 (hT.below hb) v c h (by omega)
  have RF := fun w1 v (h : Rd w1 v c) => refread_c w1 v c h (by omega)
  have WK := fun w1 (hb : Below w.heap.size w w1) => wakes4_c w1 (hT.below hb)
  generalize readI c = rr at *
  obtain ⟨R, x⟩ := rr
  have SM := fun w1 (u1 u2 : Value) (h1 : RdT w1 u1 R.l) (h2 : RdT w1 u2 R.l) => same4_c w1 R R u1 u2 h1 h2 rfl rfl
  unfold GivesS stzV at RC RF
  unfold stzV at SM SS T1 T2 WR ⊢
  unfold GivesZ stzV at T1 T2
  unfold GivesW at WR
  simp only at RC RF SM SS T1 T2 WR ⊢
  generalize writeI S = WI at *
  obtain ⟨wl, we⟩ := WI
  simp only at hWl WR
  clear h2 hl
  go_enter Tryd.func6, Tryd.ntmps6
  have tok0 : True := trivial
  go_upto_region 3 with (first
    | (have _t := tok0; (with_reducible refine G_box ?_; refine L_box (by with_unfolding_all (conv => lhs; whnf)) ?_); intro wx hkx hbx hsx; clear hsx; clear tok0; have tok1 : True := trivial)
    | (have _t := tok1; (with_reducible refine G_box ?_; refine L_box (by with_unfolding_all (conv => lhs; whnf)) ?_); intro wa hka hba hsa; have ea := Go.Lib.hid hsa; clear hsa; clear tok1; have tok2 : True := trivial)
    | (have _t := tok2; (with_reducible refine G_box ?_; refine L_box (by with_unfolding_all (conv => lhs; whnf)) ?_); intro wb hkb hbb hsb; have hlt := hka.lt; have eb := Go.Lib.hid hsb; clear hsb; clear tok2; have tok3 : True := trivial))
  have hK : KeepAt wb wx.heap.size wx.heap.size wa.heap.size wb.heap.size [] [] := KeepAt.new (hka.below hbb) hkb (Nat.le_refl _) hba.size (by omega)
  have hb := below_below hba hbb
  have hkx' := (hkx.below hba).below hbb
  clear hka hba hkb hbb ea eb hkx hlt
  generalize hpB : wa.heap.size = pB at *
  clear hpB
  have tb0 : True := trivial
  go_upto_region 4 with (first
    | (have _t := tb0; (with_reducible refine G_load ?_; refine L_load_agg agS (by with_unfolding_all (conv => lhs; whnf)) hkx' rfl ?_); clear tb0; have tb1 : True := trivial)
    | (have _t := tb1; go_at_call 15; refine (T1 _ (below_below hbx hb)).mono ?_; rintro e w2 ⟨u, rfl, ho, hb2⟩; obtain ⟨Au, cu, eu, eur⟩ := ho.rd.open; clear eur; generalize hnu : S.l.length = nu at eu; subst eu; clear tb1; have tb2 : True := trivial))
  have hk7 := stz_new w2 S (.slice Au nu cu)
  have hb3 := (Below.refl w2.heap.size w2).alloc (Nat.le_refl _) (.cells #[.int .i64 S.kind, .int .u64 (S.id : Int), .string (strB S.a), .string (strB S.b), .string (strB S.t), (.slice Au nu cu), .int .i64 S.n, .float .f64 S.f] 26)
  have hz3 := hk7.lt
  have hK1 := (hK.below hb2).below hb3
  have hX1 : ∀ k, XOf w2.heap.size (.slice Au nu cu) k → wb.heap.size ≤ k ∧ k < (w2.alloc (.cells #[.int .i64 S.kind, .int .u64 (S.id : Int), .string (strB S.a), .string (strB S.b), .string (strB S.t), (.slice Au nu cu), .int .i64 S.n, .float .f64 S.f] 26)).heap.size := by
    rintro k (rfl | hk)
    · exact ⟨hb2.size, hz3⟩
    · exact ⟨ho.base_le k hk, Nat.lt_of_lt_of_le (ho.lt k hk) hb3.size⟩
  have hKX := KeepX.of hK1 hX1
  have hos := ho.below hb3
  replace hb := below_below hb (below_below hb2 hb3)
  clear hK hK1 hX1 hz3 hb3 hb2 ho hkx' T1
  generalize w2.alloc (.cells #[.int .i64 S.kind, .int .u64 (S.id : Int), .string (strB S.a), .string (strB S.b), .string (strB S.t), (.slice Au nu cu), .int .i64 S.n, .float .f64 S.f] 26) = W1 at *
  generalize w2.heap.size = G7 at *
  generalize wb.heap.size = bs0 at *
  have hpB0 := hKX.pB_lt
  go_wp2_with fail
  go_loopw [8] (StzOwnRel wx pB G7 bs0 S (.slice Au nu cu)) (fun i _ => 2 - (intOf i).toNat)
  case atStart => exact ⟨0, [], [], by omega, rfl, by simp, by simp, hKX, hk7, hos, hb⟩
  clear hKX hk7 hos hb hpB0
  case round =>
    obtain ⟨j, es, bs, hj, rfl, hes, hbs, hKX, hk7, hos, hb⟩ := hrel
    by_cases hj2 : j < 2
    · have q1 : (j : Int) < 2 := by omega
      have tc0 : True := trivial
      go_upto_region 8 with (first
        | (have _t := tc0; (with_reducible refine G_load ?_; refine L_load_agg agS (by with_unfolding_all (conv => lhs; whnf)) hk7 rfl ?_); clear tc0; have tc1 : True := trivial)
        | (have _t := tc1; go_at_call 15; refine (T2 _ _ hos.rd).mono ?_; rintro e w3 ⟨ut, rfl, hot, hb3⟩; obtain ⟨At, ct, et, ert⟩ := hot.rd.open; clear ert; generalize hnt : S.l.length = nt at et; subst et; clear tc1; have tc2 : True := trivial))
      have hkS := hKX.below hb3
      have hk9 := stz_new w3 S (.slice At nt ct)
      have hbA := (Below.refl w3.heap.size w3).alloc (Nat.le_refl _) (.cells #[.int .i64 S.kind, .int .u64 (S.id : Int), .string (strB S.a), .string (strB S.b), .string (strB S.t), (.slice At nt ct), .int .i64 S.n, .float .f64 S.f] 26)
      have hbB := below_below hb3 hbA
      have hlt9 := hk9.lt
      have hKX3 := hKX.fresh hbB
      replace hk7 := hk7.below hbB
      replace hos := hos.below hbB
      have hot9 := hot.below hbA
      have hX9 : ∀ k, XOf w3.heap.size (.slice At nt ct) k → wr.heap.size ≤ k ∧ k < (w3.alloc (.cells #[.int .i64 S.kind, .int .u64 (S.id : Int), .string (strB S.a), .string (strB S.b), .string (strB S.t), (.slice At nt ct), .int .i64 S.n, .float .f64 S.f] 26)).heap.size := by
        rintro k (rfl | hk)
        · exact ⟨hb3.size, hlt9⟩
        · exact ⟨hot.base_le k hk, Nat.lt_of_lt_of_le (hot.lt k hk) hbA.size⟩
      replace hb := below_below hb hbB
      have hKX4 : KeepX _ _ _ _ (fun k => XOf G7 (.slice Au nu cu) k ∨ XOf w3.heap.size (.slice At nt ct) k) es bs := hKX3.mono (fun k hk => hk.elim .inl (fun h => .inr (hX9 k h)))
      have hb0 := hb.size
      clear hkS hKX hKX3 hX9 hlt9 hbB hbA hb3 hot
      generalize w3.alloc (.cells #[.int .i64 S.kind, .int .u64 (S.id : Int), .string (strB S.a), .string (strB S.b), .string (strB S.t), (.slice At nt ct), .int .i64 S.n, .float .f64 S.f] 26) = W3 at *
      generalize w3.heap.size = G9 at *
      have td0 : True := trivial
      go_upto_region 9 with (first
        | (have _t := td0; (with_reducible refine G_load ?_; refine L_load_agg agS (by with_unfolding_all (conv => lhs; whnf)) hk9 rfl ?_); clear td0; have td1 : True := trivial)
        | (have _t := td1; go_at_call 16; refine (WR _ (below_below hbx hb) _ hot9.rd).mono ?_; rintro e w4 ⟨vb, rfl, how, hb4⟩; clear td1; have td2 : True := trivial))
      have hKX5 := hKX4.fresh hb4
      replace hk7 := hk7.below hb4
      replace hos := hos.below hb4
      replace hk9 := hk9.below hb4
      replace hot9 := hot9.below hb4
      replace hb := below_below hb hb4
      have hpW := hKX4.pB_lt
      have hvX : ∀ g, vb.ownBlock = some g → (XOf G7 (.slice Au nu cu) g ∨ XOf G9 (.slice At nt ct) g) ∨ (W3.heap.size ≤ g ∧ g < w4.heap.size) := fun g hg => .inr ⟨how.base_le g hg, how.lt g hg⟩
      have KB := keepX_book w4 _ _ _ _ es bs vb wl hKX5 (how.mono (by omega)) hvX (by omega) (by omega)
      have hnv : ∀ g, (XOf G7 (.slice Au nu cu) g ∨ XOf G9 (.slice At nt ct) g) → vb.ownBlock ≠ some g := fun g hg hv => by
        obtain ⟨_, _, _, _, _, _, _, hX⟩ := hKX4
        have := hX g hg
        have := how.base_le g hv
        omega
      clear hKX5 hKX4 hvX how hb4 hpW
      have te0 : True := trivial
      go_upto_region 10 with (first
        | (have _t := te0; go_at_call 26; refine KB.mono ?_; rintro e w5 ⟨bs5, rfl, hl5, hKX6, hc5, hb5⟩; clear te0; have te1 : True := trivial))
      have hKX7 : KeepX w5 _ _ _ (XOf G7 (.slice Au nu cu)) es bs5 := hKX6.mono (fun k hk => ⟨.inl (.inl hk), hnv k (.inl hk)⟩)
      replace hk7 := hk7.chg hc5 (fun h => h (.inl (.inl (.inl rfl))))
      replace hos := hos.chg hc5 (fun g hg h => h (.inl (.inl (.inr hg))))
      replace hk9 := hk9.chg hc5 (fun h => h (.inl (.inr (.inl rfl))))
      replace hot9 := hot9.chg hc5 (fun g hg h => h (.inl (.inr (.inr hg))))
      replace hb := hb.trans hb5
      clear KB hnv hKX6 hc5 hb5
      have tf0 : True := trivial
      go_upto_region 12 with (first
        | (have _t := tf0; (with_reducible refine G_load ?_; refine L_load_agg agS (by with_unfolding_all (conv => lhs; whnf)) hk7 rfl ?_); clear tf0; have tf1 : True := trivial)
        | (have _t := tf1; (with_reducible refine G_load ?_; refine L_load_agg agS (by with_unfolding_all (conv => lhs; whnf)) hk9 rfl ?_); clear tf1; have tf2 : True := trivial)
        | (have _t := tf2; go_at_call 25; refine (SS _ _ _ hos.rd hot9.rd).mono ?_; rintro e w6 ⟨rfl, hb6⟩; clear tf2; have tf3 : True := trivial))
      replace hk7 := hk7.below hb6
      replace hos := hos.below hb6
      replace hKX7 := hKX7.below hb6
      replace hb := below_below hb hb6
      clear hk9 hot9 hb6
      have tg0 : True := trivial
      go_upto_region 13 with (first
        | (have _t := tg0; go_at_call 22; refine (TW _ (below_below hbx hb)).mono ?_; rintro e w7 ⟨v7, rfl, ho7, hb7⟩; replace hk7 := hk7.below hb7; replace hos := hos.below hb7; replace hKX7 := hKX7.below hb7; replace hb := below_below hb hb7; clear tg0; have tg1 : True := trivial)
        | (have _t := tg1; go_at_call 27; refine (keepX_loan _ _ _ _ _ _ _ _ c hKX7 ho7.rd (by omega) (by omega)).mono ?_; rintro e w8 ⟨u8, es8, rfl, hl8, hr8, hKX8, hc8, hb8⟩; replace hk7 := hk7.chg hc8 (fun h => h (.inl rfl)); replace hos := hos.chg hc8 (fun g hg h => h (.inr hg)); replace hb := hb.trans hb8; replace hl8 := Go.Lib.hid hl8; clear tg1; have tg2 : True := trivial)
        | (have _t := tg2; go_at_call 23; refine (RC _ _ (below_below hbx hb) hr8).mono ?_; rintro e w9 ⟨v9, rfl, ho9, hb9⟩; obtain ⟨Ae, ce, ee, re⟩ := ho9.rd.open; clear re; generalize hne : R.l.length = ne at ee; subst ee; clear tg2; have tg3 : True := trivial))
      as_aux_lemma =>
        have hw0 : wx.heap.size ≤ w8.heap.size := hb.size
        have hnb : ne ≤ 9223372036854775807 := by rw [← hne]; exact ho9.rd.len_le
        have hkU := stz_new w9 R (.slice Ae ne ce)
        have hbA := (Below.refl w9.heap.size w9).alloc (Nat.le_refl _) (.cells #[.int .i64 R.kind, .int .u64 (R.id : Int), .string (strB R.a), .string (strB R.b), .string (strB R.t), (.slice Ae ne ce), .int .i64 R.n, .float .f64 R.f] 26)
        have hbB := below_below hb9 hbA
        have hltU := hkU.lt
        have hKXf := hKX8.fresh hbB
        have hX0 : ∀ k, XOf G7 (.slice Au nu cu) k → k < w8.heap.size := by
          obtain ⟨_, _, _, _, _, _, _, hX⟩ := hKX8
          exact hX
        have hgU : ∀ g, (Value.slice Ae ne ce).ownBlock = some g → w8.heap.size ≤ g ∧ g < w9.heap.size := fun g hg => ⟨ho9.base_le g hg, ho9.lt g hg⟩
        replace hk7 := hk7.below hbB
        replace hos := hos.below hbB
        have hoU := ho9.below hbA
        replace hb := below_below hb hbB
        have hKX9 : KeepX _ _ _ _ (fun k => XOf G7 (.slice Au nu cu) k ∨ XOf w9.heap.size (.slice Ae ne ce) k) es8 bs5 := hKXf.mono (fun k hk => hk.elim .inl (fun h => .inr (by
          rcases h with rfl | h
          · exact ⟨hb9.size, hltU⟩
          · have := hgU k h; omega)))
        have hN9 : w9.heap.size < (w9.alloc (.cells #[.int .i64 R.kind, .int .u64 (R.id : Int), .string (strB R.a), .string (strB R.b), .string (strB R.t), (.slice Ae ne ce), .int .i64 R.n, .float .f64 R.f] 26)).heap.size := hltU
        have hN8 := hb9.size
        clear hKXf hKX8 hbB hbA hb9 ho9 hc8 hr8 ho7 hb7 hKX7 hb8
        generalize w9.alloc (.cells #[.int .i64 R.kind, .int .u64 (R.id : Int), .string (strB R.a), .string (strB R.b), .string (strB R.t), (.slice Ae ne ce), .int .i64 R.n, .float .f64 R.f] 26) = W9 at *
        generalize w9.heap.size = G12 at *
        generalize w8.heap.size = N8 at *
        have th0 : True := trivial
        go_upto_region 14 with (first
          | (have _t := th0; go_at_call 22; refine (TW _ (below_below hbx hb)).mono ?_; rintro e w10 ⟨v10, rfl, ho10, hb10⟩; replace hk7 := hk7.below hb10; replace hos := hos.below hb10; replace hKX9 := hKX9.below hb10; replace hkU := hkU.below hb10; replace hoU := hoU.below hb10; replace hb := below_below hb hb10; replace hN9 := Nat.lt_of_lt_of_le hN9 hb10.size; clear th0; have th1 : True := trivial)
          | (have _t := th1; go_at_call 27; refine (keepX_loan _ _ _ _ _ _ _ _ c hKX9 ho10.rd (by omega) (by have := hl8.out; omega)).mono ?_; rintro e w11 ⟨u11, es11, rfl, hl11, hr11, hKX11, hc11, hb11⟩; replace hk7 := hk7.chg hc11 (fun h => h (.inl (.inl rfl))); replace hos := hos.chg hc11 (fun g hg h => h (.inl (.inr hg))); replace hkU := hkU.chg hc11 (fun h => h (.inr (.inl rfl))); replace hoU := hoU.chg hc11 (fun g hg h => h (.inr (.inr hg))); replace hb := hb.trans hb11; replace hN9 := Nat.lt_of_lt_of_le hN9 hc11.size; replace hl11 := Go.Lib.hid hl11; clear th1; have th2 : True := trivial)
          | (have _t := th2; go_at_call 23; refine (RC _ _ (below_below hbx hb) hr11).mono ?_; rintro e w12 ⟨v12, rfl, ho12, hb12⟩; obtain ⟨Af, cf, ef, rf⟩ := ho12.rd.open; clear rf; generalize hnf : R.l.length = nf at ef; subst ef; clear th2; have th3 : True := trivial))
        have hkV := stz_new w12 R (.slice Af nf cf)
        have hbA := (Below.refl w12.heap.size w12).alloc (Nat.le_refl _) (.cells #[.int .i64 R.kind, .int .u64 (R.id : Int), .string (strB R.a), .string (strB R.b), .string (strB R.t), (.slice Af nf cf), .int .i64 R.n, .float .f64 R.f] 26)
        have hbB := below_below hb12 hbA
        have hltV := hkV.lt
        have hKXf := hKX11.fresh hbB
        have hgV : ∀ g, (Value.slice Af nf cf).ownBlock = some g → G12 < g := fun g hg => Nat.lt_of_lt_of_le hN9 (ho12.base_le g hg)
        have hGV : G12 < w12.heap.size := Nat.lt_of_lt_of_le hN9 hb12.size
        replace hk7 := hk7.below hbB
        replace hos := hos.below hbB
        replace hkU := hkU.below hbB
        replace hoU := hoU.below hbB
        have hoV := ho12.below hbA
        replace hb := below_below hb hbB
        have hKX12 : KeepX _ _ _ _ (fun k => XOf G7 (.slice Au nu cu) k ∨ XOf G12 (.slice Ae ne ce) k) es11 bs5 := hKXf.mono (fun k hk => .inl hk)
        clear hKXf hKX11 hKX9 hbB hbA hb12 ho12 hc11 hr11 ho10 hb10 hb11 hltV
        generalize w12.alloc (.cells #[.int .i64 R.kind, .int .u64 (R.id : Int), .string (strB R.a), .string (strB R.b), .string (strB R.t), (.slice Af nf cf), .int .i64 R.n, .float .f64 R.f] 26) = W12 at *
        generalize w12.heap.size = G14 at *
        go_wp2_with fail
        as_aux_lemma =>
          go_loopw [16] (OwnIn W12 N8 (.slice Ae ne ce) ne) (fun k _ => ne - (intOf k).toNat)
          case atStart => exact ⟨0, R.l, by omega, rfl, hne, hoU, Chg.of_below (Below.refl _ _)⟩
          case round =>
            obtain ⟨m, lu, hm, rfl, hlu, hoU', hcU⟩ := hrel
            by_cases hmn : m < ne
            · have q2 : (m : Int) < ne := by omega
              obtain ⟨g, rfl, hng⟩ := hoU'.open (by omega)
              have hgg := hgU g rfl
              have c5 : _ = some _ := (hkU.chg hcU (fun h => by have := hgU _ h; omega)).cell 5
              obtain ⟨x1, x2, x3⟩ := hoU'.at m (by omega)
              replace hlu := Go.Lib.hid hlu
              replace hng := Go.Lib.hid hng
              have hcN : Chg (fun k => (Value.slice (some ⟨g, 0, none⟩) ne ce).ownBlock = some k) W12 (wr.setCell ⟨g, m, none⟩ (.string (strB [120]))) := chg_trans hcU ((Chg.setCell wr ⟨g, m, none⟩ _).mono (fun k hk => by rw [hk]; rfl))
              have x3' : OwnT (wr.setCell ⟨g, m, none⟩ (.string ⟨#[120]⟩)) N8 (.slice (some ⟨g, 0, none⟩) ne ce) (lu.set m [120]) := x3
              as_aux_lemma =>
                go_wp2_with fail
                exact ⟨⟨m + 1, lu.set m [120], by omega, by go_num, by rw [List.length_set]; exact hlu.out, x3', hcN⟩, by simp [intOf]; omega⟩
            · have q2 : ¬ (m : Int) < ne := by omega
              have c5 : _ = some _ := (hkU.chg hcU (fun h => by have := hgU _ h; omega)).cell 5
              replace hk7 := hk7.chg hcU (fun h => by have := hgU _ h; have := hX0 G7 (.inl rfl); omega)
              replace hos := hos.chg hcU (fun k hk h => by have := hgU _ h; have := hX0 k (.inr hk); omega)
              replace hkV := hkV.chg hcU (fun h => by have := hgU _ h; omega)
              replace hoV := hoV.chg hcU (fun k hk h => by have := hgU _ h; have := hgV k hk; omega)
              have hKX13 : KeepX wr _ _ _ (XOf G7 (.slice Au nu cu)) es11 bs5 := (hKX12.chg hcU (fun k hk => .inr (.inr hk))).mono (fun k hk => .inl hk)
              have hbU : Below wx.heap.size W12 wr := hcU.below hb.size (fun k hk => by have := hgU k hk; omega)
              replace hb := hb.trans hbU
              clear hkU hoU hoU' hcU hKX12 hgU hgV hX0 hbU
              as_aux_lemma =>
                have ti0 : True := trivial
                go_upto_region 19 with (first
                  | (have _t := ti0; go_at_call 22; refine (TW _ (below_below hbx hb)).mono ?_; rintro e w15 ⟨v15, rfl, ho15, hb15⟩; replace hk7 := hk7.below hb15; replace hos := hos.below hb15; replace hKX13 := hKX13.below hb15; replace hkV := hkV.below hb15; replace hoV := hoV.below hb15; replace hb := below_below hb hb15; clear ti0; have ti1 : True := trivial)
                  | (have _t := ti1; go_at_call 24; refine (RF _ _ ho15.rd).mono ?_; rintro e w16 ⟨v16, rfl, ho16, hb16⟩; replace hk7 := hk7.below hb16; replace hos := hos.below hb16; replace hKX13 := hKX13.below hb16; replace hkV := hkV.below hb16; replace hoV := hoV.below hb16; replace hb := below_below hb hb16; obtain ⟨Ag, cg, eg, rg⟩ := ho16.rd.open; clear rg; generalize hng : R.l.length = ng at eg; subst eg; clear ti1; have ti2 : True := trivial))
                have hkR := stz_new w16 R (.slice Ag ng cg)
                have hbA := (Below.refl w16.heap.size w16).alloc (Nat.le_refl _) (.cells #[.int .i64 R.kind, .int .u64 (R.id : Int), .string (strB R.a), .string (strB R.b), .string (strB R.t), (.slice Ag ng cg), .int .i64 R.n, .float .f64 R.f] 26)
                have hoR := ho16.rd.below hbA
                replace hk7 := hk7.below hbA
                replace hos := hos.below hbA
                replace hKX13 := hKX13.below hbA
                replace hkV := hkV.below hbA
                replace hoV := hoV.rd.below hbA
                replace hb := below_below hb hbA
                clear hbA ho16 hb16 ho15 hb15
                generalize w16.alloc (.cells #[.int .i64 R.kind, .int .u64 (R.id : Int), .string (strB R.a), .string (strB R.b), .string (strB R.t), (.slice Ag ng cg), .int .i64 R.n, .float .f64 R.f] 26) = W16 at *
                generalize w16.heap.size = G17 at *
                have tj0 : True := trivial
                go_wp2_with (first
                  | (have _t := tj0; (with_reducible refine G_load ?_; refine L_load_agg agS (by with_unfolding_all (conv => lhs; whnf)) hkV rfl ?_); clear tj0; have tj1 : True := trivial)
                  | (have _t := tj1; (with_reducible refine G_load ?_; refine L_load_agg agS (by with_unfolding_all (conv => lhs; whnf)) hkR rfl ?_); clear tj1; have tj2 : True := trivial)
                  | (have _t := tj2; go_at_call 25; refine (SM _ _ _ hoV hoR).mono ?_; rintro e w17 ⟨rfl, hb17⟩; clear tj2; have tj3 : True := trivial))
                exact ⟨⟨j + 1, es11, bs5, by omega, by go_num, by have := hl8.out; have := hl11.out; omega, by omega, hKX13.below hb17, hk7.below hb17, hos.below hb17, below_below hb hb17⟩, by simp [intOf]; omega⟩
    · have q1 : ¬ (j : Int) < 2 := by omega
      have hKA := hKX.to
      have tz0 : True := trivial
      go_wp2_with (first
        | (have _t := tz0; go_at_call 28; refine (keep_back _ _ _ _ _ _ _ hKA (by omega)).mono ?_; rintro e wn ⟨rfl, ⟨SB, hBk⟩, hbn⟩; clear tz0; have tz1 : True := trivial)
        | (have _t := tz1; go_at_call 29; refine (bkclose_c _ _ _ _ _ hBk (by omega)).mono ?_; rintro e wn2 ⟨rfl, hbn2⟩; have hbE := below_below hbx ((hb.trans hbn).trans hbn2); clear tz1; have tz2 : True := trivial)
        | (have _t := tz2; go_at_call 21; refine (WK _ hbE).mono ?_; rintro e wn3 ⟨rfl, hbn3⟩; clear tz2; have tz3 : True := trivial))
      go_ret
      exact ⟨rfl, below_below hbE hbn3⟩
theorem stanzaOwn_w (w : World) (hT : Tabs w) (k : Int) (hk : -9223372036854775808 ≤ k ∧ k ≤ 9223372036854775807) (i : Int) (hi : 0 ≤ i ∧ i < 18446744073709551616) (a : ByteArray) (ha : a.size ≤ maxLen) (b : ByteArray) (hb : b.size ≤ maxLen) (t : ByteArray) (ht : t.size ≤ maxLen)
    (vl : Value) (l : List (List UInt8)) (hl : RdT w vl l) (hll : ∀ y ∈ l, y.length ≤ 9223372036854775807) (n : Int) (hn : -9223372036854775808 ≤ n ∧ n ≤ 9223372036854775807) (f : Nat) (hf : f < 18446744073709551616)
    (v2 : Value) (l2 : List UInt8) (h2 : Rd w v2 l2) :
    Calls Tryd.prog 6 #[.agg #[.int .i64 k, .int .u64 i, .string a, .string b, .string t, vl, .int .i64 n, .float .f64 f], v2] w (Ok w) := by
  obtain ⟨i, rfl⟩ := Int.eq_ofNat_of_zero_le hi.1
  have la : a.data.toList.length = a.size := rfl
  have lb : b.data.toList.length = b.size := rfl
  have lt : t.data.toList.length = t.size := rfl
  unfold maxLen at ha hb ht
  exact stanzaOwn_c w hT ⟨k, i, a.data.toList, b.data.toList, t.data.toList, l, n, f⟩ vl hl ⟨by simp only; omega, by simp only; omega, by simp only; omega, hll⟩ (by simp only; omega) hn hf v2 l2 h2
end Go.Proofs.YtocfcgjjepegmaaDoor
