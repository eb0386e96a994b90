/- StanzaRead. -/
import Derived.Test.YtocfcgjjepegmaaDoorStzBack
import Derived.Test.YtocfcgjjepegmaaDoorStz14
set_option linter.unusedVariables false
set_option linter.unusedSimpArgs false
namespace Go.Proofs.YtocfcgjjepegmaaDoor
open Go.RowKit
set_option maxRecDepth 100000 in
set_option maxHeartbeats 3200000 in
theorem stanzaRead_w (w : World) (hT : Tabs w) (v2 : Value) (l2 : List UInt8) (h2 : Rd w v2 l2) :
    Calls Tryd.prog 4 #[v2] w (Ok w) := by
  have hsf := fun (W : World) (a : Addr) (x : Nat) m => run_store Tryd.prog W a (.float .f64 x) m rfl
  have TW := twin_c v2 l2 5000 w h2 (by omega) (by omega)
  rw [show (5000 : Int).toNat = 5000 from rfl] at TW
  have hc5 : (l2.take 5000).length ≤ 5000 := by simp; omega
  have TW2 := fun w1 u (h : Rd w1 u (l2.take 5000)) => twin_c u (l2.take 5000) 5000 w1 h (by omega) (by omega)
  rw [show (5000 : Int).toNat = 5000 from rfl, show (l2.take 5000).take 5000 = l2.take 5000 by rw [List.take_take]; simp] at TW2
  generalize l2.take 5000 = c at *
  have RC := fun w1 v (hb : Below w.heap.size w w1) (h : Rd w1 v c) => read_c w1 (hT.below hb) v c h (by omega)
  have RF := fun w1 v (h : Rd w1 v c) => refread_c w1 v c h (by omega)
  have WK := fun w1 (hb : Below w.heap.size w w1) => wakes4_c w1 (hT.below hb)
  generalize readI c = rr at *
  obtain ⟨R, x⟩ := rr
  have SM := fun w1 (u1 u2 : Value) (h1 : RdT w1 u1 R.l) (h2 : RdT w1 u2 R.l) => same4_c w1 R R u1 u2 h1 h2 rfl rfl
  unfold GivesS stzV at RC RF
  unfold stzV at SM
  simp only at RC RF SM
  clear h2
  go_enter Tryd.func4, Tryd.ntmps4
  have ta0 : True := trivial
  go_upto_region 3 with (first
    | (have _t := ta0; go_at_call 22; refine TW.mono ?_; rintro e w1 ⟨v1, rfl, ho1, hb1⟩; have hbZ := hb1; clear ta0; have ta1 : True := trivial)
    | (have _t := ta1; go_at_call 22; refine (TW2 _ _ ho1.rd).mono ?_; rintro e w3 ⟨v3, rfl, ho3, hb3⟩; replace hbZ := below_below hbZ hb3; have hrc := ho1.rd.below hb3; clear ta1; have ta2 : True := trivial)
    | (have _t := ta2; go_at_call 23; refine (RC _ _ hbZ ho3.rd).mono ?_; rintro e w4 ⟨v4, rfl, ho4, hb4⟩; replace hbZ := below_below hbZ hb4; replace hrc := hrc.below hb4; obtain ⟨Ae, ce, ee, re⟩ := ho4.rd.open; clear re; generalize hne : R.l.length = ne at ee; subst ee; clear ta2; have ta3 : True := trivial))
  have hk4 := stz_new w4 R (.slice Ae ne ce)
  have hbA := (Below.refl w4.heap.size w4).alloc (Nat.le_refl _) (.cells #[.int .i64 R.kind, .int .u64 (R.id : Int), .string (strB R.a), .string (strB R.b), .string (strB R.t), (.slice Ae ne ce), .int .i64 R.n, .float .f64 R.f] 26)
  have hr4 := ho4.rd.below hbA
  replace hrc := hrc.below hbA
  replace hbZ := below_below hbZ hbA
  generalize w4.alloc (.cells #[.int .i64 R.kind, .int .u64 (R.id : Int), .string (strB R.a), .string (strB R.b), .string (strB R.t), (.slice Ae ne ce), .int .i64 R.n, .float .f64 R.f] 26) = W4 at *
  generalize w4.heap.size = G4 at *
  clear hbA ho4 hb4 ho3 hb3 ho1 hb1 RC TW TW2
  have tb0 : True := trivial
  go_upto_region 4 with (first
    | (have _t := tb0; go_at_call 24; refine (RF _ _ hrc).mono ?_; rintro e w5 ⟨v5, rfl, ho5, hb5⟩; replace hbZ := below_below hbZ hb5; replace hk4 := hk4.below hb5; replace hr4 := hr4.below hb5; obtain ⟨Ag, cg, eg, rg⟩ := ho5.rd.open; clear rg; generalize hng : R.l.length = ng at eg; subst eg; clear tb0; have tb1 : True := trivial))
  have hk6 := stz_new w5 R (.slice Ag ng cg)
  have hbA := (Below.refl w5.heap.size w5).alloc (Nat.le_refl _) (.cells #[.int .i64 R.kind, .int .u64 (R.id : Int), .string (strB R.a), .string (strB R.b), .string (strB R.t), (.slice Ag ng cg), .int .i64 R.n, .float .f64 R.f] 26)
  have hr6 := ho5.rd.below hbA
  replace hk4 := hk4.below hbA
  replace hr4 := hr4.below hbA
  replace hbZ := below_below hbZ hbA
  generalize w5.alloc (.cells #[.int .i64 R.kind, .int .u64 (R.id : Int), .string (strB R.a), .string (strB R.b), .string (strB R.t), (.slice Ag ng cg), .int .i64 R.n, .float .f64 R.f] 26) = W6 at *
  generalize w5.heap.size = G6 at *
  clear hbA ho5 hb5 hrc RF
  have tc0 : True := trivial
  go_wp2_with (first
    | (have _t := tc0; (refine L_load_aggw (by go_simp) rfl agS (by with_unfolding_all (conv => lhs; whnf)) hk4 rfl ?_); clear tc0; have tc1 : True := trivial)
    | (have _t := tc1; (refine L_load_aggw (by go_simp) rfl agS (by with_unfolding_all (conv => lhs; whnf)) hk6 rfl ?_); clear tc1; have tc2 : True := trivial)
    | (have _t := tc2; go_at_call 25; refine (SM _ _ _ hr4 hr6).mono ?_; rintro e w7 ⟨rfl, hb7⟩; replace hbZ := below_below hbZ hb7; clear tc2; have tc3 : True := trivial)
    | (have _t := tc3; go_at_call 21; refine (WK _ hbZ).mono ?_; rintro e w8 ⟨rfl, hb8⟩; clear tc3; have tc4 : True := trivial))
  go_ret
  exact ⟨rfl, below_below hbZ hb8⟩
end Go.Proofs.YtocfcgjjepegmaaDoor
