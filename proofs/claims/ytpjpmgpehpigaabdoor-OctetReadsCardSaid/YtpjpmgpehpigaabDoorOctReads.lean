/- OctetReads. -/
import Derived.Test.YtpjpmgpehpigaabDoorOct8
set_option linter.unusedVariables false
set_option linter.unusedSimpArgs false
namespace Go.Proofs.YtpjpmgpehpigaabDoor
open Go.RowKit
theorem intI_len (l : List UInt8) : (uintI l).2.1.length ≤ l.length := by unfold uintI; split <;> simp
set_option maxRecDepth 100000 in
set_option maxHeartbeats 3200000 in
theorem octetReads_w (w : World) (hT : Tabs w) (v : Value) (l : List UInt8) (h : Rd w v l) (m : Int) (hm : -9223372036854775808 ≤ m ∧ m ≤ 9223372036854775807) :
    Calls Tryd.prog 3 #[v, .int .i64 m] w (Ok w) := by
  have F1 := few1_c v l w h
  have hl : (l.take 2000).length ≤ 2000 := by simp; omega
  have tk : (l.take 2000).take 2000 = l.take 2000 := by rw [List.take_take]; simp
  generalize l.take 2000 = b at *
  have FB := fun v1 w1 (hv : Rd w1 v1 b) => few1_c v1 b w1 hv
  rw [tk] at FB
  clear tk h
  have U := fun v1 w1 (hv : Rd w1 v1 b) => uint_c v1 b w1 hv (by omega)
  have RU := fun v1 w1 (hv : Rd w1 v1 b) => refuint_c v1 b w1 hv (by omega)
  have I := fun v1 w1 (hv : Rd w1 v1 b) => int_c v1 b w1 hv (by omega)
  have RI := fun v1 w1 (hv : Rd w1 v1 b) => refint_c v1 b w1 hv (by omega)
  have F := fun v1 w1 (hv : Rd w1 v1 b) => float_c v1 b w1 hv (by omega)
  have RF := fun v1 w1 (hv : Rd w1 v1 b) => reffloat_c v1 b w1 hv (by omega)
  have T := fun v1 w1 (hv : Rd w1 v1 b) (ht : Tabs w1) => octtext_c v1 b m w1 hv (by omega) hm ht
  have RT := fun v1 w1 (hv : Rd w1 v1 b) => reftext_c v1 b m w1 hv (by omega) hm
  unfold GivesU at U RU
  unfold GivesI at I RI
  unfold GivesF at F RF
  unfold GivesT at T RT
  generalize (uintI b).1 = u1 at *
  generalize (uintI b).2.1 = u2 at *
  generalize (uintI b).2.2 = u3 at *
  generalize (intI b).1 = i1 at *
  generalize (intI b).2.1 = i2 at *
  generalize (intI b).2.2 = i3 at *
  generalize (floatI b).1 = f1 at *
  generalize (floatI b).2.1 = f2 at *
  generalize (floatI b).2.2 = f3 at *
  generalize strB (textI b m.toNat).1 = t1 at *
  generalize (textI b m.toNat).2.1 = t2 at *
  generalize (textI b m.toNat).2.2 = t3 at *
  go_enter Tryd.func3, Tryd.ntmps3
  have tok0 : True := trivial
  go_wp2_with (first
    | (have _t := tok0; go_at_call 10; refine F1.mono ?_; rintro e w2 ⟨v2, rfl, ho2, hb2⟩; have rb := ho2.rd; have hw := hb2; clear tok0; have tok1 : True := trivial)
    | (have _t := tok1; go_at_call 10; refine (FB _ _ rb).mono ?_; rintro e w3 ⟨v3, rfl, ho3, hb3⟩; replace hw := below_below hw hb3; replace rb := rb.below hb3; clear tok1; have tok2 : True := trivial)
    | (have _t := tok2; go_at_call 11; refine (U _ _ ho3.rd).mono ?_; rintro e w4 ⟨v4, rfl, ho4, hb4⟩; replace hw := below_below hw hb4; replace rb := rb.below hb4; have r4 := ho4.rd; clear tok2; have tok3 : True := trivial)
    | (have _t := tok3; go_at_call 12; refine (RU _ _ rb).mono ?_; rintro e w5 ⟨v5, rfl, ho5, hb5⟩; replace hw := below_below hw hb5; replace rb := rb.below hb5; have c4 := convert_str (r4.below hb5); have c5 := convert_str ho5.rd; clear tok3; have tok4 : True := trivial)
    | (have _t := tok4; go_at_call 10; refine (FB _ _ rb).mono ?_; rintro e w6 ⟨v6, rfl, ho6, hb6⟩; replace hw := below_below hw hb6; replace rb := rb.below hb6; clear tok4; have tok5 : True := trivial)
    | (have _t := tok5; go_at_call 13; refine (I _ _ ho6.rd).mono ?_; rintro e w7 ⟨v7, rfl, ho7, hb7⟩; replace hw := below_below hw hb7; replace rb := rb.below hb7; have r7 := ho7.rd; clear tok5; have tok6 : True := trivial)
    | (have _t := tok6; go_at_call 14; refine (RI _ _ rb).mono ?_; rintro e w8 ⟨v8, rfl, ho8, hb8⟩; replace hw := below_below hw hb8; replace rb := rb.below hb8; have c7 := convert_str (r7.below hb8); have c8 := convert_str ho8.rd; clear tok6; have tok7 : True := trivial)
    | (have _t := tok7; go_at_call 10; refine (FB _ _ rb).mono ?_; rintro e w9 ⟨v9, rfl, ho9, hb9⟩; replace hw := below_below hw hb9; replace rb := rb.below hb9; clear tok7; have tok8 : True := trivial)
    | (have _t := tok8; go_at_call 15; refine (F _ _ ho9.rd).mono ?_; rintro e w10 ⟨v10, rfl, ho10, hb10⟩; replace hw := below_below hw hb10; replace rb := rb.below hb10; have r10 := ho10.rd; clear tok8; have tok9 : True := trivial)
    | (have _t := tok9; go_at_call 16; refine (RF _ _ rb).mono ?_; rintro e w11 ⟨v11, rfl, ho11, hb11⟩; replace hw := below_below hw hb11; replace rb := rb.below hb11; have c10 := convert_str (r10.below hb11); have c11 := convert_str ho11.rd; clear tok9; have tok10 : True := trivial)
    | (have _t := tok10; go_at_call 17; refine (refsame_c f1 f1 _).mono ?_; rintro e w12 ⟨rfl, rfl⟩; clear tok10; have tok11 : True := trivial)
    | (have _t := tok11; go_at_call 10; refine (FB _ _ rb).mono ?_; rintro e w13 ⟨v13, rfl, ho13, hb13⟩; replace hw := below_below hw hb13; replace rb := rb.below hb13; clear tok11; have tok12 : True := trivial)
    | (have _t := tok12; go_at_call 18; refine (T _ _ ho13.rd (hT.below hw)).mono ?_; rintro e w14 ⟨v14, rfl, ho14, hb14⟩; replace hw := below_below hw hb14; replace rb := rb.below hb14; have r14 := ho14.rd; clear tok12; have tok13 : True := trivial)
    | (have _t := tok13; go_at_call 19; refine (RT _ _ rb).mono ?_; rintro e w15 ⟨v15, rfl, ho15, hb15⟩; replace hw := below_below hw hb15; have c14 := convert_str (r14.below hb15); have c15 := convert_str ho15.rd; clear tok13; have tok14 : True := trivial)
    | (have _t := tok14; go_at_call 20; refine (wakes1_c _).mono ?_; rintro e w16 ⟨rfl, hb16⟩; replace hw := below_below hw hb16; clear tok14; have tok15 : True := trivial))
  go_ret
  exact ⟨rfl, hw⟩
end Go.Proofs.YtpjpmgpehpigaabDoor
