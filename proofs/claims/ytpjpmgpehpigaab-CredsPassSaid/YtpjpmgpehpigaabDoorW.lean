/- The creds laws' wakes. -/
import Derived.Test.YtpjpmgpehpigaabDoor
set_option linter.unusedVariables false
set_option linter.unusedSimpArgs false
namespace Go.Proofs.Ytpjpmgpehpigaab
open Go.RowKit
theorem sum_ex (r : Nat) (h : SumOk 4618441417868443648 4621819117588971520 r) : r = 4625196817309499392 := h.1 _ (by decide +kernel)
set_option maxRecDepth 100000 in
set_option maxHeartbeats 800000 in
theorem wakes8_c (w : World) : Calls Try.prog 24 #[] w (Ok w) := by
  have N := new_c w 2 4621819117588971520 (by omega) (by decide +kernel)
  have hab : ({ data := #[98] } : ByteArray) ≠ { data := #[97] } := by decide
  go_enter Try.func24, Try.ntmps24
  have tok0 : True := trivial
  go_wp2_with (first
    | (have _t := tok0; go_at_call 23; refine N.mono ?_; rintro e w1 ⟨p, rfl, hd, hb1⟩; clear tok0; have tok1 : True := trivial)
    | (have _t := tok1; go_at_call 27; refine (fail_c _ _ _ _ _ _ _ _ hd (by decide +kernel) (by decide +kernel)).mono ?_; rintro e w2 ⟨rfl, hb2, u, hd2, _, hu2⟩; obtain rfl : u = (1, ninf) := hu2 (by decide +kernel); clear tok1; have tok2 : True := trivial)
    | (have _t := tok2; go_at_call 27; refine (fail_c _ _ _ _ _ _ _ _ hd2 (by decide +kernel) (by decide +kernel)).mono ?_; rintro e w3 ⟨rfl, hb3, u, hd3, hu3, _⟩; obtain ⟨u0, u1⟩ := u; obtain ⟨g0, g1⟩ := hu3 (by decide +kernel); obtain rfl : u0 = 0 := g0; obtain rfl : u1 = 4625196817309499392 := sum_ex _ g1; have hb13 := (hb1.trans hb2).trans hb3; clear tok2; have tok3 : True := trivial)
    | (have _t := tok3; go_at_call 26; refine (ask_c _ _ _ _ _ _ _ _ hd3).mono ?_; rintro e w4 ⟨rfl, hb4⟩; have hd4 := hd3.below hb4; have hb14 := below_below hb13 hb4; rw [show askI _ _ _ = 12 from by decide +kernel]; clear tok3; have tok4 : True := trivial)
    | (have _t := tok4; go_at_call 26; refine (ask_c _ _ _ _ _ _ _ _ hd4).mono ?_; rintro e w5 ⟨rfl, hb5⟩; have hd5 := hd4.below hb5; have hb15 := below_below hb14 hb5; rw [show askI _ _ _ = 0 from by decide +kernel]; clear tok4; have tok5 : True := trivial)
    | (have _t := tok5; go_at_call 26; refine (ask_c _ _ _ _ _ _ _ _ hd5).mono ?_; rintro e w6 ⟨rfl, hb6⟩; have hb16 := below_below hb15 hb6; rw [show askI _ _ _ = 0 from by decide +kernel]; clear tok5; have tok6 : True := trivial))
  go_ret
  exact ⟨rfl, hb16⟩
end Go.Proofs.Ytpjpmgpehpigaab
