/- CredsPass. -/
import Derived.Test.YtpjpmgpehpigaabDoorW
import Derived.Test.YtpjpmgpehpigaabFloatAdd
set_option linter.unusedVariables false
set_option linter.unusedSimpArgs false
namespace Go.Proofs.Ytpjpmgpehpigaab
open Go.RowKit
theorem f64bits (w : World) (b : Nat) : (callFunc 37 #[.float .f64 b]).run Try.prog w = .ok (.value (.int .u64 (b : Int))) w := by
  rw [run_callFunc_extern (e := Extern.MathFloatBits.float64bits) Try.func37 (by kernel_rfl) (by kernel_rfl) (by kernel_rfl) (by kernel_rfl)]
  rfl
theorem abs_c (x : Nat) (w : World) : Calls Try.prog 39 #[.float .f64 x] w fun e w' => ∃ y, e = .returned (.float .f64 y) ∧ w = w' := by
  have hb := fun w' => f64bits w' x
  have hd := fun w' n => f64frombits w' n
  go_enter Try.func39, Try.ntmps39
  go_wp2
  go_ret
  exact ⟨_, rfl, rfl⟩
theorem isinf_c (x : Nat) (w : World) : Calls Try.prog 25 #[.float .f64 x, .int .i64 0] w fun e w' => ∃ b, e = .returned (.bool b) ∧ w = w' := by
  go_enter Try.func25, Try.ntmps25
  go_wp2_with (go_at_call 39; refine (abs_c _ _).mono ?_; rintro e w' ⟨y, rfl, rfl⟩)
  go_ret
  exact ⟨_, rfl, rfl⟩
def DoorK (w : World) (B p : Nat) (most : Int) (sec : Nat) (s : ByteArray) (k : Int × Nat) : Prop := ∃ f, DoorAt w B p most sec f ∧ known f s = k
def askK (k : Int × Nat) (now : Nat) : Int := if fnan now then 1 else if fnan k.2 = false ∧ fkey now < fkey k.2 then 12 else 0
theorem DoorK.below {w w' : World} {B p : Nat} {most : Int} {sec : Nat} {s : ByteArray} {k : Int × Nat} (h : DoorK w B p most sec s k) (hb : Below w.heap.size w w') : DoorK w' B p most sec s k := by
  obtain ⟨f, h1, h2⟩ := h; exact ⟨f, h1.below hb, h2⟩
theorem askK_c (w : World) (B p : Nat) (most : Int) (sec : Nat) (s : ByteArray) (k : Int × Nat) (now : Nat) (h : DoorK w B p most sec s k) :
    Calls Try.prog 26 #[.pointer (some ⟨p, 0, none⟩), .string s, .float .f64 now] w fun e w' => e = .returned (.int .i64 (askK k now)) ∧ Below w.heap.size w w' := by
  obtain ⟨f, h1, rfl⟩ := h
  exact ask_c w B p most sec f s now h1
theorem failK_c (w : World) (B p : Nat) (most : Int) (sec : Nat) (s : ByteArray) (k : Int × Nat) (now : Nat) (h : DoorK w B p most sec s k) (ha : askK k now = 0) (hc : 0 ≤ k.1 ∧ k.1 ≤ 1000000) :
    Calls Try.prog 27 #[.pointer (some ⟨p, 0, none⟩), .string s, .float .f64 now] w fun e w' => e = .returned (.int .i64 0) ∧ Below B w w' ∧
      ∃ u, DoorK w' B p most sec s u ∧ (k.1 + 1 = most → u.1 = 0 ∧ SumOk now sec u.2) ∧ (k.1 + 1 ≠ most → u = (k.1 + 1, k.2)) := by
  obtain ⟨f, h1, rfl⟩ := h
  refine (fail_c w B p most sec f s now h1 ha hc).mono ?_
  rintro e w' ⟨rfl, hb, u, h2, h3, h4⟩
  exact ⟨rfl, hb, u, ⟨_, h2, by unfold known; simp⟩, h3, h4⟩
theorem passK_c (w : World) (B p : Nat) (most : Int) (sec : Nat) (s : ByteArray) (k : Int × Nat) (h : DoorK w B p most sec s k) :
    Calls Try.prog 28 #[.pointer (some ⟨p, 0, none⟩), .string s] w fun e w' => e = .returned (.tuple #[]) ∧ Below B w w' ∧ DoorK w' B p most sec s (0, k.2) := by
  obtain ⟨f, h1, rfl⟩ := h
  refine (pass_c w B p most sec f s h1).mono ?_
  rintro e w' ⟨rfl, hb, f', h2, h3⟩
  exact ⟨rfl, hb, f', h2, h3⟩
theorem askK_free (c : Int) (now : Nat) (hn : fnan now = false) : askK (c, ninf) now = 0 := by
  unfold askK
  have := ninf_least now hn
  rw [hn, if_neg (by decide), if_neg (by show ¬ (fnan ninf = false ∧ fkey now < fkey ninf); omega)]
theorem pass_m (n : Int) : ∃ M : Nat, M < 20 ∧ wrap64 ((wrap64 (n.tmod 20 + 20)).tmod 20 + 1) = (M : Int) + 1 := by
  have h1 := Int.lt_tmod_of_pos n (show (0 : Int) < 20 by omega)
  have h2 := Int.tmod_lt_of_pos n (show (0 : Int) < 20 by omega)
  generalize n.tmod 20 = t at *
  have e1 : wrap64 (t + 20) = t + 20 := by unfold wrap64; omega
  rw [e1, Int.tmod_eq_emod_of_nonneg (by omega)]
  refine ⟨((t + 20) % 20).toNat, by omega, ?_⟩
  unfold wrap64
  omega
def IsP (w : World) (v : Value) (wx : World) : Prop := ∃ M : Nat, M < 20 ∧ v = .int .i64 ((M : Int) + 1) ∧ w = wx
abbrev annP : ByteArray := { data := #[97, 110, 110] }
def P1 (w : World) (p M : Nat) (i : Value) (wr : World) : Prop := ∃ j : Nat, j ≤ 3 ∧ i = .int .i64 (j : Int) ∧ DoorK wr w.heap.size p ((M : Int) + 1) 4696837146684686336 annP (0, ninf) ∧ Below w.heap.size w wr
def P2 (w : World) (p M : Nat) (i : Value) (wr : World) : Prop := ∃ c : Nat, c ≤ M ∧ i = .int .i64 (c : Int) ∧ DoorK wr w.heap.size p ((M : Int) + 1) 4696837146684686336 annP ((c : Int), ninf) ∧ Below w.heap.size w wr
def P3 (w : World) (p M t : Nat) (i : Value) (wr : World) : Prop := ∃ (c : Nat) (k : Int × Nat), c ≤ M + 1 ∧ i = .int .i64 (c : Int) ∧ DoorK wr w.heap.size p ((M : Int) + 1) 4696837146684686336 annP k ∧ (c < M + 1 → k = ((c : Int), ninf)) ∧ (c = M + 1 → SumOk t 4696837146684686336 k.2) ∧ Below w.heap.size w wr
set_option maxRecDepth 100000 in
set_option maxHeartbeats 3200000 in
theorem credsPass_c (w : World) (most : Int) (t : Nat) (ht : t < 18446744073709551616) :
    Calls Try.prog 6 #[.int .i64 most, .int .u64 (t : Int)] w (Ok w) := by
  have D := fun w' => f64frombits w' (t : Int)
  go_enter Try.func6, Try.ntmps6
  go_upto_region 2 with fail
  go_cut [6] (fun v wx => IsP w v wx)
  case first =>
    obtain ⟨M, hM, hMe⟩ := pass_m most
    go_wp2_with fail
    all_goals go_meet
    exact ⟨M, hM, by first | rfl | rw [hMe], rfl⟩
  case rest =>
  obtain ⟨M, hM, rfl, rfl⟩ := hcut
  clear D
  have N := new_c w ((M : Int) + 1) 4696837146684686336 (by omega) (by decide +kernel)
  go_wp2_with fail
  refine N.mono ?_
  rintro e w1 ⟨p, rfl, hd, hb1⟩
  have hk1 : DoorK w1 w.heap.size p ((M : Int) + 1) 4696837146684686336 annP (0, ninf) := ⟨_, hd, rfl⟩
  clear N hd
  go_wp2_with fail
  refine (wakes8_c _).mono ?_
  rintro e w2 ⟨rfl, hb2⟩
  have hk2 := hk1.below hb2
  have hb12 := below_below hb1 hb2
  clear hk1 hb1 hb2
  cases hnt : fnan t
  · go_wp2_with fail
    refine (isinf_c _ _).mono ?_
    rintro e w3 ⟨b, rfl, rfl⟩
    have ha0 := askK_free 0 t hnt
    have fg := f_gt t 4741671816366391296
    have fl := f_lt t 13965043853221167104
    rw [hnt, show fnan 4741671816366391296 = false from by decide, show fkey 4741671816366391296 = 4741671816366391296 from by decide] at fg
    rw [hnt, show fnan 13965043853221167104 = false from by decide, show fkey 13965043853221167104 = -4741671816366391296 from by decide] at fl
    cases b
    · by_cases hP : 4741671816366391296 < fkey t
      · rw [show (!false && !false && decide ((4741671816366391296 : Int) < fkey t)) = true from by simp [hP]] at fg
        clear fl
        go_wp2_with fail
        refine (askK_c _ _ _ _ _ _ _ _ hk2).mono ?_
        rintro e w3 ⟨rfl, hb3⟩
        rw [ha0]
        go_wp2
        go_ret
        exact ⟨rfl, below_below hb12 hb3⟩
      · rw [show (!false && !false && decide ((4741671816366391296 : Int) < fkey t)) = false from by simp [hP]] at fg
        by_cases hN : fkey t < -4741671816366391296
        · rw [show (!false && !false && decide (fkey t < (-4741671816366391296 : Int))) = true from by simp [hN]] at fl
          go_wp2_with fail
          refine (askK_c _ _ _ _ _ _ _ _ hk2).mono ?_
          rintro e w3 ⟨rfl, hb3⟩
          rw [ha0]
          go_wp2
          go_ret
          exact ⟨rfl, below_below hb12 hb3⟩
        · rw [show (!false && !false && decide (fkey t < (-4741671816366391296 : Int))) = false from by simp [hN]] at fl
          have hrt : t % 9223372036854775808 ≤ 4741671816366391296 := by
            unfold fkey at hP hN
            split at hP <;> omega
          obtain ⟨R, hR1, hR2, hR3⟩ := add_gt t hrt
          clear hP hN hrt
          go_wp2_with fail
          go_loopw [9, 10] (fun i _ wr => P1 w p M i wr) (fun i _ _ => (9 - intOf i).toNat)
          case atStart => exact ⟨0, by omega, rfl, hk2, hb12⟩
          case round =>
            clear hk2 hb12 fg fl
            obtain ⟨j, hj, rfl, hk, hbr⟩ := hrel
            by_cases hj3 : j < 3
            · have q1 : (j : Int) < 3 := by omega
              go_wp2_with fail
              go_loopw [10] (fun k wr => P2 w p M k wr) (fun k _ => (40 - intOf k).toNat)
              case atStart => exact ⟨0, by omega, rfl, hk, hbr⟩
              case round =>
                clear hk hbr
                obtain ⟨c, hc, rfl, hk, hbr⟩ := hrel
                have haC := askK_free c t hnt
                by_cases hcM : c < M
                · have q2 : (c : Int) < M := by omega
                  go_wp2_with fail
                  refine (failK_c _ _ _ _ _ _ _ _ hk haC ⟨by show (0 : Int) ≤ c; omega, by show (c : Int) ≤ 1000000; omega⟩).mono ?_
                  rintro e w5 ⟨rfl, hb5, u, hk5, _, hu⟩
                  obtain rfl : u = ((c : Int) + 1, ninf) := hu (by show (c : Int) + 1 ≠ (M : Int) + 1; omega)
                  go_wp2
                  refine ⟨⟨c + 1, by omega, by go_num, by simpa using hk5, hbr.trans hb5⟩, ?_⟩
                  simp only [intOf]; omega
                · have q2 : ¬ (c : Int) < M := by omega
                  go_wp2_with fail
                  refine (askK_c _ _ _ _ _ _ _ _ hk).mono ?_
                  rintro e w5 ⟨rfl, hb5⟩
                  rw [haC]
                  have hk5 := hk.below hb5
                  have hbr5 := below_below hbr hb5
                  go_wp2_with fail
                  refine (passK_c _ _ _ _ _ _ _ hk5).mono ?_
                  rintro e w6 ⟨rfl, hb6, hk6⟩
                  go_wp2
                  refine ⟨⟨j + 1, by omega, by go_num, hk6, hbr5.trans hb6⟩, ?_⟩
                  simp only [intOf]; omega
            · have q1 : ¬ (j : Int) < 3 := by omega
              go_wp2_with fail
              go_loopw [11] (fun i wr => P3 w p M t i wr) (fun i _ => (40 - intOf i).toNat)
              case atStart => exact ⟨0, (0, ninf), by omega, rfl, hk, fun _ => rfl, fun h => by omega, hbr⟩
              case round =>
                clear hk hbr
                obtain ⟨c, k, hc, rfl, hk, hk1, hk2, hbr⟩ := hrel
                by_cases hcM : c < M + 1
                · have q2 : (c : Int) < (M : Int) + 1 := by omega
                  obtain rfl := hk1 hcM
                  have haC := askK_free c t hnt
                  go_wp2_with fail
                  refine (failK_c _ _ _ _ _ _ _ _ hk haC ⟨by show (0 : Int) ≤ c; omega, by show (c : Int) ≤ 1000000; omega⟩).mono ?_
                  rintro e w5 ⟨rfl, hb5, u, hk5, hu1, hu2⟩
                  go_wp2
                  refine ⟨⟨c + 1, u, by omega, by go_num, hk5, fun h => ?_, fun h => ?_, hbr.trans hb5⟩, ?_⟩
                  · have := hu2 (by show (c : Int) + 1 ≠ (M : Int) + 1; omega)
                    rw [this]; simp
                  · exact (hu1 (by show (c : Int) + 1 = (M : Int) + 1; omega)).2
                  · simp only [intOf]; omega
                · have q2 : ¬ (c : Int) < (M : Int) + 1 := by omega
                  have hS := hk2 (by omega)
                  have hU : k.2 = R := hS.1 R hR1
                  go_wp2_with fail
                  refine (passK_c _ _ _ _ _ _ _ hk).mono ?_
                  rintro e w5 ⟨rfl, hb5, hk5⟩
                  go_wp2_with fail
                  refine (askK_c _ _ _ _ _ _ _ _ hk5).mono ?_
                  rintro e w6 ⟨rfl, hb6⟩
                  have ha : askK (0, k.2) t = 12 := by
                    unfold askK
                    rw [hnt, if_neg (by decide)]
                    exact if_pos (by rw [hU]; exact ⟨hR2, hR3⟩)
                  rw [ha]
                  go_wp2
                  go_ret
                  exact ⟨rfl, below_below (hbr.trans hb5) hb6⟩
    · clear fg fl
      go_wp2_with fail
      refine (askK_c _ _ _ _ _ _ _ _ hk2).mono ?_
      rintro e w3 ⟨rfl, hb3⟩
      rw [ha0]
      go_wp2
      go_ret
      exact ⟨rfl, below_below hb12 hb3⟩
  · go_wp2_with fail
    refine (askK_c _ _ _ _ _ _ _ _ hk2).mono ?_
    rintro e w3 ⟨rfl, hb3⟩
    have ha : askK (0, ninf) t = 1 := by unfold askK; rw [hnt]; rfl
    rw [ha]
    go_wp2
    go_ret
    exact ⟨rfl, below_below hb12 hb3⟩
theorem credsPass_w (w : World) (most : Int) (hm : -9223372036854775808 ≤ most ∧ most ≤ 9223372036854775807) (t : Int) (ht : 0 ≤ t ∧ t < 18446744073709551616) :
    Calls Try.prog 6 #[.int .i64 most, .int .u64 t] w (Ok w) := by
  obtain ⟨t, rfl⟩ := Int.eq_ofNat_of_zero_le ht.1
  exact credsPass_c w most t (by omega)
end Go.Proofs.Ytpjpmgpehpigaab
