/- roostkeep.Book.lookBytes. -/
import Derived.Test.YtpjpmgpehpigaabDoorBook2
set_option linter.unusedVariables false
set_option linter.unusedSimpArgs false
namespace Go.Proofs.YtpjpmgpehpigaabDoor
open Go.RowKit
def ma (i : Nat) : UInt8 := UInt8.ofNat (i % 125)
def mb (i : Nat) : UInt8 := UInt8.ofNat (125 + i % 125)
theorem ma_nat (i : Nat) : (ma i).toNat = i % 125 := by unfold ma; rw [UInt8.toNat_ofNat']; omega
theorem mb_nat (i : Nat) : (mb i).toNat = 125 + i % 125 := by unfold mb; rw [UInt8.toNat_ofNat']; omega
/-- n marks, and m others behind them. -/
def mk (i n m : Nat) : List UInt8 := List.replicate n (ma i) ++ List.replicate m (mb i)
@[simp] theorem mk_len (i n m : Nat) : (mk i n m).length = n + m := by simp [mk]
theorem mk_lo (i n m k : Nat) (h : k < n) : bt (mk i n m) k = ((i % 125 : Nat) : Int) := by
  rw [bt_get _ _ (by simp; omega)]
  simp only [mk]
  rw [List.getElem_append_left (by simpa using h), List.getElem_replicate, ma_nat]
theorem mk_hi (i n m k : Nat) (h : n ≤ k) (h2 : k < n + m) : bt (mk i n m) k = ((125 + i % 125 : Nat) : Int) := by
  rw [bt_get _ _ (by simp; omega)]
  simp only [mk]
  rw [List.getElem_append_right (by simpa using h), List.getElem_replicate, mb_nat]
set_option maxRecDepth 100000 in
set_option maxHeartbeats 1600000 in
theorem look_c (w : World) (base p : Nat) (vB c1 c2 c3 c4 vL : Value) (vs us : List Value) (hp : Blk w p 61 [vB, c1, c2, c3, c4]) (hB : OwnV w base vB vs) (hL : OwnV w base vL us)
    (hlen : us.length = vs.length) (hn : vs.length ≤ 1000) (h : ∀ i v u, vs[i]? = some v → us[i]? = some u → ∃ n m, Own8 w base 5 v (mk i n 0) ∧ Own8 w base 5 u (mk i n m) ∧ n ≤ 10000000 ∧ m ≤ 1000) :
    Calls Tryd.prog 58 #[.pointer (some ⟨p, 0, none⟩), vL] w fun e w' => e = .returned (.bool true) ∧ w = w' := by
  obtain ⟨AB, cB, rfl, hAB⟩ := hB.form
  obtain ⟨AL, cL, hLv, hAL⟩ := hL.form
  rw [hlen] at hLv hAL
  subst hLv
  replace hlen := Go.Lib.hid hlen
  have c0 : _ = some _ := hp.cell 0
  go_enter Tryd.func58, Tryd.ntmps58
  go_wp2_with fail
  go_loopw [5] (fun i wr => ∃ j : Nat, j ≤ vs.length ∧ i = .int .i64 j ∧ w = wr) (fun i _ => vs.length - (intOf i).toNat)
  case atStart => exact ⟨0, by omega, rfl, rfl⟩
  case round =>
    obtain ⟨j, hj, rfl, rfl⟩ := hrel
    by_cases hlt : j < vs.length
    · have q1 : (j : Int) < vs.length := by omega
      have q2 : (0 : Int) ≤ j := by omega
      obtain ⟨gB, rfl⟩ := hAB (by omega)
      obtain ⟨gL, rfl⟩ := hAL (by omega)
      obtain ⟨v, hv⟩ : ∃ v, vs[j]? = some v := ⟨vs[j], List.getElem?_eq_getElem hlt⟩
      obtain ⟨u, hu⟩ : ∃ u, us[j]? = some u := ⟨us[j]'(by have := hlen.out; omega), List.getElem?_eq_getElem (by have := hlen.out; omega)⟩
      obtain ⟨n, m, k1, k2, k3, k4⟩ := h j v u hv hu
      have cb : _ = some _ := hB.cell j v hv
      have cl : _ = some _ := hL.cell j u hu
      obtain ⟨Av, cv, rfl, _, _, _⟩ := k1.rd.open
      obtain ⟨Au, cu, rfl, _, _, _⟩ := k2.rd.open
      rw [mk_len] at cb k1
      rw [mk_len] at cl k2
      rw [Nat.add_zero] at cb k1
      clear hu hv h hB hL
      go_wp2_with fail
      go_loopw [7] (fun k wr => ∃ x : Nat, x ≤ n + m ∧ k = .int .i64 x ∧ w = wr) (fun k _ => n + m - (intOf k).toNat)
      case atStart => exact ⟨0, by omega, rfl, rfl⟩
      case round =>
        obtain ⟨x, hx, rfl, rfl⟩ := hrel
        by_cases hxl : x < n + m
        · have q3 : (x : Int) < ((n + m : Nat) : Int) := by omega
          have q4 : (0 : Int) ≤ x := by omega
          have r1 : Int.tmod (j : Int) 125 = ((j % 125 : Nat) : Int) := by rw [Int.tmod_eq_emod_of_nonneg q2]; omega
          obtain ⟨gu, eu⟩ : ∃ gu, Au = some ⟨gu, 0, none⟩ := by
            obtain ⟨g, c, e, _⟩ := k2.open (by simp; omega)
            injection e with e1; exact ⟨g, e1⟩
          subst eu
          by_cases hxn : x < n
          · obtain ⟨gv, ev⟩ : ∃ gv, Av = some ⟨gv, 0, none⟩ := by
              obtain ⟨g, c, e, _⟩ := k1.open (by simp; omega)
              injection e with e1; exact ⟨g, e1⟩
            subst ev
            have m1 : _ = some _ := k2.cell x (by simp; omega)
            have m2 : _ = some _ := k1.cell x (by simp; omega)
            rw [mk_lo j n _ x hxn] at m1 m2
            have q5 : (x : Int) < (n : Int) := by omega
            go_wp2_with fail
            exact ⟨⟨x + 1, by omega, by go_num, trivial⟩, by simp [intOf]; omega⟩
          · have m1 : _ = some _ := k2.cell x (by simp; omega)
            rw [mk_hi j n _ x (by omega) hxl] at m1
            have q5 : ¬ (x : Int) < (n : Int) := by omega
            go_wp2_with fail
            exact ⟨⟨x + 1, by omega, by go_num, trivial⟩, by simp [intOf]; omega⟩
        · have q3 : ¬ (x : Int) < ((n + m : Nat) : Int) := by omega
          go_wp2_with fail
          exact ⟨⟨j + 1, by omega, by go_num, trivial⟩, by simp [intOf]; omega⟩
    · have q1 : ¬ (j : Int) < vs.length := by omega
      go_wp2_with fail
      go_ret
      exact ⟨rfl, rfl⟩
end Go.Proofs.YtpjpmgpehpigaabDoor
