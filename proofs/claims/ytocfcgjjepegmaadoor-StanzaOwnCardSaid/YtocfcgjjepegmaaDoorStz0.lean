/- stanza: check and must: what its readers give up with. -/
import Derived.Test.YtocfcgjjepegmaaDoorStrs
import Derived.Test.YtocfcgjjepegmaaDoorLoan2
import Derived.Defers
import Derived.Recover
set_option linter.unusedVariables false
set_option linter.unusedSimpArgs false
namespace Go.Proofs.YtocfcgjjepegmaaDoor
open Go.RowKit
/-- What stanza's readers give up with. -/
def gaveC (e : Int) : List PanicEntry := [{ v := .iface 108 (.agg #[.int .i64 e]), recovered := false }]
set_option maxRecDepth 100000 in
theorem check_ok (w : World) : Calls Tryd.prog 124 #[.int .i64 0] w fun e w' => e = .returned (.tuple #[]) ∧ w = w' := by
  go_enter Tryd.func124, Tryd.ntmps124
  go_wp2_with fail
  first | go_end0 | ((try simp only [Exit.inBlock, Exit.then]); refine bodyPost_ret (results_none rfl _ _ _) rfl ?_)
  exact ⟨rfl, rfl⟩
set_option maxRecDepth 100000 in
theorem check_bad (x : Int) (hx : x ≠ 0) (w : World) : Calls Tryd.prog 124 #[.int .i64 x] w fun e w' => e = .panicked (gaveC x) ∧ w = w' := by
  have q1 : (x == 0) = false := by simpa using hx
  have q2 : (x != 0) = true := by simpa using hx
  go_enter Tryd.func124, Tryd.ntmps124
  go_wp2_with fail
  exact ⟨rfl, rfl, rfl⟩
set_option maxRecDepth 100000 in
theorem must_ok (x : Int) (w : World) : Calls Tryd.prog 72 #[.bool true, .int .i64 x] w fun e w' => e = .returned (.tuple #[]) ∧ w = w' := by
  go_enter Tryd.func72, Tryd.ntmps72
  go_wp2_with fail
  first | go_end0 | ((try simp only [Exit.inBlock, Exit.then]); refine bodyPost_ret (results_none rfl _ _ _) rfl ?_)
  exact ⟨rfl, rfl⟩
set_option maxRecDepth 100000 in
theorem must_bad (x : Int) (hx : x ≠ 0) (w : World) : Calls Tryd.prog 72 #[.bool false, .int .i64 x] w fun e w' => e = .panicked (gaveC x) ∧ w = w' := by
  go_enter Tryd.func72, Tryd.ntmps72
  have c0 : True := trivial
  go_wp2_with (first
    | (have _t := c0; go_at_call 124; refine (check_bad x hx _).mono ?_; rintro e w1 ⟨rfl, rfl⟩; clear c0; have c1 : True := trivial))
  exact ⟨rfl, rfl, rfl⟩
/-- A reader, of bytes l still to be read, and of bits. -/
def RdrAt (w : World) (p : Nat) (bits : Nat) (l : List UInt8) : Prop := ∃ v, Blk w p 111 [v, .int .u8 (bits : Int)] ∧ Rd w v l ∧ (0 < l.length → ∀ g, v.ownBlock = some g → g ≠ p)
theorem RdrAt.lt {w : World} {p bits : Nat} {l : List UInt8} (h : RdrAt w p bits l) : p < w.heap.size := by obtain ⟨v, h1, _⟩ := h; exact h1.lt
theorem RdrAt.below {w w' : World} {p bits : Nat} {l : List UInt8} (h : RdrAt w p bits l) (hb : Below w.heap.size w w') : RdrAt w' p bits l := by
  obtain ⟨v, h1, h2, h3⟩ := h; exact ⟨v, h1.below hb, h2.below hb, h3⟩
set_option maxRecDepth 100000 in
theorem has_c (w : World) (p bits m : Nat) (l : List UInt8) (h : RdrAt w p bits l) :
    Calls Tryd.prog 74 #[.pointer (some ⟨p, 0, none⟩), .int .u8 (m : Int)] w fun e w' => e = .returned (.bool (Go.bits .and .u8 (bits : Int) (m : Int) != 0)) ∧ w = w' := by
  obtain ⟨v, h1, h2, h3⟩ := h
  have c1 : _ = some _ := h1.cell 1
  go_enter Tryd.func74, Tryd.ntmps74
  go_wp2_with fail
  go_ret
  exact ⟨rfl, rfl⟩
/-- As RdrAt; the bytes lie in a block from N on. -/
def RdrN (w : World) (p bits N : Nat) (l : List UInt8) : Prop := ∃ v, Blk w p 111 [v, .int .u8 (bits : Int)] ∧ Rd w v l ∧ (∀ g, v.ownBlock = some g → g ≠ p) ∧ ∀ g, v.ownBlock = some g → N ≤ g ∧ g < w.heap.size
theorem RdrN.at {w : World} {p bits N : Nat} {l : List UInt8} (h : RdrN w p bits N l) : RdrAt w p bits l := by obtain ⟨v, h1, h2, h3, _⟩ := h; exact ⟨v, h1, h2, fun _ => h3⟩
/-- What a reader's method answers: what is read, or it gives up. Nothing but the reader's block turns. -/
def RdP {β : Type} (w : World) (p bits : Nat) (r : β × List UInt8 × Int) (enc : β → Value) (e : Ending) (w' : World) : Prop :=
  Chg (fun k => k = p) w w' ∧ ((r.2.2 = 0 ∧ e = .returned (enc r.1) ∧ RdrN w' p bits w.heap.size r.2.1) ∨ (r.2.2 ≠ 0 ∧ e = .panicked (gaveC r.2.2)))
theorem rdr_put {w w1 : World} {p bits : Nat} {v0 v1 : Value} {l1 : List UInt8} (h1 : Blk w p 111 [v0, .int .u8 (bits : Int)]) (hb : Below w.heap.size w w1) (ho : Own8 w1 w.heap.size 5 v1 l1) :
    Chg (fun k => k = p) w (w1.setCell ⟨p, 0, none⟩ v1) ∧ RdrN (w1.setCell ⟨p, 0, none⟩ v1) p bits w.heap.size l1 := by
  have hp := h1.lt
  refine ⟨Chg.chg_trans (Chg.of_below hb) (Chg.setCell w1 ⟨p, 0, none⟩ v1) (fun k hk => .inr hk), v1, (h1.below hb).stored 0 v1, ?_, fun g hg => ?_, fun g hg => ⟨ho.base_le g hg, Nat.lt_of_lt_of_le (ho.lt g hg) (Chg.setCell w1 ⟨p, 0, none⟩ v1).size⟩⟩
  · exact (ho.chg (Chg.setCell w1 ⟨p, 0, none⟩ v1) (fun g hg e => by have := ho.base_le g hg; have e' : g = p := e; omega)).rd
  · have := ho.base_le g hg; omega
set_option maxRecDepth 100000 in
set_option maxHeartbeats 800000 in
theorem ruint_c (w : World) (p bits : Nat) (l : List UInt8) (h : RdrAt w p bits l) (hl : l.length ≤ 10000000) :
    Calls Tryd.prog 71 #[.pointer (some ⟨p, 0, none⟩)] w (RdP w p bits (uintI l) (fun n => .int .u64 (n : Int))) := by
  obtain ⟨v, h1, h2, h3⟩ := h
  have c0 : _ = some _ := h1.cell 0
  have U := uint_c v l w h2 hl
  unfold GivesU at U
  generalize uintI l = r at *
  obtain ⟨n, l1, e1⟩ := r
  simp only at U
  by_cases he : e1 = 0
  · subst he
    go_enter Tryd.func71, Tryd.ntmps71
    have c0 : True := trivial
    go_wp2_with (first
      | (have _t := c0; go_at_call 119; refine U.mono ?_; rintro e w1 ⟨v1, rfl, ho, hb⟩; have f0 := (h1.below hb).frozen 0; have k0 : _ = some _ := (h1.below hb).cell 0; obtain ⟨A1, cp1, ev1, _, _, _⟩ := ho.rd.open; subst ev1; clear c0; have c1 : True := trivial)
      | (have _t := c1; go_at_call 124; refine (check_ok _).mono ?_; rintro e w2 ⟨rfl, rfl⟩; clear c1; have c2 : True := trivial))
    go_ret
    have := rdr_put h1 hb ho
    exact ⟨this.1, .inl ⟨rfl, rfl, this.2⟩⟩
  · go_enter Tryd.func71, Tryd.ntmps71
    have c0 : True := trivial
    go_wp2_with (first
      | (have _t := c0; go_at_call 119; refine U.mono ?_; rintro e w1 ⟨v1, rfl, ho, hb⟩; clear c0; have c1 : True := trivial)
      | (have _t := c1; go_at_call 124; refine (check_bad _ he _).mono ?_; rintro e w2 ⟨rfl, rfl⟩; clear c1; have c2 : True := trivial))
    exact ⟨rfl, Chg.of_below hb, .inr ⟨he, rfl⟩⟩
/-- The reader behind its first number: its bytes lie in blocks behind its own. -/
def RdrX (w : World) (p bits : Nat) (l : List UInt8) : Prop := ∃ v, Blk w p 111 [v, .int .u8 (bits : Int)] ∧ Rd w v l ∧ ∀ g, v.ownBlock = some g → p < g
theorem RdrX.at {w : World} {p bits : Nat} {l : List UInt8} (h : RdrX w p bits l) : RdrAt w p bits l := by
  obtain ⟨v, h1, h2, h3⟩ := h; exact ⟨v, h1, h2, fun _ g hg => by have := h3 g hg; omega⟩
theorem RdrN.x {w w1 : World} {p bits : Nat} {l : List UInt8} (h : RdrN w p bits w1.heap.size l) (hp : p < w1.heap.size) : RdrX w p bits l := by
  obtain ⟨v, h1, h2, h3, h4⟩ := h; exact ⟨v, h1, h2, fun g hg => by have := (h4 g hg).1; omega⟩
theorem RdrX.set {w : World} {p bits : Nat} {l : List UInt8} (h : RdrX w p bits l) (q j : Nat) (u : Value) (hq : q < p) : RdrX (w.setCell ⟨q, j, none⟩ u) p bits l := by
  obtain ⟨v, h1, h2, h3⟩ := h
  exact ⟨v, h1.other (by simp; omega) u, h2.chg (Chg.setCell w ⟨q, j, none⟩ u) (fun g hg e => by have := h3 g hg; have e' : g = q := e; omega), h3⟩
theorem OwnT.chg {w w' : World} {M : Nat → Prop} {base : Nat} {v : Value} {l : List (List UInt8)} (h : OwnT w base v l) (hc : Chg M w w') (hm : ∀ g, v.ownBlock = some g → ¬ M g) : OwnT w' base v l := owns_chg h hc hm
theorem OwnT.mono {w : World} {base base' : Nat} {v : Value} {l : List (List UInt8)} (h : OwnT w base v l) (hb : base' ≤ base) : OwnT w base' v l := by
  obtain ⟨h1, h2⟩ := h
  refine ⟨h1, ?_⟩
  rcases h2 with h2 | ⟨g, cap, cur, a, b, c⟩
  · exact .inl h2
  · exact .inr ⟨g, cap, cur, a, by omega, c⟩
end Go.Proofs.YtocfcgjjepegmaaDoor
