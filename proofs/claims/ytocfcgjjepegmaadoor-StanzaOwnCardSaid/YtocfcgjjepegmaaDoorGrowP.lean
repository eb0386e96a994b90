/- A region that draws its order and turns old blocks, which some operations ahead of that read. -/
import Derived.Test.YtocfcgjjepegmaaDoorLoan2
set_option linter.unusedVariables false
set_option linter.unusedSimpArgs false
namespace Go.Proofs.YtocfcgjjepegmaaDoor
open Go.RowKit
namespace O
def dpOf2 (l : List Oper) (is : List Nat) (v0 : Nat) (i : Nat) : List Nat := if is.contains i then v0 :: depOf l i else depOf l i
/-- As region_making; the operations `is` may look at the old blocks M0, of which S0 stands till one of them turns these. -/
theorem region_making2 {P : Program} {id : Nat} {l : List Oper} {Q' : Exit → Act → World → Prop} {a : Act} {w : World} (n : Nat) (cons : Nat → List Nat) (sg : Nat → Option ((Tmp → Value) → GSpec)) (is : List Nat) (v0 : Nat) (M0 : Nat → Prop) (S0 : (Nat → Prop) → World → Prop) (hm : P.follows .mixedOrders = true)
    (hB : growB l.toArray (depOf l) (dpOf2 l is v0) cons n = true) (hst : ∀ i S, sg i = some S → ∀ e v, Loc M0 w.drew (S e v))
    (hSL : Loc M0 w.drew S0) (hS0 : S0 M0 w.drew) (hM0 : ∀ k, M0 k → k < w.heap.size)
    (h : wpG P l.toArray M0 w.drew (dpOf2 l is v0) cons (fun a' w' => wpList P l.toArray Q' (l.drop n) a' w') (gitems sg (l.take n) 0) (fun j B w => if j = v0 then S0 B w else True) a) : (Code.region id l.toArray true).wp P Q' a w :=
  region_grow n (depOf l) (dpOf2 l is v0) cons sg v0 M0 S0 hm hB hst hSL hS0 hM0 h
end O
/-- The block p holds these cells. -/
def oneB (p : Nat) (T : TypeId) (cs : List Value) : GSpec := fun _ B w => Blk w p T cs ∧ B p
theorem oneB_loc (M0 : Nat → Prop) (w0 : World) (p : Nat) (T : TypeId) (cs : List Value) (u : Value) : O.Loc M0 w0 (oneB p T cs u) := by
  intro B w w' ⟨h1, h3⟩ hs hk
  exact ⟨by unfold Blk; rw [hk p h1.lt (.inr h3)]; exact h1, h3⟩
/-- A store of one cell into it. -/
theorem goesTo_oneB {P : Program} {ops : Array Oper} {w : World} {a : Act} {o : Oper} {p j x y : Nat} {T E : TypeId} {M N : Nat → Prop} {cs cs' : List Value} {u v : Value} (hS : oneB p T cs u M w) (hw : Region.wanted o (yielded ops a.tmps) = true) (ho : o.op = .store E (.tmp x) (.tmp y))
    (hx : a.eval (.tmp x) = .pointer (some ⟨p, j, none⟩)) (hy : a.eval (.tmp y) = v) (hr : (Instr.storeAt E (.pointer (some ⟨p, j, none⟩)) v).run P w = .ok () (w.setCell ⟨p, j, none⟩ v)) (hcs : cs' = cs.set j v) (hM : ∀ k, M k → N k) :
    GoesTo P ops o a w fun u' w' => Chg N w w' ∧ oneB p T cs' u' (fun b => N b ∨ (w.heap.size ≤ b ∧ b < w'.heap.size)) w' := by
  subst hcs
  obtain ⟨k1, k3⟩ := hS
  have hs := k1.stored j v
  unfold GoesTo
  rw [if_pos hw]
  simp only [execOp, ho, hx, hy]
  simp [hr]
  exact ⟨(Chg.setCell w ⟨p, j, none⟩ _).mono (fun k hk => by cases hk; exact hM _ k3), hs, .inl (hM _ k3)⟩
theorem rd_head {w : World} {b o n c : Nat} {x : UInt8} {l : List UInt8} (h : Rd w (.slice (some ⟨b, o, none⟩) n c) (x :: l)) : w.cell? ⟨b, o, none⟩ = some (.int .u8 (x.toNat : Int)) := by
  obtain ⟨A, c', e, h1, h2, h3⟩ := h.open
  cases e
  obtain ⟨b', o', e', hc⟩ := h3 (by simp)
  cases e'
  exact hc 0 (by simp)
end Go.Proofs.YtocfcgjjepegmaaDoor
