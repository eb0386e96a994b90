/- octet: behind, rest, PutUint, and the reference's. -/
import Derived.Test.YtfnlcnjflloecaaDoorMore
import Derived.Test.YtfnlcnjflloecaaDoorKeep
import Derived.Laws.BitsAllLaws
set_option linter.unusedVariables false
set_option linter.unusedSimpArgs false
namespace Go.Proofs.YtfnlcnjflloecaaDoor
open Go.RowKit
theorem L8_make0 {P : Program} {w : World} {ops : Array Oper} {rest : List Oper} {a : Act} {Q : Exit → Act → World → Prop} {d : Nat} {ty : TypeId} {pos : String} {after : Array Edge} {t e : TypeId} {ol oc : Operand} {base : Nat}
    (ST : SlTy P t e 1 1 (.int .u8 0)) {n : Nat} {C : Int} {kl kc : IntKind} (hl : a.eval ol = .int kl 0) (hc : a.eval oc = .int kc C) (hC : C = (n : Int)) (hn : n ≤ 281474976710656) (hb : base ≤ w.heap.size)
    (h : ∀ v w', Own8 w' base e v [] → v.ownBlock = some w.heap.size → w.grownBy w' none → wpList P ops Q rest (a.put (some d) v) w') :
    wpList P ops Q ({ dst := some d, op := .makeSlice t ol oc, type := ty, pos := pos, after := after, guard := none } :: rest) a w := by
  obtain ⟨i, hi, hz, hs, hby⟩ := ST.info
  exact wpList_make_own w rfl ol oc t rfl base e i _ 1 ST.under hi hz hs kl kc C n hl hc hC (by rw [hby]; omega) (by unfold maxLen; omega) hb fun w' h1 h2 => h _ w' h1 rfl h2
theorem behind_c (v u : Value) (l k : List UInt8) (w : World) (h : Rd w v l) (hk : Rd w u k) (hl : l.length ≤ 10000000) (hkl : k.length ≤ 10000000) :
    Calls Tryd.prog 107 #[v, u] w (Gives8 5 w (l ++ k)) := by
  go_enter Tryd.func107, Tryd.ntmps107
  have c0 : True := trivial
  go_wp2_with (first
    | ((with_reducible refine G_len ?_; refine L8_len Tryd.underlying37 (by with_unfolding_all (conv => lhs; whnf)) (by assumption) ?_))
    | (have _t := c0; (with_reducible refine G_make ?_; refine L8_make0 st8 (n := (l.length + k.length)) (base := w.heap.size) rfl (by with_unfolding_all (conv => lhs; whnf)) (by omega) (by omega) (Nat.le_refl _) ?_); intro m w1 ho1 hm1 hg1; have hb1 : Below w.heap.size w w1 := (Below.refl _ _).grown hg1 (Nat.le_refl _) (by intro k hk; cases hk); have h1 := h.below hb1; have hk1 := hk.below hb1; have hz1 := hb1.size; clear c0; have c1 : True := trivial)
    | (have _t := c1; (at_builtin; refine wpList_app8 rfl _ _ rfl st8 (by with_unfolding_all (conv => lhs; whnf)) ho1 rfl (Rd.src h1 Tryd.underlying37) (by first | omega | (simp; omega)) (by first | (simp; done) | omega | (simp; omega)) ?_); intro v2 w2 ho2 hg2 hb2; have hw2 := app_step0 hb1 ho1 (Nat.le_refl _) hg2; have hk2 := hk1.grown hg2 (fun hn e => by have := hk.lt w.heap.size (e.trans hm1) hn; omega); have hz2 := hw2.1.size; clear c1; have c2 : True := trivial)
    | (have _t := c2; (at_builtin; refine wpList_app8 rfl _ _ rfl st8 (by with_unfolding_all (conv => lhs; whnf)) ho2 rfl (Rd.src hk2 Tryd.underlying37) (by first | omega | (simp; omega)) (by first | (simp; done) | omega | (simp; omega)) ?_); intro v3 w3 ho3 hg3 hb3; have hw3 := app_step0 hw2.1 ho2 (Nat.le_refl _) hg3; clear c2; have c3 : True := trivial))
  go_ret
  exact ⟨_, rfl, by simpa using ho3, hw3.1⟩
theorem rest_c (v : Value) (l : List UInt8) (w : World) (h : Rd w v l) (hl : l.length ≤ 10000000) :
    Calls Tryd.prog 111 #[v] w (Gives8 5 w l) := by
  have H := behind_c v (.slice none 0 0) l [] w h (Rd.nil w) hl (by simp)
  rw [List.append_nil] at H
  go_enter Tryd.func111, Tryd.ntmps111
  go_wp2_with (go_at_call 107; refine H.mono ?_; rintro e w1 ⟨v1, rfl, ho1, hb1⟩)
  go_ret
  exact ⟨_, rfl, ho1, hb1⟩
def loB (m : Nat) : UInt8 := UInt8.ofNat (m % 128 + 128)
/-- A number's form. -/
def formU (n : Nat) : List UInt8 := if n < 128 then [UInt8.ofNat n] else loB n :: formU (n / 128)
decreasing_by omega
theorem formU_lt {n : Nat} (h : n < 128) : formU n = [UInt8.ofNat n] := by rw [formU]; exact if_pos h
theorem formU_ge {n : Nat} (h : 128 ≤ n) : formU n = loB n :: formU (n / 128) := by rw [formU]; exact if_neg (by omega)
theorem formU_len (n : Nat) : ∀ k, 1 ≤ k → n < 128 ^ k → (formU n).length ≤ k := by
  intro k
  induction k generalizing n with
  | zero => intro h; omega
  | succ k ih =>
    intro _ hn
    by_cases h : n < 128
    · rw [formU_lt h]; simp
    · rw [formU_ge (by omega)]
      rcases Nat.eq_zero_or_pos k with rfl | hk
      · simp at hn; omega
      · have := ih (n / 128) hk (Nat.div_lt_of_lt_mul (by rw [Nat.pow_succ] at hn; omega))
        simpa using this
theorem formU_len64 (n : Nat) (h : n < 18446744073709551616) : (formU n).length ≤ 10 := formU_len n 10 (by omega) (Nat.lt_of_lt_of_le h (by decide +kernel))
def PuRel (w : World) (n0 : Nat) (base : Nat) (pre : List UInt8) (v n : Value) (wr : World) : Prop := ∃ (m : Nat) (f : List UInt8), m ≤ n0 ∧ n = .int .u64 (m : Int) ∧ f.length ≤ 20 ∧ (f.length + (formU m).length ≤ 20) ∧ f ++ formU m = formU n0 ∧ Own8 wr base 5 v (pre ++ f) ∧ Below w.heap.size w wr
theorem or128 (m : Nat) : bits .or .u8 ((m : Int) % 256) 128 = (((loB m).toNat : Nat) : Int) := by
  unfold loB
  have h2 : ∀ x : Fin 256, (x.val ||| 128) = x.val % 128 + 128 := by decide +kernel
  have h3 := h2 ⟨m % 256, by omega⟩
  simp only at h3
  have e : (m : Int) % 256 = ((m % 256 : Nat) : Int) := by omega
  rw [e]
  have := (bits_nat .u8 8 (by decide) wraps_u8 (m % 256) 128 (by omega) (by omega)).2
  rw [show (128 : Int) = ((128 : Nat) : Int) from rfl, this, h3]
  simp
  omega
set_option maxRecDepth 100000 in
set_option maxHeartbeats 800000 in
theorem putuint_c (v : Value) (l : List UInt8) (n : Nat) (w : World) (h : Rd w v l) (hl : l.length ≤ 1000000) (hn : n < 18446744073709551616) :
    Calls Tryd.prog 63 #[v, .int .u64 (n : Int)] w (Gives8 5 w (l ++ formU n)) := by
  have hfl := formU_len64 n hn
  go_enter Tryd.func63, Tryd.ntmps63
  go_wp2_with fail
  go_loopw [5, 1] (fun v m wr => PuRel w n w.heap.size [] v m wr) (fun _ m _ => (intOf m).toNat)
  case atStart => exact ⟨n, [], Nat.le_refl _, rfl, by simp, by simp; omega, rfl, Own8.nil _ _ _, Below.refl _ _⟩
  case round =>
    obtain ⟨m, f, hm, rfl, hf, hfm, he, ho, hbr⟩ := hrel
    have hbs := hbr.size
    rw [List.nil_append] at ho
    by_cases hlt : m < 128
    · have q1 : ¬ (128 : Int) ≤ m := by omega
      have q2 : (m : Int) < 128 := by omega
      have q3 : (0 : Int) ≤ m := by omega
      rw [formU_lt hlt] at he
      have B := fun v1 w1 (hb : Below w.heap.size w w1) (h1 : Rd w1 v1 (formU n)) => behind_c v v1 l (formU n) w1 (h.below hb) h1 (by omega) (by omega)
      unfold Gives8 at B
      have hX := Go.Lib.hid (show (m : Int) = ((UInt8.ofNat m).toNat : Int) by simp; omega)
      have c0 : True := trivial
      go_wp2_with (first
        | (have _t := c0; (at_builtin; refine wpList_app8 rfl _ _ rfl st8 (by with_unfolding_all (conv => lhs; whnf)) (Own8.below ho ((Below.refl _ _).alloc (Nat.le_refl _) _)) rfl (Rd.src (Rd.lit _ _ _ [UInt8.ofNat m] (by rw [hX.out]; rfl) rfl (by omega) (by decide)) Tryd.underlying37) (by first | omega | (simp; omega)) (by first | (simp; done) | omega | (simp; omega)) ?_); intro v3 w3 ho3 hg3 hb3; have hw3 := app_step hbr ho (Nat.le_refl _) hg3; rw [he] at ho3; clear c0; have c1 : True := trivial)
        | (have _t := c1; go_at_call 107; refine (B _ _ hw3.1 ho3.rd).mono ?_; rintro e w4 ⟨v4, rfl, ho4, hb4⟩; clear c1; have c2 : True := trivial))

      go_ret
      exact ⟨_, rfl, ho4.mono hw3.1.size, below_below hw3.1 hb4⟩
    · have q1 : (128 : Int) ≤ m := by omega
      have q2 : (m : Int) < 18446744073709551616 := by omega
      have hX := Go.Lib.hid (or128 m)
      rw [formU_ge (by omega)] at he hfm
      go_wp2_with (first | ((at_builtin; refine wpList_app8 rfl _ _ rfl st8 (by with_unfolding_all (conv => lhs; whnf)) (Own8.below ho ((Below.refl _ _).alloc (Nat.le_refl _) _)) rfl (Rd.src (Rd.lit _ _ _ [loB m] (by rw [hX.out]; rfl) rfl (by omega) (by decide)) Tryd.underlying37) (by first | omega | (simp; omega)) (by first | (simp; done) | omega | (simp; omega)) ?_); intro v3 w3 ho3 hg3 hb3))
      have hw3 := app_step hbr ho (Nat.le_refl _) hg3
      refine ⟨⟨m / 128, f ++ [loB m], by omega, by go_num, by simp at hfm ⊢; omega, by simp at hfm ⊢; omega, by rw [← he]; simp, by simpa using ho3, hw3.1⟩, ?_⟩
      simp only [intOf]
      omega
end Go.Proofs.YtfnlcnjflloecaaDoor
