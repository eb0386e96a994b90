/- disk.shorten. -/
import Derived.Test.YtfnlcnjflloecaaDskA
set_option linter.unusedVariables false
set_option linter.unusedSimpArgs false
set_option linter.unnecessarySimpa false
namespace Go.Proofs.Ytfnlcnjflloecaa
open Go.RowKit
theorem Own8.short {w : World} {base : Nat} {e : TypeId} {A : Option Addr} {n c : Nat} {l : List UInt8} (h : Own8 w base e (.slice A n c) l) (hi : Nat) (hh : hi ≤ l.length) : Own8 w base e (.slice A hi c) (l.take hi) := by
  obtain ⟨h1, h2⟩ := h
  have e1 : (l.take hi).length = hi := by simp; omega
  have e2 : bvs (l.take hi) = (bvs l).take hi := by simp [bvs, List.map_take]
  refine ⟨by rw [bvs_length]; omega, ?_⟩
  rcases h2 with ⟨h2, h3⟩ | ⟨g, cap, cur, a, b, hg, hn, hm, hs, ht⟩
  · injection h2 with h4 h5 h6
    subst h4 h6
    have : hi = 0 := by omega
    subst this
    exact .inl ⟨rfl, by simp⟩
  · injection a with h4 h5 h6
    subst h4 h6
    refine .inr ⟨g, c, cur, by rw [e1], b, hg, by omega, hm, hs, ?_⟩
    rw [e1, e2, ← ht, List.take_take]
    congr 1
    omega
theorem sliced_zero (A : Option Addr) (hi c : Nat) : sliced A 0 hi c 1 = .slice A hi c := by
  unfold sliced
  have : A.map (fun x => x.add (0 * 1)) = A := by
    cases A with
    | none => rfl
    | some a => simp [Addr.add]
  simp only [Nat.sub_zero]
  split
  · rfl
  · rw [this]
set_option maxRecDepth 100000 in
set_option maxHeartbeats 1600000 in
theorem shorten_c (p g r : Nat) (D : Dsk) (v sf : Value) (b : List UInt8) (size : Nat) (w : World) (hp : Blk w p 68 (dskC r D)) (hg : Blk w g 77 [v, sf]) (hv : Own8 w 0 5 v b) (hpg : p ≠ g) (hvp : v.ownBlock ≠ some p) (hvg : v.ownBlock ≠ some g)
    (hsz : size ≤ b.length) (hub : b.length ≤ usedF D.fs) (hu : (usedF D.fs : Int) ≤ 16777216) :
    Calls Try.prog 47 #[.pointer (some ⟨p, 0, none⟩), .pointer (some ⟨g, 0, none⟩), .int .i64 (size : Int)] w fun e w' => e = .returned (.tuple #[]) ∧ ∃ v',
      Blk w' p 68 ((dskC r D).set 2 (.int .i64 ((usedF D.fs : Int) - ((b.length : Int) - (size : Int))))) ∧ Blk w' g 77 [v', sf] ∧ Own8 w' 0 5 v' (b.take size) ∧ v'.ownBlock = v.ownBlock ∧ Chg (fun k => k = p ∨ k = g) w w' := by
  have hrd := hv.rd
  obtain ⟨A, c, ev, hc, hm, -⟩ := hv.rd.open
  have q1 : (b.length : Int) ≤ 16777216 := by omega
  have q2 : (size : Int) ≤ (b.length : Int) := by omega
  have q3 : (b.length : Int) ≤ (usedF D.fs : Int) := by omega
  have cf : _ = some v := hg.drew.cell 0
  have c2 : _ = some (Value.int .i64 (usedF D.fs : Int)) := hp.drew.cell 2
  have f2 := hp.drew.frozen 2
  go_enter Try.func47, Try.ntmps47
  go_upto_region 0 with fail
  (refine region_tail 14 (by kernel_rfl) (by kernel_rfl) ?_; simp only [List.take_succ_cons, List.take_zero, List.drop_succ_cons, List.drop_zero]; repeat (first | (with_reducible refine GS_len ?_; refine S8_len Try.underlying38 (by with_unfolding_all (conv => lhs; whnf)) (by assumption) ?_) | (refine wpStill_step (fun K hK => ?_); go_simp; (try go_bits); refine hK _ ?_; clear hK K)); try refine wpStill_nil ?_)
  have k2 := (hp.stored 2 (.int .i64 ((usedF D.fs : Int) - ((b.length : Int) - (size : Int))))).drew
  have g2 := grown_setCell w ⟨p, 2, none⟩ (.int .i64 ((usedF D.fs : Int) - ((b.length : Int) - (size : Int))))
  have kg := (hg.other (a := ⟨p, 2, none⟩) (Ne.symm hpg) (.int .i64 ((usedF D.fs : Int) - ((b.length : Int) - (size : Int))))).drew
  have hv2 := (hv.grown g2 (.inr hvp)).drew
  go_upto_region 1 with fail
  have hc2 : Chg (fun k => k = p ∨ k = g) w (w.setCell ⟨p, 2, none⟩ (.int .i64 ((usedF D.fs : Int) - ((b.length : Int) - (size : Int))))).drew := by
    have := Chg.grown g2 (M := fun k => k = p ∨ k = g) (fun k hk => by cases hk; exact .inl rfl)
    exact ⟨this.os, this.tape, this.output, this.size, this.block⟩
  clear cf c2 f2 g2 hp hg hv
  generalize (w.setCell ⟨p, 2, none⟩ (.int .i64 ((usedF D.fs : Int) - ((b.length : Int) - (size : Int))))).drew = w2 at *
  subst ev
  have hsl : ∀ w, (Instr.sliceAt 38 (.slice A b.length c) none (some (.int .i64 (size : Int))) none).run Try.prog w = .ok (.slice A size c) w := fun w => by
    have := (run_sliced (w := w) st8 A b.length c 0 size (Nat.zero_le _) hsz hc .i64 .i64).2.1
    rw [sliced_zero] at this
    exact this
  have cf : _ = some _ := kg.cell 0
  have ff := kg.frozen 0
  have kg3 := kg.stored 0 (.slice A size c)
  have g3 := grown_setCell w2 ⟨g, 0, none⟩ (.slice A size c)
  have k3 := k2.other (a := ⟨g, 0, none⟩) hpg (.slice A size c)
  have hv3 := (hv2.short size hsz).grown g3 (.inr (by cases A <;> exact hvg))
  go_wp2_with fail
  refine bodyPost_end (results_none rfl _ _ _) rfl ?_
  exact ⟨rfl, k3, _, kg3, hv3, by cases A <;> rfl, hc2.tr (Chg.grown g3 (fun k hk => by cases hk; exact .inr rfl))⟩
end Go.Proofs.Ytfnlcnjflloecaa
