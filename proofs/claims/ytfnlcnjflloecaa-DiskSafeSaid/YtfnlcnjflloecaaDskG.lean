/- DiskSafe: the plain law, roostlaw10.Ints. -/
import Derived.Test.YtfnlcnjflloecaaDskF
set_option linter.unusedVariables false
set_option linter.unusedSimpArgs false
set_option linter.unnecessarySimpa false
namespace Go.Proofs.Ytfnlcnjflloecaa
open Go.RowKit
/-- A disk with one file. -/
structure SaD (D : Dsk) (a all : List UInt8) (k : Nat) : Prop where
  ok : DskOk D
  fs : D.fs = [⟨[102], a ++ all, a.length⟩]
  room : D.room = 100000
  done : D.done ≤ (k : Int)
  len : all.length ≤ 100 * k
def saD0 (a : List UInt8) : Dsk := (appendD (newD 100000) [102] a).2
def saD1 (a : List UInt8) : Dsk := (syncD (saD0 a) [102]).2
theorem saD0_eq (a : List UInt8) (ha : a.length ≤ 100) : saD0 a = ⟨[⟨[102], a, 0⟩], 100000, 1, false, -1⟩ := by
  unfold saD0 appendD
  have e : firstD (newD 100000) [102] false = 0 := by decide
  rw [if_neg (by rw [e]; decide), if_neg (by simp [newD, usedF]; omega)]
  simp [powerD, newD, addF, lookF, putF, modF]
theorem saD1_eq (a : List UInt8) (ha : a.length ≤ 100) : syncD (saD0 a) [102] = (0, ⟨[⟨[102], a, a.length⟩], 100000, 2, false, -1⟩) := by
  rw [saD0_eq a ha]
  unfold syncD
  have e : firstD ⟨[⟨[102], a, 0⟩], 100000, 1, false, -1⟩ [102] true = 0 := by
    unfold firstD
    rw [if_neg (by simp), if_neg (by decide), if_neg (by simp [lookF])]
  have e2 : powerD ⟨[⟨[102], a, 0⟩], 100000, 1, false, -1⟩ = (0, ⟨[⟨[102], a, 0⟩], 100000, 2, false, -1⟩) := by simp [powerD]
  rw [if_neg (by rw [e]; decide), e2, if_neg (by simp)]
  simp [modF]
theorem SaD.start (a : List UInt8) (ha : a.length ≤ 100) (n : Nat) (hn : n < 30) : SaD (fuseD (saD1 a) n).2 a [] 2 ∧ (fuseD (saD1 a) n).1 = 0 ∧ (fuseD (saD1 a) n).2.off = false := by
  have ok0 : DskOk (saD0 a) := (DskOk.new (room := 100000) (by omega) (by omega)).append _ _
  have ok1 : DskOk (saD1 a) := ok0.sync _
  have ok2 := ok1.fuse (n : Int) (by omega)
  have e : saD1 a = ⟨[⟨[102], a, a.length⟩], 100000, 2, false, -1⟩ := by unfold saD1; rw [saD1_eq a ha]
  have e2 : fuseD (saD1 a) n = (0, ⟨[⟨[102], a, a.length⟩], 100000, 2, false, (n : Int)⟩) := by rw [e]; unfold fuseD; rw [if_neg (by omega), if_neg (by simp)]
  rw [e2] at ok2 ⊢
  exact ⟨⟨ok2, by simp, rfl, by simp, by simp⟩, rfl, rfl⟩
theorem SaD.next {D : Dsk} {a all : List UInt8} {k : Nat} (h : SaD D a all k) (ha : a.length ≤ 100) (hk : k ≤ 50) (hoff : D.off = false) (b : List UInt8) (hb : b.length ≤ 100) :
    SaD (appendD D [102] b).2 a (all ++ b) (k + 1) ∧ (((appendD D [102] b).1 = 0 ∧ (appendD D [102] b).2.off = false) ∨ (appendD D [102] b).1 = 13) := by
  have ok := h.ok.append [102] b
  have hlen := h.len
  have e : firstD D [102] false = 0 := by
    unfold firstD
    rw [if_neg (by rw [hoff]; decide), if_neg (by decide), if_neg (by simp)]
  have e2 : appendD D [102] b = powerD { D with fs := [⟨[102], a ++ (all ++ b), a.length⟩] } := by
    unfold appendD
    rw [if_neg (by rw [e]; decide), if_neg (by rw [h.room, h.fs]; simp [usedF]; omega)]
    congr 2
    rw [h.fs]
    simp [addF, lookF, modF]
  rw [e2] at ok ⊢
  have hp := power_fs { D with fs := [⟨[102], a ++ (all ++ b), a.length⟩] }
  have hd := (power_done { D with fs := [⟨[102], a ++ (all ++ b), a.length⟩] }).1
  refine ⟨⟨ok, hp.1, by rw [hp.2]; exact h.room, ?_, by simp; omega⟩, ?_⟩
  · have := h.done
    simp only at hd
    omega
  · unfold powerD
    split
    · exact .inr rfl
    · exact .inl ⟨rfl, hoff⟩
/-- What a restart leaves: at least the safe bytes, and a beginning of the rest. -/
theorem SaD.rest {D : Dsk} {a all : List UInt8} {k : Nat} (h : SaD D a all k) (kp : List Int) :
    ∃ m, a.length ≤ m ∧ m ≤ a.length + all.length ∧ (restartD D kp).fs = [⟨[102], (a ++ all).take m, m⟩] ∧ readD (restartD D kp) [102] = (0, (a ++ all).take m) ∧ DskOk (restartD D kp) ∧
      (restartD (restartD D kp) []).fs = [⟨[102], (a ++ all).take m, m⟩] ∧ readD (restartD (restartD D kp) []) [102] = (0, (a ++ all).take m) ∧ DskOk (restartD (restartD D kp) []) := by
  have ok := h.ok.restart kp
  have ok2 := ok.restart []
  have rd : ∀ (E : Dsk) (b : List UInt8) (m : Nat), E.fs = [⟨[102], b, m⟩] → E.off = false → readD E [102] = (0, b) := fun E b m he ho => by
    have e : firstD E [102] true = 0 := by
      unfold firstD
      rw [if_neg (by rw [ho]; decide), if_neg (by decide), if_neg (by rw [he]; simp [lookF])]
    unfold readD
    rw [if_neg (by rw [e]; decide), he]
    simp [lookF]
  obtain ⟨m, h1, h2, h3⟩ : ∃ m, a.length ≤ m ∧ m ≤ a.length + all.length ∧ (restartD D kp).fs = [⟨[102], (a ++ all).take m, m⟩] := by
    unfold restartD
    rw [h.fs]
    unfold restF
    by_cases hc : a.length < (a ++ all).length
    · have hk := keptN_le (kp.headD 0) ((a ++ all).length - a.length)
      simp only [if_pos hc]
      refine ⟨a.length + keptN (kp.headD 0) ((a ++ all).length - a.length), by omega, by simp at hk ⊢; omega, by simp [restF]⟩
    · simp only [if_neg hc]
      refine ⟨(a ++ all).length, by simp, by simp, by rw [List.take_length]; simp [restF]⟩
  have hlm : ((a ++ all).take m).length = m := by simp; omega
  have h4 : (restartD (restartD D kp) []).fs = [⟨[102], (a ++ all).take m, m⟩] := by
    have : restF (restartD D kp).fs [] = [⟨[102], (a ++ all).take m, m⟩] := by
      rw [h3]
      unfold restF
      simp only [if_neg (show ¬ m < ((a ++ all).take m).length by omega)]
      simp [restF, hlm]
    exact this
  exact ⟨m, h1, h2, h3, rd _ _ _ h3 rfl, ok, h4, rd _ _ _ h4 rfl, ok2⟩
/-! ### roostlaw10.Ints -/
theorem sti10 : SlTy Try.prog 39 3 1 8 (.int .i64 0) := SlTy.of Try.underlying39 (by kernel_rfl) rfl (by omega)
theorem ivs_one (l : List Int) : ∀ u ∈ ivs l, u.oneCell' = true := by
  intro u hu; obtain ⟨b, _, rfl⟩ := List.mem_map.1 hu; rfl
theorem ints_fin (l : List Int) (hl : ∀ z ∈ l, -9223372036854775808 ≤ z ∧ z ≤ 9223372036854775807) (w : World) (bA : Below w.heap.size w (w.alloc (.cells #[] 3))) (u : Value) (w2 : World) (ho : w2.ownsRow w.heap.size 3 1 u (0 + l.length) ([] ++ ivs l))
    (hg : (w.alloc (.cells #[] 3)).grownBy w2 (Value.slice (some ⟨w.heap.size, 0, none⟩) 0 0).ownBlock) : ∃ u', (Ending.returned u : Ending) = .returned u' ∧ RdI w2 u' l ∧ (∀ g, u'.ownBlock = some g → w.heap.size ≤ g) ∧ Below w.heap.size w w2 := by
  rw [Nat.zero_add, List.nil_append] at ho
  exact ⟨u, rfl, ⟨ownsRow_rd ho, hl⟩, fun g hg => (World.ownsRow.lt ho g hg).1, bA.grown hg bA.size (fun k hk => by cases hk; exact Nat.le_refl _)⟩
set_option maxRecDepth 100000 in
set_option maxHeartbeats 1600000 in
theorem ints10_c (v : Value) (l : List Int) (w : World) (h : RdI w v l) : Calls Try.prog 24 #[v] w fun e w' => ∃ u, e = .returned u ∧ RdI w' u (l.take 30) ∧ (∀ g, u.ownBlock = some g → w.heap.size ≤ g) ∧ Below w.heap.size w w' := by
  obtain ⟨A, c, ev, hc1, hc2, hc3⟩ := h.cells
  have hlen : (l.length : Int) ≤ 9223372036854775807 := by unfold maxLen at hc2; omega
  have bA := (Below.refl w.heap.size w).alloc (Nat.le_refl _) (.cells #[] 3)
  have oA : (w.alloc (.cells #[] 3)).ownsRow w.heap.size 3 1 (.slice (some ⟨w.heap.size, 0, none⟩) 0 0) 0 [] := World.ownsRow_made w #[] 0 (Nat.le_refl _) (by unfold maxLen; omega) rfl
  by_cases h30 : 30 < l.length
  · have q1 : (30 : Int) < (l.length : Int) := by omega
    have q2 : decide ((30 : Int) < (l.length : Int)) = true := decide_eq_true q1
    subst ev
    have hsl : ∀ w, (Instr.sliceAt 39 (.slice A l.length c) none (some (.int .i64 30)) none).run Try.prog w = .ok (.slice A 30 c) w := fun w => by
      have := (run_sliced (w := w) sti10 A l.length c 0 30 (Nat.zero_le _) (by omega) hc1 .i64 .i64).2.1
      rw [sliced_zero] at this
      exact this
    have hp := h.1.piece 0 30 (Nat.zero_le _) (by omega)
    rw [sliced_zero] at hp
    have hrd : RdW w 1 (.slice A 30 c) (l.take 30).length (ivs (l.take 30)) := by
      have e : (l.take 30).length = 30 := by simp; omega
      rw [e]
      simpa [ivs, List.map_take] using hp
    have fin := fun u w2 => ints_fin (l.take 30) (fun z hz => h.2 z (List.mem_of_mem_take hz)) w bA u w2
    have hl3 : (l.take 30).length = 30 := by simp; omega
    have hrA := RdW.below hrd bA
    generalize l.take 30 = L at *
    go_enter Try.func24, Try.ntmps24
    have tok0 : True := trivial
    go_wp2_with (first
      | (have _t := tok0; at_builtin; refine wpList_app rfl _ _ rfl sti10 (by with_unfolding_all (conv => lhs; whnf)) oA rfl (RdW.src hrA (ivs_one L) Try.underlying39) (by unfold maxLen; omega) (by omega) (by simp) ?_; intro u w2 ho2 hg2 hb2; clear tok0; have tok1 : True := trivial))
    go_ret
    exact fin u w2 ho2 hg2
  · have q1 : ¬ (30 : Int) < (l.length : Int) := by omega
    have q2 : decide ((30 : Int) < (l.length : Int)) = false := decide_eq_false q1
    have fin := fun u w2 => ints_fin l h.2 w bA u w2
    have hl3 : l.length ≤ 30 := by omega
    have hrA := RdW.below h.1 bA
    rw [List.take_of_length_le hl3]
    subst ev
    go_enter Try.func24, Try.ntmps24
    have tok0 : True := trivial
    go_wp2_with (first
      | (have _t := tok0; at_builtin; refine wpList_app rfl _ _ rfl sti10 (by with_unfolding_all (conv => lhs; whnf)) oA rfl (RdW.src hrA (ivs_one l) Try.underlying39) (by unfold maxLen; omega) (by omega) (by simp) ?_; intro u w2 ho2 hg2 hb2; clear tok0; have tok1 : True := trivial))
    go_ret
    exact fin u w2 ho2 hg2
end Go.Proofs.Ytfnlcnjflloecaa
