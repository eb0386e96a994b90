/- There and back: what is written is read again, and nothing may stand behind it; what is read is written again, byte for byte. -/
import Derived.Test.YtocfcgjjepegmaaDoorStzPure
set_option linter.unusedVariables false
set_option linter.unusedSimpArgs false
namespace Go.Proofs.YtocfcgjjepegmaaDoor
open Go.RowKit
theorem numI_form (n : Nat) (hn : n < 18446744073709551616) (b : List UInt8) : numI (formU n ++ b) = (n, (formU n).length, 0) := by
  have := numG_form b 0 n 0 (by omega) (by simpa using hn) (by omega)
  simpa [numI] using this
theorem textI_form (s : List UInt8) (m : Nat) (h1 : s.length ≤ m) (h2 : Lib.validD s = true) (h3 : s.length < 18446744073709551616) (b : List UInt8) : textI (txtF s ++ b) m = (s, b, 0) := by
  have e : txtF s ++ b = formU s.length ++ (s ++ b) := by simp [txtF]
  rw [e]
  unfold textI
  rw [numI_form _ h3]
  simp only
  rw [if_pos trivial, if_neg (by omega), if_neg (by simp)]
  have d1 : (formU s.length ++ (s ++ b)).drop (formU s.length).length = s ++ b := by simp
  have d2 : (formU s.length ++ (s ++ b)).drop ((formU s.length).length + s.length) = b := by rw [← List.drop_drop, d1]; simp
  rw [d1, d2]
  have t1 : (s ++ b).take s.length = s := by simp
  rw [t1, if_pos h2]
theorem textE_ok {s : List UInt8} (h : textE s = 0) : s.length ≤ 1024 ∧ Lib.validD s = true := by
  unfold textE at h
  split at h
  · cases h
  · split at h
    · exact ⟨by omega, by assumption⟩
    · cases h
theorem textE_of {s : List UInt8} (h1 : s.length ≤ 1024) (h2 : Lib.validD s = true) : textE s = 0 := by
  unfold textE; rw [if_neg (by omega), if_pos h2]
theorem firstE_ok {l : List (List UInt8)} (h : firstE l = 0) : ∀ s ∈ l, textE s = 0 := by
  induction l with
  | nil => intro s hs; cases hs
  | cons x r ih =>
    unfold firstE at h
    split at h
    · rename_i hx
      intro s hs
      rcases List.mem_cons.1 hs with rfl | hs
      · exact hx
      · exact ih h s hs
    · rename_i hx; exact absurd h hx
theorem firstE_of {l : List (List UInt8)} (h : ∀ s ∈ l, textE s = 0) : firstE l = 0 := by
  induction l with
  | nil => rfl
  | cons x r ih =>
    unfold firstE
    rw [if_pos (h x (by simp))]
    exact ih fun s hs => h s (by simp [hs])
theorem textsI_form (l : List (List UInt8)) (h : ∀ s ∈ l, textE s = 0) : ∀ (acc : List (List UInt8)) (b : List UInt8), textsI l.length acc (txtsF l ++ b) = (acc ++ l, b, 0) := by
  induction l with
  | nil => intro acc b; simp [textsI, txtsF]
  | cons x r ih =>
    intro acc b
    have hx := textE_ok (h x (by simp))
    have e : txtsF (x :: r) ++ b = txtF x ++ (txtsF r ++ b) := by simp [txtsF]
    rw [e]
    show textsI (r.length + 1) acc _ = _
    unfold textsI
    rw [textI_form x 1024 hx.1 hx.2 (by omega)]
    simp only
    rw [if_pos trivial, ih (fun s hs => h s (by simp [hs]))]
    simp
theorem listI_form (l : List (List UInt8)) (h : ∀ s ∈ l, textE s = 0) (h0 : l ≠ []) (h64 : l.length ≤ 64) (b : List UInt8) : listI (formU l.length ++ txtsF l ++ b) = (l, b, 0) := by
  have hl : l.length ≠ 0 := by simpa using h0
  unfold listI
  rw [List.append_assoc, uintI_form _ (by omega)]
  simp only
  rw [if_pos trivial, if_neg (by omega), if_neg hl, textsI_form l h]
  rfl
theorem bitsI_zero (f : Nat) : bitsI f = 0 ↔ f = 0 := by
  unfold bitsI
  split
  · rename_i h
    constructor
    · intro h2; cases h2
    · intro h2; subst h2; exact absurd h (by decide)
  · exact Iff.rfl
theorem bitsI_lt (f : Nat) (h : f < 18446744073709551616) : bitsI f < 18446744073709551616 := by unfold bitsI; split <;> omega
theorem bitsI_bitsI (f : Nat) : bitsI (bitsI f) = bitsI f := by
  unfold bitsI
  by_cases h : fnan f = true
  · rw [if_pos h, if_pos (by decide)]
  · rw [if_neg h, if_neg h]
theorem bind_skip (n k : Nat) (r : RS) (h : n / 2 ^ k % 2 = 0) : bindI n k r = r := by
  unfold bindI; rw [if_neg (by omega : ¬ n / 2 ^ k % 2 = 1)]; simp
theorem bind_do (n k : Nat) (s : Stz) (b : List UInt8) (h : n / 2 ^ k % 2 = 1) : bindI n k (s, b, 0) = stepI k s b := by
  unfold bindI; rw [if_pos rfl, if_pos h]
theorem bits_there (s : Stz) : thereI s / 2 ^ 0 % 2 = onB (!s.a.isEmpty) 1 ∧ thereI s / 2 ^ 1 % 2 = onB (!s.b.isEmpty) 1 ∧ thereI s / 2 ^ 2 % 2 = onB (!s.t.isEmpty) 1 ∧
    thereI s / 2 ^ 3 % 2 = onB (!s.l.isEmpty) 1 ∧ thereI s / 2 ^ 4 % 2 = onB (s.n != 0) 1 ∧ thereI s / 2 ^ 5 % 2 = onB (s.f != 0) 1 := by
  unfold thereI
  generalize (!s.a.isEmpty) = x1
  generalize (!s.b.isEmpty) = x2
  generalize (!s.t.isEmpty) = x3
  generalize (!s.l.isEmpty) = x4
  generalize (s.n != 0) = x5
  generalize (s.f != 0) = x6
  revert x1 x2 x3 x4 x5 x6
  decide
theorem partI_form (s : List UInt8) (h : textE s = 0) (h0 : s ≠ []) (b : List UInt8) : partI (pT s ++ b) = (s, b, 0) := by
  have hx := textE_ok h
  unfold pT
  rw [if_neg h0]
  unfold partI
  rw [textI_form s 1024 hx.1 hx.2 (by omega)]
  simp only
  rw [if_pos trivial, if_neg h0]
theorem zig_zero (n : Int) : zig n = 0 ↔ n = 0 := by unfold zig; split <;> omega
/-- The parts of s that a stanza has, laid upon it one after the other. -/
theorem stepsI_form (s s0 : Stz) (hs0 : s0.a = [] ∧ s0.b = [] ∧ s0.t = [] ∧ s0.l = [] ∧ s0.n = 0 ∧ s0.f = 0) (ha : textE s.a = 0) (hb : textE s.b = 0) (ht : textE s.t = 0) (hl : ∀ x ∈ s.l, textE x = 0) (h64 : s.l.length ≤ 64)
    (hn : -9223372036854775808 ≤ s.n ∧ s.n ≤ 9223372036854775807) (hf : s.f < 18446744073709551616) (more : List UInt8) :
    stepsI (thereI s) 6 (s0, pT s.a ++ (pT s.b ++ (pT s.t ++ (pL s.l ++ (pN s.n ++ (pF s.f ++ more))))), 0) = ({ s with kind := s0.kind, id := s0.id, f := bitsI s.f }, more, 0) := by
  obtain ⟨k0, k1, k2, k3, k4, k5⟩ := bits_there s
  generalize thereI s = N at *
  obtain ⟨kind, id, a, b, t, l, n, f⟩ := s
  obtain ⟨kind0, id0, a0, b0, t0, l0, n0, f0⟩ := s0
  simp only at *
  obtain ⟨rfl, rfl, rfl, rfl, rfl, rfl⟩ := hs0
  have S0 : ∀ (r : List UInt8), bindI N 0 (⟨kind0, id0, [], [], [], [], 0, 0⟩, pT a ++ r, 0) = (⟨kind0, id0, a, [], [], [], 0, 0⟩, r, 0) := by
    intro r
    by_cases e : a = []
    · subst e; rw [bind_skip _ _ _ (by rw [k0]; rfl)]; rfl
    · rw [bind_do _ _ _ _ (by rw [k0]; simp [onB, e])]
      simp only [stepI]; rw [partI_form a ha e]
  have S1 : ∀ (r : List UInt8), bindI N 1 (⟨kind0, id0, a, [], [], [], 0, 0⟩, pT b ++ r, 0) = (⟨kind0, id0, a, b, [], [], 0, 0⟩, r, 0) := by
    intro r
    by_cases e : b = []
    · subst e; rw [bind_skip _ _ _ (by rw [k1]; rfl)]; rfl
    · rw [bind_do _ _ _ _ (by rw [k1]; simp [onB, e])]
      simp only [stepI]; rw [partI_form b hb e]
  have S2 : ∀ (r : List UInt8), bindI N 2 (⟨kind0, id0, a, b, [], [], 0, 0⟩, pT t ++ r, 0) = (⟨kind0, id0, a, b, t, [], 0, 0⟩, r, 0) := by
    intro r
    by_cases e : t = []
    · subst e; rw [bind_skip _ _ _ (by rw [k2]; rfl)]; rfl
    · rw [bind_do _ _ _ _ (by rw [k2]; simp [onB, e])]
      simp only [stepI]; rw [partI_form t ht e]
  have S3 : ∀ (r : List UInt8), bindI N 3 (⟨kind0, id0, a, b, t, [], 0, 0⟩, pL l ++ r, 0) = (⟨kind0, id0, a, b, t, l, 0, 0⟩, r, 0) := by
    intro r
    by_cases e : l = []
    · subst e; rw [bind_skip _ _ _ (by rw [k3]; rfl)]; rfl
    · rw [bind_do _ _ _ _ (by rw [k3]; simp [onB, e])]
      have : pL l = formU l.length ++ txtsF l := by unfold pL; rw [if_neg e]
      simp only [stepI]; rw [this, listI_form l hl e h64]
  have S4 : ∀ (r : List UInt8), bindI N 4 (⟨kind0, id0, a, b, t, l, 0, 0⟩, pN n ++ r, 0) = (⟨kind0, id0, a, b, t, l, n, 0⟩, r, 0) := by
    intro r
    by_cases e : n = 0
    · subst e; rw [bind_skip _ _ _ (by rw [k4]; rfl)]; rfl
    · rw [bind_do _ _ _ _ (by rw [k4]; simp [onB, e])]
      have : pN n = formU (zig n) := by unfold pN; rw [if_neg e]
      simp only [stepI, numbI]; rw [this, intI_form n hn]
      simp [e]
  have S5 : ∀ (r : List UInt8), bindI N 5 (⟨kind0, id0, a, b, t, l, n, 0⟩, pF f ++ r, 0) = (⟨kind0, id0, a, b, t, l, n, bitsI f⟩, r, 0) := by
    intro r
    by_cases e : f = 0
    · subst e; rw [bind_skip _ _ _ (by rw [k5]; rfl)]; rfl
    · rw [bind_do _ _ _ _ (by rw [k5]; simp [onB, e])]
      have : pF f = beBs (bitsI f) 8 := by unfold pF; rw [if_neg e]
      have hz : ¬ bitsI f = 0 := fun h => e ((bitsI_zero f).1 h)
      simp only [stepI, floaI]; rw [this, floatI_form _ (bitsI_lt f hf) (bitsI_nan f)]
      simp [hz]
  simp only [stepsI, S0, S1, S2, S3, S4, S5]
theorem outB_u8 : ∀ n : Fin 64, ∀ p : Nat, outB (UInt8.ofNat n.val).toNat p = outB n.val p := by
  intro n p
  have : (UInt8.ofNat n.val).toNat = n.val := by rw [UInt8.toNat_ofNat']; omega
  rw [this]
theorem readI_write (s : Stz) (more : List UInt8) (h : checkI s = 0) (hid : s.id < 18446744073709551616) (hn : -9223372036854775808 ≤ s.n ∧ s.n ≤ 9223372036854775807) (hf : s.f < 18446744073709551616) :
    readI (writeL s ++ more) = if more = [] then ({ s with f := bitsI s.f }, 0) else (zS, 2) := by
  unfold checkI at h
  split at h
  · cases h
  · rename_i hp
    split at h
    · cases h
    · rename_i ho
      split at h
      · rename_i h3; exact absurd h h3
      · rename_i h3
        split at h
        · cases h
        · rename_i h64
          have h3 := firstE_ok (Decidable.not_not.1 h3)
          have h4 := firstE_ok h
          have hk := partsI_cases s.kind
          have hk' : 0 ≤ s.kind ∧ s.kind < 47 := by rcases hk with hk | hk <;> omega
          have hkk : ((s.kind.toNat : Nat) : Int) = s.kind := by omega
          have e : writeL s ++ more = formU s.kind.toNat ++ (formU s.id ++ (UInt8.ofNat (thereI s) :: (pT s.a ++ (pT s.b ++ (pT s.t ++ (pL s.l ++ (pN s.n ++ (pF s.f ++ more)))))))) := by simp [writeL]
          rw [e]
          unfold readI
          rw [uintI_form _ (by omega)]
          simp only
          rw [uintI_form _ hid]
          simp only
          rw [if_pos trivial, hkk, if_neg (by omega), if_pos trivial]
          unfold bodyI
          have hlt := thereI_lt s
          have eu : (UInt8.ofNat (thereI s)).toNat = thereI s := by rw [UInt8.toNat_ofNat']; omega
          rw [eu]
          simp only
          rw [if_neg ho, stepsI_form s { zS with kind := s.kind, id := s.id } ⟨rfl, rfl, rfl, rfl, rfl, rfl⟩ (h3 _ (by simp)) (h3 _ (by simp)) (h3 _ (by simp)) h4 (by omega) hn hf more]
          simp only
          rw [if_pos trivial]
/- Back. -/
theorem textI_ok {l : List UInt8} (h : (textI l 1024).2.2 = 0) : textE (textI l 1024).1 = 0 := by
  unfold textI at h ⊢
  split at h
  · rename_i h0
    rw [if_pos h0]
    split at h
    · simp at h
    · rename_i h1
      rw [if_neg h1]
      split at h
      · simp at h
      · rename_i h2
        rw [if_neg h2]
        split at h
        · rename_i h3
          rw [if_pos h3]
          refine textE_of ?_ h3
          simp; omega
        · simp at h
  · rename_i h0
    exact absurd h h0
theorem partI_back {l : List UInt8} (h : (partI l).2.2 = 0) : pT (partI l).1 ++ (partI l).2.1 = l ∧ textE (partI l).1 = 0 ∧ (partI l).1 ≠ [] := by
  unfold partI at h ⊢
  split at h
  · rename_i h0
    rw [if_pos h0]
    split at h
    · cases h
    · rename_i h1
      rw [if_neg h1]
      refine ⟨?_, textI_ok h0, h1⟩
      unfold pT
      rw [if_neg h1]
      exact textI_back l 1024 h0
  · rename_i h0
    exact absurd h h0
theorem txtsF_append (a b : List (List UInt8)) : txtsF (a ++ b) = txtsF a ++ txtsF b := by
  induction a with
  | nil => rfl
  | cons x r ih => simp [txtsF, ih]
theorem textsI_back : ∀ (k : Nat) (acc : List (List UInt8)) (b : List UInt8), (textsI k acc b).2.2 = 0 → (∀ x ∈ acc, textE x = 0) →
    txtsF acc ++ b = txtsF (textsI k acc b).1 ++ (textsI k acc b).2.1 ∧ (textsI k acc b).1.length = acc.length + k ∧ ∀ x ∈ (textsI k acc b).1, textE x = 0 := by
  intro k
  induction k with
  | zero => intro acc b h ha; exact ⟨rfl, rfl, ha⟩
  | succ k ih =>
    intro acc b h ha
    unfold textsI at h ⊢
    split at h
    · rename_i h0
      rw [if_pos h0]
      have := ih _ _ h (fun x hx => by
        rcases List.mem_append.1 hx with hx | hx
        · exact ha x hx
        · rcases List.mem_singleton.1 hx with rfl; exact textI_ok h0)
      refine ⟨?_, by rw [this.2.1]; simp; omega, this.2.2⟩
      rw [← this.1, txtsF_append]
      have e := textI_back b 1024 h0
      simp only [txtsF, txtF, List.append_nil, List.append_assoc] at e ⊢
      rw [e]
    · rename_i h0
      exact absurd h h0
theorem listI_back {b : List UInt8} (h : (listI b).2.2 = 0) : pL (listI b).1 ++ (listI b).2.1 = b ∧ (∀ x ∈ (listI b).1, textE x = 0) ∧ (listI b).1 ≠ [] ∧ (listI b).1.length ≤ 64 := by
  unfold listI at h ⊢
  split at h
  · rename_i h0
    rw [if_pos h0]
    split at h
    · cases h
    · rename_i h1
      rw [if_neg h1]
      split at h
      · cases h
      · rename_i h2
        rw [if_neg h2]
        have T := textsI_back _ [] _ h (fun x hx => by cases hx)
        have hne : (textsI (uintI b).1 [] (uintI b).2.1).1 ≠ [] := by
          intro e
          have := T.2.1
          rw [e] at this
          simp at this
          omega
        refine ⟨?_, T.2.2, hne, by rw [T.2.1]; simp; omega⟩
        unfold pL
        rw [if_neg hne, T.2.1, List.append_assoc, ← T.1]
        simpa [txtsF] using uintI_back b h0
  · rename_i h0
    exact absurd h h0
theorem intI_back {b : List UInt8} (h : (intI b).2.2 = 0) : formU (zig (intI b).1) ++ (intI b).2.1 = b ∧ -9223372036854775808 ≤ (intI b).1 ∧ (intI b).1 ≤ 9223372036854775807 := by
  have hlt := numI_lt b
  unfold intI at h ⊢
  split at h
  · rename_i h0
    rw [if_pos h0]
    simp only
    have hz : zig (unzig (numI b).1) = (numI b).1 := by unfold unzig zig; split <;> split <;> omega
    rw [hz]
    refine ⟨(numI_back b h0).2.symm, ?_⟩
    unfold unzig
    split <;> omega
  · rename_i h0
    exact absurd h h0
theorem numbI_back {b : List UInt8} (h : (numbI b).2.2 = 0) : pN (numbI b).1 ++ (numbI b).2.1 = b ∧ (numbI b).1 ≠ 0 ∧ -9223372036854775808 ≤ (numbI b).1 ∧ (numbI b).1 ≤ 9223372036854775807 := by
  unfold numbI at h ⊢
  split at h
  · rename_i h0
    rw [if_pos h0]
    split at h
    · cases h
    · rename_i h1
      rw [if_neg h1]
      have := intI_back h0
      refine ⟨?_, h1, this.2⟩
      unfold pN
      rw [if_neg h1]
      exact this.1
  · rename_i h0
    exact absurd h h0
theorem floaI_back {b : List UInt8} (h : (floaI b).2.2 = 0) : pF (floaI b).1 ++ (floaI b).2.1 = b ∧ (floaI b).1 ≠ 0 ∧ (floaI b).1 < 18446744073709551616 := by
  unfold floaI at h ⊢
  split at h
  · rename_i h0
    rw [if_pos h0]
    split at h
    · cases h
    · rename_i h1
      rw [if_neg h1]
      have := floatI_back b h0
      refine ⟨?_, h1, this.2⟩
      unfold pF
      rw [if_neg h1]
      exact this.1
  · rename_i h0
    exact absurd h h0
theorem bind_err {n k : Nat} {r : RS} (h : (bindI n k r).2.2 = 0) : r.2.2 = 0 := by
  unfold bindI at h
  split at h
  · assumption
  · exact h
theorem textE_nil : textE [] = 0 := textE_of (by simp) rfl
theorem back_t {n k : Nat} {b : List UInt8} {s s1 : Stz} (hs : (n / 2 ^ k % 2 = 1 → bindI n k (s, b, 0) = (s1, (partI b).2.1, (partI b).2.2))) (h : (bindI n k (s, b, 0)).2.2 = 0) :
    ∃ a1 b1, pT a1 ++ b1 = b ∧ textE a1 = 0 ∧ onB (!a1.isEmpty) 1 = n / 2 ^ k % 2 ∧ ((a1 = [] ∧ bindI n k (s, b, 0) = (s, b1, 0)) ∨ (a1 = (partI b).1 ∧ bindI n k (s, b, 0) = (s1, b1, 0))) := by
  by_cases hb : n / 2 ^ k % 2 = 1
  · rw [hs hb] at h ⊢
    have := partI_back h
    simp only at h
    refine ⟨_, _, this.1, this.2.1, ?_, .inr ⟨rfl, by rw [h]⟩⟩
    rw [hb]; simp [onB, this.2.2]
  · rw [bind_skip _ _ _ (by omega)]
    exact ⟨[], b, rfl, textE_nil, by rw [show n / 2 ^ k % 2 = 0 by omega]; rfl, .inl ⟨rfl, rfl⟩⟩
theorem stepsI_back (n : Nat) (s : Stz) (b : List UInt8) (hs : s.a = [] ∧ s.b = [] ∧ s.t = [] ∧ s.l = [] ∧ s.n = 0 ∧ s.f = 0) (h : (stepsI n 6 (s, b, 0)).2.2 = 0) :
    ∃ (a1 b1 t1 : List UInt8) (l1 : List (List UInt8)) (n1 : Int) (f1 : Nat) (r : List UInt8), stepsI n 6 (s, b, 0) = (⟨s.kind, s.id, a1, b1, t1, l1, n1, f1⟩, r, 0) ∧
      pT a1 ++ (pT b1 ++ (pT t1 ++ (pL l1 ++ (pN n1 ++ (pF f1 ++ r))))) = b ∧ textE a1 = 0 ∧ textE b1 = 0 ∧ textE t1 = 0 ∧ (∀ x ∈ l1, textE x = 0) ∧ l1.length ≤ 64 ∧
      (-9223372036854775808 ≤ n1 ∧ n1 ≤ 9223372036854775807) ∧ f1 < 18446744073709551616 ∧
      onB (!a1.isEmpty) 1 = n / 2 ^ 0 % 2 ∧ onB (!b1.isEmpty) 1 = n / 2 ^ 1 % 2 ∧ onB (!t1.isEmpty) 1 = n / 2 ^ 2 % 2 ∧ onB (!l1.isEmpty) 1 = n / 2 ^ 3 % 2 ∧ onB (n1 != 0) 1 = n / 2 ^ 4 % 2 ∧ onB (f1 != 0) 1 = n / 2 ^ 5 % 2 := by
  obtain ⟨kind, id, a, bb, t, l, nn, f⟩ := s
  simp only at hs
  obtain ⟨rfl, rfl, rfl, rfl, rfl, rfl⟩ := hs
  have e : stepsI n 6 (⟨kind, id, [], [], [], [], 0, 0⟩, b, 0) = bindI n 5 (bindI n 4 (bindI n 3 (bindI n 2 (bindI n 1 (bindI n 0 (⟨kind, id, [], [], [], [], 0, 0⟩, b, 0)))))) := rfl
  rw [e] at h ⊢
  have h4 := bind_err h
  have h3 := bind_err h4
  have h2 := bind_err h3
  have h1 := bind_err h2
  have h0 := bind_err h1
  clear e
  obtain ⟨a1, r0, e0, t0, o0, c0⟩ := back_t (s1 := ⟨kind, id, (partI b).1, [], [], [], 0, 0⟩) (fun hb => bind_do _ _ _ _ hb) h0
  have E0 : bindI n 0 (⟨kind, id, [], [], [], [], 0, 0⟩, b, 0) = (⟨kind, id, a1, [], [], [], 0, 0⟩, r0, 0) := by
    rcases c0 with ⟨rfl, c0⟩ | ⟨rfl, c0⟩ <;> exact c0
  rw [E0] at h h4 h3 h2 h1 ⊢
  clear c0 E0 h0
  obtain ⟨b1, r1, e1, t1, o1, c1⟩ := back_t (s1 := ⟨kind, id, a1, (partI r0).1, [], [], 0, 0⟩) (fun hb => bind_do _ _ _ _ hb) h1
  have E1 : bindI n 1 (⟨kind, id, a1, [], [], [], 0, 0⟩, r0, 0) = (⟨kind, id, a1, b1, [], [], 0, 0⟩, r1, 0) := by
    rcases c1 with ⟨rfl, c1⟩ | ⟨rfl, c1⟩ <;> exact c1
  rw [E1] at h h4 h3 h2 ⊢
  clear c1 E1 h1
  obtain ⟨tx, r2, e2, t2, o2, c2⟩ := back_t (s1 := ⟨kind, id, a1, b1, (partI r1).1, [], 0, 0⟩) (fun hb => bind_do _ _ _ _ hb) h2
  have E2 : bindI n 2 (⟨kind, id, a1, b1, [], [], 0, 0⟩, r1, 0) = (⟨kind, id, a1, b1, tx, [], 0, 0⟩, r2, 0) := by
    rcases c2 with ⟨rfl, c2⟩ | ⟨rfl, c2⟩ <;> exact c2
  rw [E2] at h h4 h3 ⊢
  clear c2 E2 h2
  obtain ⟨l1, r3, e3, t3, k3, o3, E3⟩ : ∃ l1 r3, pL l1 ++ r3 = r2 ∧ (∀ x ∈ l1, textE x = 0) ∧ l1.length ≤ 64 ∧ onB (!l1.isEmpty) 1 = n / 2 ^ 3 % 2 ∧
      bindI n 3 (⟨kind, id, a1, b1, tx, [], 0, 0⟩, r2, 0) = (⟨kind, id, a1, b1, tx, l1, 0, 0⟩, r3, 0) := by
    by_cases hb : n / 2 ^ 3 % 2 = 1
    · rw [bind_do _ _ _ _ hb] at h3 ⊢
      simp only [stepI] at h3 ⊢
      have := listI_back h3
      refine ⟨_, _, this.1, this.2.1, this.2.2.2, by rw [hb]; simp [onB, this.2.2.1], by rw [h3]⟩
    · rw [bind_skip _ _ _ (by omega)]
      exact ⟨[], r2, rfl, fun x hx => (by cases hx), by simp, by rw [show n / 2 ^ 3 % 2 = 0 by omega]; rfl, rfl⟩
  rw [E3] at h h4 ⊢
  clear E3 h3
  obtain ⟨n1, r4, e4, t4, o4, E4⟩ : ∃ (n1 : Int) (r4 : List UInt8), pN n1 ++ r4 = r3 ∧ (-9223372036854775808 ≤ n1 ∧ n1 ≤ 9223372036854775807) ∧ onB (n1 != 0) 1 = n / 2 ^ 4 % 2 ∧
      bindI n 4 (⟨kind, id, a1, b1, tx, l1, 0, 0⟩, r3, 0) = (⟨kind, id, a1, b1, tx, l1, n1, 0⟩, r4, 0) := by
    by_cases hb : n / 2 ^ 4 % 2 = 1
    · rw [bind_do _ _ _ _ hb] at h4 ⊢
      simp only [stepI] at h4 ⊢
      have := numbI_back h4
      refine ⟨_, _, this.1, this.2.2, by rw [hb]; simp [onB, this.2.1], by rw [h4]⟩
    · rw [bind_skip _ _ _ (by omega)]
      exact ⟨0, r3, rfl, by omega, by rw [show n / 2 ^ 4 % 2 = 0 by omega]; rfl, rfl⟩
  rw [E4] at h ⊢
  clear E4 h4
  obtain ⟨f1, r5, e5, t5, o5, E5⟩ : ∃ (f1 : Nat) (r5 : List UInt8), pF f1 ++ r5 = r4 ∧ f1 < 18446744073709551616 ∧ onB (f1 != 0) 1 = n / 2 ^ 5 % 2 ∧
      bindI n 5 (⟨kind, id, a1, b1, tx, l1, n1, 0⟩, r4, 0) = (⟨kind, id, a1, b1, tx, l1, n1, f1⟩, r5, 0) := by
    by_cases hb : n / 2 ^ 5 % 2 = 1
    · rw [bind_do _ _ _ _ hb] at h ⊢
      simp only [stepI] at h ⊢
      have := floaI_back h
      refine ⟨_, _, this.1, this.2.2, by rw [hb]; simp [onB, this.2.1], by rw [h]⟩
    · rw [bind_skip _ _ _ (by omega)]
      exact ⟨0, r4, rfl, by omega, by rw [show n / 2 ^ 5 % 2 = 0 by omega]; rfl, rfl⟩
  refine ⟨a1, b1, tx, l1, n1, f1, r5, E5, ?_, t0, t1, t2, t3, k3, t4, t5, o0, o1, o2, o3, o4, o5⟩
  rw [e5, e4, e3, e2, e1, e0]
theorem onB_mul (c : Bool) (m : Nat) : onB c m = m * onB c 1 := by cases c <;> simp [onB]
theorem readI_back (l : List UInt8) (h : (readI l).2 = 0) :
    checkI (readI l).1 = 0 ∧ writeL (readI l).1 = l ∧ (readI l).1.id < 18446744073709551616 ∧ (0 ≤ (readI l).1.kind ∧ (readI l).1.kind < 47) ∧
      (-9223372036854775808 ≤ (readI l).1.n ∧ (readI l).1.n ≤ 9223372036854775807) ∧ (readI l).1.f < 18446744073709551616 := by
  have U1 := uintI_back l
  have hlt := numI_lt (uintI l).2.1
  have hlt2 : (uintI (uintI l).2.1).1 < 18446744073709551616 := by
    generalize (uintI l).2.1 = q at *
    unfold uintI; split
    · exact hlt
    · simp
  have U2 := uintI_back (uintI l).2.1
  unfold readI at h ⊢
  split at h
  · rename_i h0
    rw [if_pos h0]
    replace U1 := U1 h0
    split at h
    · cases h
    · rename_i hk
      rw [if_neg hk]
      split at h
      · rename_i h1
        rw [if_pos h1]
        replace U2 := U2 h1
        have hk := partsI_cases (uintI l).1
        split at h
        · cases h
        · rename_i c r hc
          rw [hc] at U2
          try rw [hc]
          try simp only
          generalize (uintI l).1 = K at *
          generalize (uintI (uintI l).2.1).1 = I at *
          unfold bodyI at h ⊢
          split at h
          · cases h
          · rename_i ho
            rw [if_neg ho]
            split at h
            · rename_i h6
              rw [if_pos h6]
              split at h
              · rename_i h7
                rw [if_pos h7]
                obtain ⟨a1, b1, t1, l1, n1, f1, rr, E, X, x1, x2, x3, x4, x5, x6, x7, o0, o1, o2, o3, o4, o5⟩ := stepsI_back c.toNat { zS with kind := (K : Int), id := I } r ⟨rfl, rfl, rfl, rfl, rfl, rfl⟩ h6
                rw [E] at h7 ⊢
                simp only at h7 ⊢
                subst h7
                have hp : ¬ partsI (K : Int) < 0 := by omega
                have hp2 : 0 ≤ partsI (K : Int) ∧ partsI (K : Int) < 64 := by omega
                have hc64 : c.toNat < 64 := by
                  obtain ⟨p, hpp⟩ := Int.eq_ofNat_of_zero_le hp2.1
                  simp only [hpp, Int.toNat_natCast] at ho
                  have H : ∀ (x : Fin 256) (p : Fin 64), outB x.val p.val ≠ true → x.val < 64 := by decide +kernel
                  exact H ⟨c.toNat, c.toNat_lt⟩ ⟨p, by omega⟩ ho
                have hT : thereI ⟨(K : Int), I, a1, b1, t1, l1, n1, f1⟩ = c.toNat := by
                  unfold thereI
                  simp only
                  rw [onB_mul _ 2, onB_mul _ 4, onB_mul _ 8, onB_mul _ 16, onB_mul _ 32, o0, o1, o2, o3, o4, o5]
                  omega
                refine ⟨?_, ?_, hlt2, by omega, x6, x7⟩
                · unfold checkI
                  rw [hT]
                  simp only
                  rw [if_neg hp, if_neg ho, firstE_of (l := [a1, b1, t1]) (by intro s hs; simp at hs; rcases hs with rfl | rfl | rfl <;> assumption)]
                  rw [if_neg (by simp), if_neg (by omega)]
                  exact firstE_of x4
                · unfold writeL
                  rw [hT]
                  simp only
                  have hcc : UInt8.ofNat c.toNat = c := by simp
                  rw [hcc, Int.toNat_natCast]
                  simp only [List.append_nil] at X
                  rw [X, U2]
                  exact U1
              · cases h
            · rename_i h6; exact absurd h h6
      · rename_i h1; exact absurd h h1
  · rename_i h0; exact absurd h h0
end Go.Proofs.YtocfcgjjepegmaaDoor
