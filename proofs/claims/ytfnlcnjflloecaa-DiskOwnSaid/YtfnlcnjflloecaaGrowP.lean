/- A region that draws its order and turns old blocks, which some operations ahead of that read. -/
import Derived.Test.YtfnlcnjflloecaaGrow
import Derived.Test.YtfnlcnjflloecaaMore2
/-! ### GrowO -/
set_option linter.unusedVariables false
set_option linter.unusedSimpArgs false
namespace Go.Proofs.Ytfnlcnjflloecaa
open Go.RowKit
theorem Chg.refl (M : Nat → Prop) (w : World) : Chg M w w := ⟨rfl, rfl, rfl, Nat.le_refl _, fun _ _ _ => rfl⟩
theorem Chg.below_trans {M : Nat → Prop} {w0 w w' : World} (h : Chg M w0 w) (hb : Below w.heap.size w w') : Chg M w0 w' :=
  ⟨hb.os.trans h.os, hb.tape.trans h.tape, hb.output.trans h.output, Nat.le_trans h.size hb.size, fun k hk hm => (hb.block k (Nat.lt_of_lt_of_le hk h.size)).trans (h.block k hk hm)⟩
theorem Chg.chg_trans {M N : Nat → Prop} {w0 w w' : World} (h : Chg M w0 w) (hb : Chg N w w') (hn : ∀ k, N k → w0.heap.size ≤ k ∨ M k) : Chg M w0 w' :=
  ⟨hb.os.trans h.os, hb.tape.trans h.tape, hb.output.trans h.output, Nat.le_trans h.size hb.size, fun k hk hm => (hb.block k (Nat.lt_of_lt_of_le hk h.size) (fun hN => by rcases hn k hN with h | h; omega; exact hm h)).trans (h.block k hk hm)⟩
namespace O
/-- Whose block is whose, of those that have come since w0. -/
structure BOk (M0 : Nat → Prop) (w0 w : World) (B : Nat → Nat → Prop) : Prop where
  lo : ∀ j k, B j k → w0.heap.size ≤ k ∨ M0 k
  hi : ∀ j k, B j k → k < w.heap.size
  apart : ∀ i j k, B i k → B j k → i = j

section
variable (P : Program) (ops : Array Oper) (M0 : Nat → Prop) (w0 : World) (dep cons : Nat → List Nat)
def wpG (Q : Act → World → Prop) : List GItem → (Nat → (Nat → Prop) → World → Prop) → Act → Prop
  | [], F, a => ∀ w B, Chg M0 w0 w → BOk M0 w0 w B → (∀ j, F j (B j) w) → Q a w
  | it :: rest, F, a => match it.s with
    | none => ∃ v, (∀ w B, Chg M0 w0 w → BOk M0 w0 w B → (∀ j ∈ dep it.i, F j (B j) w) → PureTo P ops it.o a w v) ∧ wpG Q rest F (a.put it.o.dst v)
    | some S => (∀ w B, Chg M0 w0 w → BOk M0 w0 w B → (∀ j ∈ dep it.i, F j (B j) w) →
          GoesTo P ops it.o a w fun v w' => Chg (fun k => ∃ j ∈ cons it.i, B j k) w w' ∧ S (look ops it.o a) v (fun k => (∃ j ∈ cons it.i, B j k) ∨ (w.heap.size ≤ k ∧ k < w'.heap.size)) w') ∧
        ∀ v, wpG Q rest (FPut cons F it.i (S (look ops it.o a) v)) (a.put it.o.dst v)
end
section
variable {P : Program} {ops : Array Oper} {M0 : Nat → Prop} {w0 : World} {dep dp cons : Nat → List Nat} {Q : Act → World → Prop}
theorem wpG_exchange (hsel : ∀ (o : Oper), o ∈ ops → ∀ cs b, o.op ≠ .select cs b) (it : GItem) (post : List GItem) (hio : it.o ∈ ops) (hci : ∀ j ∈ cons it.i, j ∈ dep it.i) :
    ∀ (pre : List GItem) (F : Nat → (Nat → Prop) → World → Prop) (a : Act),
      (∀ p ∈ pre, p.o ∈ ops ∧ p.o.apart ops it.o = true ∧ p.i ∉ dep it.i ∧ it.i ∉ dep p.i ∧ p.i ≠ it.i ∧ (∀ j ∈ cons it.i, j ∉ dep p.i) ∧ (∀ j ∈ cons p.i, j ∉ dep it.i) ∧ (∀ j ∈ cons p.i, j ∈ dep p.i)) →
      wpG P ops M0 w0 dep cons Q (pre ++ it :: post) F a →
      match it.s with
      | none => ∀ w B, Chg M0 w0 w → BOk M0 w0 w B → (∀ j ∈ dep it.i, F j (B j) w) → ∃ v, PureTo P ops it.o a w v ∧ wpG P ops M0 w0 dep cons Q (pre ++ post) F (a.put it.o.dst v)
      | some S => (∀ w B, Chg M0 w0 w → BOk M0 w0 w B → (∀ j ∈ dep it.i, F j (B j) w) →
            GoesTo P ops it.o a w fun v w' => Chg (fun k => ∃ j ∈ cons it.i, B j k) w w' ∧ S (look ops it.o a) v (fun k => (∃ j ∈ cons it.i, B j k) ∨ (w.heap.size ≤ k ∧ k < w'.heap.size)) w') ∧
          ∀ v, wpG P ops M0 w0 dep cons Q (pre ++ post) (FPut cons F it.i (S (look ops it.o a) v)) (a.put it.o.dst v) := by
  intro pre
  induction pre with
  | nil =>
    intro F a _ h
    simp only [List.nil_append] at h ⊢
    unfold wpG at h
    cases hs : it.s with
    | none =>
      simp only [hs] at h ⊢
      obtain ⟨v, h1, h2⟩ := h
      exact fun w B hb hB hd => ⟨v, h1 w B hb hB hd, h2⟩
    | some S => simp only [hs] at h ⊢; exact h
  | cons p pre ih =>
    intro F a hp h
    obtain ⟨hpo, hap, hd1, hd2, hne, hc1, hc2, hc3⟩ := hp p (by simp)
    have hp' : ∀ q ∈ pre, q.o ∈ ops ∧ q.o.apart ops it.o = true ∧ q.i ∉ dep it.i ∧ it.i ∉ dep q.i ∧ q.i ≠ it.i ∧ (∀ j ∈ cons it.i, j ∉ dep q.i) ∧ (∀ j ∈ cons q.i, j ∉ dep it.i) ∧ (∀ j ∈ cons q.i, j ∈ dep q.i) := fun q hq => hp q (by simp [hq])
    obtain ⟨a1, a2, a3⟩ := Oper.apart_spec hap
    have itP : ∀ (a : Act) (u : Value) (w : World) (v : Value), PureTo P ops it.o (a.put p.o.dst u) w v ↔ PureTo P ops it.o a w v := fun a u w v =>
      PureTo.same (execOp_put it.o (fun cs b => hsel it.o hio cs b) a p.o.dst u a1) (wanted_put it.o a p.o.dst u a1)
    have itG : ∀ (a : Act) (u : Value) (w : World) (R : Value → World → Prop), GoesTo P ops it.o (a.put p.o.dst u) w R ↔ GoesTo P ops it.o a w R := fun a u w R =>
      GoesTo.same (execOp_put it.o (fun cs b => hsel it.o hio cs b) a p.o.dst u a1) (wanted_put it.o a p.o.dst u a1)
    have pP : ∀ (a : Act) (u : Value) (w : World) (v : Value), PureTo P ops p.o (a.put it.o.dst u) w v ↔ PureTo P ops p.o a w v := fun a u w v =>
      PureTo.same (execOp_put p.o (fun cs b => hsel p.o hpo cs b) a it.o.dst u a3) (wanted_put p.o a it.o.dst u a3)
    have pG : ∀ (a : Act) (u : Value) (w : World) (R : Value → World → Prop), GoesTo P ops p.o (a.put it.o.dst u) w R ↔ GoesTo P ops p.o a w R := fun a u w R =>
      GoesTo.same (execOp_put p.o (fun cs b => hsel p.o hpo cs b) a it.o.dst u a3) (wanted_put p.o a it.o.dst u a3)
    have itL : ∀ (a : Act) (u : Value), look ops it.o (a.put p.o.dst u) = look ops it.o a := fun a u => look_put it.o a p.o.dst u a1
    have pL : ∀ (a : Act) (u : Value), look ops p.o (a.put it.o.dst u) = look ops p.o a := fun a u => look_put p.o a it.o.dst u a3
    have comm : ∀ (a : Act) (u v : Value), (a.put p.o.dst u).put it.o.dst v = (a.put it.o.dst v).put p.o.dst u := fun a u v => Act.put_comm a u v a2
    -- what the other one's turn leaves of the facts that are asked for
    have FIt : ∀ (S : (Nat → Prop) → World → Prop) (j : Nat), j ∈ dep p.i → FPut cons F it.i S j = F j := fun S j hj => by
      funext B w
      unfold FPut
      rw [if_neg (fun e => hd2 (by rw [← e]; exact hj)), if_neg (fun hm => hc1 j hm hj)]
    have FP : ∀ (S : (Nat → Prop) → World → Prop) (j : Nat), j ∈ dep it.i → FPut cons F p.i S j = F j := fun S j hj => by
      funext B w
      unfold FPut
      rw [if_neg (fun e => hd1 (by rw [← e]; exact hj)), if_neg (fun hm => hc2 j hm hj)]
    rw [List.cons_append] at h
    unfold wpG at h
    cases hps : p.s with
    | none =>
      simp only [hps] at h
      obtain ⟨vp, h1, h2⟩ := h
      have IH := ih F (a.put p.o.dst vp) hp' h2
      cases hs : it.s with
      | none =>
        simp only [hs] at IH ⊢
        intro w B hb hB hd
        obtain ⟨v, hv, hw⟩ := IH w B hb hB hd
        refine ⟨v, (itP ..).1 hv, ?_⟩
        rw [List.cons_append]
        unfold wpG
        simp only [hps]
        exact ⟨vp, fun w B hb hB hd => (pP ..).2 (h1 w B hb hB hd), by rw [← comm]; exact hw⟩
      | some S =>
        simp only [hs, itL] at IH ⊢
        refine ⟨fun w B hb hB hd => (itG ..).1 (IH.1 w B hb hB hd), fun v => ?_⟩
        rw [List.cons_append]
        unfold wpG
        simp only [hps]
        exact ⟨vp, fun w B hb hB hd => (pP ..).2 (h1 w B hb hB fun j hj => by have := hd j hj; rwa [FIt _ j hj] at this), by rw [← comm]; exact IH.2 v⟩
    | some Sp =>
      simp only [hps] at h
      obtain ⟨h1, h2⟩ := h
      have IH := fun u => ih (FPut cons F p.i (Sp (look ops p.o a) u)) (a.put p.o.dst u) hp' (h2 u)
      have hdF : ∀ u w (B : Nat → Nat → Prop), (∀ j ∈ dep it.i, F j (B j) w) → ∀ j ∈ dep it.i, FPut cons F p.i (Sp (look ops p.o a) u) j (B j) w := fun u w B hd j hj => by
        rw [FP _ j hj]; exact hd j hj
      cases hs : it.s with
      | none =>
        simp only [hs] at IH ⊢
        intro w B hb hB hd
        obtain ⟨v, hv, _⟩ := IH undef w B hb hB (hdF _ w B hd)
        have hv' := (itP ..).1 hv
        refine ⟨v, hv', ?_⟩
        rw [List.cons_append]
        unfold wpG
        simp only [hps, pL]
        refine ⟨fun w B hb hB hd => (pG ..).2 (h1 w B hb hB hd), fun u => ?_⟩
        obtain ⟨v2, hv2, hw2⟩ := IH u w B hb hB (hdF _ w B hd)
        obtain rfl := PureTo.unique hv' ((itP ..).1 hv2)
        rw [← comm]; exact hw2
      | some S =>
        simp only [hs, itL] at IH ⊢
        refine ⟨fun w B hb hB hd => (itG ..).1 ((IH undef).1 w B hb hB (hdF _ w B hd)), fun v => ?_⟩
        rw [List.cons_append]
        unfold wpG
        simp only [hps, pL]
        refine ⟨fun w B hb hB hd => (pG ..).2 (h1 w B hb hB fun j hj => by have := hd j hj; rwa [FIt _ j hj] at this), fun u => ?_⟩
        have := (IH u).2 v
        rw [← comm]
        have e : FPut cons (FPut cons F it.i (S (look ops it.o a) v)) p.i (Sp (look ops p.o a) u) = FPut cons (FPut cons F p.i (Sp (look ops p.o a) u)) it.i (S (look ops it.o a) v) := by
          funext j B w
          unfold FPut
          by_cases e1 : j = p.i
          · subst e1; rw [if_pos rfl, if_neg hne, if_neg (fun hm => hd1 (hci _ hm)), if_pos rfl]
          · by_cases e2 : j = it.i
            · subst e2; rw [if_neg e1, if_neg (fun hm => hd2 (hc3 _ hm)), if_pos rfl, if_pos rfl]
            · simp only [if_neg e1, if_neg e2]
              by_cases m1 : j ∈ cons p.i <;> by_cases m2 : j ∈ cons it.i <;> simp [m1, m2]
        rw [e]; exact this

/-- The facts that the rule asks of the region's edges, reckoned: the head's edges lead back; 'dep' is closed; two operations of the head of which neither waits for the other keep apart. -/
def growB (ops : Array Oper) (dep dp cons : Nat → List Nat) (n : Nat) : Bool :=
  Region.noSelect ops && decide (n ≤ ops.size) &&
  (decide (n = ops.size) || (Region.sinkB .any ops n && Region.chainB .any ops n && Region.seqB .any ops (ops.size - n) n ((Array.replicate n true) ++ (Array.replicate (ops.size - n) false)))) &&
  (List.range n).all fun i => match ops[i]? with
    | none => false
    | some o =>
      (o.after.all fun e => !Region.binds .any e || decide (e.on < i)) &&
      ((dep i).all fun j => decide (j < i) && o.after.any fun e => Region.binds .any e && (e.on == j || (dep e.on).contains j)) &&
      ((List.range i).all fun j => (dep i).contains j || match ops[j]? with
        | none => false
        | some q => q.apart ops o) &&
      ((cons i).all fun c => (dp i).contains c) &&
      ((dp i).all fun j => (dep i).contains j || decide (n ≤ j)) &&
      (List.range n).all fun m => m == i || (dep i).contains m || (dep m).contains i || (cons i).all fun c => !(dp m).contains c

structure GrowOk (ops : Array Oper) (dep dp cons : Nat → List Nat) (n : Nat) : Prop where
  sel : ∀ (o : Oper), o ∈ ops → ∀ cs b, o.op ≠ .select cs b
  le : n ≤ ops.size
  tail : n < ops.size → Region.sinkB .any ops n = true ∧ Region.chainB .any ops n = true ∧ Region.seqB .any ops (ops.size - n) n ((Array.replicate n true) ++ (Array.replicate (ops.size - n) false)) = true
  back : ∀ i o, i < n → ops[i]? = some o → ∀ e ∈ o.after, Region.binds .any e = true → e.on < i
  depLt : ∀ i, i < n → ∀ j ∈ dep i, j < i
  depOn : ∀ i o, i < n → ops[i]? = some o → ∀ j ∈ dep i, ∃ e ∈ o.after, Region.binds .any e = true ∧ (e.on = j ∨ j ∈ dep e.on)
  apart : ∀ i j oi oj, j < i → i < n → ops[i]? = some oi → ops[j]? = some oj → j ∉ dep i → oj.apart ops oi = true
  consDep : ∀ i, i < n → ∀ c ∈ cons i, c ∈ dp i
  consOne : ∀ i m, i < n → m < n → m ≠ i → m ∉ dep i → i ∉ dep m → ∀ c ∈ cons i, c ∉ dp m
  old : ∀ i, i < n → ∀ j ∈ dp i, j ∈ dep i ∨ n ≤ j

theorem growB_spec {n : Nat} (h : growB ops dep dp cons n = true) : GrowOk ops dep dp cons n := by
  unfold growB at h
  simp only [Bool.and_eq_true, Bool.or_eq_true, decide_eq_true_eq, List.all_eq_true, List.mem_range] at h
  obtain ⟨⟨⟨hs, hn⟩, ht⟩, hall⟩ := h
  have key : ∀ i o, i < n → ops[i]? = some o → (∀ e ∈ o.after, Region.binds .any e = true → e.on < i) ∧
      (∀ j ∈ dep i, j < i ∧ ∃ e ∈ o.after, Region.binds .any e = true ∧ (e.on = j ∨ j ∈ dep e.on)) ∧
      (∀ j, j < i → j ∈ dep i ∨ ∃ q, ops[j]? = some q ∧ q.apart ops o = true) ∧ (∀ c ∈ cons i, c ∈ dp i) ∧ (∀ j ∈ dp i, j ∈ dep i ∨ n ≤ j) ∧
      ∀ m, m < n → ((m = i ∨ m ∈ dep i) ∨ i ∈ dep m) ∨ ∀ c ∈ cons i, c ∉ dp m := by
    intro i o hi ho
    have := hall i hi
    rw [ho] at this
    simp only [Bool.and_eq_true, Bool.or_eq_true, List.all_eq_true, List.mem_range, decide_eq_true_eq, List.contains_iff_mem, beq_iff_eq, Bool.not_eq_true', List.contains_eq_mem, decide_eq_false_iff_not] at this
    obtain ⟨⟨⟨⟨⟨h1, h2⟩, h3⟩, h4⟩, h6⟩, h5⟩ := this
    refine ⟨fun e he hb => ?_, fun j hj => ?_, fun j hj => ?_, h4, h6, h5⟩
    · have h1' := Array.all_eq_true'.1 h1 e he
      simp only [Bool.or_eq_true, Bool.not_eq_true', decide_eq_true_eq] at h1'
      rcases h1' with h | h
      · rw [hb] at h; cases h
      · exact h
    · obtain ⟨k1, k2⟩ := h2 j hj
      obtain ⟨e, he, k3⟩ := Array.any_eq_true'.1 k2
      simp only [Bool.and_eq_true, Bool.or_eq_true, beq_iff_eq, List.contains_iff_mem] at k3
      exact ⟨k1, e, he, k3.1, by simpa using k3.2⟩
    · rcases h3 j hj with h | h
      · exact .inl h
      · cases hq : ops[j]? with
        | none => rw [hq] at h; cases h
        | some q => rw [hq] at h; exact .inr ⟨q, rfl, h⟩
  have some_of : ∀ i, i < n → ∃ o, ops[i]? = some o := fun i hi => ⟨ops[i]'(by omega), Array.getElem?_eq_getElem (by omega)⟩
  refine ⟨fun o ho cs b => ?_, hn, fun hlt => ?_, fun i o hi ho => (key i o hi ho).1, fun i hi j hj => ?_, fun i o hi ho j hj => ((key i o hi ho).2.1 j hj).2, fun i j oi oj hji hi hoi hoj hnd => ?_, fun i hi => ?_, fun i m hi hm hne h1 h2 => ?_, fun i hi => ?_⟩
  · obtain ⟨k, hk, rfl⟩ := Array.mem_iff_getElem.1 ho
    exact Region.noSelect_spec hs k _ cs b (Array.getElem?_eq_getElem hk)
  · rcases ht with h | h
    · omega
    · exact ⟨h.1.1, h.1.2, h.2⟩
  · obtain ⟨o, ho⟩ := some_of i hi
    exact ((key i o hi ho).2.1 j hj).1
  · rcases (key i oi hi hoi).2.2.1 j hji with h | ⟨q, hq, hqa⟩
    · exact absurd h hnd
    · rw [hoj] at hq; cases hq; exact hqa
  · obtain ⟨o, ho⟩ := some_of i hi
    exact (key i o hi ho).2.2.2.1
  · obtain ⟨o, ho⟩ := some_of i hi
    rcases (key i o hi ho).2.2.2.2.2 m hm with ((h | h) | h) | h
    · exact absurd h hne
    · exact absurd h h1
    · exact absurd h h2
    · exact h
  · obtain ⟨o, ho⟩ := some_of i hi
    exact (key i o hi ho).2.2.2.2.1

/-- What is listed is closed under 'dep'. -/
theorem dep_listed {n : Nat} (G : GrowOk ops dep dp cons n) {listed : Array Bool} (inv : HeadInv .any ops n listed) :
    ∀ (i : Nat) (o : Oper), i < n → ops[i]? = some o → (∀ e ∈ o.after, Region.binds .any e = true → listed.getD e.on false = true) → ∀ j ∈ dep i, listed.getD j false = true := by
  intro i
  induction i using Nat.strongRecOn with
  | _ i ih =>
    intro o hi ho hl j hj
    obtain ⟨e, he, hb, h⟩ := G.depOn i o hi ho j hj
    have hlt := G.back i o hi ho e he hb
    have hle := hl e he hb
    rcases h with rfl | h
    · exact hle
    · have hsz := G.le
      have hoe : ops[e.on]? = some (ops[e.on]'(by omega)) := Array.getElem?_eq_getElem (by omega)
      exact ih e.on hlt _ (by omega) hoe (fun e' he' hb' => inv.closed e.on _ hoe hle e' he' hb') j h

/-- It hangs on the old blocks and on its own, and on nothing else. -/
def Loc (M0 : Nat → Prop) (w0 : World) (S : (Nat → Prop) → World → Prop) : Prop :=
  ∀ B w w', S B w → w.heap.size ≤ w'.heap.size → (∀ k, k < w.heap.size → (k < w0.heap.size ∧ ¬ M0 k) ∨ B k → w'.heap[k]? = w.heap[k]?) → S B w'

theorem wpAny_grow {n g : Nat} (G : GrowOk ops dep dp cons n) {Q' : Exit → Act → World → Prop}
    (htail : ∀ listed a w, HeadInv .any ops n listed → (∀ j, j < n → listed.getD j false = true) → Q a w → wpAny P .any ops Q' g listed a w) :
    ∀ (m : Nat) (items : List GItem) (F : Nat → (Nat → Prop) → World → Prop) (B : Nat → Nat → Prop) (listed : Array Bool) (a : Act) (w : World), items.length = m →
      (items.map (·.i)).Pairwise (· < ·) → (∀ it ∈ items, ops[it.i]? = some it.o ∧ it.i < n) →
      (∀ it ∈ items, ∀ S, it.s = some S → ∀ e v, Loc M0 w0 (S e v)) →
      HeadInv .any ops n listed → (∀ j, j < n → (listed.getD j false = false ↔ j ∈ items.map (·.i))) →
      (∀ j, Loc M0 w0 (F j)) → (∀ j, F j (B j) w) → BOk M0 w0 w B → Chg M0 w0 w →
      wpG P ops M0 w0 dp cons Q items F a → wpAny P .any ops Q' (m + g) listed a w := by
  intro m
  induction m with
  | zero =>
    intro items F B listed a w hm _ _ _ inv hl _ hF hB hb h
    obtain rfl : items = [] := List.eq_nil_of_length_eq_zero hm
    rw [Nat.zero_add]
    refine htail listed a w inv (fun j hj => ?_) (h w B hb hB hF)
    cases hc : listed.getD j false with
    | true => rfl
    | false => have := (hl j hj).1 hc; cases this
  | succ m ih =>
    intro items F B listed a w hm hsort hit hst inv hl hFs hF hB hb h
    rw [show m + 1 + g = (m + g) + 1 by omega]
    have hlist : ∀ j, j < n → j ∉ items.map (·.i) → listed.getD j false = true := fun j hj hn => by
      cases hc : listed.getD j false with
      | true => rfl
      | false => exact absurd ((hl j hj).1 hc) hn
    refine ⟨fun hnil => ?_, fun i hi => ?_⟩
    · exfalso
      cases items with
      | nil => cases hm
      | cons it rest =>
        obtain ⟨ho, hin⟩ := hit it (by simp)
        have hmem : it.i ∈ Region.ready .any ops listed := by
          refine mem_ready.2 ⟨getD_in (by rw [inv.size]; have := G.le; omega) ((hl it.i hin).2 (by simp)), it.o, ho, fun e he hbd => ?_⟩
          have hlt := G.back _ _ hin ho e he hbd
          refine hlist e.on (by omega) fun hmem => ?_
          obtain ⟨q, hq, hqi⟩ := List.mem_map.1 hmem
          rcases List.mem_cons.1 hq with rfl | hq'
          · omega
          · have := (List.pairwise_cons.1 (by simpa using hsort)).1 q.i (List.mem_map.2 ⟨q, hq', rfl⟩)
            omega
        rw [hnil] at hmem; cases hmem
    · obtain ⟨hun, oi, hoi, hall⟩ := mem_ready.1 hi
      have hisz : i < ops.size := (Array.getElem?_eq_some_iff.1 hoi).1
      have hin : i < n := by
        rcases Nat.lt_or_ge i n with h' | h'
        · exact h'
        · exfalso
          have hn' : n < ops.size := by omega
          obtain ⟨hs, hc, _⟩ := G.tail hn'
          cases items with
          | nil => cases hm
          | cons it rest =>
            obtain ⟨ho, hitn⟩ := hit it (by simp)
            have hun' : listed.getD it.i true = false := getD_in (by rw [inv.size]; omega) ((hl it.i hitn).2 (by simp))
            exact tail_waits hs hc hn' inv _ it.i rfl hitn hun' i h' hi
      have hmem := (hl i hin).1 (getD_both hun)
      obtain ⟨it, hitm, hiti⟩ := List.mem_map.1 hmem
      obtain ⟨pre, post, rfl⟩ := List.append_of_mem hitm
      subst hiti
      obtain ⟨ho, _⟩ := hit it (by simp)
      rw [ho] at hoi; cases hoi
      have hio : it.o ∈ ops := Array.mem_of_getElem? ho
      have hdep := dep_listed G inv it.i it.o hin ho hall
      have hsort' := hsort
      rw [List.map_append, List.map_cons, List.pairwise_append] at hsort'
      have hpre : ∀ p ∈ pre, p.i < it.i := fun p hp => hsort'.2.2 p.i (List.mem_map.2 ⟨p, hp, rfl⟩) it.i (by simp)
      have hpost : ∀ p ∈ post, it.i < p.i := fun p hp => (List.pairwise_cons.1 hsort'.2.1).1 p.i (List.mem_map.2 ⟨p, hp, rfl⟩)
      have hpp : ∀ p ∈ pre, p.o ∈ ops ∧ p.o.apart ops it.o = true ∧ p.i ∉ dp it.i ∧ it.i ∉ dp p.i ∧ p.i ≠ it.i ∧ (∀ j ∈ cons it.i, j ∉ dp p.i) ∧ (∀ j ∈ cons p.i, j ∉ dp it.i) ∧ (∀ j ∈ cons p.i, j ∈ dp p.i) := fun p hp => by
        obtain ⟨hpo, hpn⟩ := hit p (by simp [hp])
        have hlt := hpre p hp
        have hnd : p.i ∉ dep it.i := fun hmem => by
          have := hdep p.i hmem
          have h2 := (hl p.i hpn).2 (by simp [List.mem_map.2 ⟨p, hp, rfl⟩])
          rw [h2] at this; cases this
        have hnd2 : it.i ∉ dep p.i := fun hmem => by have := G.depLt p.i hpn _ hmem; omega
        exact ⟨Array.mem_of_getElem? hpo, G.apart it.i p.i it.o p.o hlt hin ho hpo hnd, fun hm => by rcases G.old it.i hin _ hm with h | h; exact hnd h; omega, fun hm => by rcases G.old p.i hpn _ hm with h | h; exact hnd2 h; omega, by omega, G.consOne it.i p.i hin hpn (by omega) hnd hnd2, G.consOne p.i it.i hpn hin (by omega) hnd2 hnd, G.consDep p.i hpn⟩
      have EX := wpG_exchange G.sel it post hio (G.consDep it.i hin) pre F a hpp h
      have hmem' : (pre ++ post).length = m := by simp at hm ⊢; omega
      have hsort2 : ((pre ++ post).map (·.i)).Pairwise (· < ·) := by
        rw [List.map_append, List.pairwise_append]
        exact ⟨hsort'.1, (List.pairwise_cons.1 hsort'.2.1).2, fun x hx y hy => hsort'.2.2 x hx y (by simp [hy])⟩
      have hit2 : ∀ q ∈ pre ++ post, ops[q.i]? = some q.o ∧ q.i < n := fun q hq => hit q (by rcases List.mem_append.1 hq with h | h <;> simp [h])
      have hst2 : ∀ q ∈ pre ++ post, ∀ S, q.s = some S → ∀ e v, Loc M0 w0 (S e v) := fun q hq => hst q (by rcases List.mem_append.1 hq with h | h <;> simp [h])
      have inv2 := inv.set hi hin
      have hl2 : ∀ j, j < n → ((listed.setIfInBounds it.i true).getD j false = false ↔ j ∈ (pre ++ post).map (·.i)) := fun j hj => by
        by_cases e : it.i = j
        · subst e
          have h1 : (listed.setIfInBounds it.i true).getD it.i false = true := by
            have : it.i < listed.size := by rw [inv.size]; exact hisz
            simp [this]
          rw [h1]
          constructor
          · intro h; cases h
          · intro h
            obtain ⟨q, hq, hqi⟩ := List.mem_map.1 h
            rcases List.mem_append.1 hq with h | h
            · have := hpre q h; omega
            · have := hpost q h; omega
        · rw [getD_set_ne false e, hl j hj]
          simp only [List.map_append, List.map_cons, List.mem_append, List.mem_cons]
          constructor
          · rintro (h | h | h)
            · exact .inl h
            · exact absurd h.symm e
            · exact .inr h
          · rintro (h | h)
            · exact .inl h
            · exact .inr (.inr h)
      cases hs : it.s with
      | none =>
        simp only [hs] at EX
        obtain ⟨v, hv, hw⟩ := EX w B hb hB (fun j _ => hF j)
        have go : ∀ w', Below w.heap.size w w' → wpAny P .any ops Q' (m + g) (listed.setIfInBounds it.i true) (a.put it.o.dst v) w' := fun w' hb' =>
          ih (pre ++ post) F B _ _ w' hmem' hsort2 hit2 hst2 inv2 hl2 hFs (fun j => hFs j (B j) w w' (hF j) hb'.size fun k hk _ => hb'.block k hk) ⟨hB.lo, fun j k h => Nat.lt_of_lt_of_le (hB.hi j k h) hb'.size, hB.apart⟩ (hb.below_trans hb') hw
        unfold wpOp
        rw [ho]
        unfold PureTo at hv
        simp only
        split
        · rename_i hwn
          rw [if_pos hwn] at hv
          refine .inl ?_
          unfold Oper.wp
          split at hv
          · rename_i u w' hr; rw [hr]; obtain ⟨rfl, hb'⟩ := hv; exact go w' hb'
          · rename_i w' hr; rw [hr]; obtain ⟨rfl, hb'⟩ := hv; exact go w' hb'
          · rename_i f args w' hr
            rw [hr]
            refine Calls.mono hv.2 fun e w'' h => ?_
            cases e with
            | returned u => obtain ⟨rfl, hb'⟩ := h; exact go w'' hb'
            | _ => cases h
          · cases hv
        · rename_i hwn
          rw [if_neg hwn] at hv
          subst hv
          exact go w (Below.refl _ _)
      | some S =>
        simp only [hs] at EX
        have hv := EX.1 w B hb hB (fun j _ => hF j)
        have hstS := hst it (by simp) S hs (look ops it.o a)
        have go : ∀ v w', Chg (fun k => ∃ j ∈ cons it.i, B j k) w w' → S (look ops it.o a) v (fun k => (∃ j ∈ cons it.i, B j k) ∨ (w.heap.size ≤ k ∧ k < w'.heap.size)) w' → wpAny P .any ops Q' (m + g) (listed.setIfInBounds it.i true) (a.put it.o.dst v) w' := fun v w' hc hSv => by
          have hws : w0.heap.size ≤ w.heap.size := hb.size
          refine ih (pre ++ post) _ (fun j => if j = it.i then (fun k => (∃ j ∈ cons it.i, B j k) ∨ (w.heap.size ≤ k ∧ k < w'.heap.size)) else if j ∈ cons it.i then (fun _ => False) else B j) _ _ w' hmem' hsort2 hit2 hst2 inv2 hl2 ?_ ?_ ?_ (hb.chg_trans hc fun k ⟨j, _, hj⟩ => hB.lo j k hj) (EX.2 v)
          · intro j
            unfold FPut
            by_cases e : j = it.i
            · simp only [if_pos e]; exact hstS v
            · by_cases e2 : j ∈ cons it.i
              · simp only [if_neg e, if_pos e2]; exact fun _ _ _ _ _ _ => trivial
              · simp only [if_neg e, if_neg e2]; exact hFs j
          · intro j
            unfold FPut
            by_cases e : j = it.i
            · simp only [if_pos e]; exact hSv
            · by_cases e2 : j ∈ cons it.i
              · simp only [if_neg e, if_pos e2]
              · simp only [if_neg e, if_neg e2]
                refine hFs j (B j) w w' (hF j) hc.size fun k hk hor => hc.block k hk ?_
                rintro ⟨c, hcm, hck⟩
                rcases hor with h | h
                · rcases hB.lo c k hck with h2 | h2
                  · omega
                  · exact h.2 h2
                · have := hB.apart c j k hck h; subst this; exact e2 hcm
          · have cases3 : ∀ j k, (if j = it.i then (fun k => (∃ j ∈ cons it.i, B j k) ∨ (w.heap.size ≤ k ∧ k < w'.heap.size)) else if j ∈ cons it.i then (fun _ => False) else B j) k →
                (j = it.i ∧ ((∃ c ∈ cons it.i, B c k) ∨ (w.heap.size ≤ k ∧ k < w'.heap.size))) ∨ (j ≠ it.i ∧ j ∉ cons it.i ∧ B j k) := by
              intro j k h
              by_cases e : j = it.i
              · rw [if_pos e] at h; exact .inl ⟨e, h⟩
              · rw [if_neg e] at h
                by_cases e2 : j ∈ cons it.i
                · rw [if_pos e2] at h; cases h
                · rw [if_neg e2] at h; exact .inr ⟨e, e2, h⟩
            refine ⟨fun j k h => ?_, fun j k h => ?_, fun i j k hi hj => ?_⟩
            · rcases cases3 j k h with ⟨_, ⟨c, _, hc⟩ | h⟩ | ⟨_, _, h⟩
              · exact hB.lo c k hc
              · omega
              · exact hB.lo j k h
            · have := hc.size
              rcases cases3 j k h with ⟨_, ⟨c, _, hc⟩ | h⟩ | ⟨_, _, h⟩
              · have := hB.hi c k hc; omega
              · omega
              · have := hB.hi j k h; omega
            · rcases cases3 i k hi with ⟨e1, h1⟩ | ⟨e1, n1, h1⟩ <;> rcases cases3 j k hj with ⟨e2, h2⟩ | ⟨e2, n2, h2⟩
              · rw [e1, e2]
              · exfalso
                rcases h1 with ⟨c, hcm, hck⟩ | h1
                · have := hB.apart c j k hck h2; subst this; exact n2 hcm
                · have := hB.hi j k h2; omega
              · exfalso
                rcases h2 with ⟨c, hcm, hck⟩ | h2
                · have := hB.apart c i k hck h1; subst this; exact n1 hcm
                · have := hB.hi i k h1; omega
              · exact hB.apart i j k h1 h2
        unfold wpOp
        rw [ho]
        unfold GoesTo at hv
        simp only
        split
        · rename_i hwn
          rw [if_pos hwn] at hv
          refine .inl ?_
          unfold Oper.wp
          split at hv
          · rename_i u w' hr; rw [hr]; exact go _ _ hv.1 hv.2
          · rename_i w' hr; rw [hr]; exact go _ _ hv.1 hv.2
          · rename_i f args w' hr
            rw [hr]
            refine Calls.mono hv fun e w'' h => ?_
            obtain ⟨v, rfl, h1, h2⟩ := h
            exact go v w'' h1 h2
          · cases hv
        · rename_i hwn
          rw [if_neg hwn] at hv
          exact go _ _ hv.1 hv.2

theorem region_grow {id : Nat} {l : List Oper} {Q' : Exit → Act → World → Prop} {a : Act} {w : World} (n : Nat) (dep dp cons : Nat → List Nat) (sg : Nat → Option ((Tmp → Value) → GSpec)) (v0 : Nat) (M0 : Nat → Prop) (S0 : (Nat → Prop) → World → Prop) (hm : P.follows .mixedOrders = true)
    (hB : growB l.toArray dep dp cons n = true)
    (hst : ∀ i S, sg i = some S → ∀ e v, Loc M0 w.drew (S e v))
    (hSL : Loc M0 w.drew S0) (hS0 : S0 M0 w.drew) (hM0 : ∀ k, M0 k → k < w.heap.size)
    (h : wpG P l.toArray M0 w.drew dp cons (fun a' w' => wpList P l.toArray Q' (l.drop n) a' w') (gitems sg (l.take n) 0) (fun j B w => if j = v0 then S0 B w else True) a) : (Code.region id l.toArray true).wp P Q' a w := by
  have G := growB_spec hB
  have hle : n ≤ l.length := by simpa using G.le
  have htl : (l.take n).length = n := by simp; omega
  have hlen : (gitems sg (l.take n) 0).length = n := by simp [gitems]; omega
  have hids : (gitems sg (l.take n) 0).map (·.i) = List.range n := by
    simp only [gitems, List.map_map]
    have : ((fun x : GItem => x.i) ∘ fun p : Oper × Nat => (⟨p.2, p.1, sg p.2⟩ : GItem)) = Prod.snd := by funext p; rfl
    rw [this]
    simp [List.range_eq_range', htl]
  have inv0 : HeadInv .any l.toArray n (Array.replicate l.toArray.size false) :=
    ⟨by simp, fun j oj _ hl => (by rw [getD_replicate_false] at hl; cases hl), fun t _ ht => getD_in (by simpa using ht) (getD_replicate_false _ _)⟩
  refine wp_region_any hm ?_
  have H := wpAny_grow (g := l.toArray.size - n) G (Q' := Q') (Q := fun a' w' => wpList P l.toArray Q' (l.drop n) a' w') (P := P) (M0 := M0) (w0 := w.drew) (dp := dp) ?_ n (gitems sg (l.take n) 0) (fun j B w => if j = v0 then S0 B w else True) (fun j => if j = v0 then M0 else fun _ => False) (Array.replicate l.toArray.size false) a w.drew hlen
    (by rw [hids]; exact List.pairwise_lt_range) ?_ ?_ inv0 ?_ ?_ ?_ ?_ (Chg.refl _ _) h
  · rw [show n + (l.toArray.size - n) = l.toArray.size by have := G.le; omega] at H
    exact H
  · intro listed a w inv hall hq
    have hdl : (l.drop n).length = l.toArray.size - n := by simp
    have e : listed = (Array.replicate n true) ++ (Array.replicate (l.toArray.size - n) false) := by
      apply Array.ext
      · rw [inv.size]; simp; omega
      · intro j h1 h2
        rw [Array.getElem_append]
        split
        · rename_i hj
          have := hall j (by simpa using hj)
          simpa [h1] using this
        · rename_i hj
          have hj' : n ≤ j := by simpa using hj
          have := inv.tail j hj' (by rw [← inv.size]; exact h1)
          simpa [h1] using this
    rcases Nat.lt_or_ge n l.toArray.size with hlt | hge
    · have hseq := (G.tail hlt).2.2
      rw [← e, ← hdl] at hseq
      rw [← hdl]
      exact wpAny_of_seq (md := .any) (Q' := Q') (l.drop n) n listed a w (fun j => by simp [List.getElem?_drop]) hseq hq
    · have h0 : l.toArray.size - n = 0 := by omega
      have hd : l.drop n = [] := List.drop_eq_nil_of_le (by simpa using hge)
      rw [h0]
      refine ⟨?_, by rw [hd] at hq; exact hq⟩
      cases hr : Region.ready .any l.toArray listed with
      | nil => rfl
      | cons i rest =>
        have hi : i ∈ Region.ready .any l.toArray listed := by rw [hr]; simp
        obtain ⟨hun, oi, hoi, _⟩ := mem_ready.1 hi
        have := (Array.getElem?_eq_some_iff.1 hoi).1
        have := hall i (by omega)
        rw [getD_both hun] at this; cases this
  · intro it hit
    simp only [gitems, List.mem_map] at hit
    obtain ⟨⟨o, k⟩, hk, rfl⟩ := hit
    have := List.mem_zipIdx_iff_getElem?.1 hk
    simp only at this
    have hkn : k < n := by have := (List.getElem?_eq_some_iff.1 this).1; simpa [htl] using this
    refine ⟨?_, hkn⟩
    rw [List.getElem?_take, if_pos hkn] at this
    simpa using this
  · intro it hit S hS
    simp only [gitems, List.mem_map] at hit
    obtain ⟨⟨o, k⟩, hk, rfl⟩ := hit
    exact hst k S hS
  · intro j hj
    rw [hids, getD_replicate_false]
    simp [hj]
  · intro j B w1 w2 h1 h2 h3
    by_cases e : j = v0
    · simp only [if_pos e] at h1 ⊢; exact hSL B w1 w2 h1 h2 h3
    · simp only [if_neg e]
  · intro j
    by_cases e : j = v0
    · simp only [if_pos e]; exact hS0
    · simp only [if_neg e]
  · refine ⟨fun j k h => ?_, fun j k h => ?_, fun i j k hi hj => ?_⟩
    · by_cases e : j = v0
      · rw [if_pos e] at h; exact .inr h
      · rw [if_neg e] at h; exact h.elim
    · by_cases e : j = v0
      · rw [if_pos e] at h; exact hM0 k h
      · rw [if_neg e] at h; exact h.elim
    · by_cases e : i = v0
      · by_cases e2 : j = v0
        · rw [e, e2]
        · rw [if_neg e2] at hj; exact hj.elim
      · rw [if_neg e] at hi; exact hi.elim

/-! ### the steps of such a walk -/
section
variable {sg : Nat → Option ((Tmp → Value) → GSpec)} {l : List Oper} {o : Oper} {k : Nat} {F : Nat → (Nat → Prop) → World → Prop} {a : Act}
theorem wpG_pure (hs : sg k = none) (v : Value) (h1 : ∀ w B, Chg M0 w0 w → BOk M0 w0 w B → (∀ j ∈ dp k, F j (B j) w) → PureTo P ops o a w v)
    (h2 : wpG P ops M0 w0 dp cons Q (gitems sg l (k + 1)) F (a.put o.dst v)) : wpG P ops M0 w0 dp cons Q (gitems sg (o :: l) k) F a := by
  unfold gitems
  rw [List.zipIdx_cons, List.map_cons]
  unfold wpG
  simp only [hs]
  exact ⟨v, h1, h2⟩
theorem wpG_make {S : (Tmp → Value) → GSpec} (hs : sg k = some S) (h1 : ∀ w B, Chg M0 w0 w → BOk M0 w0 w B → (∀ j ∈ dp k, F j (B j) w) →
      GoesTo P ops o a w fun v w' => Chg (fun b => ∃ j ∈ cons k, B j b) w w' ∧ S (look ops o a) v (fun b => (∃ j ∈ cons k, B j b) ∨ (w.heap.size ≤ b ∧ b < w'.heap.size)) w')
    (h2 : ∀ v, wpG P ops M0 w0 dp cons Q (gitems sg l (k + 1)) (FPut cons F k (S (look ops o a) v)) (a.put o.dst v)) : wpG P ops M0 w0 dp cons Q (gitems sg (o :: l) k) F a := by
  unfold gitems
  rw [List.zipIdx_cons, List.map_cons]
  unfold wpG
  simp only [hs]
  exact ⟨h1, h2⟩
theorem wpG_end (h : ∀ w B, Chg M0 w0 w → BOk M0 w0 w B → (∀ j, F j (B j) w) → Q a w) : wpG P ops M0 w0 dp cons Q (gitems sg [] k) F a := h
end
def dpOf (l : List Oper) (i0 v0 : Nat) (i : Nat) : List Nat := if i = i0 then v0 :: depOf l i else depOf l i
/-- As the other; operation i0 may turn the old blocks M0, of which S0 stands. -/
theorem region_making {P : Program} {id : Nat} {l : List Oper} {Q' : Exit → Act → World → Prop} {a : Act} {w : World} (n : Nat) (cons : Nat → List Nat) (sg : Nat → Option ((Tmp → Value) → GSpec)) (i0 v0 : Nat) (M0 : Nat → Prop) (S0 : (Nat → Prop) → World → Prop) (hm : P.follows .mixedOrders = true)
    (hB : growB l.toArray (depOf l) (dpOf l i0 v0) cons n = true) (hst : ∀ i S, sg i = some S → ∀ e v, Loc M0 w.drew (S e v))
    (hSL : Loc M0 w.drew S0) (hS0 : S0 M0 w.drew) (hM0 : ∀ k, M0 k → k < w.heap.size)
    (h : wpG P l.toArray M0 w.drew (dpOf l i0 v0) cons (fun a' w' => wpList P l.toArray Q' (l.drop n) a' w') (gitems sg (l.take n) 0) (fun j B w => if j = v0 then S0 B w else True) a) : (Code.region id l.toArray true).wp P Q' a w :=
  region_grow n (depOf l) (dpOf l i0 v0) cons sg v0 M0 S0 hm hB hst hSL hS0 hM0 h
theorem isV_loc (M0 : Nat → Prop) (v : Value) (w0 : World) (u : Value) : Loc M0 w0 (isV v u) := fun _ _ _ h _ _ => h
theorem new8_loc (M0 : Nat → Prop) (e : TypeId) (l : List UInt8) (w0 : World) (u : Value) : Loc M0 w0 (new8 e l u) := by
  intro B w w' ⟨h1, h2⟩ hs hk
  refine ⟨⟨h1.1, ?_⟩, h2⟩
  rcases h1.2 with h | ⟨g, cap, cur, rfl, hb, hg, rest⟩
  · exact .inl h
  · refine .inr ⟨g, cap, cur, rfl, hb, ?_, rest⟩
    rw [hk g (Array.getElem?_eq_some_iff.1 hg).1 (.inr (h2 g rfl))]; exact hg
end
end O
end Go.Proofs.Ytfnlcnjflloecaa
/-! ### Loan2 -/
set_option linter.unusedVariables false
set_option linter.unusedSimpArgs false
namespace Go.Proofs.Ytfnlcnjflloecaa
open Go.RowKit
theorem stL : SlTy Try.prog 32 38 1 24 (.slice none 0 0) := SlTy.of Try.underlying32 (by kernel_rfl) rfl (by omega)
def OwnV (w : World) (base : Nat) (v : Value) (us : List Value) : Prop := w.ownsRow base 38 1 v us.length us
def ap (a b : Value) : Prop := ∀ g, a.ownBlock = some g → b.ownBlock ≠ some g
theorem ap.symm {a b : Value} (h : ap a b) : ap b a := fun g h1 h2 => h g h2 h1
theorem ap.or {a b : Value} (h : ap a b) : b.ownBlock = none ∨ b.ownBlock ≠ a.ownBlock := opt_apart h
theorem OwnV.grown {w w' : World} {base : Nat} {v : Value} {us : List Value} {row : Option Nat} (h : OwnV w base v us) (hg : w.grownBy w' row) (hne : v.ownBlock = none ∨ v.ownBlock ≠ row) : OwnV w' base v us := World.ownsRow.kept h hg hne
theorem OwnV.below {w w' : World} {base : Nat} {v : Value} {us : List Value} (h : OwnV w base v us) (hb : Below w.heap.size w w') : OwnV w' base v us := h.grown (grown_below hb none) (by cases v.ownBlock <;> simp)
theorem OwnV.lt {w : World} {base : Nat} {v : Value} {us : List Value} (h : OwnV w base v us) (k : Nat) (hk : v.ownBlock = some k) : k < w.heap.size := (World.ownsRow.lt h k hk).2
theorem OwnV.base_le {w : World} {base : Nat} {v : Value} {us : List Value} (h : OwnV w base v us) (k : Nat) (hk : v.ownBlock = some k) : base ≤ k := (World.ownsRow.lt h k hk).1
theorem OwnV.rdw {w : World} {base : Nat} {v : Value} {us : List Value} (h : OwnV w base v us) : RdW w 1 v us.length us := ownsRow_rd h
theorem OwnV.open {w : World} {base : Nat} {v : Value} {us : List Value} (h : OwnV w base v us) (hn : 0 < us.length) : ∃ g cap, v = .slice (some ⟨g, 0, none⟩) us.length cap ∧ base ≤ g ∧ g < w.heap.size := World.ownsRow.form h hn
structure Lent where
  full : Value
  want : Value
  given : Value
  l : List UInt8
def tail5 : List UInt8 := [77, 78, 79, 80, 81]
@[simp] theorem tail5_len : tail5.length = 5 := rfl
/-- One list that was lent stands as it was. -/
def LentOk (w : World) (base : Nat) (e : Lent) : Prop := Own8 w base 5 e.full (e.l ++ tail5) ∧ Own8 w base 5 e.want (e.l ++ tail5) ∧ Rd w e.given e.l ∧ e.given.ownBlock = e.full.ownBlock ∧ e.l.length ≤ 1000000
/-- The slice's block is one of S. -/
def In (S : Nat → Prop) (v : Value) : Prop := ∀ g, v.ownBlock = some g → S g
theorem In.mono {S T : Nat → Prop} {v : Value} (h : In S v) (hm : ∀ k, S k → T k) : In T v := fun g hg => hm g (h g hg)
def LoanAt (w : World) (B p : Nat) (S : Nat → Prop) (es : List Lent) : Prop :=
  ∃ vF vW, B ≤ p ∧ Blk w p 34 [vF, vW] ∧ OwnV w (p + 1) vF (es.map (·.full)) ∧ OwnV w (p + 1) vW (es.map (·.want)) ∧ ap vF vW ∧
    (∀ e ∈ es, LentOk w (p + 1) e ∧ ap vF e.full ∧ ap vF e.want ∧ ap vW e.full ∧ ap vW e.want) ∧ es.Pairwise (fun a b => ap a.full b.full) ∧ (∀ a ∈ es, ∀ b ∈ es, ap a.full b.want) ∧
    (S p ∧ In S vF ∧ In S vW ∧ (∀ e ∈ es, In S e.full ∧ In S e.want) ∧ ∀ k, S k → k < w.heap.size)
theorem LentOk.below {w w' : World} {base : Nat} {e : Lent} (h : LentOk w base e) (hb : Below w.heap.size w w') : LentOk w' base e := ⟨h.1.below hb, h.2.1.below hb, h.2.2.1.below hb, h.2.2.2⟩
theorem LoanAt.below {w w' : World} {B p : Nat} {S : Nat → Prop} {es : List Lent} (h : LoanAt w B p S es) (hb : Below w.heap.size w w') : LoanAt w' B p S es := by
  obtain ⟨vF, vW, h0, h1, h2, h3, h4, h5, h6, h7, h8⟩ := h
  exact ⟨vF, vW, h0, h1.below hb, h2.below hb, h3.below hb, h4, fun e he => ⟨(h5 e he).1.below hb, (h5 e he).2⟩, h6, h7, h8.1, h8.2.1, h8.2.2.1, h8.2.2.2.1, fun k hk => Nat.lt_of_lt_of_le (h8.2.2.2.2 k hk) hb.size⟩
theorem RdW.lit1 (w : World) (e : TypeId) (fr : Nat × Nat) (u : Value) : RdW (w.alloc (.cells #[u] e fr)) 1 (.slice (some ⟨w.heap.size, 0, none⟩) 1 1) 1 [u] := by
  refine ⟨rfl, _, _, rfl, Nat.le_refl _, by decide, fun _ => ⟨w.heap.size, 0, rfl, fun j x hx => ?_⟩⟩
  have hb : (w.alloc (.cells #[u] e fr)).heap[w.heap.size]? = some (.cells #[u] e fr) := by
    show (w.heap.push _)[w.heap.size]? = _
    simp
  rw [cell_of_row _ w.heap.size (0 + j) _ e fr hb]
  rw [Nat.zero_add]
  simpa using hx
theorem own_one {w : World} {base : Nat} {e : TypeId} {u : Value} {l : List UInt8} (h : Own8 w base e u l) : u.oneCell' = true := by
  rcases h.2 with ⟨rfl, _⟩ | ⟨g, cap, cur, rfl, _⟩ <;> rfl
theorem own_cells {w : World} {base : Nat} {e : TypeId} {u : Value} {l : List UInt8} (h : Own8 w base e u l) : u.cells = #[u] := by
  rcases h.2 with ⟨rfl, _⟩ | ⟨g, cap, cur, rfl, _⟩ <;> rfl
/-- An operation that appends one list to a row of lists. -/
theorem wpList_appL {w : World} {base : Nat} {ops : Array Oper} {rest : List Oper} {o : Oper} {a : Act} {Q : Exit → Act → World → Prop} (hgd : o.guard = none) (s x : Operand)
    (ho : o.op = .call { callee := .builtin .append, args := #[s, x], argTypes := #[32, 32] })
    {v : Value} (hs : a.eval s = v) {us : List Value} (hown : OwnV w base v us)
    {xv u : Value} (hxv : a.eval x = xv) (hx : RdW w 1 xv 1 [u]) (hu : u.oneCell' = true) (hn : us.length ≤ 1000) (hbase : base ≤ w.heap.size)
    (h : ∀ v' w', OwnV w' base v' (us ++ [u]) → w.grownBy w' v.ownBlock → (v'.ownBlock = v.ownBlock ∨ v'.ownBlock = some w.heap.size) → wpList Try.prog ops Q rest (a.put o.dst v') w') :
    wpList Try.prog ops Q (o :: rest) a w := by
  refine wpList_app hgd s x ho stL hs hown hxv (hx.src (by simpa using hu) Try.underlying32) (by unfold maxLen; omega) (by omega) hbase fun v' w' h1 h2 h3 => h v' w' ?_ h2 h3
  unfold OwnV
  rw [List.length_append]
  exact h1
theorem owns_chg {w w' : World} {M : Nat → Prop} {base size n : Nat} {e : TypeId} {v : Value} {us : List Value} (h : w.ownsRow base e size v n us) (hc : Chg M w w') (hm : ∀ g, v.ownBlock = some g → ¬ M g) : w'.ownsRow base e size v n us := by
  refine ⟨h.1, ?_⟩
  rcases h.2 with h2 | ⟨g, cap, cur, rfl, hb, hg, rest⟩
  · exact .inl h2
  · exact .inr ⟨g, cap, cur, rfl, hb, by rw [hc.block g (Array.getElem?_eq_some_iff.1 hg).1 (hm g rfl)]; exact hg, rest⟩
theorem Rd.chg {w w' : World} {M : Nat → Prop} {v : Value} {l : List UInt8} (h : Rd w v l) (hc : Chg M w w') (hm : ∀ g, v.ownBlock = some g → ¬ M g) : Rd w' v l := by
  obtain ⟨A, c, rfl, h1, h2, h3⟩ := h.open
  refine Rd.mk rfl h1 h2 fun hn => ?_
  obtain ⟨b, off, rfl, hcell⟩ := h3 hn
  refine ⟨b, off, rfl, fun j hj => ?_⟩
  have h4 := hcell j hj
  have hlt := World.block_lt_of_cell? w _ h4
  have hb := hc.block b hlt (hm b rfl)
  rw [← h4]
  unfold World.cell?
  simp only [hb]
theorem LentOk.chg {w w' : World} {M : Nat → Prop} {base : Nat} {e : Lent} (h : LentOk w base e) (hc : Chg M w w') (h1 : ∀ g, e.full.ownBlock = some g → ¬ M g) (h2 : ∀ g, e.want.ownBlock = some g → ¬ M g) : LentOk w' base e :=
  ⟨owns_chg h.1 hc h1, owns_chg h.2.1 hc h2, h.2.2.1.chg hc (by rw [h.2.2.2.1]; exact h1), h.2.2.2⟩
theorem Chg.setCell (w : World) (a : Addr) (u : Value) : Chg (fun k => k = a.block) w (w.setCell a u) := Chg.grown (grown_setCell w a u) (fun k hk => by cases hk; rfl)
theorem Chg.mono {M N : Nat → Prop} {w w' : World} (h : Chg M w w') (hmn : ∀ k, M k → N k) : Chg N w w' := ⟨h.os, h.tape, h.output, h.size, fun k hk hn => h.block k hk (fun hm => hn (hmn k hm))⟩
theorem Own8.chg {w w' : World} {M : Nat → Prop} {base : Nat} {e : TypeId} {v : Value} {l : List UInt8} (h : Own8 w base e v l) (hc : Chg M w w') (hm : ∀ g, v.ownBlock = some g → ¬ M g) : Own8 w' base e v l := owns_chg h hc hm
theorem OwnV.chg {w w' : World} {M : Nat → Prop} {base : Nat} {v : Value} {us : List Value} (h : OwnV w base v us) (hc : Chg M w w') (hm : ∀ g, v.ownBlock = some g → ¬ M g) : OwnV w' base v us := owns_chg h hc hm
theorem Own8.rebase {w : World} {base b : Nat} {e : TypeId} {v : Value} {l : List UInt8} (h : Own8 w base e v l) (hb : ∀ g, v.ownBlock = some g → b ≤ g) : Own8 w b e v l := by
  refine ⟨h.1, ?_⟩
  rcases h.2 with h2 | ⟨g, cap, cur, rfl, _, rest⟩
  · exact .inl h2
  · exact .inr ⟨g, cap, cur, rfl, hb g rfl, rest⟩
theorem Blk.chg {w w' : World} {M : Nat → Prop} {p : Nat} {T : TypeId} {cs : List Value} (h : Blk w p T cs) (hc : Chg M w w') (hm : ¬ M p) : Blk w' p T cs := by
  have := h.lt
  unfold Blk at h ⊢
  rw [hc.block p this hm]; exact h
theorem LoanAt.chg {w w' : World} {B p : Nat} {S M : Nat → Prop} {es : List Lent} (h : LoanAt w B p S es) (hc : Chg M w w') (hm : ∀ k, S k → ¬ M k) : LoanAt w' B p S es := by
  obtain ⟨vF, vW, h0, h1, h2, h3, h4, h5, h6, h7, h8⟩ := h
  exact ⟨vF, vW, h0, h1.chg hc (hm p h8.1), h2.chg hc (fun g hg => hm g (h8.2.1 g hg)), h3.chg hc (fun g hg => hm g (h8.2.2.1 g hg)), h4,
    fun e he => ⟨(h5 e he).1.chg hc (fun g hg => hm g ((h8.2.2.2.1 e he).1 g hg)) (fun g hg => hm g ((h8.2.2.2.1 e he).2 g hg)), (h5 e he).2⟩, h6, h7, h8.1, h8.2.1, h8.2.2.1, h8.2.2.2.1, fun k hk => Nat.lt_of_lt_of_le (h8.2.2.2.2 k hk) hc.size⟩
/-- What a literal of one new list is. -/
def litL (eL e8 : TypeId) (l : List UInt8) : GSpec := fun u B w => ∃ x g0, u = .slice (some ⟨g0, 0, none⟩) 1 1 ∧ w.heap[g0]? = some (.cells #[x] eL (0, 0)) ∧ B g0 ∧ new8 e8 l x B w
/-- What a row of lists is, behind which one new list has been put. -/
def rowL (base n0 : Nat) (ws : List Value) (e8 : TypeId) (l : List UInt8) : GSpec := fun v B w => ∃ x, OwnV w base v (ws ++ [x]) ∧ new8 e8 l x B w ∧ (∀ g, v.ownBlock = some g → B g) ∧ ap v x ∧ ∀ g, x.ownBlock = some g → n0 ≤ g
theorem litL_loc (M0 : Nat → Prop) (eL e8 : TypeId) (l : List UInt8) (w0 : World) (u : Value) : O.Loc M0 w0 (litL eL e8 l u) := by
  rintro B w w' ⟨x, g0, h1, h2, h3, h4⟩ hs hk
  refine ⟨x, g0, h1, ?_, h3, O.new8_loc M0 e8 l w0 x B w w' h4 hs hk⟩
  rw [hk g0 (Array.getElem?_eq_some_iff.1 h2).1 (.inr h3)]; exact h2
theorem ownV_loc {w w' : World} {base : Nat} {v : Value} {us : List Value} (h : OwnV w base v us) (hk : ∀ k, v.ownBlock = some k → w'.heap[k]? = w.heap[k]?) : OwnV w' base v us := by
  refine ⟨h.1, ?_⟩
  rcases h.2 with h2 | ⟨g, cap, cur, rfl, hb, hg, rest⟩
  · exact .inl h2
  · exact .inr ⟨g, cap, cur, rfl, hb, by rw [hk g rfl]; exact hg, rest⟩
theorem rowL_loc (M0 : Nat → Prop) (base n0 : Nat) (ws : List Value) (e8 : TypeId) (l : List UInt8) (w0 : World) (u : Value) : O.Loc M0 w0 (rowL base n0 ws e8 l u) := by
  rintro B w w' ⟨x, h1, h2, h3, h4, h5⟩ hs hk
  exact ⟨x, ownV_loc h1 (fun k hv => hk k (h1.lt k hv) (.inr (h3 k hv))), O.new8_loc M0 e8 l w0 x B w w' h2 hs hk, h3, h4, h5⟩
def oldL (base : Nat) (v : Value) (ws : List Value) : (Nat → Prop) → World → Prop := fun B w => OwnV w base v ws ∧ ∀ g, v.ownBlock = some g → B g
theorem oldL_loc (M0 : Nat → Prop) (base : Nat) (v : Value) (ws : List Value) (w0 : World) : O.Loc M0 w0 (oldL base v ws) := by
  rintro B w w' ⟨h1, h2⟩ hs hk
  exact ⟨ownV_loc h1 (fun k hv => hk k (h1.lt k hv) (.inr (h2 k hv))), h2⟩
theorem goesTo_litL {P : Program} {w : World} {ops : Array Oper} {a : Act} {M : Nat → Prop} {eL e8 : TypeId} {o : Oper} {x : Value} {l : List UInt8} (hw : Region.wanted o (yielded ops a.tmps) = true) (hx : new8 e8 l x M w)
    (hr : (execOp a.eval o).run P w = .ok (.value (.slice (some ⟨w.heap.size, 0, none⟩) 1 1)) (w.alloc (.cells #[x] eL))) :
    GoesTo P ops o a w fun v' w' => Chg M w w' ∧ litL eL e8 l v' (fun b => M b ∨ (w.heap.size ≤ b ∧ b < w'.heap.size)) w' := by
  unfold GoesTo
  rw [if_pos hw, hr]
  have hb : Below w.heap.size w (w.alloc (.cells #[x] eL)) := (Below.refl _ _).alloc (Nat.le_refl _) _
  refine ⟨Chg.of_below hb, x, w.heap.size, rfl, heap_alloc_new w _, .inr ⟨Nat.le_refl _, ?_⟩, hx.1.below hb, fun g hg => .inl (hx.2 g hg)⟩
  simp
theorem goesTo_appL {w : World} {ops : Array Oper} {a : Act} {M : Nat → Prop} {base n0 : Nat} {o : Oper} {e8 : TypeId} {l : List UInt8} (hw : Region.wanted o (yielded ops a.tmps) = true) (s x : Operand)
    (ho : o.op = .call { callee := .builtin .append, args := #[s, x], argTypes := #[32, 32] })
    {v : Value} (hs : a.eval s = v) {us : List Value} (hown : OwnV w base v us) {xv : Value} (hxv : a.eval x = xv) {eL : TypeId} {B8 : Nat → Prop} (hl : litL eL e8 l xv B8 w)
    (hn : us.length ≤ 1000) (hbase : base ≤ w.heap.size) (hM : ∀ g, v.ownBlock = some g → M g) (h8 : ∀ g, B8 g → M g ∧ n0 ≤ g ∧ v.ownBlock ≠ some g) (hn0 : n0 ≤ w.heap.size) :
    GoesTo Try.prog ops o a w fun v' w' => Chg M w w' ∧ rowL base n0 us e8 l v' (fun b => M b ∨ (w.heap.size ≤ b ∧ b < w'.heap.size)) w' := by
  obtain ⟨u, g0, rfl, hg0, hB0, hu⟩ := hl
  have hx : RdW w 1 (.slice (some ⟨g0, 0, none⟩) 1 1) 1 [u] := by
    refine ⟨rfl, _, _, rfl, Nat.le_refl _, by decide, fun _ => ⟨g0, 0, rfl, fun j x hx => ?_⟩⟩
    rw [cell_of_row _ g0 (0 + j) _ eL (0, 0) hg0, Nat.zero_add]
    simpa using hx
  obtain ⟨v', w', hr, h2, h3, h4⟩ := run_append_src stL o.type v us.length us hown _ 1 [u] (hx.src (by simpa using own_one hu.1) Try.underlying32) (by unfold maxLen; omega) (by omega) hbase
  unfold GoesTo
  rw [if_pos hw]
  unfold execOp
  simp only [ho, resolve, invoke, builtin, Sem.run_bind, Sem.run_pure, Result.andThen_ok, List.map_toArray, List.map_cons, List.map_nil, hs, hxv, hr]
  have ho' : OwnV w' base v' (us ++ [u]) := by unfold OwnV; rw [List.length_append]; exact h2
  have hne : ap v u := fun g hv hu' => (h8 g (hu.2 g hu')).2.2 hv
  refine ⟨Chg.grown h3 hM, u, ho', ⟨hu.1.grown h3 hne.or, fun g hg => .inl (h8 g (hu.2 g hg)).1⟩, fun g hg => ?_, ?_, fun g hg => (h8 g (hu.2 g hg)).2.1⟩
  · rcases h4 with h4 | h4
    · exact .inl (hM g (by rw [← h4]; exact hg))
    · rw [h4] at hg; cases hg
      exact .inr ⟨Nat.le_refl _, ho'.lt _ h4⟩
  · intro g hg hug
    rcases h4 with h4 | h4
    · exact hne g (by rw [← h4]; exact hg) hug
    · rw [h4] at hg; cases hg
      have := hu.1.lt _ hug; omega
set_option maxRecDepth 100000 in
set_option maxHeartbeats 1600000 in
theorem bytes_c (w : World) (B p : Nat) (S : Nat → Prop) (es : List Lent) (v : Value) (l : List UInt8) (h : LoanAt w B p S es) (hv : Rd w v l) (hl : l.length ≤ 1000000) (hn : es.length ≤ 999) :
    Calls Try.prog 10 #[.pointer (some ⟨p, 0, none⟩), v] w fun e w' => ∃ (x : Lent) (S' : Nat → Prop), e = .returned x.given ∧ x.l = l ∧ LoanAt w' B p S' (es ++ [x]) ∧ (∀ k, S' k → S k ∨ w.heap.size ≤ k) ∧ Chg S w w' ∧ Below B w w' := by
  obtain ⟨vF, vW, hBp, hp, hF, hW, hFW, hes, hff, hfw, hSp, hSF, hSW, hSe, hSl⟩ := h
  have hpl := hp.lt
  have hA := (Below.refl w.heap.size w).alloc (Nat.le_refl _) (.cells #[] 5)
  have hvA := hv.below hA
  go_enter Try.func10, Try.ntmps10
  have tok0 : True := trivial
  go_upto_region 3 with (first
    | (have _t := tok0; (at_builtin; refine wpList_app8 rfl _ _ rfl st8 (by with_unfolding_all (conv => lhs; whnf)) (Own8.empty w w.heap.size _ (Nat.le_refl _)) rfl (Rd.src hvA Try.underlying38) (by first | omega | (simp; omega)) (by first | (simp; done) | omega | (simp; omega)) ?_); intro v1 w1 ho1 hg1 hb1; have hw1 := app_step0 hA (Own8.empty w w.heap.size 5 (Nat.le_refl _)) (Nat.le_refl _) hg1; rw [List.nil_append] at ho1; have hz1 := hw1.1.size; clear tok0; have tok1 : True := trivial)
    | (have _t := tok1; (at_builtin; refine wpList_app8 rfl _ _ rfl st8 (by with_unfolding_all (conv => lhs; whnf)) (Own8.below ho1 ((Below.refl _ _).alloc (Nat.le_refl _) _)) rfl (Rd.src (Rd.lit _ _ _ [77, 78, 79, 80, 81] rfl rfl (by simp) (by decide)) Try.underlying38) (by first | omega | (simp; omega)) (by first | (simp; done) | omega | (simp; omega)) ?_); intro v2 w2 ho2 hg2 hb2; have hw2 := app_step hw1.1 ho1 (Nat.le_refl _) hg2; have hz2 := hw2.1.size; obtain ⟨g2, cp2, e2, hg2a, hg2b⟩ := ho2.open (by simp); generalize hn2 : (l ++ [77, 78, 79, 80, 81]).length = n2 at e2; subst e2; have hp2 := hp.below hw2.1; have cF : _ = some vF := hp2.cell 0; have hF2 := (hF.below hw2.1).below ((Below.refl w2.heap.size w2).alloc (Nat.le_refl _) (.cells #[.slice (some ⟨g2, 0, none⟩) n2 cp2] 38)); clear tok1; have tok2 : True := trivial)
    | (have _t := tok2; at_builtin; refine wpList_appL rfl _ _ rfl (by with_unfolding_all (conv => lhs; whnf)) hF2 rfl (RdW.lit1 w2 _ _ _) (own_one ho2) (by rw [List.length_map]; omega) (by simp; omega) ?_; intro v3 w3 ho3 hg3 hb3; have hp3 := (hp2.below ((Below.refl w2.heap.size w2).alloc (Nat.le_refl _) (.cells #[.slice (some ⟨g2, 0, none⟩) n2 cp2] 38))).grown hg3 (fun e => by have := hF2.base_le p e.symm; omega); have f3 := hp3.frozen 0; have k3 : _ = some vF := hp3.cell 0; obtain ⟨g3, cp3, e3, hg3a, hg3b⟩ := ho3.open (by simp); generalize hn3 : (List.map (fun x => x.full) es ++ [Value.slice (some ⟨g2, 0, none⟩) n2 cp2]).length = n3 at e3; subst e3; clear tok2; have tok3 : True := trivial))
  have hchS : Chg (fun k => k = p ∨ vF.ownBlock = some k) w (w3.setCell ⟨p, 0, none⟩ (.slice (some ⟨g3, 0, none⟩) n3 cp3)) := by
    refine Chg.chg_trans (M := fun k => k = p ∨ vF.ownBlock = some k) ?_ (Chg.setCell w3 ⟨p, 0, none⟩ (.slice (some ⟨g3, 0, none⟩) n3 cp3)) (fun k hk => .inr (.inl hk))
    refine Chg.chg_trans (M := fun k => k = p ∨ vF.ownBlock = some k) ?_ (Chg.grown hg3 (fun k hk => hk)) (fun k hk => .inr (.inr hk))
    exact Chg.below_trans (Chg.of_below hw2.1) ((Below.refl _ _).alloc (Nat.le_refl _) _)
  have hpS : Blk (w3.setCell ⟨p, 0, none⟩ (.slice (some ⟨g3, 0, none⟩) n3 cp3)) p 34 [.slice (some ⟨g3, 0, none⟩) n3 cp3, vW] := hp3.stored 0 _
  have hFS : OwnV (w3.setCell ⟨p, 0, none⟩ (.slice (some ⟨g3, 0, none⟩) n3 cp3)) (p + 1) (.slice (some ⟨g3, 0, none⟩) n3 cp3) (es.map (·.full) ++ [.slice (some ⟨g2, 0, none⟩) n2 cp2]) :=
    ho3.grown (grown_setCell _ _ _) (.inr (by intro e; cases e; omega))
  have hvF2 : ∀ k, vF.ownBlock = some k → k < w.heap.size := fun k hk => hF.lt k hk
  have ho2S : Own8 (w3.setCell ⟨p, 0, none⟩ (.slice (some ⟨g3, 0, none⟩) n3 cp3)) w.heap.size 5 (.slice (some ⟨g2, 0, none⟩) n2 cp2) (l ++ tail5) := by
    refine Own8.grown ?_ (grown_setCell _ _ _) (.inr (by intro e; cases e; omega))
    exact Own8.grown (ho2.below ((Below.refl _ _).alloc (Nat.le_refl _) _)) hg3 (.inr (by intro e; have := hvF2 g2 e.symm; omega))
  have hvS := hv.chg hchS
  have hg3n : (some g3 = vF.ownBlock ∨ w.heap.size ≤ g3) ∧ g3 ≠ g2 := by
    have hz : (w2.alloc (Obj.cells #[Value.slice (some { block := g2, off := 0 }) n2 cp2] 38)).heap.size = w2.heap.size + 1 := by simp
    rcases hb3 with h | h
    · refine ⟨.inl h, fun e => ?_⟩
      have := hvF2 g3 h.symm; omega
    · have h' : some g3 = some _ := h
      rw [hz] at h'
      cases h'
      exact ⟨.inr (by omega), by omega⟩
  clear k3 f3 hp3 hb3 hg3 hF2 cF hp2 hb2 hw2 hg2 hb1 hw1 hg1 ho1 ho2 hvS ho3 hvA hA
  generalize hwS : w3.setCell ⟨p, 0, none⟩ (.slice (some ⟨g3, 0, none⟩) n3 cp3) = wS at *
  clear hwS
  have hWS : OwnV wS (p + 1) vW (es.map (·.want)) := owns_chg hW hchS (fun g hg hm => by
    rcases hm with rfl | hm
    · have := hW.base_le g hg; omega
    · exact hFW g hm hg)
  refine O.region_making 12 (fun | 7 => [5] | 8 => [7] | 9 => [100, 8] | _ => []) (fun | 5 => some fun _ => new8 5 [] | 7 => some fun _ => new8 5 ([] ++ (l ++ tail5)) | 8 => some fun _ => litL 38 5 ([] ++ (l ++ tail5)) | 9 => some fun _ => rowL (p + 1) wS.heap.size (es.map (·.want)) 5 ([] ++ (l ++ tail5)) | _ => none) 9 100 (fun k => vW.ownBlock = some k) (oldL (p + 1) vW (es.map (·.want))) (by kernel_rfl) (by kernel_rfl) ?_ ?_ ?_ ?_ ?_
  · intro i' S' h' e v'
    match i', h' with
    | 5, h' => cases h'; exact O.new8_loc _ _ _ _ _
    | 7, h' => cases h'; exact O.new8_loc _ _ _ _ _
    | 8, h' => cases h'; exact litL_loc _ _ _ _ _ _
    | 9, h' => cases h'; exact rowL_loc _ _ _ _ _ _ _ _
  · exact oldL_loc _ _ _ _ _
  · exact ⟨hWS, fun g hg => hg⟩
  · exact fun k hk => hWS.lt k hk
  simp only [List.take_succ_cons, List.take_zero, List.drop_succ_cons, List.drop_zero]
  have hpM : ¬ (vW.ownBlock = some p) := fun e => by have := hW.base_le p e; omega
  have h2M : ∀ g, (Value.slice (some ⟨g2, 0, none⟩) n2 cp2).ownBlock = some g → ¬ (vW.ownBlock = some g) := fun g hg e => by cases hg; have := hW.lt g2 e; omega
  have hWb : p + 1 ≤ wS.heap.size := hpS.lt
  (apply O.wpG_pure; (focus rfl); (focus (intro wg Bg hbg hBg hFg; go_simp; (try go_bits); (first | done | exact ⟨rfl, Below.refl _ _⟩ | rfl))); simp only [Act.put, List.setIfInBounds_toArray, List.set_cons_succ, List.set_cons_zero])
  (apply O.wpG_pure; (focus rfl); (focus (intro wg Bg hbg hBg hFg; go_simp; (try go_bits); (first | done | exact ⟨rfl, Below.refl _ _⟩ | rfl))); simp only [Act.put, List.setIfInBounds_toArray, List.set_cons_succ, List.set_cons_zero])
  (apply O.wpG_pure; (focus rfl); (focus (intro wg Bg hbg hBg hFg; go_simp; (try go_bits); (first | done | exact ⟨rfl, Below.refl _ _⟩ | rfl))); simp only [Act.put, List.setIfInBounds_toArray, List.set_cons_succ, List.set_cons_zero])
  (apply O.wpG_pure; (focus rfl); (focus (intro wg Bg hbg hBg hFg; go_simp; (try go_bits); (first | done | exact ⟨rfl, Below.refl _ _⟩ | rfl))); simp only [Act.put, List.setIfInBounds_toArray, List.set_cons_succ, List.set_cons_zero])
  (apply O.wpG_pure; (focus rfl); (focus (intro wg Bg hbg hBg hFg; have hpg := hpS.drew.chg hbg hpM; have cW : _ = some vW := hpg.cell 1; go_simp; (try go_bits); (first | done | exact ⟨rfl, Below.refl _ _⟩ | rfl))); simp only [Act.put, List.setIfInBounds_toArray, List.set_cons_succ, List.set_cons_zero])
  (apply O.wpG_make; (focus rfl); (focus (intro wg Bg hbg hBg hFg; refine goesTo_lit (n := 0) (by go_simp) [] rfl (by decide) (by go_simp; first | done | rfl | exact ⟨rfl, rfl⟩))); intro va; simp only [Act.put, List.setIfInBounds_toArray, List.set_cons_succ, List.set_cons_zero])
  (apply O.wpG_pure; (focus rfl); (focus (intro wg Bg hbg hBg hFg; go_simp; (try go_bits); (first | done | exact ⟨rfl, Below.refl _ _⟩ | rfl))); simp only [Act.put, List.setIfInBounds_toArray, List.set_cons_succ, List.set_cons_zero])
  (apply O.wpG_make; (focus rfl); (focus (intro wg Bg hbg hBg hFg; have hN := hFg 5 (by decide +kernel); refine goesTo_app8w (by go_simp) _ _ rfl st8 (by with_unfolding_all (conv => lhs; whnf)) (id hN).1 (by with_unfolding_all (conv => lhs; whnf)) (Rd.src (ho2S.drew.chg hbg h2M).rd Try.underlying38) (by first | omega | (simp; omega)) (Nat.zero_le _) (fun g hg => ⟨5, by simp, (id hN).2 g hg⟩))); intro vb; simp only [Act.put, List.setIfInBounds_toArray, List.set_cons_succ, List.set_cons_zero])
  apply O.wpG_make; (focus rfl); (focus (intro wg Bg hbg hBg hFg; have hN : new8 5 ([] ++ (l ++ tail5)) vb (Bg 7) wg := hFg 7 (by decide +kernel); have hN' : new8 5 ([] ++ (l ++ tail5)) vb (fun b => ∃ j ∈ [7], Bg j b) wg := ⟨hN.1, fun g hg => ⟨7, by simp, hN.2 g hg⟩⟩; clear hFg hN; obtain ⟨g7, c7, rfl, _, _⟩ := hN'.1.open (by simp [tail5]); exact goesTo_litL (by go_simp) hN' (by go_simp))); intro vc; simp only [Act.put, List.setIfInBounds_toArray, List.set_cons_succ, List.set_cons_zero]
  apply O.wpG_make; (focus rfl); (focus (intro wg Bg hbg hBg hFg; have hN : litL 38 5 ([] ++ (l ++ tail5)) vc (Bg 8) wg := hFg 8 (by decide +kernel); have hO : oldL (p + 1) vW (es.map (·.want)) (Bg 100) wg := hFg 100 (by decide +kernel); exact goesTo_appL (by go_simp) _ _ rfl (by with_unfolding_all (conv => lhs; whnf)) hO.1 (by with_unfolding_all (conv => lhs; whnf)) hN (by rw [List.length_map]; omega) (by have := hbg.size; have := hWb; have e : wS.drew.heap.size = wS.heap.size := rfl; omega) (fun g hg => ⟨100, by simp, hO.2 g hg⟩) (fun g hg => ⟨⟨8, by simp, hg⟩, (hBg.lo 8 g hg).elim id (fun h => absurd (hBg.apart 8 100 g hg (hO.2 g h)) (by decide)), fun h => absurd (hBg.apart 8 100 g hg (hO.2 g h)) (by decide)⟩) hbg.size)); intro vd; simp only [Act.put, List.setIfInBounds_toArray, List.set_cons_succ, List.set_cons_zero]
  (apply O.wpG_pure; (focus rfl); (focus (intro wg Bg hbg hBg hFg; go_simp; (try go_bits); (first | done | exact ⟨rfl, Below.refl _ _⟩ | rfl))); simp only [Act.put, List.setIfInBounds_toArray, List.set_cons_succ, List.set_cons_zero])
  (apply O.wpG_pure; (focus rfl); (focus (intro wg Bg hbg hBg hFg; go_simp; (try go_bits); (first | done | exact ⟨rfl, Below.refl _ _⟩ | rfl))); simp only [Act.put, List.setIfInBounds_toArray, List.set_cons_succ, List.set_cons_zero])
  refine O.wpG_end (fun wg Bg hbg hBg hFg => ?_)
  have hR : rowL (p + 1) wS.heap.size (es.map (·.want)) 5 ([] ++ (l ++ tail5)) vd (Bg 9) wg := hFg 9
  clear hFg
  rw [List.nil_append] at hR
  obtain ⟨x, hr1, hr2, hr3, hr4, hr5⟩ := hR
  obtain ⟨g4, cp4, e4, hg4a, hg4b⟩ := hr1.open (by simp)
  generalize hn4 : (es.map (·.want) ++ [x]).length = n4 at e4
  subst e4
  have hpg := hpS.drew.chg hbg hpM
  have f4 := hpg.frozen 1
  have k4 : _ = some vW := hpg.cell 1
  have ho2g := ho2S.drew.chg hbg h2M
  have hc2 : n2 ≤ cp2 ∧ cp2 ≤ maxLen ∧ 0 < n2 := by
    obtain ⟨A', c', e', q1, q2, _⟩ := ho2g.rd.open
    cases e'
    exact ⟨q1, q2, by simp⟩
  have hn2' : l.length + 5 = n2 := by simpa using hn2
  have q1 : (l.length : Int) ≤ cp2 := by omega
  have q2 : (0 : Int) ≤ l.length := by omega
  have q3 : ¬ (cp2 = 0) := by omega
  have q4 : ¬ (0 = cp2) := by omega
  go_wp2_with (first
    | (with_reducible refine G_len ?_; refine L8_len Try.underlying38 (by with_unfolding_all (conv => lhs; whnf)) (by assumption) ?_))
  go_ret
  have zS : w.heap.size ≤ wS.heap.size := hchS.size
  have zg : wS.heap.size ≤ wg.heap.size := hbg.size
  have zp : p < w.heap.size := hpl
  have g3lt : g3 < wS.heap.size := hFS.lt g3 rfl
  have g2lt : g2 < wS.heap.size := ho2S.lt g2 rfl
  have g2ge : w.heap.size ≤ g2 := ho2S.base_le g2 rfl
  have g3ge : p + 1 ≤ g3 := hFS.base_le g3 rfl
  have hg4 : wS.heap.size ≤ g4 ∨ vW.ownBlock = some g4 := hBg.lo 9 g4 (hr3 g4 rfl)
  have hWlt : ∀ k, vW.ownBlock = some k → p + 1 ≤ k ∧ k < w.heap.size := fun k hk => ⟨hW.base_le k hk, hW.lt k hk⟩
  have hFlt : ∀ k, vF.ownBlock = some k → p + 1 ≤ k ∧ k < w.heap.size := fun k hk => ⟨hF.base_le k hk, hF.lt k hk⟩
  have h3M : ¬ (vW.ownBlock = some g3) := fun e => by
    rcases hg3n.1 with h | h
    · exact hFW g3 h.symm e
    · have := hWlt g3 e; omega
  have hch6 : Chg (fun k => k = p ∨ vF.ownBlock = some k ∨ vW.ownBlock = some k) w (wg.setCell ⟨p, 1, none⟩ (.slice (some ⟨g4, 0, none⟩) n4 cp4)) := by
    refine Chg.chg_trans ?_ (Chg.setCell wg ⟨p, 1, none⟩ (.slice (some ⟨g4, 0, none⟩) n4 cp4)) (fun k hk => .inr (.inl hk))
    have h1 : Chg (fun k => k = p ∨ vF.ownBlock = some k ∨ vW.ownBlock = some k) w wS.drew := (show Chg (fun k => k = p ∨ vF.ownBlock = some k) w wS.drew from ⟨hchS.os, hchS.tape, hchS.output, hchS.size, hchS.block⟩).mono (fun k hk => hk.imp id (fun h => Or.inl h))
    exact Chg.chg_trans h1 hbg (fun k hk => .inr (.inr (.inr hk)))
  have hB6 : Below B w (wg.setCell ⟨p, 1, none⟩ (.slice (some ⟨g4, 0, none⟩) n4 cp4)) := hch6.below (by omega) (fun k hk => by
    rcases hk with rfl | hk | hk
    · exact hBp
    · have := hFlt k hk; omega
    · have := hWlt k hk; omega)
  have set6 : ∀ {base : Nat} {e : TypeId} {u : Value} {m : List UInt8}, Own8 wg base e u m → (∀ g, u.ownBlock = some g → g ≠ p) → Own8 (wg.setCell ⟨p, 1, none⟩ (.slice (some ⟨g4, 0, none⟩) n4 cp4)) base e u m := fun h hne => h.chg (Chg.setCell _ _ _) (fun g hg e => hne g hg e)
  have hold : ∀ e ∈ es, (∀ g, e.full.ownBlock = some g → p + 1 ≤ g ∧ g < w.heap.size) ∧ (∀ g, e.want.ownBlock = some g → p + 1 ≤ g ∧ g < w.heap.size) := fun e he =>
    ⟨fun g hg => ⟨(hes e he).1.1.base_le g hg, (hes e he).1.1.lt g hg⟩, fun g hg => ⟨(hes e he).1.2.1.base_le g hg, (hes e he).1.2.1.lt g hg⟩⟩
  have own2 : Own8 (wg.setCell ⟨p, 1, none⟩ (.slice (some ⟨g4, 0, none⟩) n4 cp4)) (p + 1) 5 (.slice (some ⟨g2, 0, none⟩) n2 cp2) (l ++ tail5) := set6 (ho2g.mono zp) (fun g (hg : some g2 = some g) => by have e : g2 = g := Option.some.inj hg; omega)
  have ap3 : ∀ v' : Value, (∀ g, v'.ownBlock = some g → p + 1 ≤ g ∧ g < w.heap.size) → ap vF v' → ap (.slice (some ⟨g3, 0, none⟩) n3 cp3) v' := fun v' h1 h2 g hg e => by
    cases hg
    rcases hg3n.1 with h | h
    · exact h2 g3 h.symm e
    · have := (h1 g3 e).2; omega
  have ap4 : ∀ v' : Value, (∀ g, v'.ownBlock = some g → p + 1 ≤ g ∧ g < w.heap.size) → ap vW v' → ap (.slice (some ⟨g4, 0, none⟩) n4 cp4) v' := fun v' h1 h2 g hg e => by
    cases hg
    rcases hg4 with h | h
    · have := (h1 g4 e).2; omega
    · exact h2 g4 h e
  have zw : ∀ g, g < wg.heap.size → g < (wg.setCell ⟨p, 1, none⟩ (.slice (some ⟨g4, 0, none⟩) n4 cp4)).heap.size := fun g hg => Nat.lt_of_lt_of_le hg (Chg.setCell _ _ _).size
  have xlt : ∀ g, x.ownBlock = some g → g < wg.heap.size := fun g hg => hr2.1.lt g hg
  have g4lt : g4 < wg.heap.size := hr1.lt g4 rfl
  refine ⟨⟨.slice (some ⟨g2, 0, none⟩) n2 cp2, x, .slice (some ⟨g2, 0, none⟩) l.length cp2, l⟩, fun k => S k ∨ (w.heap.size ≤ k ∧ k < (wg.setCell ⟨p, 1, none⟩ (.slice (some ⟨g4, 0, none⟩) n4 cp4)).heap.size), rfl, rfl, ⟨.slice (some ⟨g3, 0, none⟩) n3 cp3, .slice (some ⟨g4, 0, none⟩) n4 cp4, hBp, hpg.stored 1 _, ?_, ?_, ?_, ?_, ?_, ?_, .inl hSp, ?_, ?_, ?_, ?_⟩, fun k hk => hk.imp id (fun h => h.1), hch6.mono ?_, hB6⟩
  · rw [List.map_append]
    have h7 : OwnV wg _ _ _ := OwnV.chg (w := wS.drew) hFS hbg (fun g hg hm => by cases hg; exact h3M hm)
    refine h7.chg (Chg.setCell _ _ _) (fun g hg e => ?_)
    cases hg; have : g3 = p := e; omega
  · rw [List.map_append]
    refine hr1.chg (Chg.setCell _ _ _) (fun g hg e => ?_)
    cases hg
    have : g4 = p := e
    rcases hg4 with h | h
    · omega
    · have := hWlt g4 h; omega
  · intro g hg e
    cases hg
    cases e
    rcases hg4 with h | h
    · omega
    · exact h3M h
  · intro e he
    rcases List.mem_append.1 he with he | he
    · obtain ⟨k1, k2, k3, k4, k5⟩ := hes e he
      refine ⟨k1.chg hch6 (fun g hg hm => ?_) (fun g hg hm => ?_), ap3 _ (hold e he).1 k2, ap3 _ (hold e he).2 k3, ap4 _ (hold e he).1 k4, ap4 _ (hold e he).2 k5⟩
      · rcases hm with rfl | hm | hm
        · have := (hold e he).1 _ hg; omega
        · exact k2 g hm hg
        · exact k4 g hm hg
      · rcases hm with rfl | hm | hm
        · have := (hold e he).2 _ hg; omega
        · exact k3 g hm hg
        · exact k5 g hm hg
    · rcases List.mem_singleton.1 he with rfl
      refine ⟨⟨own2, ?_, ?_, rfl, hl⟩, ?_, ?_, ?_, hr4⟩
      · exact set6 (hr2.1.rebase (fun g hg => by have := hr5 g hg; omega)) (fun g hg e => by have := hr5 g hg; omega)
      · have h7 : Rd _ _ _ := own2.rd
        have hn3' : n2 = (l ++ tail5).length := by simp; omega
        rw [hn3'] at h7
        have h8 := Rd.take h7 l.length (by simp)
        rwa [List.take_left' rfl] at h8
      · intro g hg e; cases hg; cases e; exact hg3n.2 rfl
      · intro g hg e; cases hg; have := hr5 g3 e; omega
      · intro g hg e; cases hg; cases e
        rcases hg4 with h | h
        · omega
        · have := hWlt g2 h; omega
  · rw [List.pairwise_append]
    refine ⟨hff, by simp, fun a ha b hb => ?_⟩
    rcases List.mem_singleton.1 hb with rfl
    intro g hg e
    cases e
    have := (hold a ha).1 g2 hg; omega
  · intro a ha b hb g hg e
    rcases List.mem_append.1 ha with ha | ha
    · rcases List.mem_append.1 hb with hb | hb
      · exact hfw a ha b hb g hg e
      · rcases List.mem_singleton.1 hb with rfl
        have := (hold a ha).1 _ hg; have := hr5 _ e; omega
    · rcases List.mem_singleton.1 ha with rfl
      cases hg
      rcases List.mem_append.1 hb with hb | hb
      · have := (hold b hb).2 g2 e; omega
      · rcases List.mem_singleton.1 hb with rfl
        have := hr5 g2 e; omega
  · intro g hg
    cases hg
    rcases hg3n.1 with h | h
    · exact .inl (hSF g3 h.symm)
    · exact .inr ⟨h, zw g3 (by omega)⟩
  · intro g hg
    cases hg
    rcases hg4 with h | h
    · exact .inr ⟨Nat.le_trans zS h, zw g4 g4lt⟩
    · exact .inl (hSW g4 h)
  · intro e he
    rcases List.mem_append.1 he with he | he
    · exact ⟨(hSe e he).1.mono (fun k hk => .inl hk), (hSe e he).2.mono (fun k hk => .inl hk)⟩
    · rcases List.mem_singleton.1 he with rfl
      refine ⟨fun g hg => ?_, fun g hg => ?_⟩
      · cases hg; exact .inr ⟨g2ge, zw g2 (by omega)⟩
      · exact .inr ⟨by have := hr5 g hg; omega, zw g (xlt g hg)⟩
  · intro k hk
    rcases hk with hk | hk
    · have := hSl k hk; exact zw k (by omega)
    · exact hk.2
  · intro k hk
    rcases hk with rfl | hk | hk
    · exact hSp
    · exact hSF k hk
    · exact hSW k hk
end Go.Proofs.Ytfnlcnjflloecaa
/-! ### GrowP -/
set_option linter.unusedVariables false
set_option linter.unusedSimpArgs false
namespace Go.Proofs.Ytfnlcnjflloecaa
open Go.RowKit
namespace O
def dpOf2 (l : List Oper) (is : List Nat) (v0 : Nat) (i : Nat) : List Nat := if is.contains i then v0 :: depOf l i else depOf l i
/-- As region_making; the operations `is` may look at the old blocks M0, of which S0 stands till one of them turns these. -/
theorem region_making2 {P : Program} {id : Nat} {l : List Oper} {Q' : Exit → Act → World → Prop} {a : Act} {w : World} (n : Nat) (cons : Nat → List Nat) (sg : Nat → Option ((Tmp → Value) → GSpec)) (is : List Nat) (v0 : Nat) (M0 : Nat → Prop) (S0 : (Nat → Prop) → World → Prop) (hm : P.follows .mixedOrders = true)
    (hB : growB l.toArray (depOf l) (dpOf2 l is v0) cons n = true) (hst : ∀ i S, sg i = some S → ∀ e v, Loc M0 w.drew (S e v))
    (hSL : Loc M0 w.drew S0) (hS0 : S0 M0 w.drew) (hM0 : ∀ k, M0 k → k < w.heap.size)
    (h : wpG P l.toArray M0 w.drew (dpOf2 l is v0) cons (fun a' w' => wpList P l.toArray Q' (l.drop n) a' w') (gitems sg (l.take n) 0) (fun j B w => if j = v0 then S0 B w else True) a) : (Code.region id l.toArray true).wp P Q' a w :=
  region_grow n (depOf l) (dpOf2 l is v0) cons sg v0 M0 S0 hm hB hst hSL hS0 hM0 h
end O
/-- The block p holds these cells. -/
def oneB (p : Nat) (T : TypeId) (cs : List Value) : GSpec := fun _ B w => Blk w p T cs ∧ B p
theorem oneB_loc (M0 : Nat → Prop) (w0 : World) (p : Nat) (T : TypeId) (cs : List Value) (u : Value) : O.Loc M0 w0 (oneB p T cs u) := by
  intro B w w' ⟨h1, h3⟩ hs hk
  exact ⟨by unfold Blk; rw [hk p h1.lt (.inr h3)]; exact h1, h3⟩
/-- A store of one cell into it. -/
theorem goesTo_oneB {P : Program} {ops : Array Oper} {w : World} {a : Act} {o : Oper} {p j x y : Nat} {T E : TypeId} {M N : Nat → Prop} {cs cs' : List Value} {u v : Value} (hS : oneB p T cs u M w) (hw : Region.wanted o (yielded ops a.tmps) = true) (ho : o.op = .store E (.tmp x) (.tmp y))
    (hx : a.eval (.tmp x) = .pointer (some ⟨p, j, none⟩)) (hy : a.eval (.tmp y) = v) (hr : (Instr.storeAt E (.pointer (some ⟨p, j, none⟩)) v).run P w = .ok () (w.setCell ⟨p, j, none⟩ v)) (hcs : cs' = cs.set j v) (hM : ∀ k, M k → N k) :
    GoesTo P ops o a w fun u' w' => Chg N w w' ∧ oneB p T cs' u' (fun b => N b ∨ (w.heap.size ≤ b ∧ b < w'.heap.size)) w' := by
  subst hcs
  obtain ⟨k1, k3⟩ := hS
  have hs := k1.stored j v
  unfold GoesTo
  rw [if_pos hw]
  simp only [execOp, ho, hx, hy]
  simp [hr]
  exact ⟨(Chg.setCell w ⟨p, j, none⟩ _).mono (fun k hk => by cases hk; exact hM _ k3), hs, .inl (hM _ k3)⟩
theorem rd_head {w : World} {b o n c : Nat} {x : UInt8} {l : List UInt8} (h : Rd w (.slice (some ⟨b, o, none⟩) n c) (x :: l)) : w.cell? ⟨b, o, none⟩ = some (.int .u8 (x.toNat : Int)) := by
  obtain ⟨A, c', e, h1, h2, h3⟩ := h.open
  cases e
  obtain ⟨b', o', e', hc⟩ := h3 (by simp)
  cases e'
  exact hc 0 (by simp)
end Go.Proofs.Ytfnlcnjflloecaa
