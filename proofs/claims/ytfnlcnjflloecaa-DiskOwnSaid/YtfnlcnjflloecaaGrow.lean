/- A rule for a region that draws its order and whose operations read, call, and make memory: it is walked once, in the order of the text; behind the head a forced tail. What a making operation answers is told by a predicate that stands when memory grows. -/
import Derived.Test.YtfnlcnjflloecaaBase
set_option linter.unusedVariables false
set_option linter.unusedSimpArgs false
namespace Go.Proofs.Ytfnlcnjflloecaa
open Go.RowKit

/-- What one operation of the head makes: told of its value, of the blocks that are its own, of the world. -/
abbrev GSpec := Value → (Nat → Prop) → World → Prop
structure GItem where
  i : Nat
  o : Oper
  s : Option ((Tmp → Value) → GSpec)

/-- Between w and w' blocks of M may turn, and new ones come. -/
structure Chg (M : Nat → Prop) (w w' : World) : Prop where
  os : w'.os = w.os
  tape : w'.tape = w.tape
  output : w'.output = w.output
  size : w.heap.size ≤ w'.heap.size
  block : ∀ k, k < w.heap.size → ¬ M k → w'.heap[k]? = w.heap[k]?
theorem Chg.of_below {M : Nat → Prop} {w w' : World} (h : Below w.heap.size w w') : Chg M w w' := ⟨h.os, h.tape, h.output, h.size, fun k hk _ => h.block k hk⟩
theorem Chg.below {M : Nat → Prop} {B : Nat} {w w' : World} (h : Chg M w w') (hB : B ≤ w.heap.size) (hm : ∀ k, M k → B ≤ k) : Below B w w' :=
  ⟨h.os, h.tape, h.output, h.size, fun k hk => h.block k (by omega) fun hmk => by have := hm k hmk; omega⟩
theorem Chg.grown {M : Nat → Prop} {w w' : World} {row : Option Nat} (h : w.grownBy w' row) (hr : ∀ k, row = some k → M k) : Chg M w w' :=
  ⟨h.os, h.tape, h.output, h.size, fun k hk hm => h.block k hk (fun e => hm (hr k e.symm))⟩

/-- Whose block is whose, of those that have come since w0. -/
structure BOk (w0 w : World) (B : Nat → Nat → Prop) : Prop where
  lo : ∀ j k, B j k → w0.heap.size ≤ k
  hi : ∀ j k, B j k → k < w.heap.size
  apart : ∀ i j k, B i k → B j k → i = j

section
variable (P : Program) (ops : Array Oper) (w0 : World) (dep cons : Nat → List Nat)

/-- One operation at (a, w): its value and the world behind it. -/
def GoesTo (o : Oper) (a : Act) (w : World) (R : Value → World → Prop) : Prop :=
  if Region.wanted o (yielded ops a.tmps) then
    match (execOp a.eval o).run P w with
    | .ok (.value v) w' => R v w'
    | .ok .skip w' => R undef w'
    | .ok (.enter f args) w' => Calls P f args w' fun e w'' => ∃ v, e = .returned v ∧ R v w''
    | _ => False
  else R undef w

/-- One operation that calls nothing: its one value; memory at most grows. -/
def PureTo (o : Oper) (a : Act) (w : World) (v : Value) : Prop :=
  if Region.wanted o (yielded ops a.tmps) then
    match (execOp a.eval o).run P w with
    | .ok (.value u) w' => u = v ∧ Below w.heap.size w w'
    | .ok .skip w' => undef = v ∧ Below w.heap.size w w'
    | .ok (.enter f args) w' => P.inits.idxOf? f = none ∧ Calls P f args w' fun
      | .returned u, w'' => u = v ∧ Below w.heap.size w w''
      | _, _ => False
    | _ => False
  else undef = v

/-- The facts behind operation i. -/
def FPut (F : Nat → (Nat → Prop) → World → Prop) (i : Nat) (S : (Nat → Prop) → World → Prop) : Nat → (Nat → Prop) → World → Prop :=
  fun j B w => if j = i then S B w else if j ∈ cons i then True else F j B w

/-- What an operation can see of the frame. -/
def look (o : Oper) (a : Act) (t : Tmp) : Value := if (o.looksAt ops).contains t then a.eval (.tmp t) else undef

def wpG (Q : Act → World → Prop) : List GItem → (Nat → (Nat → Prop) → World → Prop) → Act → Prop
  | [], F, a => ∀ w B, Below w0.heap.size w0 w → BOk w0 w B → (∀ j, F j (B j) w) → Q a w
  | it :: rest, F, a => match it.s with
    | none => ∃ v, (∀ w B, Below w0.heap.size w0 w → BOk w0 w B → (∀ j ∈ dep it.i, F j (B j) w) → PureTo P ops it.o a w v) ∧ wpG Q rest F (a.put it.o.dst v)
    | some S => (∀ w B, Below w0.heap.size w0 w → BOk w0 w B → (∀ j ∈ dep it.i, F j (B j) w) →
          GoesTo P ops it.o a w fun v w' => Chg (fun k => ∃ j ∈ cons it.i, B j k) w w' ∧ S (look ops it.o a) v (fun k => (∃ j ∈ cons it.i, B j k) ∨ (w.heap.size ≤ k ∧ k < w'.heap.size)) w') ∧
        ∀ v, wpG Q rest (FPut cons F it.i (S (look ops it.o a) v)) (a.put it.o.dst v)
end

section
variable {P : Program} {ops : Array Oper} {w0 : World} {dep cons : Nat → List Nat} {Q : Act → World → Prop}

theorem Calls.same {f : FuncId} {args : Array Value} {w : World} {R R' : Value → World → Prop}
    (h : Calls P f args w fun | .returned v, w' => R v w' | _, _ => False) (h' : Calls P f args w fun | .returned v, w' => R' v w' | _, _ => False) (hi : P.inits.idxOf? f = none) :
    ∃ v w', R v w' ∧ R' v w' := by
  obtain ⟨n, v, w1, e1, r1⟩ := h.done hi
  obtain ⟨m, v', w2, e2, r2⟩ := h'.done hi
  have a := runN_ended e1 m
  have b := runN_ended e2 n
  rw [Nat.add_comm, a] at b
  injection b with ho hw
  injection ho with hv
  subst hv hw
  exact ⟨_, _, r1, r2⟩
theorem PureTo.unique {o : Oper} {a : Act} {w : World} {u v : Value} (h : PureTo P ops o a w u) (k : PureTo P ops o a w v) : u = v := by
  unfold PureTo at h k
  split at h
  · rename_i hw
    rw [if_pos hw] at k
    split at h
    · rename_i hr; rw [hr] at k; exact h.1.symm.trans k.1
    · rename_i hr; rw [hr] at k; exact h.1.symm.trans k.1
    · rename_i hr
      rw [hr] at k
      obtain ⟨v', w', r1, r2⟩ := Calls.same (R := fun x w'' => x = u ∧ Below w.heap.size w w'') (R' := fun x w'' => x = v ∧ Below w.heap.size w w'') h.2 k.2 h.1
      exact r1.1.symm.trans r2.1
    · cases h
  · rename_i hw
    rw [if_neg hw] at k
    exact h.symm.trans k

theorem GoesTo.same {o : Oper} {a a' : Act} {w : World} {R : Value → World → Prop} (he : execOp a'.eval o = execOp a.eval o)
    (hw : Region.wanted o (yielded ops a'.tmps) = Region.wanted o (yielded ops a.tmps)) : GoesTo P ops o a' w R ↔ GoesTo P ops o a w R := by
  unfold GoesTo
  rw [he, hw]
theorem PureTo.same {o : Oper} {a a' : Act} {w : World} {v : Value} (he : execOp a'.eval o = execOp a.eval o)
    (hw : Region.wanted o (yielded ops a'.tmps) = Region.wanted o (yielded ops a.tmps)) : PureTo P ops o a' w v ↔ PureTo P ops o a w v := by
  unfold PureTo
  rw [he, hw]

theorem look_put (o : Oper) (a : Act) (dst : Option Tmp) (v : Value) (h : ∀ d, dst = some d → d ∉ o.looksAt ops) : look ops o (a.put dst v) = look ops o a := by
  funext t
  unfold look
  split
  · rename_i ht
    exact Act.eval_put fun d hd hxd => h d hd (by cases hxd; simpa using ht)
  · rfl
theorem look_eq {o : Oper} {a : Act} {t : Tmp} (h : (o.looksAt ops).contains t = true) : look ops o a t = a.eval (.tmp t) := if_pos h

theorem wpG_exchange (hsel : ∀ (o : Oper), o ∈ ops → ∀ cs b, o.op ≠ .select cs b) (it : GItem) (post : List GItem) (hio : it.o ∈ ops) (hci : ∀ j ∈ cons it.i, j ∈ dep it.i) :
    ∀ (pre : List GItem) (F : Nat → (Nat → Prop) → World → Prop) (a : Act),
      (∀ p ∈ pre, p.o ∈ ops ∧ p.o.apart ops it.o = true ∧ p.i ∉ dep it.i ∧ it.i ∉ dep p.i ∧ p.i ≠ it.i ∧ (∀ j ∈ cons it.i, j ∉ dep p.i) ∧ (∀ j ∈ cons p.i, j ∉ dep it.i) ∧ (∀ j ∈ cons p.i, j ∈ dep p.i)) →
      wpG P ops w0 dep cons Q (pre ++ it :: post) F a →
      match it.s with
      | none => ∀ w B, Below w0.heap.size w0 w → BOk w0 w B → (∀ j ∈ dep it.i, F j (B j) w) → ∃ v, PureTo P ops it.o a w v ∧ wpG P ops w0 dep cons Q (pre ++ post) F (a.put it.o.dst v)
      | some S => (∀ w B, Below w0.heap.size w0 w → BOk w0 w B → (∀ j ∈ dep it.i, F j (B j) w) →
            GoesTo P ops it.o a w fun v w' => Chg (fun k => ∃ j ∈ cons it.i, B j k) w w' ∧ S (look ops it.o a) v (fun k => (∃ j ∈ cons it.i, B j k) ∨ (w.heap.size ≤ k ∧ k < w'.heap.size)) w') ∧
          ∀ v, wpG P ops w0 dep cons Q (pre ++ post) (FPut cons F it.i (S (look ops it.o a) v)) (a.put it.o.dst v) := by
  intro pre
  induction pre with
  | nil =>
    intro F a _ h
    simp only [List.nil_append] at h ⊢
    unfold wpG at h
    cases hs : it.s with
    | none =>
      simp only [hs] at h ⊢
      obtain ⟨v, h1, h2⟩ := h
      exact fun w B hb hB hd => ⟨v, h1 w B hb hB hd, h2⟩
    | some S => simp only [hs] at h ⊢; exact h
  | cons p pre ih =>
    intro F a hp h
    obtain ⟨hpo, hap, hd1, hd2, hne, hc1, hc2, hc3⟩ := hp p (by simp)
    have hp' : ∀ q ∈ pre, q.o ∈ ops ∧ q.o.apart ops it.o = true ∧ q.i ∉ dep it.i ∧ it.i ∉ dep q.i ∧ q.i ≠ it.i ∧ (∀ j ∈ cons it.i, j ∉ dep q.i) ∧ (∀ j ∈ cons q.i, j ∉ dep it.i) ∧ (∀ j ∈ cons q.i, j ∈ dep q.i) := fun q hq => hp q (by simp [hq])
    obtain ⟨a1, a2, a3⟩ := Oper.apart_spec hap
    have itP : ∀ (a : Act) (u : Value) (w : World) (v : Value), PureTo P ops it.o (a.put p.o.dst u) w v ↔ PureTo P ops it.o a w v := fun a u w v =>
      PureTo.same (execOp_put it.o (fun cs b => hsel it.o hio cs b) a p.o.dst u a1) (wanted_put it.o a p.o.dst u a1)
    have itG : ∀ (a : Act) (u : Value) (w : World) (R : Value → World → Prop), GoesTo P ops it.o (a.put p.o.dst u) w R ↔ GoesTo P ops it.o a w R := fun a u w R =>
      GoesTo.same (execOp_put it.o (fun cs b => hsel it.o hio cs b) a p.o.dst u a1) (wanted_put it.o a p.o.dst u a1)
    have pP : ∀ (a : Act) (u : Value) (w : World) (v : Value), PureTo P ops p.o (a.put it.o.dst u) w v ↔ PureTo P ops p.o a w v := fun a u w v =>
      PureTo.same (execOp_put p.o (fun cs b => hsel p.o hpo cs b) a it.o.dst u a3) (wanted_put p.o a it.o.dst u a3)
    have pG : ∀ (a : Act) (u : Value) (w : World) (R : Value → World → Prop), GoesTo P ops p.o (a.put it.o.dst u) w R ↔ GoesTo P ops p.o a w R := fun a u w R =>
      GoesTo.same (execOp_put p.o (fun cs b => hsel p.o hpo cs b) a it.o.dst u a3) (wanted_put p.o a it.o.dst u a3)
    have itL : ∀ (a : Act) (u : Value), look ops it.o (a.put p.o.dst u) = look ops it.o a := fun a u => look_put it.o a p.o.dst u a1
    have pL : ∀ (a : Act) (u : Value), look ops p.o (a.put it.o.dst u) = look ops p.o a := fun a u => look_put p.o a it.o.dst u a3
    have comm : ∀ (a : Act) (u v : Value), (a.put p.o.dst u).put it.o.dst v = (a.put it.o.dst v).put p.o.dst u := fun a u v => Act.put_comm a u v a2
    -- what the other one's turn leaves of the facts that are asked for
    have FIt : ∀ (S : (Nat → Prop) → World → Prop) (j : Nat), j ∈ dep p.i → FPut cons F it.i S j = F j := fun S j hj => by
      funext B w
      unfold FPut
      rw [if_neg (fun e => hd2 (by rw [← e]; exact hj)), if_neg (fun hm => hc1 j hm hj)]
    have FP : ∀ (S : (Nat → Prop) → World → Prop) (j : Nat), j ∈ dep it.i → FPut cons F p.i S j = F j := fun S j hj => by
      funext B w
      unfold FPut
      rw [if_neg (fun e => hd1 (by rw [← e]; exact hj)), if_neg (fun hm => hc2 j hm hj)]
    rw [List.cons_append] at h
    unfold wpG at h
    cases hps : p.s with
    | none =>
      simp only [hps] at h
      obtain ⟨vp, h1, h2⟩ := h
      have IH := ih F (a.put p.o.dst vp) hp' h2
      cases hs : it.s with
      | none =>
        simp only [hs] at IH ⊢
        intro w B hb hB hd
        obtain ⟨v, hv, hw⟩ := IH w B hb hB hd
        refine ⟨v, (itP ..).1 hv, ?_⟩
        rw [List.cons_append]
        unfold wpG
        simp only [hps]
        exact ⟨vp, fun w B hb hB hd => (pP ..).2 (h1 w B hb hB hd), by rw [← comm]; exact hw⟩
      | some S =>
        simp only [hs, itL] at IH ⊢
        refine ⟨fun w B hb hB hd => (itG ..).1 (IH.1 w B hb hB hd), fun v => ?_⟩
        rw [List.cons_append]
        unfold wpG
        simp only [hps]
        exact ⟨vp, fun w B hb hB hd => (pP ..).2 (h1 w B hb hB fun j hj => by have := hd j hj; rwa [FIt _ j hj] at this), by rw [← comm]; exact IH.2 v⟩
    | some Sp =>
      simp only [hps] at h
      obtain ⟨h1, h2⟩ := h
      have IH := fun u => ih (FPut cons F p.i (Sp (look ops p.o a) u)) (a.put p.o.dst u) hp' (h2 u)
      have hdF : ∀ u w (B : Nat → Nat → Prop), (∀ j ∈ dep it.i, F j (B j) w) → ∀ j ∈ dep it.i, FPut cons F p.i (Sp (look ops p.o a) u) j (B j) w := fun u w B hd j hj => by
        rw [FP _ j hj]; exact hd j hj
      cases hs : it.s with
      | none =>
        simp only [hs] at IH ⊢
        intro w B hb hB hd
        obtain ⟨v, hv, _⟩ := IH undef w B hb hB (hdF _ w B hd)
        have hv' := (itP ..).1 hv
        refine ⟨v, hv', ?_⟩
        rw [List.cons_append]
        unfold wpG
        simp only [hps, pL]
        refine ⟨fun w B hb hB hd => (pG ..).2 (h1 w B hb hB hd), fun u => ?_⟩
        obtain ⟨v2, hv2, hw2⟩ := IH u w B hb hB (hdF _ w B hd)
        obtain rfl := PureTo.unique hv' ((itP ..).1 hv2)
        rw [← comm]; exact hw2
      | some S =>
        simp only [hs, itL] at IH ⊢
        refine ⟨fun w B hb hB hd => (itG ..).1 ((IH undef).1 w B hb hB (hdF _ w B hd)), fun v => ?_⟩
        rw [List.cons_append]
        unfold wpG
        simp only [hps, pL]
        refine ⟨fun w B hb hB hd => (pG ..).2 (h1 w B hb hB fun j hj => by have := hd j hj; rwa [FIt _ j hj] at this), fun u => ?_⟩
        have := (IH u).2 v
        rw [← comm]
        have e : FPut cons (FPut cons F it.i (S (look ops it.o a) v)) p.i (Sp (look ops p.o a) u) = FPut cons (FPut cons F p.i (Sp (look ops p.o a) u)) it.i (S (look ops it.o a) v) := by
          funext j B w
          unfold FPut
          by_cases e1 : j = p.i
          · subst e1; rw [if_pos rfl, if_neg hne, if_neg (fun hm => hd1 (hci _ hm)), if_pos rfl]
          · by_cases e2 : j = it.i
            · subst e2; rw [if_neg e1, if_neg (fun hm => hd2 (hc3 _ hm)), if_pos rfl, if_pos rfl]
            · simp only [if_neg e1, if_neg e2]
              by_cases m1 : j ∈ cons p.i <;> by_cases m2 : j ∈ cons it.i <;> simp [m1, m2]
        rw [e]; exact this

/-- The facts that the rule asks of the region's edges, reckoned: the head's edges lead back; 'dep' is closed; two operations of the head of which neither waits for the other keep apart. -/
def growB (ops : Array Oper) (dep cons : Nat → List Nat) (n : Nat) : Bool :=
  Region.noSelect ops && decide (n ≤ ops.size) &&
  (decide (n = ops.size) || (Region.sinkB .any ops n && Region.chainB .any ops n && Region.seqB .any ops (ops.size - n) n ((Array.replicate n true) ++ (Array.replicate (ops.size - n) false)))) &&
  (List.range n).all fun i => match ops[i]? with
    | none => false
    | some o =>
      (o.after.all fun e => !Region.binds .any e || decide (e.on < i)) &&
      ((dep i).all fun j => decide (j < i) && o.after.any fun e => Region.binds .any e && (e.on == j || (dep e.on).contains j)) &&
      ((List.range i).all fun j => (dep i).contains j || match ops[j]? with
        | none => false
        | some q => q.apart ops o) &&
      ((cons i).all fun c => (dep i).contains c) &&
      (List.range n).all fun m => m == i || (dep i).contains m || (dep m).contains i || (cons i).all fun c => !(dep m).contains c

structure GrowOk (ops : Array Oper) (dep cons : Nat → List Nat) (n : Nat) : Prop where
  sel : ∀ (o : Oper), o ∈ ops → ∀ cs b, o.op ≠ .select cs b
  le : n ≤ ops.size
  tail : n < ops.size → Region.sinkB .any ops n = true ∧ Region.chainB .any ops n = true ∧ Region.seqB .any ops (ops.size - n) n ((Array.replicate n true) ++ (Array.replicate (ops.size - n) false)) = true
  back : ∀ i o, i < n → ops[i]? = some o → ∀ e ∈ o.after, Region.binds .any e = true → e.on < i
  depLt : ∀ i, i < n → ∀ j ∈ dep i, j < i
  depOn : ∀ i o, i < n → ops[i]? = some o → ∀ j ∈ dep i, ∃ e ∈ o.after, Region.binds .any e = true ∧ (e.on = j ∨ j ∈ dep e.on)
  apart : ∀ i j oi oj, j < i → i < n → ops[i]? = some oi → ops[j]? = some oj → j ∉ dep i → oj.apart ops oi = true
  consDep : ∀ i, i < n → ∀ c ∈ cons i, c ∈ dep i
  consOne : ∀ i m, i < n → m < n → m ≠ i → m ∉ dep i → i ∉ dep m → ∀ c ∈ cons i, c ∉ dep m

theorem growB_spec {n : Nat} (h : growB ops dep cons n = true) : GrowOk ops dep cons n := by
  unfold growB at h
  simp only [Bool.and_eq_true, Bool.or_eq_true, decide_eq_true_eq, List.all_eq_true, List.mem_range] at h
  obtain ⟨⟨⟨hs, hn⟩, ht⟩, hall⟩ := h
  have key : ∀ i o, i < n → ops[i]? = some o → (∀ e ∈ o.after, Region.binds .any e = true → e.on < i) ∧
      (∀ j ∈ dep i, j < i ∧ ∃ e ∈ o.after, Region.binds .any e = true ∧ (e.on = j ∨ j ∈ dep e.on)) ∧
      (∀ j, j < i → j ∈ dep i ∨ ∃ q, ops[j]? = some q ∧ q.apart ops o = true) ∧ (∀ c ∈ cons i, c ∈ dep i) ∧
      ∀ m, m < n → ((m = i ∨ m ∈ dep i) ∨ i ∈ dep m) ∨ ∀ c ∈ cons i, c ∉ dep m := by
    intro i o hi ho
    have := hall i hi
    rw [ho] at this
    simp only [Bool.and_eq_true, Bool.or_eq_true, List.all_eq_true, List.mem_range, decide_eq_true_eq, List.contains_iff_mem, beq_iff_eq, Bool.not_eq_true', List.contains_eq_mem, decide_eq_false_iff_not] at this
    obtain ⟨⟨⟨⟨h1, h2⟩, h3⟩, h4⟩, h5⟩ := this
    refine ⟨fun e he hb => ?_, fun j hj => ?_, fun j hj => ?_, h4, h5⟩
    · have h1' := Array.all_eq_true'.1 h1 e he
      simp only [Bool.or_eq_true, Bool.not_eq_true', decide_eq_true_eq] at h1'
      rcases h1' with h | h
      · rw [hb] at h; cases h
      · exact h
    · obtain ⟨k1, k2⟩ := h2 j hj
      obtain ⟨e, he, k3⟩ := Array.any_eq_true'.1 k2
      simp only [Bool.and_eq_true, Bool.or_eq_true, beq_iff_eq, List.contains_iff_mem] at k3
      exact ⟨k1, e, he, k3.1, by simpa using k3.2⟩
    · rcases h3 j hj with h | h
      · exact .inl h
      · cases hq : ops[j]? with
        | none => rw [hq] at h; cases h
        | some q => rw [hq] at h; exact .inr ⟨q, rfl, h⟩
  have some_of : ∀ i, i < n → ∃ o, ops[i]? = some o := fun i hi => ⟨ops[i]'(by omega), Array.getElem?_eq_getElem (by omega)⟩
  refine ⟨fun o ho cs b => ?_, hn, fun hlt => ?_, fun i o hi ho => (key i o hi ho).1, fun i hi j hj => ?_, fun i o hi ho j hj => ((key i o hi ho).2.1 j hj).2, fun i j oi oj hji hi hoi hoj hnd => ?_, fun i hi => ?_, fun i m hi hm hne h1 h2 => ?_⟩
  · obtain ⟨k, hk, rfl⟩ := Array.mem_iff_getElem.1 ho
    exact Region.noSelect_spec hs k _ cs b (Array.getElem?_eq_getElem hk)
  · rcases ht with h | h
    · omega
    · exact ⟨h.1.1, h.1.2, h.2⟩
  · obtain ⟨o, ho⟩ := some_of i hi
    exact ((key i o hi ho).2.1 j hj).1
  · rcases (key i oi hi hoi).2.2.1 j hji with h | ⟨q, hq, hqa⟩
    · exact absurd h hnd
    · rw [hoj] at hq; cases hq; exact hqa
  · obtain ⟨o, ho⟩ := some_of i hi
    exact (key i o hi ho).2.2.2.1
  · obtain ⟨o, ho⟩ := some_of i hi
    rcases (key i o hi ho).2.2.2.2 m hm with ((h | h) | h) | h
    · exact absurd h hne
    · exact absurd h h1
    · exact absurd h h2
    · exact h

/-- What is listed is closed under 'dep'. -/
theorem dep_listed {n : Nat} (G : GrowOk ops dep cons n) {listed : Array Bool} (inv : HeadInv .any ops n listed) :
    ∀ (i : Nat) (o : Oper), i < n → ops[i]? = some o → (∀ e ∈ o.after, Region.binds .any e = true → listed.getD e.on false = true) → ∀ j ∈ dep i, listed.getD j false = true := by
  intro i
  induction i using Nat.strongRecOn with
  | _ i ih =>
    intro o hi ho hl j hj
    obtain ⟨e, he, hb, h⟩ := G.depOn i o hi ho j hj
    have hlt := G.back i o hi ho e he hb
    have hle := hl e he hb
    rcases h with rfl | h
    · exact hle
    · have hsz := G.le
      have hoe : ops[e.on]? = some (ops[e.on]'(by omega)) := Array.getElem?_eq_getElem (by omega)
      exact ih e.on hlt _ (by omega) hoe (fun e' he' hb' => inv.closed e.on _ hoe hle e' he' hb') j h

/-- It hangs on the old blocks and on its own, and on nothing else. -/
def Loc (w0 : World) (S : (Nat → Prop) → World → Prop) : Prop :=
  ∀ B w w', S B w → w.heap.size ≤ w'.heap.size → (∀ k, k < w.heap.size → k < w0.heap.size ∨ B k → w'.heap[k]? = w.heap[k]?) → S B w'

theorem wpAny_grow {n g : Nat} (G : GrowOk ops dep cons n) {Q' : Exit → Act → World → Prop}
    (htail : ∀ listed a w, HeadInv .any ops n listed → (∀ j, j < n → listed.getD j false = true) → Q a w → wpAny P .any ops Q' g listed a w) :
    ∀ (m : Nat) (items : List GItem) (F : Nat → (Nat → Prop) → World → Prop) (B : Nat → Nat → Prop) (listed : Array Bool) (a : Act) (w : World), items.length = m →
      (items.map (·.i)).Pairwise (· < ·) → (∀ it ∈ items, ops[it.i]? = some it.o ∧ it.i < n) →
      (∀ it ∈ items, ∀ S, it.s = some S → ∀ e v, Loc w0 (S e v)) →
      HeadInv .any ops n listed → (∀ j, j < n → (listed.getD j false = false ↔ j ∈ items.map (·.i))) →
      (∀ j, Loc w0 (F j)) → (∀ j, F j (B j) w) → BOk w0 w B → Below w0.heap.size w0 w →
      wpG P ops w0 dep cons Q items F a → wpAny P .any ops Q' (m + g) listed a w := by
  intro m
  induction m with
  | zero =>
    intro items F B listed a w hm _ _ _ inv hl _ hF hB hb h
    obtain rfl : items = [] := List.eq_nil_of_length_eq_zero hm
    rw [Nat.zero_add]
    refine htail listed a w inv (fun j hj => ?_) (h w B hb hB hF)
    cases hc : listed.getD j false with
    | true => rfl
    | false => have := (hl j hj).1 hc; cases this
  | succ m ih =>
    intro items F B listed a w hm hsort hit hst inv hl hFs hF hB hb h
    rw [show m + 1 + g = (m + g) + 1 by omega]
    have hlist : ∀ j, j < n → j ∉ items.map (·.i) → listed.getD j false = true := fun j hj hn => by
      cases hc : listed.getD j false with
      | true => rfl
      | false => exact absurd ((hl j hj).1 hc) hn
    refine ⟨fun hnil => ?_, fun i hi => ?_⟩
    · exfalso
      cases items with
      | nil => cases hm
      | cons it rest =>
        obtain ⟨ho, hin⟩ := hit it (by simp)
        have hmem : it.i ∈ Region.ready .any ops listed := by
          refine mem_ready.2 ⟨getD_in (by rw [inv.size]; have := G.le; omega) ((hl it.i hin).2 (by simp)), it.o, ho, fun e he hbd => ?_⟩
          have hlt := G.back _ _ hin ho e he hbd
          refine hlist e.on (by omega) fun hmem => ?_
          obtain ⟨q, hq, hqi⟩ := List.mem_map.1 hmem
          rcases List.mem_cons.1 hq with rfl | hq'
          · omega
          · have := (List.pairwise_cons.1 (by simpa using hsort)).1 q.i (List.mem_map.2 ⟨q, hq', rfl⟩)
            omega
        rw [hnil] at hmem; cases hmem
    · obtain ⟨hun, oi, hoi, hall⟩ := mem_ready.1 hi
      have hisz : i < ops.size := (Array.getElem?_eq_some_iff.1 hoi).1
      have hin : i < n := by
        rcases Nat.lt_or_ge i n with h' | h'
        · exact h'
        · exfalso
          have hn' : n < ops.size := by omega
          obtain ⟨hs, hc, _⟩ := G.tail hn'
          cases items with
          | nil => cases hm
          | cons it rest =>
            obtain ⟨ho, hitn⟩ := hit it (by simp)
            have hun' : listed.getD it.i true = false := getD_in (by rw [inv.size]; omega) ((hl it.i hitn).2 (by simp))
            exact tail_waits hs hc hn' inv _ it.i rfl hitn hun' i h' hi
      have hmem := (hl i hin).1 (getD_both hun)
      obtain ⟨it, hitm, hiti⟩ := List.mem_map.1 hmem
      obtain ⟨pre, post, rfl⟩ := List.append_of_mem hitm
      subst hiti
      obtain ⟨ho, _⟩ := hit it (by simp)
      rw [ho] at hoi; cases hoi
      have hio : it.o ∈ ops := Array.mem_of_getElem? ho
      have hdep := dep_listed G inv it.i it.o hin ho hall
      have hsort' := hsort
      rw [List.map_append, List.map_cons, List.pairwise_append] at hsort'
      have hpre : ∀ p ∈ pre, p.i < it.i := fun p hp => hsort'.2.2 p.i (List.mem_map.2 ⟨p, hp, rfl⟩) it.i (by simp)
      have hpost : ∀ p ∈ post, it.i < p.i := fun p hp => (List.pairwise_cons.1 hsort'.2.1).1 p.i (List.mem_map.2 ⟨p, hp, rfl⟩)
      have hpp : ∀ p ∈ pre, p.o ∈ ops ∧ p.o.apart ops it.o = true ∧ p.i ∉ dep it.i ∧ it.i ∉ dep p.i ∧ p.i ≠ it.i ∧ (∀ j ∈ cons it.i, j ∉ dep p.i) ∧ (∀ j ∈ cons p.i, j ∉ dep it.i) ∧ (∀ j ∈ cons p.i, j ∈ dep p.i) := fun p hp => by
        obtain ⟨hpo, hpn⟩ := hit p (by simp [hp])
        have hlt := hpre p hp
        have hnd : p.i ∉ dep it.i := fun hmem => by
          have := hdep p.i hmem
          have h2 := (hl p.i hpn).2 (by simp [List.mem_map.2 ⟨p, hp, rfl⟩])
          rw [h2] at this; cases this
        have hnd2 : it.i ∉ dep p.i := fun hmem => by have := G.depLt p.i hpn _ hmem; omega
        exact ⟨Array.mem_of_getElem? hpo, G.apart it.i p.i it.o p.o hlt hin ho hpo hnd, hnd, hnd2, by omega, G.consOne it.i p.i hin hpn (by omega) hnd hnd2, G.consOne p.i it.i hpn hin (by omega) hnd2 hnd, G.consDep p.i hpn⟩
      have EX := wpG_exchange G.sel it post hio (G.consDep it.i hin) pre F a hpp h
      have hmem' : (pre ++ post).length = m := by simp at hm ⊢; omega
      have hsort2 : ((pre ++ post).map (·.i)).Pairwise (· < ·) := by
        rw [List.map_append, List.pairwise_append]
        exact ⟨hsort'.1, (List.pairwise_cons.1 hsort'.2.1).2, fun x hx y hy => hsort'.2.2 x hx y (by simp [hy])⟩
      have hit2 : ∀ q ∈ pre ++ post, ops[q.i]? = some q.o ∧ q.i < n := fun q hq => hit q (by rcases List.mem_append.1 hq with h | h <;> simp [h])
      have hst2 : ∀ q ∈ pre ++ post, ∀ S, q.s = some S → ∀ e v, Loc w0 (S e v) := fun q hq => hst q (by rcases List.mem_append.1 hq with h | h <;> simp [h])
      have inv2 := inv.set hi hin
      have hl2 : ∀ j, j < n → ((listed.setIfInBounds it.i true).getD j false = false ↔ j ∈ (pre ++ post).map (·.i)) := fun j hj => by
        by_cases e : it.i = j
        · subst e
          have h1 : (listed.setIfInBounds it.i true).getD it.i false = true := by
            have : it.i < listed.size := by rw [inv.size]; exact hisz
            simp [this]
          rw [h1]
          constructor
          · intro h; cases h
          · intro h
            obtain ⟨q, hq, hqi⟩ := List.mem_map.1 h
            rcases List.mem_append.1 hq with h | h
            · have := hpre q h; omega
            · have := hpost q h; omega
        · rw [getD_set_ne false e, hl j hj]
          simp only [List.map_append, List.map_cons, List.mem_append, List.mem_cons]
          constructor
          · rintro (h | h | h)
            · exact .inl h
            · exact absurd h.symm e
            · exact .inr h
          · rintro (h | h)
            · exact .inl h
            · exact .inr (.inr h)
      cases hs : it.s with
      | none =>
        simp only [hs] at EX
        obtain ⟨v, hv, hw⟩ := EX w B hb hB (fun j _ => hF j)
        have go : ∀ w', Below w.heap.size w w' → wpAny P .any ops Q' (m + g) (listed.setIfInBounds it.i true) (a.put it.o.dst v) w' := fun w' hb' =>
          ih (pre ++ post) F B _ _ w' hmem' hsort2 hit2 hst2 inv2 hl2 hFs (fun j => hFs j (B j) w w' (hF j) hb'.size fun k hk _ => hb'.block k hk) ⟨hB.lo, fun j k h => Nat.lt_of_lt_of_le (hB.hi j k h) hb'.size, hB.apart⟩ (below_below hb hb') hw
        unfold wpOp
        rw [ho]
        unfold PureTo at hv
        simp only
        split
        · rename_i hwn
          rw [if_pos hwn] at hv
          refine .inl ?_
          unfold Oper.wp
          split at hv
          · rename_i u w' hr; rw [hr]; obtain ⟨rfl, hb'⟩ := hv; exact go w' hb'
          · rename_i w' hr; rw [hr]; obtain ⟨rfl, hb'⟩ := hv; exact go w' hb'
          · rename_i f args w' hr
            rw [hr]
            refine Calls.mono hv.2 fun e w'' h => ?_
            cases e with
            | returned u => obtain ⟨rfl, hb'⟩ := h; exact go w'' hb'
            | _ => cases h
          · cases hv
        · rename_i hwn
          rw [if_neg hwn] at hv
          subst hv
          exact go w (Below.refl _ _)
      | some S =>
        simp only [hs] at EX
        have hv := EX.1 w B hb hB (fun j _ => hF j)
        have hstS := hst it (by simp) S hs (look ops it.o a)
        have go : ∀ v w', Chg (fun k => ∃ j ∈ cons it.i, B j k) w w' → S (look ops it.o a) v (fun k => (∃ j ∈ cons it.i, B j k) ∨ (w.heap.size ≤ k ∧ k < w'.heap.size)) w' → wpAny P .any ops Q' (m + g) (listed.setIfInBounds it.i true) (a.put it.o.dst v) w' := fun v w' hc hSv => by
          have hws : w0.heap.size ≤ w.heap.size := hb.size
          refine ih (pre ++ post) _ (fun j => if j = it.i then (fun k => (∃ j ∈ cons it.i, B j k) ∨ (w.heap.size ≤ k ∧ k < w'.heap.size)) else if j ∈ cons it.i then (fun _ => False) else B j) _ _ w' hmem' hsort2 hit2 hst2 inv2 hl2 ?_ ?_ ?_ (hb.trans (hc.below hws fun k ⟨j, _, hj⟩ => hB.lo j k hj)) (EX.2 v)
          · intro j
            unfold FPut
            by_cases e : j = it.i
            · simp only [if_pos e]; exact hstS v
            · by_cases e2 : j ∈ cons it.i
              · simp only [if_neg e, if_pos e2]; exact fun _ _ _ _ _ _ => trivial
              · simp only [if_neg e, if_neg e2]; exact hFs j
          · intro j
            unfold FPut
            by_cases e : j = it.i
            · simp only [if_pos e]; exact hSv
            · by_cases e2 : j ∈ cons it.i
              · simp only [if_neg e, if_pos e2]
              · simp only [if_neg e, if_neg e2]
                refine hFs j (B j) w w' (hF j) hc.size fun k hk hor => hc.block k hk ?_
                rintro ⟨c, hcm, hck⟩
                rcases hor with h | h
                · have := hB.lo c k hck; omega
                · have := hB.apart c j k hck h; subst this; exact e2 hcm
          · have cases3 : ∀ j k, (if j = it.i then (fun k => (∃ j ∈ cons it.i, B j k) ∨ (w.heap.size ≤ k ∧ k < w'.heap.size)) else if j ∈ cons it.i then (fun _ => False) else B j) k →
                (j = it.i ∧ ((∃ c ∈ cons it.i, B c k) ∨ (w.heap.size ≤ k ∧ k < w'.heap.size))) ∨ (j ≠ it.i ∧ j ∉ cons it.i ∧ B j k) := by
              intro j k h
              by_cases e : j = it.i
              · rw [if_pos e] at h; exact .inl ⟨e, h⟩
              · rw [if_neg e] at h
                by_cases e2 : j ∈ cons it.i
                · rw [if_pos e2] at h; cases h
                · rw [if_neg e2] at h; exact .inr ⟨e, e2, h⟩
            refine ⟨fun j k h => ?_, fun j k h => ?_, fun i j k hi hj => ?_⟩
            · rcases cases3 j k h with ⟨_, ⟨c, _, hc⟩ | h⟩ | ⟨_, _, h⟩
              · exact hB.lo c k hc
              · omega
              · exact hB.lo j k h
            · have := hc.size
              rcases cases3 j k h with ⟨_, ⟨c, _, hc⟩ | h⟩ | ⟨_, _, h⟩
              · have := hB.hi c k hc; omega
              · omega
              · have := hB.hi j k h; omega
            · rcases cases3 i k hi with ⟨e1, h1⟩ | ⟨e1, n1, h1⟩ <;> rcases cases3 j k hj with ⟨e2, h2⟩ | ⟨e2, n2, h2⟩
              · rw [e1, e2]
              · exfalso
                rcases h1 with ⟨c, hcm, hck⟩ | h1
                · have := hB.apart c j k hck h2; subst this; exact n2 hcm
                · have := hB.hi j k h2; omega
              · exfalso
                rcases h2 with ⟨c, hcm, hck⟩ | h2
                · have := hB.apart c i k hck h1; subst this; exact n1 hcm
                · have := hB.hi i k h1; omega
              · exact hB.apart i j k h1 h2
        unfold wpOp
        rw [ho]
        unfold GoesTo at hv
        simp only
        split
        · rename_i hwn
          rw [if_pos hwn] at hv
          refine .inl ?_
          unfold Oper.wp
          split at hv
          · rename_i u w' hr; rw [hr]; exact go _ _ hv.1 hv.2
          · rename_i w' hr; rw [hr]; exact go _ _ hv.1 hv.2
          · rename_i f args w' hr
            rw [hr]
            refine Calls.mono hv fun e w'' h => ?_
            obtain ⟨v, rfl, h1, h2⟩ := h
            exact go v w'' h1 h2
          · cases hv
        · rename_i hwn
          rw [if_neg hwn] at hv
          exact go _ _ hv.1 hv.2

def gitems (sg : Nat → Option ((Tmp → Value) → GSpec)) (l : List Oper) (k : Nat) : List GItem := (l.zipIdx k).map fun p => ⟨p.2, p.1, sg p.2⟩

theorem region_grow {id : Nat} {l : List Oper} {Q' : Exit → Act → World → Prop} {a : Act} {w : World} (n : Nat) (dep cons : Nat → List Nat) (sg : Nat → Option ((Tmp → Value) → GSpec)) (hm : P.follows .mixedOrders = true)
    (hB : growB l.toArray dep cons n = true)
    (hst : ∀ i S, sg i = some S → ∀ e v, Loc w.drew (S e v))
    (h : wpG P l.toArray w.drew dep cons (fun a' w' => wpList P l.toArray Q' (l.drop n) a' w') (gitems sg (l.take n) 0) (fun _ _ _ => True) a) : (Code.region id l.toArray true).wp P Q' a w := by
  have G := growB_spec hB
  have hle : n ≤ l.length := by simpa using G.le
  have htl : (l.take n).length = n := by simp; omega
  have hlen : (gitems sg (l.take n) 0).length = n := by simp [gitems]; omega
  have hids : (gitems sg (l.take n) 0).map (·.i) = List.range n := by
    simp only [gitems, List.map_map]
    have : ((fun x : GItem => x.i) ∘ fun p : Oper × Nat => (⟨p.2, p.1, sg p.2⟩ : GItem)) = Prod.snd := by funext p; rfl
    rw [this]
    simp [List.range_eq_range', htl]
  have inv0 : HeadInv .any l.toArray n (Array.replicate l.toArray.size false) :=
    ⟨by simp, fun j oj _ hl => (by rw [getD_replicate_false] at hl; cases hl), fun t _ ht => getD_in (by simpa using ht) (getD_replicate_false _ _)⟩
  refine wp_region_any hm ?_
  have H := wpAny_grow (g := l.toArray.size - n) G (Q' := Q') (Q := fun a' w' => wpList P l.toArray Q' (l.drop n) a' w') (P := P) (w0 := w.drew) ?_ n (gitems sg (l.take n) 0) (fun _ _ _ => True) (fun _ _ => False) (Array.replicate l.toArray.size false) a w.drew hlen
    (by rw [hids]; exact List.pairwise_lt_range) ?_ ?_ inv0 ?_ (fun _ _ _ _ _ _ _ => trivial) (fun _ => trivial) ⟨fun _ _ h => h.elim, fun _ _ h => h.elim, fun _ _ _ h => h.elim⟩ (Below.refl _ _) h
  · rw [show n + (l.toArray.size - n) = l.toArray.size by have := G.le; omega] at H
    exact H
  · intro listed a w inv hall hq
    have hdl : (l.drop n).length = l.toArray.size - n := by simp
    have e : listed = (Array.replicate n true) ++ (Array.replicate (l.toArray.size - n) false) := by
      apply Array.ext
      · rw [inv.size]; simp; omega
      · intro j h1 h2
        rw [Array.getElem_append]
        split
        · rename_i hj
          have := hall j (by simpa using hj)
          simpa [h1] using this
        · rename_i hj
          have hj' : n ≤ j := by simpa using hj
          have := inv.tail j hj' (by rw [← inv.size]; exact h1)
          simpa [h1] using this
    rcases Nat.lt_or_ge n l.toArray.size with hlt | hge
    · have hseq := (G.tail hlt).2.2
      rw [← e, ← hdl] at hseq
      rw [← hdl]
      exact wpAny_of_seq (md := .any) (Q' := Q') (l.drop n) n listed a w (fun j => by simp [List.getElem?_drop]) hseq hq
    · have h0 : l.toArray.size - n = 0 := by omega
      have hd : l.drop n = [] := List.drop_eq_nil_of_le (by simpa using hge)
      rw [h0]
      refine ⟨?_, by rw [hd] at hq; exact hq⟩
      cases hr : Region.ready .any l.toArray listed with
      | nil => rfl
      | cons i rest =>
        have hi : i ∈ Region.ready .any l.toArray listed := by rw [hr]; simp
        obtain ⟨hun, oi, hoi, _⟩ := mem_ready.1 hi
        have := (Array.getElem?_eq_some_iff.1 hoi).1
        have := hall i (by omega)
        rw [getD_both hun] at this; cases this
  · intro it hit
    simp only [gitems, List.mem_map] at hit
    obtain ⟨⟨o, k⟩, hk, rfl⟩ := hit
    have := List.mem_zipIdx_iff_getElem?.1 hk
    simp only at this
    have hkn : k < n := by have := (List.getElem?_eq_some_iff.1 this).1; simpa [htl] using this
    refine ⟨?_, hkn⟩
    rw [List.getElem?_take, if_pos hkn] at this
    simpa using this
  · intro it hit S hS
    simp only [gitems, List.mem_map] at hit
    obtain ⟨⟨o, k⟩, hk, rfl⟩ := hit
    exact hst k S hS
  · intro j hj
    rw [hids, getD_replicate_false]
    simp [hj]

/-! ### the steps of such a walk -/
section
variable {sg : Nat → Option ((Tmp → Value) → GSpec)} {l : List Oper} {o : Oper} {k : Nat} {F : Nat → (Nat → Prop) → World → Prop} {a : Act}
theorem wpG_pure (hs : sg k = none) (v : Value) (h1 : ∀ w B, Below w0.heap.size w0 w → BOk w0 w B → (∀ j ∈ dep k, F j (B j) w) → PureTo P ops o a w v)
    (h2 : wpG P ops w0 dep cons Q (gitems sg l (k + 1)) F (a.put o.dst v)) : wpG P ops w0 dep cons Q (gitems sg (o :: l) k) F a := by
  unfold gitems
  rw [List.zipIdx_cons, List.map_cons]
  unfold wpG
  simp only [hs]
  exact ⟨v, h1, h2⟩
theorem wpG_make {S : (Tmp → Value) → GSpec} (hs : sg k = some S) (h1 : ∀ w B, Below w0.heap.size w0 w → BOk w0 w B → (∀ j ∈ dep k, F j (B j) w) →
      GoesTo P ops o a w fun v w' => Chg (fun b => ∃ j ∈ cons k, B j b) w w' ∧ S (look ops o a) v (fun b => (∃ j ∈ cons k, B j b) ∨ (w.heap.size ≤ b ∧ b < w'.heap.size)) w')
    (h2 : ∀ v, wpG P ops w0 dep cons Q (gitems sg l (k + 1)) (FPut cons F k (S (look ops o a) v)) (a.put o.dst v)) : wpG P ops w0 dep cons Q (gitems sg (o :: l) k) F a := by
  unfold gitems
  rw [List.zipIdx_cons, List.map_cons]
  unfold wpG
  simp only [hs]
  exact ⟨h1, h2⟩
theorem wpG_end (h : ∀ w B, Below w0.heap.size w0 w → BOk w0 w B → (∀ j, F j (B j) w) → Q a w) : wpG P ops w0 dep cons Q (gitems sg [] k) F a := h
end
/-- All that operation i waits for, first or last hand. -/
def depTab (l : List Oper) : List (List Nat) := l.foldl (fun tab o => tab ++ [(o.after.toList.filter (Region.binds .any)).foldl (fun acc e => (e.on :: tab.getD e.on []).foldl (fun acc j => if acc.contains j then acc else j :: acc) acc) []]) []
def depOf (l : List Oper) (i : Nat) : List Nat := (depTab l).getD i []
attribute [go_sem] PureTo GoesTo
theorem region_making {P : Program} {id : Nat} {l : List Oper} {Q' : Exit → Act → World → Prop} {a : Act} {w : World} (n : Nat) (cons : Nat → List Nat) (sg : Nat → Option ((Tmp → Value) → GSpec)) (hm : P.follows .mixedOrders = true)
    (hB : growB l.toArray (depOf l) cons n = true) (hst : ∀ i S, sg i = some S → ∀ e v, Loc w.drew (S e v))
    (h : wpG P l.toArray w.drew (depOf l) cons (fun a' w' => wpList P l.toArray Q' (l.drop n) a' w') (gitems sg (l.take n) 0) (fun _ _ _ => True) a) : (Code.region id l.toArray true).wp P Q' a w :=
  region_grow n (depOf l) cons sg hm hB hst h
/-- Only a number, a word, a bool: known outright. -/
def isV (v : Value) : GSpec := fun u _ _ => u = v
theorem isV_loc (v : Value) (w0 : World) (u : Value) : Loc w0 (isV v u) := fun _ _ _ h _ _ => h
/-- New bytes. -/
def new8 (e : TypeId) (l : List UInt8) : GSpec := fun u B w => Own8 w 0 e u l ∧ ∀ g, u.ownBlock = some g → B g
theorem new8_loc (e : TypeId) (l : List UInt8) (w0 : World) (u : Value) : Loc w0 (new8 e l u) := by
  intro B w w' ⟨h1, h2⟩ hs hk
  refine ⟨⟨h1.1, ?_⟩, h2⟩
  rcases h1.2 with h | ⟨g, cap, cur, rfl, hb, hg, rest⟩
  · exact .inl h
  · refine .inr ⟨g, cap, cur, rfl, hb, ?_, rest⟩
    rw [hk g (Array.getElem?_eq_some_iff.1 hg).1 (.inr (h2 g rfl))]; exact hg
end
end Go.Proofs.Ytfnlcnjflloecaa
