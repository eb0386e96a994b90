/- stanza.Read. -/
import Derived.Test.YtocfcgjjepegmaaDoorStz7
import Derived.Test.YtocfcgjjepegmaaDoorGrowP
import Derived.Test.YtocfcgjjepegmaaDoorStzLaws
set_option linter.unusedVariables false
set_option linter.unusedSimpArgs false
namespace Go.Proofs.YtocfcgjjepegmaaDoor
open Go.RowKit
/-- What is left to be read, part by part. -/
def contI (n : Nat) : List Nat → RS → Stz × Int
  | [], r => if r.2.2 = 0 then if r.2.1 = [] then (r.1, 0) else (zS, 2) else (zS, r.2.2)
  | k :: ks, r => contI n ks (bindI n k r)
theorem contI_err (n : Nat) : ∀ (ks : List Nat) (r : RS), r.2.2 ≠ 0 → contI n ks r = (zS, r.2.2) := by
  intro ks
  induction ks with
  | nil => intro r h; unfold contI; rw [if_neg h]
  | cons k ks ih =>
    intro r h
    unfold contI
    have e : bindI n k r = r := by unfold bindI; rw [if_neg h]
    rw [e]; exact ih r h
theorem bodyI_cont (s : Stz) (c : UInt8) (b : List UInt8) : bodyI s c b = if outB c.toNat (partsI s.kind).toNat = true then (zS, 2) else contI c.toNat [0, 1, 2, 3, 4, 5] (s, b, 0) := rfl
def GivesS (w : World) (r : Stz × Int) (e : Ending) (w' : World) : Prop := ∃ vl, e = .returned (.tuple #[stzV r.1 vl, .int .i64 r.2]) ∧ OwnT w' w.heap.size vl r.1.l ∧ Below w.heap.size w w'
theorem stzV_cells (s : Stz) (vl : Value) : stzV s vl = .agg (stzCells s vl).toArray := rfl
/-- Behind a panic: the closure lays zero and the error's number. -/
theorem read_panic {w wi : World} {ps pe : Nat} {x : Int} {zs : List Value} {u : Value} (hps : w.heap.size ≤ ps) (hpe : w.heap.size ≤ pe) (hne : ps ≠ pe) (hS : Blk wi ps 26 zs) (h8 : zs.length = 8) (hE : Blk wi pe 29 [u])
    (hW : Below w.heap.size w wi) {I : Stz × Int} (hI : I = (zS, x)) {tmps : Array Value} (h2 : tmps.getD 2 undef = .pointer (some ⟨ps, 0, none⟩)) (h3 : tmps.getD 3 undef = .pointer (some ⟨pe, 0, none⟩)) :
    bodyPostD Tryd.prog Tryd.f23 (GivesS w I) (Exit.panic (gaveC x)) { tmps := tmps, defers := [{ target := .fn (.func 70) #[.pointer (some ⟨ps, 0, none⟩), .pointer (some ⟨pe, 0, none⟩)], args := #[] }] } wi := by
  subst hI
  refine leaves_cons (f := 70) (args := #[.pointer (some ⟨ps, 0, none⟩), .pointer (some ⟨pe, 0, none⟩)]) (by simp) (by simp [go_sem]) ?_
  refine (catch_c ps pe x wi zs [u] u hS h8 hE rfl hne).mono ?_
  rintro e u' w'' ⟨rfl, rfl, k1, k2, hc2⟩
  refine ⟨_, results_two _ rfl _ _ _ _ _ _ h2 h3 k1 rfl k2, .slice none 0 0, rfl, OwnT.nil _ _, ?_⟩
  exact hW.trans (hc2.below hW.size (fun k hk => by rcases hk with rfl | rfl <;> assumption))
/-- Behind the last statement. -/
theorem read_done {w wi : World} {ps pe : Nat} {s : Stz} {vl : Value} (hS : Blk wi ps 26 (stzCells s vl)) (hE : Blk wi pe 29 [.int .i64 0]) (ho : OwnT wi w.heap.size vl s.l)
    (hW : Below w.heap.size w wi) {I : Stz × Int} (hI : I = (s, 0)) {tmps : Array Value} (h2 : tmps.getD 2 undef = .pointer (some ⟨ps, 0, none⟩)) (h3 : tmps.getD 3 undef = .pointer (some ⟨pe, 0, none⟩)) :
    bodyPostD Tryd.prog Tryd.f23 (GivesS w I) Exit.ret { tmps := tmps, defers := [{ target := .fn (.func 70) #[.pointer (some ⟨ps, 0, none⟩), .pointer (some ⟨pe, 0, none⟩)], args := #[] }] } wi := by
  subst hI
  refine leaves_cons (f := 70) (args := #[.pointer (some ⟨ps, 0, none⟩), .pointer (some ⟨pe, 0, none⟩)]) (by simp) (by simp [go_sem]) ?_
  refine (catch_idle _ _ wi).mono ?_
  rintro e u' w'' ⟨rfl, rfl, rfl⟩
  exact ⟨_, results_two _ rfl _ _ _ _ _ _ h2 h3 hS rfl hE, vl, rfl, ho, hW⟩
theorem below_set {w wi : World} {B : Nat} (h : Below B w wi) (q j : Nat) (u : Value) (hq : B ≤ q) (hB : B ≤ wi.heap.size) : Below B w (wi.setCell ⟨q, j, none⟩ u) :=
  h.trans ((Chg.setCell wi ⟨q, j, none⟩ u).below hB (fun k hk => by cases hk; exact hq))
/-- A text that is a part, if its bit is there. -/
def pI (C k : Nat) (b : List UInt8) : List UInt8 × List UInt8 × Int := if C / 2 ^ k % 2 = 1 then partI b else ([], b, 0)
def RdPX {β : Type} (w : World) (p bits : Nat) (r : β × List UInt8 × Int) (enc : β → Value) (e : Ending) (w' : World) : Prop :=
  Chg (fun k => k = p) w w' ∧ ((r.2.2 = 0 ∧ e = .returned (enc r.1) ∧ RdrX w' p bits r.2.1) ∨ (r.2.2 ≠ 0 ∧ e = .panicked (gaveC r.2.2)))
theorem RdP.x {β : Type} {w : World} {p bits : Nat} {r : β × List UInt8 × Int} {enc : β → Value} {e : Ending} {w' : World} (h : RdP w p bits r enc e w') (hp : p < w.heap.size) : RdPX w p bits r enc e w' := by
  obtain ⟨h1, ⟨h2, h3, h4⟩ | h2⟩ := h
  · exact ⟨h1, .inl ⟨h2, h3, h4.x hp⟩⟩
  · exact ⟨h1, .inr h2⟩
theorem part_any (w : World) (hT : Tabs w) (p C k : Nat) (m : Int) (l : List UInt8) (h : RdrX w p C l) (hl : l.length ≤ 10000000) (hC : C < 256) (hk : k < 6) (hm : m = ((2 ^ k : Nat) : Int)) :
    Calls Tryd.prog 73 #[.pointer (some ⟨p, 0, none⟩), .int .u8 m] w (RdPX w p C (pI C k l) sv) := by
  subst hm
  have hb := bit_has ⟨C, hC⟩ ⟨k, hk⟩
  simp only at hb
  unfold pI
  by_cases h1 : C / 2 ^ k % 2 = 1
  · rw [decide_eq_true h1] at hb
    rw [if_pos h1]
    exact (part_c w hT p C (2 ^ k) l h.at hl hb).mono fun e w' hh => hh.x h.at.lt
  · rw [decide_eq_false h1] at hb
    rw [if_neg h1]
    refine (part_no w p C (2 ^ k) l h.at hb).mono fun e w' hh => ?_
    obtain ⟨rfl, rfl⟩ := hh
    exact ⟨Chg.refl _ _, .inl ⟨rfl, rfl, h⟩⟩
theorem pI_len (C k : Nat) (b : List UInt8) : (pI C k b).2.1.length ≤ b.length := by
  unfold pI partI
  split
  · split
    · split
      · simp
      · exact textI_rest b 1024
    · simp
  · simp
theorem contI_part {C k : Nat} {ks : List Nat} {s s1 : Stz} {b : List UInt8} (h1 : C / 2 ^ k % 2 = 1 → bindI C k (s, b, 0) = (s1, (pI C k b).2.1, (pI C k b).2.2)) (h0 : s1 = s ∨ C / 2 ^ k % 2 = 1) :
    contI C (k :: ks) (s, b, 0) = contI C ks (s1, (pI C k b).2.1, (pI C k b).2.2) := by
  by_cases h : C / 2 ^ k % 2 = 1
  · show contI C ks (bindI C k (s, b, 0)) = _
    rw [h1 h]
  · have e : s1 = s := h0.resolve_right h
    subst e
    show contI C ks (bindI C k (s1, b, 0)) = _
    rw [bind_skip _ _ _ (by omega)]
    unfold pI
    rw [if_neg h]
theorem pI_none {C k : Nat} {b : List UInt8} (h : ¬ C / 2 ^ k % 2 = 1) : (pI C k b).1 = [] := by unfold pI; rw [if_neg h]
theorem cont0 (C : Nat) (ks : List Nat) (kind : Int) (idn : Nat) (b : List UInt8) : contI C (0 :: ks) (⟨kind, idn, [], [], [], [], 0, 0⟩, b, 0) = contI C ks (⟨kind, idn, (pI C 0 b).1, [], [], [], 0, 0⟩, (pI C 0 b).2.1, (pI C 0 b).2.2) := by
  refine contI_part (fun h => ?_) ?_
  · rw [bind_do _ _ _ _ h]; simp only [stepI, pI]; rw [if_pos h]
  · by_cases h : C / 2 ^ 0 % 2 = 1
    · exact .inr h
    · rw [pI_none h]; exact .inl rfl
theorem cont1 (C : Nat) (ks : List Nat) (kind : Int) (idn : Nat) (x b : List UInt8) : contI C (1 :: ks) (⟨kind, idn, x, [], [], [], 0, 0⟩, b, 0) = contI C ks (⟨kind, idn, x, (pI C 1 b).1, [], [], 0, 0⟩, (pI C 1 b).2.1, (pI C 1 b).2.2) := by
  refine contI_part (fun h => ?_) ?_
  · rw [bind_do _ _ _ _ h]; simp only [stepI, pI]; rw [if_pos h]
  · by_cases h : C / 2 ^ 1 % 2 = 1
    · exact .inr h
    · rw [pI_none h]; exact .inl rfl
theorem cont2 (C : Nat) (ks : List Nat) (kind : Int) (idn : Nat) (x y b : List UInt8) : contI C (2 :: ks) (⟨kind, idn, x, y, [], [], 0, 0⟩, b, 0) = contI C ks (⟨kind, idn, x, y, (pI C 2 b).1, [], 0, 0⟩, (pI C 2 b).2.1, (pI C 2 b).2.2) := by
  refine contI_part (fun h => ?_) ?_
  · rw [bind_do _ _ _ _ h]; simp only [stepI, pI]; rw [if_pos h]
  · by_cases h : C / 2 ^ 2 % 2 = 1
    · exact .inr h
    · rw [pI_none h]; exact .inl rfl
theorem has_b (w : World) (p C k : Nat) (m : Int) (l : List UInt8) (h : RdrAt w p C l) (hC : C < 256) (hk : k < 6) (hm : m = ((2 ^ k : Nat) : Int)) :
    Calls Tryd.prog 74 #[.pointer (some ⟨p, 0, none⟩), .int .u8 m] w fun e w' => e = .returned (.bool (decide (C / 2 ^ k % 2 = 1))) ∧ w = w' := by
  subst hm
  have hb := bit_has ⟨C, hC⟩ ⟨k, hk⟩
  simp only at hb
  rw [← hb]
  exact has_c w p C (2 ^ k) l h
theorem cont3 {C : Nat} (ks : List Nat) (kind : Int) (idn : Nat) (x y z b : List UInt8) (h : C / 2 ^ 3 % 2 = 1) : contI C (3 :: ks) (⟨kind, idn, x, y, z, [], 0, 0⟩, b, 0) = contI C ks (⟨kind, idn, x, y, z, (listI b).1, 0, 0⟩, (listI b).2.1, (listI b).2.2) := by
  show contI C ks (bindI C 3 _) = _
  rw [bind_do _ _ _ _ h]; rfl
theorem cont4 {C : Nat} (ks : List Nat) (kind : Int) (idn : Nat) (x y z b : List UInt8) (xl : List (List UInt8)) (h : C / 2 ^ 4 % 2 = 1) : contI C (4 :: ks) (⟨kind, idn, x, y, z, xl, 0, 0⟩, b, 0) = contI C ks (⟨kind, idn, x, y, z, xl, (numbI b).1, 0⟩, (numbI b).2.1, (numbI b).2.2) := by
  show contI C ks (bindI C 4 _) = _
  rw [bind_do _ _ _ _ h]; rfl
theorem cont5 {C : Nat} (ks : List Nat) (kind : Int) (idn : Nat) (x y z b : List UInt8) (xl : List (List UInt8)) (n : Int) (h : C / 2 ^ 5 % 2 = 1) : contI C (5 :: ks) (⟨kind, idn, x, y, z, xl, n, 0⟩, b, 0) = contI C ks (⟨kind, idn, x, y, z, xl, n, (floaI b).1⟩, (floaI b).2.1, (floaI b).2.2) := by
  show contI C ks (bindI C 5 _) = _
  rw [bind_do _ _ _ _ h]; rfl
theorem contN {C k : Nat} (ks : List Nat) (s : Stz) (b : List UInt8) (h : ¬ C / 2 ^ k % 2 = 1) : contI C (k :: ks) (s, b, 0) = contI C ks (s, b, 0) := by
  show contI C ks (bindI C k _) = _
  rw [bind_skip _ _ _ (by omega)]
theorem textsI_rest : ∀ (k : Nat) (acc : List (List UInt8)) (b : List UInt8), (textsI k acc b).2.1.length ≤ b.length := by
  intro k
  induction k with
  | zero => intro acc b; simp [textsI]
  | succ k ih =>
    intro acc b
    unfold textsI
    split
    · exact Nat.le_trans (ih _ _) (textI_rest b 1024)
    · simp
theorem listI_rest (b : List UInt8) : (listI b).2.1.length ≤ b.length := by
  unfold listI
  split
  · split
    · simp
    · split
      · simp
      · exact Nat.le_trans (textsI_rest _ _ _) (uintI_rest b)
  · simp
theorem numbI_rest (b : List UInt8) : (numbI b).2.1.length ≤ b.length := by
  unfold numbI intI
  repeat' split
  all_goals simp
theorem floaI_rest (b : List UInt8) : (floaI b).2.1.length ≤ b.length := by
  unfold floaI floatI
  repeat' split
  all_goals simp
theorem ownT_one {w : World} {base : Nat} {u : Value} {l : List (List UInt8)} (h : OwnT w base u l) : u.oneCell' = true := by
  obtain ⟨A, c, rfl, _⟩ := h.rd.open; rfl
theorem cells_one {w : World} {base : Nat} {u : Value} {l : List (List UInt8)} (h : OwnT w base u l) (k idn : Nat) (xa xb xt : List UInt8) (xn : Int) (xf : Nat) : ∀ v ∈ (stzCells ⟨(k : Int), idn, xa, xb, xt, l, xn, xf⟩ u).toArray.toList, v.oneCell' = true := by
  intro v hv
  simp [stzCells] at hv
  rcases hv with rfl | rfl | rfl | rfl | rfl | rfl | rfl | rfl <;> first | rfl | exact ownT_one h
theorem store_f64 (w : World) (p j : Nat) (u : Value) (x : Nat) (hc : w.cell? ⟨p, j, none⟩ = some u) (hf : w.frozen? ⟨p, j, none⟩ = false) : (store ⟨p, j, none⟩ (.float .f64 x)).run Tryd.prog w = .ok () (w.setCell ⟨p, j, none⟩ (.float .f64 x)) := by
  have h1 := fun m => run_store Tryd.prog w ⟨p, j, none⟩ (.float .f64 x) m rfl
  simp [go_sem, h1, hc, hf]
theorem OwnT.set {w : World} {base q j : Nat} {u v : Value} {l : List (List UInt8)} (h : OwnT w base u l) (hq : q < base) : OwnT (w.setCell ⟨q, j, none⟩ v) base u l :=
  h.chg (Chg.setCell w ⟨q, j, none⟩ v) (fun g hg e => by have := h.base_le g hg; have e' : g = q := e; omega)
set_option maxRecDepth 100000 in
set_option maxHeartbeats 3200000 in
theorem read_c (w : World) (hT : Tabs w) (v : Value) (l : List UInt8) (h : Rd w v l) (hl : l.length ≤ 1000000) :
    Calls Tryd.prog 23 #[v] w (GivesS w (readI l)) := by
  obtain ⟨A, c, rfl, hA1, hA2, hA3⟩ := h.open
  clear hA1 hA2 hA3
  have hmf : ∀ (fn : Fn) (first cap : Array Value) (w : World), (Instr.makeFunc fn first cap).run Tryd.prog w = .ok (.func fn first cap) w := fun _ _ _ _ => rfl
  obtain ⟨w3, e3, hS, hE, hR, hW⟩ : ∃ w3, w3 = ((w.alloc (.cells #[.int .i64 0, .int .u64 0, .string ⟨#[]⟩, .string ⟨#[]⟩, .string ⟨#[]⟩, .slice none 0 0, .int .i64 0, .float .f64 0] 26)).alloc (.cells #[.int .i64 0] 29)).alloc (.cells #[.slice A l.length c, .int .u8 0] 111) ∧
      Blk w3 w.heap.size 26 (stzCells zS (.slice none 0 0)) ∧ Blk w3 (w.heap.size + 1) 29 [.int .i64 0] ∧ RdrAt w3 (w.heap.size + 1 + 1) 0 l ∧ Below w.heap.size w w3 := by
    have b1 := (Below.refl w.heap.size w).alloc (Nat.le_refl _) (.cells #[.int .i64 0, .int .u64 0, .string ⟨#[]⟩, .string ⟨#[]⟩, .string ⟨#[]⟩, .slice none 0 0, .int .i64 0, .float .f64 0] 26)
    have k1 := Blk.new w 26 (stzCells zS (.slice none 0 0))
    have z1 : (w.alloc (.cells #[.int .i64 0, .int .u64 0, .string ⟨#[]⟩, .string ⟨#[]⟩, .string ⟨#[]⟩, .slice none 0 0, .int .i64 0, .float .f64 0] 26)).heap.size = w.heap.size + 1 := by simp
    have k1' : Blk (w.alloc (.cells #[.int .i64 0, .int .u64 0, .string ⟨#[]⟩, .string ⟨#[]⟩, .string ⟨#[]⟩, .slice none 0 0, .int .i64 0, .float .f64 0] 26)) w.heap.size 26 (stzCells zS (.slice none 0 0)) := k1
    clear k1
    generalize w.alloc (.cells #[.int .i64 0, .int .u64 0, .string ⟨#[]⟩, .string ⟨#[]⟩, .string ⟨#[]⟩, .slice none 0 0, .int .i64 0, .float .f64 0] 26) = w1 at *
    have b2 := (Below.refl w1.heap.size w1).alloc (Nat.le_refl _) (.cells #[.int .i64 0] 29)
    have k2 := Blk.new w1 29 [.int .i64 0]
    have z2 : (w1.alloc (.cells #[.int .i64 0] 29)).heap.size = w1.heap.size + 1 := by simp
    have k2' : Blk (w1.alloc (.cells #[.int .i64 0] 29)) w1.heap.size 29 [.int .i64 0] := k2
    clear k2
    generalize w1.alloc (.cells #[.int .i64 0] 29) = w2 at *
    have b3 := (Below.refl w2.heap.size w2).alloc (Nat.le_refl _) (.cells #[.slice A l.length c, .int .u8 0] 111)
    have k3 := Blk.new w2 111 [.slice A l.length c, .int .u8 ((0 : Nat) : Int)]
    have b12 := below_below b1 b2
    rw [z1] at k2' z2
    rw [z2] at k3
    refine ⟨_, rfl, (k1'.below b2).below b3, k2'.below b3, ⟨_, k3, (h.below b12).below b3, fun h0 g hg e => ?_⟩, below_below b12 b3⟩
    have := h.lt g hg h0
    omega
  have U1 := ruint_c w3 (w.heap.size + 1 + 1) 0 l hR (by omega)
  have hI : readI l = if (uintI l).2.2 = 0 then
    if 2147483648 ≤ (uintI l).1 ∨ partsI (uintI l).1 < 0 then (zS, 3)
    else if (uintI (uintI l).2.1).2.2 = 0 then
      match (uintI (uintI l).2.1).2.1 with
      | [] => (zS, 2)
      | c :: r => bodyI { zS with kind := (uintI l).1, id := (uintI (uintI l).2.1).1 } c r
    else (zS, (uintI (uintI l).2.1).2.2)
  else (zS, (uintI l).2.2) := rfl
  have hr1 := uintI_rest l
  generalize readI l = I at *
  generalize uintI l = r1 at *
  obtain ⟨k, l1, e1⟩ := r1
  simp only at hI hr1
  replace hI := Go.Lib.hid hI
  go_enter_defers Tryd.func23, Tryd.ntmps23
  go_wp2_with fail
  rw [← e3]
  clear e3
  have hps : w.heap.size ≤ w.heap.size := Nat.le_refl _
  have hpe : w.heap.size ≤ w.heap.size + 1 := by omega
  have hpr : w.heap.size ≤ w.heap.size + 1 + 1 := by omega
  have n1 : w.heap.size ≠ w.heap.size + 1 := by omega
  have n2 : w.heap.size ≠ w.heap.size + 1 + 1 := by omega
  have n3 : w.heap.size + 1 ≠ w.heap.size + 1 + 1 := by omega
  have hpl := hR.lt
  refine U1.mono ?_
  clear U1 hR h
  intro e wn hP
  obtain ⟨hcn, hP⟩ := hP
  replace hS := hS.chg hcn n2; replace hE := hE.chg hcn n3; replace hW := hW.trans (hcn.below hW.size (fun k hk => by cases hk; exact hpr))
  rcases hP with ⟨hok, rfl, hR⟩ | ⟨hbad, rfl⟩
  rotate_left
  · (focus (exact read_panic hps hpe n1 hS rfl hE hW (by rw [hI.out, if_neg hbad]) rfl rfl))
  replace hI := Go.Lib.hid (hI.out.trans (if_pos hok))
  replace hR : RdrX _ _ _ _ := hR.x hpl
  clear hok hcn hpl
  simp only at hR ⊢
  by_cases hk31 : 2147483648 ≤ k
  · have q1 : ¬ (k : Int) < 2147483648 := by omega
    have q2 : decide ((k : Int) < 2147483648) = false := decide_eq_false q1
    have tok0 : True := trivial
    go_wp2_with (first
      | (have _t := tok0; go_at_call 72; refine (must_bad 3 (by omega) _).mono ?_; rintro e w2 ⟨rfl, rfl⟩; clear tok0; have tok1 : True := trivial))
    exact read_panic hps hpe n1 hS rfl hE hW (by rw [hI.out, if_pos (.inl hk31)]) rfl rfl
  have q1 : (k : Int) < 2147483648 := by omega
  have q2 : decide ((k : Int) < 2147483648) = true := decide_eq_true q1
  have q0 : (0 : Int) ≤ k := by omega
  have P := fun w1 => parts_c (k : Int) w1
  unfold GivesK at P
  have hp := partsI_cases (k : Int)
  generalize hKp : partsI (k : Int) = K at *
  replace hKp := Go.Lib.hid hKp
  by_cases hK : K < 0
  · rw [if_pos hK, decide_eq_false (by omega : ¬ 0 ≤ K)] at P
    have tok0 : True := trivial
    go_wp2_with (first
      | (have _t := tok0; go_at_call 72; refine (must_ok 3 _).mono ?_; rintro e w2 ⟨rfl, rfl⟩; clear tok0; have tok1 : True := trivial)
      | (have _t := tok1; go_at_call 64; refine (P _).mono ?_; rintro e w1 ⟨rfl, rfl⟩; clear tok1; have tok2 : True := trivial)
      | (have _t := tok2; go_at_call 72; refine (must_bad 3 (by omega) _).mono ?_; rintro e w2 ⟨rfl, rfl⟩; clear tok2; have tok3 : True := trivial))
    exact read_panic hps hpe n1 hS rfl hE hW (by rw [hI.out, if_pos (.inr hK)]) rfl rfl
  rw [if_neg hK, decide_eq_true (by omega : 0 ≤ K)] at P
  replace hI := Go.Lib.hid (hI.out.trans (if_neg (by omega)))
  obtain ⟨KN, rfl⟩ := Int.eq_ofNat_of_zero_le (by omega : 0 ≤ K)
  have hKN : KN < 64 := by omega
  clear hK hp hk31
  have U2 := fun wi hR => ruint_c wi (w.heap.size + 1 + 1) 0 l1 hR (by omega)
  have hr2 := uintI_rest l1
  generalize uintI l1 = r2 at *
  obtain ⟨idn, l2, e2⟩ := r2
  simp only at hr2
  have tok0 : True := trivial
  go_wp2_with (first
    | (have _t := tok0; go_at_call 72; refine (must_ok 3 _).mono ?_; rintro e w2 ⟨rfl, rfl⟩; clear tok0; have tok1 : True := trivial)
    | (have _t := tok1; go_at_call 64; refine (P _).mono ?_; rintro e w1 ⟨rfl, rfl⟩; clear tok1; have tok2 : True := trivial)
    | (have _t := tok2; go_at_call 72; refine (must_ok 3 _).mono ?_; rintro e w2 ⟨rfl, rfl⟩; clear tok2; have tok3 : True := trivial))
  have hpl := hR.at.lt
  refine (U2 _ hR.at).mono ?_
  clear hR U2
  intro e wn hP
  obtain ⟨hcn, hP⟩ := hP
  replace hS := hS.chg hcn n2; replace hE := hE.chg hcn n3; replace hW := hW.trans (hcn.below hW.size (fun k hk => by cases hk; exact hpr))
  rcases hP with ⟨hok, rfl, hR⟩ | ⟨hbad, rfl⟩
  rotate_left
  · (focus (exact read_panic hps hpe n1 hS rfl hE hW (by rw [hI.out, if_neg hbad]) rfl rfl))
  replace hI := Go.Lib.hid (hI.out.trans (if_pos hok))
  replace hR : RdrX _ _ _ _ := hR.x hpl
  clear hok hcn hpl
  simp only at hR hI ⊢
  have s0 := hS.frozen 0
  have s1 := hS.frozen 1
  have c0 : _ = some _ := hS.cell 0
  have c1 : _ = some _ := hS.cell 1
  go_upto_region 8 with fail
  have z1 : wn.heap.size ≤ (wn.setCell ⟨w.heap.size, 0, none⟩ (.int .i64 (k : Int))).heap.size := by simp
  have hwl := hS.lt
  replace hE := (hE.other (a := ⟨w.heap.size, 0, none⟩) (fun e => n1 e.symm) (.int .i64 (k : Int))).other (a := ⟨w.heap.size, 1, none⟩) (fun e => n1 e.symm) (.int .u64 (idn : Int))
  replace hR := (hR.set w.heap.size 0 (.int .i64 (k : Int)) (by omega)).set w.heap.size 1 (.int .u64 (idn : Int)) (by omega)
  replace hW := below_set (below_set hW w.heap.size 0 (.int .i64 (k : Int)) (by omega) (by omega)) w.heap.size 1 (.int .u64 (idn : Int)) (by omega) (by omega)
  replace hS : Blk ((wn.setCell ⟨w.heap.size, 0, none⟩ (.int .i64 (k : Int))).setCell ⟨w.heap.size, 1, none⟩ (.int .u64 (idn : Int))) w.heap.size 26 (stzCells ⟨k, idn, [], [], [], [], 0, 0⟩ (.slice none 0 0)) := (hS.stored 0 (.int .i64 (k : Int))).stored 1 (.int .u64 (idn : Int))
  clear z1 hwl c0 c1 s0 s1
  generalize hw5 : (wn.setCell ⟨w.heap.size, 0, none⟩ (.int .i64 (k : Int))).setCell ⟨w.heap.size, 1, none⟩ (.int .u64 (idn : Int)) = w5 at *
  clear hw5
  obtain ⟨v2, hv1, hv2, hv3⟩ := id hR
  obtain ⟨A2, cp2, rfl, hA1, hA2, hA3⟩ := hv2.open
  have d0 : _ = some _ := hv1.cell 0
  cases l2 with
  | nil =>
    have hI2 := Go.Lib.hid (show I = (zS, 2) from hI.out)
    clear hI
    simp only [List.length_nil] at *
    clear hA3 hv2 hv1 hR
    have tok0 : True := trivial
    go_wp2_with (first
      | (have _t := tok0; go_at_call 72; refine (must_bad 2 (by omega) _).mono ?_; rintro e w2 ⟨rfl, rfl⟩; clear tok0; have tok1 : True := trivial))
    exact read_panic hps hpe n1 hS rfl hE hW hI2.out rfl rfl
  | cons ch l3 =>
    have hI2 : I = bodyI { zS with kind := (k : Int), id := idn } ch l3 := hI.out
    rw [bodyI_cont] at hI2
    replace hI := Go.Lib.hid hI2
    clear hI2
    obtain ⟨b2, o2, rfl, hc2⟩ := hA3 (by simp)
    have hch := hc2 0 (by simp)
    have hbt : bt (ch :: l3) 0 = (ch.toNat : Int) := rfl
    rw [hbt] at hch
    have hu := ch.toNat_lt
    have hou := out_u8 ch.toNat KN (by omega) hKN
    simp only [List.length_cons, Nat.add_zero] at *
    have hoe : (Go.bits .andNot .u8 (ch.toNat : Int) (KN : Int) == 0) = !outB ch.toNat KN := by rw [← hou]; unfold bne; simp
    have hKt : (partsI (k : Int)).toNat = KN := by rw [hKp.out]; rfl
    rw [hKt] at hI
    clear hou hKt hKp hbt hA1 hA2 hA3
    generalize outB ch.toNat KN = OB at *
    cases OB with
    | true =>
      have hI2 := Go.Lib.hid (show I = (zS, 2) by rw [hI.out]; rfl)
      clear hI
      simp only [Bool.not_true] at hoe
      have tok0 : True := trivial
      go_wp2_with (first
        | (have _t := tok0; go_at_call 72; refine (must_bad 2 (by omega) _).mono ?_; rintro e w2 ⟨rfl, rfl⟩; clear tok0; have tok1 : True := trivial))
      exact read_panic hps hpe n1 hS rfl hE hW hI2.out rfl rfl
    | false =>
      have hI2 : I = contI ch.toNat [0, 1, 2, 3, 4, 5] (⟨(k : Int), idn, [], [], [], [], 0, 0⟩, l3, 0) := by rw [hI.out]; rfl
      replace hI := Go.Lib.hid hI2
      clear hI2
      simp only [Bool.not_false] at hoe
      have tok0 : True := trivial
      go_upto_region 9 with (first
        | (have _t := tok0; go_at_call 72; refine (must_ok 2 _).mono ?_; rintro e w2 ⟨rfl, rfl⟩; clear tok0; have tok1 : True := trivial))
      have hv1 : Blk w5 (w.heap.size + 1 + 1) 111 [.slice (some ⟨b2, o2, none⟩) (l3.length + 1) cp2, .int .u8 ((0 : Nat) : Int)] := hv1
      obtain ⟨v6, hv6, r6, o6⟩ := slice_run_l hv2 1 (by simp)
      have hb2p : w.heap.size + 1 + 1 < b2 := hv3 b2 rfl
      have r6 : Rd w5 v6 l3 := r6
      have o6 : v6.ownBlock = some b2 := o6
      obtain ⟨A6, cp6, rfl, _, _, _⟩ := r6.open
      have hv6' : ∀ w, (Instr.sliceAt 28 (.slice (some ⟨b2, o2, none⟩) (l3.length + 1) cp2) (some (.int .i64 1)) none none).run Tryd.prog w = .ok (.slice A6 l3.length cp6) w := hv6
      clear hv6
      refine O.region_making2 19 (fun | 15 => [100] | 18 => [15] | _ => []) (fun | 15 => some fun _ => oneB (w.heap.size + 1 + 1) 111 [.slice (some ⟨b2, o2, none⟩) (l3.length + 1) cp2, .int .u8 (ch.toNat : Int)] | 18 => some fun _ => oneB (w.heap.size + 1 + 1) 111 [.slice A6 l3.length cp6, .int .u8 (ch.toNat : Int)] | _ => none) [5, 11, 15] 100 (fun k => k = w.heap.size + 1 + 1) (oneB (w.heap.size + 1 + 1) 111 [.slice (some ⟨b2, o2, none⟩) (l3.length + 1) cp2, .int .u8 ((0 : Nat) : Int)] undef) (by kernel_rfl) (by kernel_rfl) ?_ ?_ ?_ ?_ ?_
      · intro i' S' h' e v'
        match i', h' with
        | 15, h' => cases h'; exact oneB_loc _ _ _ _ _ _
        | 18, h' => cases h'; exact oneB_loc _ _ _ _ _ _
      · exact oneB_loc _ _ _ _ _ _
      · exact ⟨hv1, rfl⟩
      · rintro k rfl
        exact hv1.lt
      simp only [List.take_succ_cons, List.take_zero, List.drop_succ_cons, List.drop_zero]
      (apply O.wpG_pure; (focus rfl); (focus (intro wg Bg hbg hBg hFg; go_simp; (try go_bits); (first | done | exact ⟨rfl, Below.refl _ _⟩ | rfl))); simp only [Act.put, List.setIfInBounds_toArray, List.set_cons_succ, List.set_cons_zero])
      (apply O.wpG_pure; (focus rfl); (focus (intro wg Bg hbg hBg hFg; go_simp; (try go_bits); (first | done | exact ⟨rfl, Below.refl _ _⟩ | rfl))); simp only [Act.put, List.setIfInBounds_toArray, List.set_cons_succ, List.set_cons_zero])
      (apply O.wpG_pure; (focus rfl); (focus (intro wg Bg hbg hBg hFg; go_simp; (try go_bits); (first | done | exact ⟨rfl, Below.refl _ _⟩ | rfl))); simp only [Act.put, List.setIfInBounds_toArray, List.set_cons_succ, List.set_cons_zero])
      (apply O.wpG_pure; (focus rfl); (focus (intro wg Bg hbg hBg hFg; go_simp; (try go_bits); (first | done | exact ⟨rfl, Below.refl _ _⟩ | rfl))); simp only [Act.put, List.setIfInBounds_toArray, List.set_cons_succ, List.set_cons_zero])
      (apply O.wpG_pure; (focus rfl); (focus (intro wg Bg hbg hBg hFg; go_simp; (try go_bits); (first | done | exact ⟨rfl, Below.refl _ _⟩ | rfl))); simp only [Act.put, List.setIfInBounds_toArray, List.set_cons_succ, List.set_cons_zero])
      (apply O.wpG_pure; (focus rfl); (focus (intro wg Bg hbg hBg hFg; have hS1 : oneB (w.heap.size + 1 + 1) 111 _ undef (Bg 100) wg := hFg 100 (by decide +kernel); have cx : _ = some _ := hS1.1.cell 0; go_simp; (try go_bits); (first | done | exact ⟨rfl, Below.refl _ _⟩ | rfl))); simp only [Act.put, List.setIfInBounds_toArray, List.set_cons_succ, List.set_cons_zero])
      (apply O.wpG_pure; (focus rfl); (focus (intro wg Bg hbg hBg hFg; go_simp; (try go_bits); (first | done | exact ⟨rfl, Below.refl _ _⟩ | rfl))); simp only [Act.put, List.setIfInBounds_toArray, List.set_cons_succ, List.set_cons_zero])
      (apply O.wpG_pure; (focus rfl); (focus (intro wg Bg hbg hBg hFg; have cx := rd_head (hv2.chg (show Chg _ w5 wg from ⟨hbg.os, hbg.tape, hbg.output, hbg.size, hbg.block⟩) (fun g hg e => by have := hv3 g hg; omega)); go_simp; (try go_bits); (first | done | exact ⟨rfl, Below.refl _ _⟩ | rfl))); simp only [Act.put, List.setIfInBounds_toArray, List.set_cons_succ, List.set_cons_zero])
      (apply O.wpG_pure; (focus rfl); (focus (intro wg Bg hbg hBg hFg; go_simp; (try go_bits); (first | done | exact ⟨rfl, Below.refl _ _⟩ | rfl))); simp only [Act.put, List.setIfInBounds_toArray, List.set_cons_succ, List.set_cons_zero])
      (apply O.wpG_pure; (focus rfl); (focus (intro wg Bg hbg hBg hFg; go_simp; (try go_bits); (first | done | exact ⟨rfl, Below.refl _ _⟩ | rfl))); simp only [Act.put, List.setIfInBounds_toArray, List.set_cons_succ, List.set_cons_zero])
      (apply O.wpG_pure; (focus rfl); (focus (intro wg Bg hbg hBg hFg; go_simp; (try go_bits); (first | done | exact ⟨rfl, Below.refl _ _⟩ | rfl))); simp only [Act.put, List.setIfInBounds_toArray, List.set_cons_succ, List.set_cons_zero])
      (apply O.wpG_pure; (focus rfl); (focus (intro wg Bg hbg hBg hFg; have hS1 : oneB (w.heap.size + 1 + 1) 111 _ undef (Bg 100) wg := hFg 100 (by decide +kernel); have cx : _ = some _ := hS1.1.cell 0; go_simp; (try go_bits); (first | done | exact ⟨rfl, Below.refl _ _⟩ | rfl))); simp only [Act.put, List.setIfInBounds_toArray, List.set_cons_succ, List.set_cons_zero])
      (apply O.wpG_pure; (focus rfl); (focus (intro wg Bg hbg hBg hFg; go_simp; (try go_bits); (first | done | exact ⟨rfl, Below.refl _ _⟩ | rfl))); simp only [Act.put, List.setIfInBounds_toArray, List.set_cons_succ, List.set_cons_zero])
      (apply O.wpG_pure; (focus rfl); (focus (intro wg Bg hbg hBg hFg; go_simp; (try go_bits); (first | done | exact ⟨rfl, Below.refl _ _⟩ | rfl))); simp only [Act.put, List.setIfInBounds_toArray, List.set_cons_succ, List.set_cons_zero])
      (apply O.wpG_pure; (focus rfl); (focus (intro wg Bg hbg hBg hFg; go_simp; (try go_bits); (first | done | exact ⟨rfl, Below.refl _ _⟩ | rfl))); simp only [Act.put, List.setIfInBounds_toArray, List.set_cons_succ, List.set_cons_zero])
      apply O.wpG_make; (focus rfl); (focus (intro wg Bg hbg hBg hFg; have hS1 : oneB (w.heap.size + 1 + 1) 111 _ undef (Bg 100) wg := hFg 100 (by decide +kernel); have x1 : _ = some _ := hS1.1.cell 1; have x2 := hS1.1.frozen 1; exact goesTo_oneB hS1 (by go_simp) rfl (by with_unfolding_all (conv => lhs; whnf)) rfl (by simp [go_sem, x1, x2]) rfl (fun k hk => ⟨100, by simp, hk⟩))); intro va; simp only [Act.put, List.setIfInBounds_toArray, List.set_cons_succ, List.set_cons_zero]
      (apply O.wpG_pure; (focus rfl); (focus (intro wg Bg hbg hBg hFg; go_simp; (try go_bits); (first | done | exact ⟨rfl, Below.refl _ _⟩ | rfl))); simp only [Act.put, List.setIfInBounds_toArray, List.set_cons_succ, List.set_cons_zero])
      (apply O.wpG_pure; (focus rfl); (focus (intro wg Bg hbg hBg hFg; go_simp; (try go_bits); (first | done | exact ⟨rfl, Below.refl _ _⟩ | rfl))); simp only [Act.put, List.setIfInBounds_toArray, List.set_cons_succ, List.set_cons_zero])
      apply O.wpG_make; (focus rfl); (focus (intro wg Bg hbg hBg hFg; have hS1 : oneB (w.heap.size + 1 + 1) 111 _ va (Bg 15) wg := hFg 15 (by decide +kernel); have x1 : _ = some _ := hS1.1.cell 0; have x2 := hS1.1.frozen 0; exact goesTo_oneB hS1 (by go_simp) rfl (by with_unfolding_all (conv => lhs; whnf)) rfl (by simp [go_sem, x1, x2]) rfl (fun k hk => ⟨15, by simp, hk⟩))); intro vb; simp only [Act.put, List.setIfInBounds_toArray, List.set_cons_succ, List.set_cons_zero]
      refine O.wpG_end (fun wg Bg hbg hBg hFg => ?_)
      have hR1 : oneB (w.heap.size + 1 + 1) 111 [.slice A6 l3.length cp6, .int .u8 (ch.toNat : Int)] vb (Bg 18) wg := hFg 18
      have hcn : Chg (fun k => k = w.heap.size + 1 + 1) w5 wg := ⟨hbg.os, hbg.tape, hbg.output, hbg.size, hbg.block⟩
      clear hFg hBg hbg
      replace hS := hS.chg hcn n2; replace hE := hE.chg hcn n3; replace hW := hW.trans (hcn.below hW.size (fun k hk => by cases hk; exact hpr))
      replace hR : RdrX wg (w.heap.size + 1 + 1) ch.toNat l3 := ⟨_, hR1.1, r6.chg hcn (fun g hg e => by rw [o6] at hg; cases hg; omega), fun g hg => by rw [o6] at hg; cases hg; exact hb2p⟩
      clear hR1 r6 o6 hv6' hcn hv1 hv2 hv3 hch d0 hoe hb2p
      generalize ch.toNat = C at *
      clear hc2
      go_wp2_with fail
      have hlen := pI_len C 0 l3; have hpl := hR.at.lt; replace hI := Go.Lib.hid (hI.out.trans (cont0 ..)); have PC := part_any _ (hT.below hW) _ C 0 1 l3 hR (by omega) hu (by omega) rfl; generalize pI C 0 l3 = rr at *; obtain ⟨xa, l4, ee⟩ := rr; simp only at hlen hI; refine PC.mono ?_; clear PC hR hpl; intro e wn hP; obtain ⟨hcn, hP⟩ := hP; replace hS := hS.chg hcn n2; replace hE := hE.chg hcn n3; replace hW := hW.trans (hcn.below hW.size (fun k hk => by cases hk; exact hpr)); rcases hP with ⟨hok, rfl, hR⟩ | ⟨hbad, rfl⟩; rotate_left
      · exact read_panic hps hpe n1 hS rfl hE hW (hI.out.trans (contI_err _ _ _ hbad)) rfl rfl
      obtain rfl : ee = 0 := hok
      clear hcn
      simp only at hR
      unfold sv
      go_wp2_with fail
      have hlen := pI_len C 1 l4; have hpl := hR.at.lt; replace hI := Go.Lib.hid (hI.out.trans (cont1 ..)); have PC := part_any _ (hT.below hW) _ C 1 2 l4 hR (by omega) hu (by omega) rfl; generalize pI C 1 l4 = rr at *; obtain ⟨xb, l5, ee⟩ := rr; simp only at hlen hI; refine PC.mono ?_; clear PC hR hpl; intro e wn hP; obtain ⟨hcn, hP⟩ := hP; replace hS := hS.chg hcn n2; replace hE := hE.chg hcn n3; replace hW := hW.trans (hcn.below hW.size (fun k hk => by cases hk; exact hpr)); rcases hP with ⟨hok, rfl, hR⟩ | ⟨hbad, rfl⟩; rotate_left
      · exact read_panic hps hpe n1 hS rfl hE hW (hI.out.trans (contI_err _ _ _ hbad)) rfl rfl
      obtain rfl : ee = 0 := hok
      clear hcn
      simp only at hR
      unfold sv
      go_wp2_with fail
      have hlen := pI_len C 2 l5; have hpl := hR.at.lt; replace hI := Go.Lib.hid (hI.out.trans (cont2 ..)); have PC := part_any _ (hT.below hW) _ C 2 4 l5 hR (by omega) hu (by omega) rfl; generalize pI C 2 l5 = rr at *; obtain ⟨xt, l6, ee⟩ := rr; simp only at hlen hI; refine PC.mono ?_; clear PC hR hpl; intro e wn hP; obtain ⟨hcn, hP⟩ := hP; replace hS := hS.chg hcn n2; replace hE := hE.chg hcn n3; replace hW := hW.trans (hcn.below hW.size (fun k hk => by cases hk; exact hpr)); rcases hP with ⟨hok, rfl, hR⟩ | ⟨hbad, rfl⟩; rotate_left
      · exact read_panic hps hpe n1 hS rfl hE hW (hI.out.trans (contI_err _ _ _ hbad)) rfl rfl
      obtain rfl : ee = 0 := hok
      clear hcn
      simp only at hR
      unfold sv
      have s2 := hS.frozen 2
      have s3 := hS.frozen 3
      have s4 := hS.frozen 4
      have c2 : _ = some _ := hS.cell 2
      have c3 : _ = some _ := hS.cell 3
      have c4 : _ = some _ := hS.cell 4
      go_upto_region 11 with fail
      replace hE := hE.other (a := ⟨w.heap.size, 2, none⟩) (fun e => n1 e.symm) (.string (strB xa)); replace hR := hR.set w.heap.size 2 (.string (strB xa)) (by omega); replace hW := below_set hW w.heap.size 2 (.string (strB xa)) (Nat.le_refl _) hW.size; replace hS := hS.stored 2 (.string (strB xa))
      replace hE := hE.other (a := ⟨w.heap.size, 3, none⟩) (fun e => n1 e.symm) (.string (strB xb)); replace hR := hR.set w.heap.size 3 (.string (strB xb)) (by omega); replace hW := below_set hW w.heap.size 3 (.string (strB xb)) (Nat.le_refl _) hW.size; replace hS := hS.stored 3 (.string (strB xb))
      replace hE := hE.other (a := ⟨w.heap.size, 4, none⟩) (fun e => n1 e.symm) (.string (strB xt)); replace hR := hR.set w.heap.size 4 (.string (strB xt)) (by omega); replace hW := below_set hW w.heap.size 4 (.string (strB xt)) (Nat.le_refl _) hW.size; replace hS := hS.stored 4 (.string (strB xt))
      replace hS : Blk _ _ _ (stzCells ⟨k, idn, xa, xb, xt, [], 0, 0⟩ (.slice none 0 0)) := hS
      clear s2 s3 s4 c2 c3 c4
      generalize hw7 : ((wn.setCell ⟨w.heap.size, 2, none⟩ (.string (strB xa))).setCell ⟨w.heap.size, 3, none⟩ (.string (strB xb))).setCell ⟨w.heap.size, 4, none⟩ (.string (strB xt)) = w7 at *
      clear hw7
      have hl6 : l6.length ≤ 1000000 := by omega
      clear hlen hr1 hr2 P q0 q1 q2 hKN
      have H3 := has_b w7 _ C 3 8 l6 hR.at hu (by omega) rfl
      have S3 : ∃ u : Value, u = .slice none 0 0 ∧ OwnT w7 (w.heap.size + 1 + 1 + 1) u [] := ⟨_, rfl, OwnT.nil _ _⟩
      obtain ⟨u0, eu0, ho⟩ := S3
      rw [← eu0] at hS
      by_cases hb3 : C / 2 ^ 3 % 2 = 1
      focus
        rw [decide_eq_true hb3] at H3
        replace hI := Go.Lib.hid (hI.out.trans (cont3 _ _ _ _ _ _ _ hb3))
        have hlen := listI_rest l6
        have hpl := hR.at.lt
        have LC := rlist_c w7 (hT.below hW) _ C l6 hR.at (by omega) (fun w' hc => hT.below (hW.trans (hc.below hW.size (fun k hk => by cases hk; exact hpr))))
        generalize listI l6 = rr at *
        obtain ⟨xl, l7, ee⟩ := rr
        simp only at hlen hI
        clear ho eu0
        have tok0 : True := trivial
        go_wp2_with (first
          | (have _t := tok0; go_at_call 74; refine H3.mono ?_; rintro e w1 ⟨rfl, rfl⟩; clear tok0; have tok1 : True := trivial))
        refine LC.mono ?_
        clear LC hR
        intro e wn hP
        obtain ⟨hcn, hP⟩ := hP
        replace hS := hS.chg hcn n2; replace hE := hE.chg hcn n3; replace hW := hW.trans (hcn.below hW.size (fun k hk => by cases hk; exact hpr))
        rcases hP with ⟨hok, u, rfl, ho, hR⟩ | ⟨hbad, rfl⟩
        rotate_left
        · exact read_panic hps hpe n1 hS rfl hE hW (hI.out.trans (contI_err _ _ _ hbad)) rfl rfl
        obtain rfl : ee = 0 := hok
        simp only at hR ho
        replace ho : OwnT wn (w.heap.size + 1 + 1 + 1) u xl := ho.mono (by omega)
        obtain ⟨Au, cu, eu, eur⟩ := ho.rd.open; clear eur
        generalize hnl : xl.length = nl at *
        subst eu
        have s5 := hS.frozen 5
        have c5 : _ = some _ := hS.cell 5
        clear hcn hpl
        go_upto_region 13 with fail
        replace ho := ho.set (q := w.heap.size) (j := 5) (v := .slice Au nl cu) (by omega)
        replace hE := hE.other (a := ⟨w.heap.size, 5, none⟩) (fun e => n1 e.symm) (.slice Au nl cu); replace hR := hR.set w.heap.size 5 (.slice Au nl cu) (by omega); replace hW := below_set hW w.heap.size 5 (.slice Au nl cu) (Nat.le_refl _) hW.size; replace hS := hS.stored 5 (.slice Au nl cu)
        clear s5 c5
        generalize hw8 : wn.setCell ⟨w.heap.size, 5, none⟩ (.slice Au nl cu) = w8 at *
        clear hw8
        have st : ∃ xl u b, Blk w8 w.heap.size 26 (stzCells ⟨k, idn, xa, xb, xt, xl, 0, 0⟩ u) ∧ Blk w8 (w.heap.size + 1) 29 [.int .i64 0] ∧ RdrX w8 (w.heap.size + 1 + 1) C b ∧ OwnT w8 (w.heap.size + 1 + 1 + 1) u xl ∧ Below w.heap.size w w8 ∧ b.length ≤ 1000000 ∧ RowKit.Hid (I = contI C [4, 5] (⟨k, idn, xa, xb, xt, xl, 0, 0⟩, b, 0)) := ⟨xl, _, l7, hS, hE, hR, ho, hW, by omega, hI⟩
        clear hS hE hR ho hW hI hb3 H3
      rotate_left
      focus
        rw [decide_eq_false hb3] at H3
        replace hI := Go.Lib.hid (hI.out.trans (contN _ _ _ hb3))
        have tok0 : True := trivial
        go_upto_region 13 with (first
          | (have _t := tok0; go_at_call 74; refine H3.mono ?_; rintro e w1 ⟨rfl, rfl⟩; clear tok0; have tok1 : True := trivial))
        obtain ⟨w8, ew8⟩ : ∃ w8, w8 = w7 := ⟨_, rfl⟩
        subst ew8
        have st : ∃ xl u b, Blk w8 w.heap.size 26 (stzCells ⟨k, idn, xa, xb, xt, xl, 0, 0⟩ u) ∧ Blk w8 (w.heap.size + 1) 29 [.int .i64 0] ∧ RdrX w8 (w.heap.size + 1 + 1) C b ∧ OwnT w8 (w.heap.size + 1 + 1 + 1) u xl ∧ Below w.heap.size w w8 ∧ b.length ≤ 1000000 ∧ RowKit.Hid (I = contI C [4, 5] (⟨k, idn, xa, xb, xt, xl, 0, 0⟩, b, 0)) := ⟨[], u0, l6, hS, hE, hR, ho, hW, hl6, hI⟩
        clear hS hE hR ho hW hI hb3 H3
      rotate_left
      all_goals
        obtain ⟨xl, u, l7, hS, hE, hR, ho, hW, hl7, hI⟩ := st
        have H4 := has_b w8 _ C 4 16 l7 hR.at hu (by omega) rfl
        by_cases hb4 : C / 2 ^ 4 % 2 = 1
        focus
          rw [decide_eq_true hb4] at H4
          replace hI := Go.Lib.hid (hI.out.trans (cont4 _ _ _ _ _ _ _ _ hb4))
          have hlen := numbI_rest l7
          have hpl := hR.at.lt
          have NC := fun hh => (rnumber_c w8 _ C l7 hR.at hh).mono fun _ _ hq => hq.x hpl
          generalize numbI l7 = rr at *
          obtain ⟨xn, l8, ee⟩ := rr
          simp only at hlen hI
          have tok0 : True := trivial
          go_wp2_with (first
            | (have _t := tok0; go_at_call 74; refine H4.mono ?_; rintro e w1 ⟨rfl, rfl⟩; clear tok0; have tok1 : True := trivial))
          refine (NC (by omega)).mono ?_
          clear NC hR
          intro e wn hP
          obtain ⟨hcn, hP⟩ := hP
          replace ho := ho.chg hcn (fun g hg e => by have := ho.base_le g hg; omega)
          replace hS := hS.chg hcn n2; replace hE := hE.chg hcn n3; replace hW := hW.trans (hcn.below hW.size (fun k hk => by cases hk; exact hpr))
          rcases hP with ⟨hok, rfl, hR⟩ | ⟨hbad, rfl⟩
          rotate_left
          · exact read_panic hps hpe n1 hS rfl hE hW (hI.out.trans (contI_err _ _ _ hbad)) rfl rfl
          obtain rfl : ee = 0 := hok
          simp only at hR
          have s6 := hS.frozen 6
          have c6 : _ = some _ := hS.cell 6
          clear hcn hpl
          go_upto_region 15 with fail
          replace ho := ho.set (q := w.heap.size) (j := 6) (v := .int .i64 xn) (by omega)
          replace hE := hE.other (a := ⟨w.heap.size, 6, none⟩) (fun e => n1 e.symm) (.int .i64 xn); replace hR := hR.set w.heap.size 6 (.int .i64 xn) (by omega); replace hW := below_set hW w.heap.size 6 (.int .i64 xn) (Nat.le_refl _) hW.size; replace hS := hS.stored 6 (.int .i64 xn)
          clear s6 c6
          generalize hw9 : wn.setCell ⟨w.heap.size, 6, none⟩ (.int .i64 xn) = w9 at *
          clear hw9
          have st : ∃ xl xn u b, Blk w9 w.heap.size 26 (stzCells ⟨k, idn, xa, xb, xt, xl, xn, 0⟩ u) ∧ Blk w9 (w.heap.size + 1) 29 [.int .i64 0] ∧ RdrX w9 (w.heap.size + 1 + 1) C b ∧ OwnT w9 (w.heap.size + 1 + 1 + 1) u xl ∧ Below w.heap.size w w9 ∧ b.length ≤ 1000000 ∧ RowKit.Hid (I = contI C [5] (⟨k, idn, xa, xb, xt, xl, xn, 0⟩, b, 0)) := ⟨xl, xn, u, l8, hS, hE, hR, ho, hW, by omega, hI⟩
          clear hS hE hR ho hW hI hb4 H4
        rotate_left
        focus
          rw [decide_eq_false hb4] at H4
          replace hI := Go.Lib.hid (hI.out.trans (contN _ _ _ hb4))
          have tok0 : True := trivial
          go_upto_region 15 with (first
            | (have _t := tok0; go_at_call 74; refine H4.mono ?_; rintro e w1 ⟨rfl, rfl⟩; clear tok0; have tok1 : True := trivial))
          obtain ⟨w9, ew9⟩ : ∃ w9, w9 = w8 := ⟨_, rfl⟩
          subst ew9
          have st : ∃ xl xn u b, Blk w9 w.heap.size 26 (stzCells ⟨k, idn, xa, xb, xt, xl, xn, 0⟩ u) ∧ Blk w9 (w.heap.size + 1) 29 [.int .i64 0] ∧ RdrX w9 (w.heap.size + 1 + 1) C b ∧ OwnT w9 (w.heap.size + 1 + 1 + 1) u xl ∧ Below w.heap.size w w9 ∧ b.length ≤ 1000000 ∧ RowKit.Hid (I = contI C [5] (⟨k, idn, xa, xb, xt, xl, xn, 0⟩, b, 0)) := ⟨xl, 0, u, l7, hS, hE, hR, ho, hW, hl7, hI⟩
          clear hS hE hR ho hW hI hb4 H4
        rotate_left
        all_goals
          obtain ⟨xl, xn, u, l7, hS, hE, hR, ho, hW, hl7, hI⟩ := st
          have H5 := has_b w9 _ C 5 32 l7 hR.at hu (by omega) rfl
          by_cases hb5 : C / 2 ^ 5 % 2 = 1
          focus
            rw [decide_eq_true hb5] at H5
            replace hI := Go.Lib.hid (hI.out.trans (cont5 _ _ _ _ _ _ _ _ _ hb5))
            have hlen := floaI_rest l7
            have hpl := hR.at.lt
            have NC := fun hh => (rfloat_c w9 _ C l7 hR.at hh).mono fun _ _ hq => hq.x hpl
            generalize floaI l7 = rr at *
            obtain ⟨xf, l8, ee⟩ := rr
            simp only at hlen hI
            have tok0 : True := trivial
            go_wp2_with (first
              | (have _t := tok0; go_at_call 74; refine H5.mono ?_; rintro e w1 ⟨rfl, rfl⟩; clear tok0; have tok1 : True := trivial))
            refine (NC (by omega)).mono ?_
            clear NC hR
            intro e wn hP
            obtain ⟨hcn, hP⟩ := hP
            replace ho := ho.chg hcn (fun g hg e => by have := ho.base_le g hg; omega)
            replace hS := hS.chg hcn n2; replace hE := hE.chg hcn n3; replace hW := hW.trans (hcn.below hW.size (fun k hk => by cases hk; exact hpr))
            rcases hP with ⟨hok, rfl, hR⟩ | ⟨hbad, rfl⟩
            rotate_left
            · exact read_panic hps hpe n1 hS rfl hE hW (hI.out.trans (contI_err _ _ _ hbad)) rfl rfl
            obtain rfl : ee = 0 := hok
            simp only at hR
            have s7 := hS.frozen 7
            have c7 : _ = some _ := hS.cell 7
            have hst := store_f64 wn w.heap.size 7 _ xf c7 s7
            clear hcn hpl
            go_upto_region 17 with fail
            replace ho := ho.set (q := w.heap.size) (j := 7) (v := .float .f64 xf) (by omega)
            replace hE := hE.other (a := ⟨w.heap.size, 7, none⟩) (fun e => n1 e.symm) (.float .f64 xf); replace hR := hR.set w.heap.size 7 (.float .f64 xf) (by omega); replace hW := below_set hW w.heap.size 7 (.float .f64 xf) (Nat.le_refl _) hW.size; replace hS := hS.stored 7 (.float .f64 xf)
            clear s7 c7 hst
            generalize hw10 : wn.setCell ⟨w.heap.size, 7, none⟩ (.float .f64 xf) = w10 at *
            clear hw10
            have st : ∃ xl xn xf u b, Blk w10 w.heap.size 26 (stzCells ⟨k, idn, xa, xb, xt, xl, xn, xf⟩ u) ∧ Blk w10 (w.heap.size + 1) 29 [.int .i64 0] ∧ RdrX w10 (w.heap.size + 1 + 1) C b ∧ OwnT w10 (w.heap.size + 1 + 1 + 1) u xl ∧ Below w.heap.size w w10 ∧ b.length ≤ 1000000 ∧ RowKit.Hid (I = contI C [] (⟨k, idn, xa, xb, xt, xl, xn, xf⟩, b, 0)) := ⟨xl, xn, xf, u, l8, hS, hE, hR, ho, hW, by omega, hI⟩
            clear hS hE hR ho hW hI hb5 H5
          rotate_left
          focus
            rw [decide_eq_false hb5] at H5
            replace hI := Go.Lib.hid (hI.out.trans (contN _ _ _ hb5))
            have tok0 : True := trivial
            go_upto_region 17 with (first
              | (have _t := tok0; go_at_call 74; refine H5.mono ?_; rintro e w1 ⟨rfl, rfl⟩; clear tok0; have tok1 : True := trivial))
            obtain ⟨w10, ew10⟩ : ∃ w10, w10 = w9 := ⟨_, rfl⟩
            subst ew10
            have st : ∃ xl xn xf u b, Blk w10 w.heap.size 26 (stzCells ⟨k, idn, xa, xb, xt, xl, xn, xf⟩ u) ∧ Blk w10 (w.heap.size + 1) 29 [.int .i64 0] ∧ RdrX w10 (w.heap.size + 1 + 1) C b ∧ OwnT w10 (w.heap.size + 1 + 1 + 1) u xl ∧ Below w.heap.size w w10 ∧ b.length ≤ 1000000 ∧ RowKit.Hid (I = contI C [] (⟨k, idn, xa, xb, xt, xl, xn, xf⟩, b, 0)) := ⟨xl, xn, 0, u, l7, hS, hE, hR, ho, hW, hl7, hI⟩
            clear hS hE hR ho hW hI hb5 H5
          rotate_left
          all_goals
            obtain ⟨xl, xn, xf, u, l9, hS, hE, hR, ho, hW, hl9, hI⟩ := st
            obtain ⟨v9, hv1, hv2, hv3⟩ := hR
            obtain ⟨A9, c9, rfl, _, _, _⟩ := hv2.open
            have d0 : _ = some _ := hv1.cell 0
            clear hv1 hv2 hv3
            cases l9 with
            | nil =>
              have hI2 := Go.Lib.hid (show I = (⟨k, idn, xa, xb, xt, xl, xn, xf⟩, 0) from hI.out)
              clear hI
              simp only [List.length_nil] at d0
              have h1c := cells_one ho k idn xa xb xt xn xf
              have tok0 : True := trivial
              go_wp2_with (first
                | (have _t := tok0; go_at_call 72; refine (must_ok 2 _).mono ?_; rintro e w2 ⟨rfl, rfl⟩; clear tok0; have tok1 : True := trivial)
                | (have _t := tok1; (with_reducible refine G_load ?_; refine L_load_agg agS (by with_unfolding_all (conv => lhs; whnf)) hS rfl ?_); clear tok1; have tok2 : True := trivial)
                | (have _t := tok2; (with_reducible refine G_store ?_; refine L_store_agg agS (by with_unfolding_all (conv => lhs; whnf)) (by with_unfolding_all (conv => lhs; whnf)) hS rfl rfl h1c ?_); intro wz hkz hgz hsz; have hEz := hE.grown hgz (fun e => by simp at e); have e0 : _ = some _ := hEz.cell 0; have e1 := hEz.frozen 0; clear tok2; have tok3 : True := trivial))
              have hcz : Chg (fun k => k = w.heap.size) w10 wz := Chg.grown hgz (fun k hk => by cases hk; rfl)
              have hWz : Below w.heap.size w wz := hW.trans (hcz.below hW.size (fun k hk => by cases hk; exact hps))
              have hoz : OwnT wz w.heap.size u xl := (ho.chg hcz (fun g hg e => by have := ho.base_le g hg; have e' : g = w.heap.size := e; omega)).mono (by omega)
              have hoz2 : OwnT (wz.setCell ⟨w.heap.size + 1, 0, none⟩ (.int .i64 0)) w.heap.size u xl := hoz.chg (Chg.setCell wz ⟨w.heap.size + 1, 0, none⟩ (.int .i64 0)) (fun g hg e => by have := ho.base_le g hg; have e' : g = w.heap.size + 1 := e; omega)
              refine read_done (vl := u) (s := ⟨(k : Int), idn, xa, xb, xt, xl, xn, xf⟩) ?_ (hEz.stored 0 (.int .i64 0)) hoz2 (below_set hWz (w.heap.size + 1) 0 (.int .i64 0) hpe hWz.size) hI2.out rfl rfl
              exact Blk.other (a := ⟨w.heap.size + 1, 0, none⟩) (by simpa using hkz) n1 _
            | cons c9 r9 =>
              have hI2 := Go.Lib.hid (show I = (zS, 2) from hI.out)
              clear hI
              have q9 : ((((c9 :: r9).length : Nat) : Int) == 0) = false := by simp; omega
              generalize (c9 :: r9).length = n9 at *
              have tok0 : True := trivial
              go_wp2_with (first
                | (have _t := tok0; go_at_call 72; refine (must_bad 2 (by omega) _).mono ?_; rintro e w2 ⟨rfl, rfl⟩; clear tok0; have tok1 : True := trivial))
              exact read_panic hps hpe n1 hS rfl hE hW hI2.out rfl rfl
end Go.Proofs.YtocfcgjjepegmaaDoor
