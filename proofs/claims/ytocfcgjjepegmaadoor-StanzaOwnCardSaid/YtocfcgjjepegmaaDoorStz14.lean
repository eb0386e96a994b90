/- roostref04.Read. -/
import Derived.Test.YtocfcgjjepegmaaDoorStz12
import Derived.Test.YtocfcgjjepegmaaDoorStz13
set_option linter.unusedVariables false
set_option linter.unusedSimpArgs false
namespace Go.Proofs.YtocfcgjjepegmaaDoor
open Go.RowKit
theorem ret_agg2 {P : Program} {w : World} {fn : Func} {R : Ending → World → Prop} {a : Act} {p u : Tmp} {T T' : TypeId} {n g : Nat} {cs : List Value} {x : Value} (h : fn.results = #[.cell p T, .tmp u]) (AT : AggTy P T n) (hd : a.defers = []) (hp : a.tmps.getD p undef = .pointer (some ⟨g, 0, none⟩)) (hb : Blk w g T' cs) (hn : cs.length = n)
    (hu : a.tmps.getD u undef = x) (hR : R (.returned (.tuple #[.agg cs.toArray, x])) w) : bodyPost P fn R .ret a w := by
  obtain ⟨dd, h1, h2⟩ := AT.shape
  refine bodyPost_ret_by ?_ hd hR
  have := run_loadVar_row (P := P) w g T' T cs.toArray (0, 0) dd hb h1 (by cases dd <;> simp_all) (by rw [AT.size]; simp [hn])
  rw [results_cell_tmp h, hp, hu]
  simp [asAddr, this]
theorem alloc_size (w : World) (o : Obj) : (w.alloc o).heap.size = w.heap.size + 1 := by simp
theorem bit_eqI : ∀ (n : Fin 256) (k : Fin 6), (Go.bits .and .i64 (n.val : Int) ((2 ^ k.val : Nat) : Int) == 0) = decide (n.val / 2 ^ k.val % 2 = 0) := by decide +kernel
theorem z1c : ∀ u ∈ (stzCells zS (.slice none 0 0)).toArray.toList, u.oneCell' = true := by
  intro v hv
  simp [stzCells] at hv
  rcases hv with rfl | rfl | rfl | rfl | rfl | rfl | rfl | rfl <;> rfl
theorem refread_exit {w W wz : World} {x : Int} {I : Stz × Int} {tmps : Array Value} (hb : Below w.heap.size w W) (hg : W.grownBy wz (some w.heap.size)) (hk : Blk wz w.heap.size 26 (stzCells zS (.slice none 0 0)).toArray.toList)
    (hI : Go.RowKit.Hid (I = (zS, x))) (h2 : tmps.getD 2 undef = .pointer (some ⟨w.heap.size, 0, none⟩)) (h3 : tmps.getD 3 undef = .int .i64 x) :
    bodyPost Tryd.prog Tryd.f24 (GivesS w I) .ret { tmps := tmps, defers := [] } wz := by
  have hI := hI.out
  subst hI
  have hc : Chg (fun k => k = w.heap.size) W wz := Chg.grown hg (fun k hk => by cases hk; rfl)
  exact ret_agg2 rfl agS rfl h2 hk rfl h3 ⟨.slice none 0 0, rfl, OwnT.nil _ _, hb.trans (hc.below hb.size (fun k hk => by cases hk; omega))⟩
structure RfSt (w W : World) (g7 : Nat) (s : Stz) (vl v : Value) (bl : List UInt8) : Prop where
  k2 : Blk W w.heap.size 26 (stzCells zS (.slice none 0 0))
  k4 : Blk W (w.heap.size + 1) 26 (stzCells zS (.slice none 0 0))
  k7 : Blk W g7 26 (stzCells s vl)
  own : OwnT W (g7 + 1) vl s.l
  rd : Rd W v bl
  ne : ∀ g, v.ownBlock = some g → g ≠ g7
  bel : Below w.heap.size w W
  lt : w.heap.size + 1 < g7
def bitV : Nat → Int
  | 0 => 1 | 1 => 2 | 2 => 4 | 3 => 8 | 4 => 16 | 5 => 32 | _ => 64
def ksV : Nat → List Nat
  | 0 => [0, 1, 2, 3, 4, 5] | 1 => [1, 2, 3, 4, 5] | 2 => [2, 3, 4, 5] | 3 => [3, 4, 5] | 4 => [4, 5] | 5 => [5] | _ => []
def RfRel (w : World) (G C : Nat) (I : Stz × Int) (v e bit : Value) (wr : World) : Prop :=
  ∃ (j : Nat) (s : Stz) (vl : Value) (bl : List UInt8), j ≤ 6 ∧ bit = .int .i64 (bitV j) ∧ e = .int .i64 0 ∧ RfSt w wr G s vl v bl ∧ bl.length ≤ 10000000 ∧ Go.RowKit.Hid (I = contI C (ksV j) (s, bl, 0))
theorem stz1c (s : Stz) (A : Option Addr) (n c : Nat) : ∀ u ∈ (stzCells s (.slice A n c)).toArray.toList, u.oneCell' = true := by
  intro v hv
  simp [stzCells] at hv
  rcases hv with rfl | rfl | rfl | rfl | rfl | rfl | rfl | rfl <;> rfl
theorem listI_ne (b : List UInt8) (h : (listI b).2.2 = 0) : (listI b).1 ≠ [] := by
  unfold listI at h ⊢
  split at h
  · rename_i h1
    rw [if_pos h1]
    split at h
    · simp at h
    · rename_i h2
      rw [if_neg h2]
      split at h
      · simp at h
      · rename_i h3
        rw [if_neg h3]
        have := (textsI_back _ [] _ h (fun x hx => by cases hx)).2.1
        intro e
        rw [e] at this
        simp at this
        omega
  · rename_i h1
    rw [if_neg h1]
    exact absurd h h1
theorem bit_off {n k : Nat} {c : Int} (hn : n < 256) (hk : k < 6) (hc : c = ((2 ^ k : Nat) : Int)) : (Go.bits .and .i64 (n : Int) c == 0) = decide (n / 2 ^ k % 2 = 0) := by
  subst hc
  exact bit_eqI ⟨n, hn⟩ ⟨k, hk⟩
theorem bit_th {n k : Nat} {c : Int} {p : Bool} (hn : n < 256) (hk : k < 6) (hc : c = ((2 ^ k : Nat) : Int)) (h : n / 2 ^ k % 2 = onB p 1) : (Go.bits .and .i64 (n : Int) c == 0) = !p := by
  rw [bit_off hn hk hc, h]
  cases p <;> rfl
theorem cont_skip {C k : Nat} {ks : List Nat} {s : Stz} {b : List UInt8} (h : C / 2 ^ k % 2 = 0) : contI C (k :: ks) (s, b, 0) = contI C ks (s, b, 0) := contN ks s b (by omega)
theorem cont_do {C k : Nat} {ks : List Nat} {s : Stz} {b : List UInt8} (h : ¬ C / 2 ^ k % 2 = 0) : contI C (k :: ks) (s, b, 0) = contI C ks (stepI k s b) := by
  show contI C ks (bindI C k _) = _
  rw [bind_do _ _ _ _ (by omega)]
theorem RfSt.below {w W W' : World} {g7 : Nat} {s : Stz} {vl v : Value} {bl : List UInt8} (h : RfSt w W g7 s vl v bl) (hb : Below W.heap.size W W') : RfSt w W' g7 s vl v bl :=
  ⟨h.k2.below hb, h.k4.below hb, h.k7.below hb, h.own.below hb, h.rd.below hb, h.ne, below_below h.bel hb, h.lt⟩
theorem RfSt.rest {w W : World} {g7 : Nat} {s : Stz} {vl v v' : Value} {bl bl' : List UInt8} (h : RfSt w W g7 s vl v bl) (hr : Rd W v' bl') (hn : ∀ g, v'.ownBlock = some g → g ≠ g7) : RfSt w W g7 s vl v' bl' :=
  ⟨h.k2, h.k4, h.k7, h.own, hr, hn, h.bel, h.lt⟩
theorem RfSt.set {w W : World} {g7 : Nat} {s s' : Stz} {vl vl' v : Value} {bl : List UInt8} (h : RfSt w W g7 s vl v bl) (j : Nat) (x : Value) (hc : (stzCells s vl).set j x = stzCells s' vl') (ho : OwnT W (g7 + 1) vl' s'.l) :
    RfSt w (W.setCell ⟨g7, j, none⟩ x) g7 s' vl' v bl := by
  have hlt := h.lt
  refine ⟨h.k2.other (a := ⟨g7, j, none⟩) (show w.heap.size ≠ g7 by omega) x, h.k4.other (a := ⟨g7, j, none⟩) (show w.heap.size + 1 ≠ g7 by omega) x, ?_, ho.set (by omega), h.rd.grown (grown_setCell W ⟨g7, j, none⟩ x) (fun _ e => ?_), h.ne, below_set h.bel g7 j x (by omega) h.bel.size, h.lt⟩
  · have := h.k7.stored j x
    rw [hc] at this
    exact this
  · exact h.ne g7 e rfl
set_option maxRecDepth 100000 in
set_option maxHeartbeats 6400000 in
theorem refread_c (w : World) (v : Value) (l : List UInt8) (h : Rd w v l) (hl : l.length ≤ 10000000) :
    Calls Tryd.prog 24 #[v] w (GivesS w (readI l)) := by
  have hsf := fun (W : World) (a : Addr) (x : Nat) m => run_store Tryd.prog W a (.float .f64 x) m rfl
  have U1 := fun w1 (hb : Below w.heap.size w w1) => refuint_c v l w1 (h.below hb) hl
  have hr1 := uintI_rest l
  have hI : Go.RowKit.Hid (readI l = if (uintI l).2.2 = 0 then
    if 2147483648 ≤ (uintI l).1 ∨ partsI (uintI l).1 < 0 then (zS, 3)
    else if (uintI (uintI l).2.1).2.2 = 0 then
      match (uintI (uintI l).2.1).2.1 with
      | [] => (zS, 2)
      | c :: r => bodyI { zS with kind := (uintI l).1, id := (uintI (uintI l).2.1).1 } c r
    else (zS, (uintI (uintI l).2.1).2.2)
  else (zS, (uintI l).2.2)) := Go.Lib.hid rfl
  generalize readI l = I at *
  generalize uintI l = r1 at *
  obtain ⟨n1, l1, e1⟩ := r1
  unfold GivesU at U1
  simp only at U1 hI hr1
  go_enter Tryd.func24, Tryd.ntmps24
  go_upto_region 2 with fail
  have k2 : Blk ((w.alloc (.cells #[.int .i64 0, .int .u64 0, .string ⟨#[]⟩, .string ⟨#[]⟩, .string ⟨#[]⟩, .slice none 0 0, .int .i64 0, .float .f64 0] 26)).alloc (.cells #[.int .i64 0, .int .u64 0, .string ⟨#[]⟩, .string ⟨#[]⟩, .string ⟨#[]⟩, .slice none 0 0, .int .i64 0, .float .f64 0] 26)) w.heap.size 26 (stzCells zS (.slice none 0 0)) := (Blk.new w 26 (stzCells zS (.slice none 0 0))).below ((Below.refl _ _).alloc (Nat.le_refl _) _)
  have k4 : Blk ((w.alloc (.cells #[.int .i64 0, .int .u64 0, .string ⟨#[]⟩, .string ⟨#[]⟩, .string ⟨#[]⟩, .slice none 0 0, .int .i64 0, .float .f64 0] 26)).alloc (.cells #[.int .i64 0, .int .u64 0, .string ⟨#[]⟩, .string ⟨#[]⟩, .string ⟨#[]⟩, .slice none 0 0, .int .i64 0, .float .f64 0] 26)) (w.heap.size + 1) 26 (stzCells zS (.slice none 0 0)) := by
    have := Blk.new (w.alloc (.cells #[.int .i64 0, .int .u64 0, .string ⟨#[]⟩, .string ⟨#[]⟩, .string ⟨#[]⟩, .slice none 0 0, .int .i64 0, .float .f64 0] 26)) 26 (stzCells zS (.slice none 0 0))
    have e := alloc_size w (.cells #[.int .i64 0, .int .u64 0, .string ⟨#[]⟩, .string ⟨#[]⟩, .string ⟨#[]⟩, .slice none 0 0, .int .i64 0, .float .f64 0] 26)
    rw [e] at this
    exact this
  have hbW : Below w.heap.size w ((w.alloc (.cells #[.int .i64 0, .int .u64 0, .string ⟨#[]⟩, .string ⟨#[]⟩, .string ⟨#[]⟩, .slice none 0 0, .int .i64 0, .float .f64 0] 26)).alloc (.cells #[.int .i64 0, .int .u64 0, .string ⟨#[]⟩, .string ⟨#[]⟩, .string ⟨#[]⟩, .slice none 0 0, .int .i64 0, .float .f64 0] 26)) := below_below ((Below.refl w.heap.size w).alloc (Nat.le_refl _) (.cells #[.int .i64 0, .int .u64 0, .string ⟨#[]⟩, .string ⟨#[]⟩, .string ⟨#[]⟩, .slice none 0 0, .int .i64 0, .float .f64 0] 26)) ((Below.refl _ _).alloc (Nat.le_refl _) (.cells #[.int .i64 0, .int .u64 0, .string ⟨#[]⟩, .string ⟨#[]⟩, .string ⟨#[]⟩, .slice none 0 0, .int .i64 0, .float .f64 0] 26))
  generalize (w.alloc (.cells #[.int .i64 0, .int .u64 0, .string ⟨#[]⟩, .string ⟨#[]⟩, .string ⟨#[]⟩, .slice none 0 0, .int .i64 0, .float .f64 0] 26)).alloc (.cells #[.int .i64 0, .int .u64 0, .string ⟨#[]⟩, .string ⟨#[]⟩, .string ⟨#[]⟩, .slice none 0 0, .int .i64 0, .float .f64 0] 26) = W0 at *
  have ta0 : True := trivial
  go_upto_region 3 with (first
    | (have _t := ta0; go_at_call 78; refine (U1 _ hbW).mono ?_; rintro e w1 ⟨v1, rfl, ho1, hb1⟩; replace k2 := k2.below hb1; replace k4 := k4.below hb1; replace hbW := below_below hbW hb1; clear ta0; have ta1 : True := trivial))
  clear U1 hb1 h
  have z1c := z1c
  by_cases he : e1 = 0
  rotate_left
  focus
    have q0 : (e1 != 0) = true := by simpa using he
    replace hI := hI.out
    rw [if_neg he] at hI
    replace hI := Go.Lib.hid hI
    have tx0 : True := trivial
    go_wp2_with (first
      | (have _t := tx0; (with_reducible refine G_load ?_; refine L_load_agg agS (by with_unfolding_all (conv => lhs; whnf)) k4 rfl ?_); clear tx0; have tx1 : True := trivial)
      | (have _t := tx1; (with_reducible refine G_store ?_; refine L_store_agg agS (by with_unfolding_all (conv => lhs; whnf)) (by with_unfolding_all (conv => lhs; whnf)) k2 rfl rfl z1c ?_); intro wz hkz hgz hsz; clear tx1; have tx2 : True := trivial))
    exact refread_exit hbW hgz hkz hI rfl rfl
  subst he
  replace hI := hI.out
  rw [if_pos rfl] at hI
  replace hI := Go.Lib.hid hI
  by_cases hbig : 2147483648 ≤ n1
  focus
    have q1 : (2147483648 : Int) ≤ n1 := by omega
    replace hI := hI.out
    rw [if_pos (.inl hbig)] at hI
    replace hI := Go.Lib.hid hI
    have tx0 : True := trivial
    go_wp2_with (first
      | (have _t := tx0; (with_reducible refine G_load ?_; refine L_load_agg agS (by with_unfolding_all (conv => lhs; whnf)) k4 rfl ?_); clear tx0; have tx1 : True := trivial)
      | (have _t := tx1; (with_reducible refine G_store ?_; refine L_store_agg agS (by with_unfolding_all (conv => lhs; whnf)) (by with_unfolding_all (conv => lhs; whnf)) k2 rfl rfl z1c ?_); intro wz hkz hgz hsz; clear tx1; have tx2 : True := trivial))
    exact refread_exit hbW hgz hkz hI rfl rfl
  have q1 : ¬ (2147483648 : Int) ≤ n1 := by omega
  have P1 := fun w1 => refparts_c (n1 : Int) w1
  by_cases hneg : partsI (n1 : Int) < 0
  focus
    replace hI := hI.out
    rw [if_pos (.inr hneg)] at hI
    replace hI := Go.Lib.hid hI
    generalize partsI (n1 : Int) = pp at *
    have ty0 : True := trivial
    go_wp2_with (first
      | (have _t := ty0; go_at_call 61; refine (P1 _).mono ?_; rintro e w2 ⟨rfl, rfl⟩; clear ty0; have ty1 : True := trivial)
      | (have _t := ty1; (with_reducible refine G_load ?_; refine L_load_agg agS (by with_unfolding_all (conv => lhs; whnf)) k4 rfl ?_); clear ty1; have ty2 : True := trivial)
      | (have _t := ty2; (with_reducible refine G_store ?_; refine L_store_agg agS (by with_unfolding_all (conv => lhs; whnf)) (by with_unfolding_all (conv => lhs; whnf)) k2 rfl rfl z1c ?_); intro wz hkz hgz hsz; clear ty2; have ty3 : True := trivial))
    exact refread_exit hbW hgz hkz hI rfl rfl
  replace hI := hI.out
  rw [if_neg (by omega)] at hI
  replace hI := Go.Lib.hid hI
  have hpI : 0 ≤ partsI (n1 : Int) ∧ partsI (n1 : Int) < 64 := by have := partsI_cases (n1 : Int); omega
  generalize hpe : partsI (n1 : Int) = pp at *
  replace hpI := Go.Lib.hid hpI
  replace hpe := Go.Lib.hid hpe
  have q2 : decide (pp < 0) = false := decide_eq_false hneg
  have tb0 : True := trivial
  go_upto_region 7 with (first
    | (have _t := tb0; go_at_call 61; refine (P1 _).mono ?_; rintro e w2 ⟨rfl, rfl⟩; clear tb0; have tb1 : True := trivial))
  clear P1 q1 q2
  go_upto_region 8 with fail
  have hz1 := k4.lt
  have hbA := (Below.refl w1.heap.size w1).alloc (Nat.le_refl _) (.cells #[.int .i64 (n1 : Int), .int .u64 0, .string ⟨#[]⟩, .string ⟨#[]⟩, .string ⟨#[]⟩, .slice none 0 0, .int .i64 0, .float .f64 0] 26)
  have hst : RfSt w (w1.alloc (.cells #[.int .i64 (n1 : Int), .int .u64 0, .string ⟨#[]⟩, .string ⟨#[]⟩, .string ⟨#[]⟩, .slice none 0 0, .int .i64 0, .float .f64 0] 26)) w1.heap.size { zS with kind := (n1 : Int) } (.slice none 0 0) v1 l1 :=
    ⟨k2.below hbA, k4.below hbA, Blk.new w1 26 (stzCells { zS with kind := (n1 : Int) } (.slice none 0 0)), OwnT.nil _ _, ho1.rd.below hbA, fun g hg => by have := ho1.lt g hg; omega, below_below hbW hbA, by omega⟩
  clear k2 k4 hbA hbW hz1 ho1
  generalize w1.alloc (.cells #[.int .i64 (n1 : Int), .int .u64 0, .string ⟨#[]⟩, .string ⟨#[]⟩, .string ⟨#[]⟩, .slice none 0 0, .int .i64 0, .float .f64 0] 26) = W1 at *
  generalize w1.heap.size = G at *
  have U2 := refuint_c v1 l1 W1 hst.rd (by omega)
  have hr2 := uintI_rest l1
  generalize uintI l1 = r2 at *
  obtain ⟨n2, l2, e2⟩ := r2
  unfold GivesU at U2
  simp only at U2 hI hr2
  have tc0 : True := trivial
  go_upto_region 9 with (first
    | (have _t := tc0; go_at_call 78; refine U2.mono ?_; rintro e w3 ⟨v2, rfl, ho2, hb3⟩; have hG := hst.k7.lt; replace hst := (hst.below hb3).rest ho2.rd (fun g hg => by have := ho2.base_le g hg; omega); have d1 : _ = some _ := hst.k7.cell 1; have z1 := hst.k7.frozen 1; clear tc0; have tc1 : True := trivial))
  replace hst := hst.set (s' := { zS with kind := (n1 : Int), id := n2 }) (vl' := .slice none 0 0) 1 (.int .u64 (n2 : Int)) rfl (OwnT.nil _ _)
  clear d1 z1 hb3 U2 ho2 hG
  generalize w3.setCell ⟨G, 1, none⟩ (.int .u64 (n2 : Int)) = W2 at *
  by_cases he : e2 = 0
  rotate_left
  focus
    have q0 : (e2 != 0) = true := by simpa using he
    replace hI := hI.out
    rw [if_neg he] at hI
    replace hI := Go.Lib.hid hI
    have tx0 : True := trivial
    go_wp2_with (first
      | (have _t := tx0; (with_reducible refine G_load ?_; refine L_load_agg agS (by with_unfolding_all (conv => lhs; whnf)) hst.k4 rfl ?_); clear tx0; have tx1 : True := trivial)
      | (have _t := tx1; (with_reducible refine G_store ?_; refine L_store_agg agS (by with_unfolding_all (conv => lhs; whnf)) (by with_unfolding_all (conv => lhs; whnf)) hst.k2 rfl rfl z1c ?_); intro wz hkz hgz hsz; clear tx1; have tx2 : True := trivial))
    exact refread_exit hst.bel hgz hkz hI rfl rfl
  subst he
  replace hI := hI.out
  rw [if_pos rfl] at hI
  replace hI := Go.Lib.hid hI
  go_upto_region 11 with fail
  have hrd := hst.rd
  match l2, hI, hrd, hst, hr2 with
  | [], hI, hrd, hst, hr2 =>
    simp only at hI
    have td0 : True := trivial
    go_wp2_with (first
      | (have _t := td0; (with_reducible refine G_len ?_; refine L8_len Tryd.underlying28 (by with_unfolding_all (conv => lhs; whnf)) (by assumption) ?_); clear td0; have td1 : True := trivial)
      | (have _t := td1; (with_reducible refine G_load ?_; refine L_load_agg agS (by with_unfolding_all (conv => lhs; whnf)) hst.k4 rfl ?_); clear td1; have td2 : True := trivial)
      | (have _t := td2; (with_reducible refine G_store ?_; refine L_store_agg agS (by with_unfolding_all (conv => lhs; whnf)) (by with_unfolding_all (conv => lhs; whnf)) hst.k2 rfl rfl z1c ?_); intro wz hkz hgz hsz; clear td2; have td3 : True := trivial))
    exact refread_exit hst.bel hgz hkz hI rfl rfl
  | cb :: bl, hI, hrd, hst, hr2 =>
    simp only at hI
    have q5 : ¬ (((cb :: bl).length : Nat) : Int) = 0 := by simp; omega
    have q6 : ((((cb :: bl).length : Nat) : Int) == 0) = false := by rw [beq_eq_false_iff_ne]; exact q5
    have hl2 : 0 < (cb :: bl).length := by simp
    have hbt : bt (cb :: bl) 0 = (cb.toNat : Int) := rfl
    have hcn := cb.toNat_lt
    have qb : (cb.toNat : Int) < 256 := by omega
    have qb0 : (0 : Int) ≤ (cb.toNat : Int) := by omega
    have te0 : True := trivial
    go_upto_region 15 with (first
      | (have _t := te0; (with_reducible refine G_len ?_; refine L8_len Tryd.underlying28 (by with_unfolding_all (conv => lhs; whnf)) (by assumption) ?_); clear te0; have te1 : True := trivial)
      | (have _t := te1; (with_reducible refine G_index ?_; refine L8_index st8 (i := 0) (by with_unfolding_all (conv => lhs; whnf)) (by assumption) (by with_unfolding_all (conv => lhs; whnf)) (by omega) (by omega) ?_); intro bb oo hbo hcl; rw [hbt] at hcl; clear te1; have te2 : True := trivial)
      | (have _t := te2; (with_reducible refine G_slice ?_; refine L8_slice_l st8 (lo := 1) (by with_unfolding_all (conv => lhs; whnf)) (by assumption) (by with_unfolding_all (conv => lhs; whnf)) (by omega) (by omega) ?_); intro v3 hr3 hv3; clear te2; have te3 : True := trivial))
    replace hst := hst.rest hr3 (fun g hg => hst.ne g (by rw [← hv3]; exact hg))
    have hbl : ((cb :: bl).drop 1).length ≤ 10000000 := by simp at hr2 ⊢; omega
    clear hr3 hv3 hrd q5 q6 hl2 hbt hcl hbo
    rw [bodyI_cont] at hI
    have hpp := hpe.out
    have hpr := hpI.out
    obtain ⟨p, rfl⟩ := Int.eq_ofNat_of_zero_le hpr.1
    have hp64 : p < 64 := by omega
    simp only [hpp, Int.toNat_natCast] at hI
    have hI2 := hI
    clear hI
    have P2 := fun w1 => refparts_c (n1 : Int) w1
    rw [hpp] at P2
    have hob := out_i64 cb.toNat p hcn hp64
    have d0 : _ = some _ := hst.k7.cell 0
    clear hpp hpr hneg hbig hpe hpI hr2
    generalize cb.toNat = C at *
    have hdrop : (cb :: bl).drop 1 = bl := rfl
    rw [hdrop] at hst hbl
    clear hdrop
    by_cases ho : outB C p = true
    focus
      rw [if_pos ho] at hI2
      have hI := Go.Lib.hid hI2
      rw [ho] at hob
      clear hI2 ho
      have tf0 : True := trivial
      go_wp2_with (first
        | (have _t := tf0; go_at_call 61; refine (P2 _).mono ?_; rintro e w4 ⟨rfl, rfl⟩; clear tf0; have tf1 : True := trivial)
        | (have _t := tf1; (with_reducible refine G_load ?_; refine L_load_agg agS (by with_unfolding_all (conv => lhs; whnf)) hst.k4 rfl ?_); clear tf1; have tf2 : True := trivial)
        | (have _t := tf2; (with_reducible refine G_store ?_; refine L_store_agg agS (by with_unfolding_all (conv => lhs; whnf)) (by with_unfolding_all (conv => lhs; whnf)) hst.k2 rfl rfl z1c ?_); intro wz hkz hgz hsz; clear tf2; have tf3 : True := trivial))
      exact refread_exit hst.bel hgz hkz hI rfl rfl
    rw [if_neg ho] at hI2
    have hI := Go.Lib.hid hI2
    rw [Bool.eq_false_iff.2 ho] at hob
    clear hI2 ho
    have tg0 : True := trivial
    go_upto_region 17 with (first
      | (have _t := tg0; go_at_call 61; refine (P2 _).mono ?_; rintro e w4 ⟨rfl, rfl⟩; clear tg0; have tg1 : True := trivial))
    clear P2 hob d0 hp64 qb qb0
    go_wp2_with fail
    go_loopw [0, 6, 9] (RfRel w G C I) (fun _ _ i _ => 64 - (intOf i).toNat)
    case atStart => exact ⟨0, { zS with kind := (n1 : Int), id := n2 }, .slice none 0 0, bl, by omega, rfl, rfl, hst, hbl, hI⟩
    clear hst hI hbl
    case round =>
      obtain ⟨j, s, vl, bl, hj, rfl, rfl, hst, hbl, hI⟩ := hrel
      have hlt := thereI_lt s
      obtain ⟨Al, cl, eel, rel⟩ := hst.own.rd.open
      clear rel
      generalize hnl : s.l.length = nl at eel
      subst eel
      rcases (by omega : j = 0 ∨ j = 1 ∨ j = 2 ∨ j = 3 ∨ j = 4 ∨ j = 5 ∨ j = 6) with rfl | rfl | rfl | rfl | rfl | rfl | rfl
      · simp only [bitV, ksV] at hI ⊢
        have hb8 := bit_off (c := 1) hcn (k := 0) (by omega) rfl
        by_cases hon : C / 2 ^ 0 % 2 = 0
        · rw [decide_eq_true hon] at hb8
          have hI3 := Go.Lib.hid (hI.out.trans (cont_skip hon))
          clear hI hon
          go_wp2_with fail
          exact ⟨⟨1, s, _, bl, by omega, rfl, rfl, hst, hbl, hI3⟩, by simp [intOf, bitV]⟩
        · rw [decide_eq_false hon] at hb8
          have hI3 := Go.Lib.hid (hI.out.trans (cont_do hon))
          clear hI hon
          have TX := reftext_c _ bl 1024 _ hst.rd hbl (by omega)
          rw [show (1024 : Int).toNat = 1024 from rfl] at TX
          have hrest := textI_rest bl 1024
          unfold stepI partI at hI3
          generalize textI bl 1024 = r2 at *
          obtain ⟨x, l2, e2⟩ := r2
          unfold GivesT at TX
          simp only at TX hI3 hrest
          have t00 : True := trivial
          go_upto_region 33 with (first
            | (have _t := t00; go_at_call 79; refine TX.mono ?_; rintro e w2 ⟨v2, rfl, hv2, hb2⟩; have hG := hst.k7.lt; replace hst := (hst.below hb2).rest hv2.rd (fun g hg => by have := hv2.base_le g hg; omega); have d1 : _ = some _ := hst.k7.cell 2; have z1 := hst.k7.frozen 2; clear t00; have t01 : True := trivial))
          replace hst := hst.set (s' := { s with a := x }) 2 (.string (strB x)) rfl hst.own
          clear d1 z1 hb2 TX hv2 hG
          generalize w2.setCell ⟨G, 2, none⟩ (.string (strB x)) = w3 at *
          by_cases he2 : e2 = 0
          rotate_left
          focus
            have q0 : (e2 != 0) = true := by simpa using he2
            have hI := hI3.out
            rw [if_neg he2] at hI
            replace hI := Go.Lib.hid (hI.trans (contI_err _ _ _ he2))
            clear hI3
            have tx00 : True := trivial
            go_wp2_with (first
              | (have _t := tx00; (with_reducible refine G_load ?_; refine L_load_agg agS (by with_unfolding_all (conv => lhs; whnf)) hst.k4 rfl ?_); clear tx00; have tx01 : True := trivial)
              | (have _t := tx01; (with_reducible refine G_store ?_; refine L_store_agg agS (by with_unfolding_all (conv => lhs; whnf)) (by with_unfolding_all (conv => lhs; whnf)) hst.k2 rfl rfl z1c ?_); intro wz hkz hgz hsz; clear tx01; have tx02 : True := trivial))
            exact refread_exit hst.bel hgz hkz hI rfl rfl
          subst he2
          have TH := fun w4 h => refthere_c w4 { s with a := x } (.slice Al nl cl) h
          have hlt := thereI_lt { s with a := x }
          obtain ⟨b0, b1, b2, b3, b4, b5⟩ := bits_there { s with a := x }
          simp only at b0 b1 b2 b3 b4 b5 hlt
          have hq := fun hh => bit_th (c := 1) (n := thereI { s with a := x }) hh (k := 0) (by omega) rfl b0
          replace hq := hq (by omega)
          unfold stzV at TH
          simp only at TH
          generalize thereI { s with a := x } = th at *
          clear b0 b1 b2 b3 b4 b5
          by_cases hx : x = []
          · have hq3 : (!x.isEmpty) = false := by rw [hx]; rfl
            rw [hq3] at hq
            have hI := hI3.out
            rw [if_pos rfl, if_pos hx] at hI
            replace hI := Go.Lib.hid (hI.trans (contI_err _ _ _ (by simp)))
            clear hI3 hx hlt
            have v00 : True := trivial
            go_wp2_with (first
              | (have _t := v00; (with_reducible refine G_load ?_; refine L_load_agg agS (by with_unfolding_all (conv => lhs; whnf)) hst.k7 rfl ?_); clear v00; have v01 : True := trivial)
              | (have _t := v01; go_at_call 62; refine (TH _ hst.own.rd).mono ?_; rintro e w5 ⟨rfl, hb5⟩; replace hst := hst.below hb5; clear v01; have v02 : True := trivial)
              | (have _t := v02; (with_reducible refine G_load ?_; refine L_load_agg agS (by with_unfolding_all (conv => lhs; whnf)) hst.k4 rfl ?_); clear v02; have v03 : True := trivial)
              | (have _t := v03; (with_reducible refine G_store ?_; refine L_store_agg agS (by with_unfolding_all (conv => lhs; whnf)) (by with_unfolding_all (conv => lhs; whnf)) hst.k2 rfl rfl z1c ?_); intro wz hkz hgz hsz; clear v03; have v04 : True := trivial))
            exact refread_exit hst.bel hgz hkz hI rfl rfl
          · have hq3 : (!x.isEmpty) = true := by simpa using hx
            rw [hq3] at hq
            have hI := hI3.out
            rw [if_pos rfl, if_neg hx] at hI
            replace hI := Go.Lib.hid hI
            clear hI3 hx hlt
            have u00 : True := trivial
            go_wp2_with (first
              | (have _t := u00; (with_reducible refine G_load ?_; refine L_load_agg agS (by with_unfolding_all (conv => lhs; whnf)) hst.k7 rfl ?_); clear u00; have u01 : True := trivial)
              | (have _t := u01; go_at_call 62; refine (TH _ hst.own.rd).mono ?_; rintro e w5 ⟨rfl, hb5⟩; replace hst := hst.below hb5; clear u01; have u02 : True := trivial))
            exact ⟨⟨1, { s with a := x }, _, l2, by omega, rfl, rfl, hst, by omega, hI⟩, by simp [intOf, bitV]⟩
      · simp only [bitV, ksV] at hI ⊢
        have hb8 := bit_off (c := 2) hcn (k := 1) (by omega) rfl
        by_cases hon : C / 2 ^ 1 % 2 = 0
        · rw [decide_eq_true hon] at hb8
          have hI3 := Go.Lib.hid (hI.out.trans (cont_skip hon))
          clear hI hon
          go_wp2_with fail
          exact ⟨⟨2, s, _, bl, by omega, rfl, rfl, hst, hbl, hI3⟩, by simp [intOf, bitV]⟩
        · rw [decide_eq_false hon] at hb8
          have hI3 := Go.Lib.hid (hI.out.trans (cont_do hon))
          clear hI hon
          have TX := reftext_c _ bl 1024 _ hst.rd hbl (by omega)
          rw [show (1024 : Int).toNat = 1024 from rfl] at TX
          have hrest := textI_rest bl 1024
          unfold stepI partI at hI3
          generalize textI bl 1024 = r2 at *
          obtain ⟨x, l2, e2⟩ := r2
          unfold GivesT at TX
          simp only at TX hI3 hrest
          have t10 : True := trivial
          go_upto_region 33 with (first
            | (have _t := t10; go_at_call 79; refine TX.mono ?_; rintro e w2 ⟨v2, rfl, hv2, hb2⟩; have hG := hst.k7.lt; replace hst := (hst.below hb2).rest hv2.rd (fun g hg => by have := hv2.base_le g hg; omega); have d1 : _ = some _ := hst.k7.cell 3; have z1 := hst.k7.frozen 3; clear t10; have t11 : True := trivial))
          replace hst := hst.set (s' := { s with b := x }) 3 (.string (strB x)) rfl hst.own
          clear d1 z1 hb2 TX hv2 hG
          generalize w2.setCell ⟨G, 3, none⟩ (.string (strB x)) = w3 at *
          by_cases he2 : e2 = 0
          rotate_left
          focus
            have q0 : (e2 != 0) = true := by simpa using he2
            have hI := hI3.out
            rw [if_neg he2] at hI
            replace hI := Go.Lib.hid (hI.trans (contI_err _ _ _ he2))
            clear hI3
            have tx10 : True := trivial
            go_wp2_with (first
              | (have _t := tx10; (with_reducible refine G_load ?_; refine L_load_agg agS (by with_unfolding_all (conv => lhs; whnf)) hst.k4 rfl ?_); clear tx10; have tx11 : True := trivial)
              | (have _t := tx11; (with_reducible refine G_store ?_; refine L_store_agg agS (by with_unfolding_all (conv => lhs; whnf)) (by with_unfolding_all (conv => lhs; whnf)) hst.k2 rfl rfl z1c ?_); intro wz hkz hgz hsz; clear tx11; have tx12 : True := trivial))
            exact refread_exit hst.bel hgz hkz hI rfl rfl
          subst he2
          have TH := fun w4 h => refthere_c w4 { s with b := x } (.slice Al nl cl) h
          have hlt := thereI_lt { s with b := x }
          obtain ⟨b0, b1, b2, b3, b4, b5⟩ := bits_there { s with b := x }
          simp only at b0 b1 b2 b3 b4 b5 hlt
          have hq := fun hh => bit_th (c := 2) (n := thereI { s with b := x }) hh (k := 1) (by omega) rfl b1
          replace hq := hq (by omega)
          unfold stzV at TH
          simp only at TH
          generalize thereI { s with b := x } = th at *
          clear b0 b1 b2 b3 b4 b5
          by_cases hx : x = []
          · have hq3 : (!x.isEmpty) = false := by rw [hx]; rfl
            rw [hq3] at hq
            have hI := hI3.out
            rw [if_pos rfl, if_pos hx] at hI
            replace hI := Go.Lib.hid (hI.trans (contI_err _ _ _ (by simp)))
            clear hI3 hx hlt
            have v10 : True := trivial
            go_wp2_with (first
              | (have _t := v10; (with_reducible refine G_load ?_; refine L_load_agg agS (by with_unfolding_all (conv => lhs; whnf)) hst.k7 rfl ?_); clear v10; have v11 : True := trivial)
              | (have _t := v11; go_at_call 62; refine (TH _ hst.own.rd).mono ?_; rintro e w5 ⟨rfl, hb5⟩; replace hst := hst.below hb5; clear v11; have v12 : True := trivial)
              | (have _t := v12; (with_reducible refine G_load ?_; refine L_load_agg agS (by with_unfolding_all (conv => lhs; whnf)) hst.k4 rfl ?_); clear v12; have v13 : True := trivial)
              | (have _t := v13; (with_reducible refine G_store ?_; refine L_store_agg agS (by with_unfolding_all (conv => lhs; whnf)) (by with_unfolding_all (conv => lhs; whnf)) hst.k2 rfl rfl z1c ?_); intro wz hkz hgz hsz; clear v13; have v14 : True := trivial))
            exact refread_exit hst.bel hgz hkz hI rfl rfl
          · have hq3 : (!x.isEmpty) = true := by simpa using hx
            rw [hq3] at hq
            have hI := hI3.out
            rw [if_pos rfl, if_neg hx] at hI
            replace hI := Go.Lib.hid hI
            clear hI3 hx hlt
            have u10 : True := trivial
            go_wp2_with (first
              | (have _t := u10; (with_reducible refine G_load ?_; refine L_load_agg agS (by with_unfolding_all (conv => lhs; whnf)) hst.k7 rfl ?_); clear u10; have u11 : True := trivial)
              | (have _t := u11; go_at_call 62; refine (TH _ hst.own.rd).mono ?_; rintro e w5 ⟨rfl, hb5⟩; replace hst := hst.below hb5; clear u11; have u12 : True := trivial))
            exact ⟨⟨2, { s with b := x }, _, l2, by omega, rfl, rfl, hst, by omega, hI⟩, by simp [intOf, bitV]⟩
      · simp only [bitV, ksV] at hI ⊢
        have hb8 := bit_off (c := 4) hcn (k := 2) (by omega) rfl
        by_cases hon : C / 2 ^ 2 % 2 = 0
        · rw [decide_eq_true hon] at hb8
          have hI3 := Go.Lib.hid (hI.out.trans (cont_skip hon))
          clear hI hon
          go_wp2_with fail
          exact ⟨⟨3, s, _, bl, by omega, rfl, rfl, hst, hbl, hI3⟩, by simp [intOf, bitV]⟩
        · rw [decide_eq_false hon] at hb8
          have hI3 := Go.Lib.hid (hI.out.trans (cont_do hon))
          clear hI hon
          have TX := reftext_c _ bl 1024 _ hst.rd hbl (by omega)
          rw [show (1024 : Int).toNat = 1024 from rfl] at TX
          have hrest := textI_rest bl 1024
          unfold stepI partI at hI3
          generalize textI bl 1024 = r2 at *
          obtain ⟨x, l2, e2⟩ := r2
          unfold GivesT at TX
          simp only at TX hI3 hrest
          have t20 : True := trivial
          go_upto_region 33 with (first
            | (have _t := t20; go_at_call 79; refine TX.mono ?_; rintro e w2 ⟨v2, rfl, hv2, hb2⟩; have hG := hst.k7.lt; replace hst := (hst.below hb2).rest hv2.rd (fun g hg => by have := hv2.base_le g hg; omega); have d1 : _ = some _ := hst.k7.cell 4; have z1 := hst.k7.frozen 4; clear t20; have t21 : True := trivial))
          replace hst := hst.set (s' := { s with t := x }) 4 (.string (strB x)) rfl hst.own
          clear d1 z1 hb2 TX hv2 hG
          generalize w2.setCell ⟨G, 4, none⟩ (.string (strB x)) = w3 at *
          by_cases he2 : e2 = 0
          rotate_left
          focus
            have q0 : (e2 != 0) = true := by simpa using he2
            have hI := hI3.out
            rw [if_neg he2] at hI
            replace hI := Go.Lib.hid (hI.trans (contI_err _ _ _ he2))
            clear hI3
            have tx20 : True := trivial
            go_wp2_with (first
              | (have _t := tx20; (with_reducible refine G_load ?_; refine L_load_agg agS (by with_unfolding_all (conv => lhs; whnf)) hst.k4 rfl ?_); clear tx20; have tx21 : True := trivial)
              | (have _t := tx21; (with_reducible refine G_store ?_; refine L_store_agg agS (by with_unfolding_all (conv => lhs; whnf)) (by with_unfolding_all (conv => lhs; whnf)) hst.k2 rfl rfl z1c ?_); intro wz hkz hgz hsz; clear tx21; have tx22 : True := trivial))
            exact refread_exit hst.bel hgz hkz hI rfl rfl
          subst he2
          have TH := fun w4 h => refthere_c w4 { s with t := x } (.slice Al nl cl) h
          have hlt := thereI_lt { s with t := x }
          obtain ⟨b0, b1, b2, b3, b4, b5⟩ := bits_there { s with t := x }
          simp only at b0 b1 b2 b3 b4 b5 hlt
          have hq := fun hh => bit_th (c := 4) (n := thereI { s with t := x }) hh (k := 2) (by omega) rfl b2
          replace hq := hq (by omega)
          unfold stzV at TH
          simp only at TH
          generalize thereI { s with t := x } = th at *
          clear b0 b1 b2 b3 b4 b5
          by_cases hx : x = []
          · have hq3 : (!x.isEmpty) = false := by rw [hx]; rfl
            rw [hq3] at hq
            have hI := hI3.out
            rw [if_pos rfl, if_pos hx] at hI
            replace hI := Go.Lib.hid (hI.trans (contI_err _ _ _ (by simp)))
            clear hI3 hx hlt
            have v20 : True := trivial
            go_wp2_with (first
              | (have _t := v20; (with_reducible refine G_load ?_; refine L_load_agg agS (by with_unfolding_all (conv => lhs; whnf)) hst.k7 rfl ?_); clear v20; have v21 : True := trivial)
              | (have _t := v21; go_at_call 62; refine (TH _ hst.own.rd).mono ?_; rintro e w5 ⟨rfl, hb5⟩; replace hst := hst.below hb5; clear v21; have v22 : True := trivial)
              | (have _t := v22; (with_reducible refine G_load ?_; refine L_load_agg agS (by with_unfolding_all (conv => lhs; whnf)) hst.k4 rfl ?_); clear v22; have v23 : True := trivial)
              | (have _t := v23; (with_reducible refine G_store ?_; refine L_store_agg agS (by with_unfolding_all (conv => lhs; whnf)) (by with_unfolding_all (conv => lhs; whnf)) hst.k2 rfl rfl z1c ?_); intro wz hkz hgz hsz; clear v23; have v24 : True := trivial))
            exact refread_exit hst.bel hgz hkz hI rfl rfl
          · have hq3 : (!x.isEmpty) = true := by simpa using hx
            rw [hq3] at hq
            have hI := hI3.out
            rw [if_pos rfl, if_neg hx] at hI
            replace hI := Go.Lib.hid hI
            clear hI3 hx hlt
            have u20 : True := trivial
            go_wp2_with (first
              | (have _t := u20; (with_reducible refine G_load ?_; refine L_load_agg agS (by with_unfolding_all (conv => lhs; whnf)) hst.k7 rfl ?_); clear u20; have u21 : True := trivial)
              | (have _t := u21; go_at_call 62; refine (TH _ hst.own.rd).mono ?_; rintro e w5 ⟨rfl, hb5⟩; replace hst := hst.below hb5; clear u21; have u22 : True := trivial))
            exact ⟨⟨3, { s with t := x }, _, l2, by omega, rfl, rfl, hst, by omega, hI⟩, by simp [intOf, bitV]⟩
      · simp only [bitV, ksV] at hI ⊢
        have hb8 := bit_off (c := 8) hcn (k := 3) (by omega) rfl
        by_cases hon : C / 2 ^ 3 % 2 = 0
        · rw [decide_eq_true hon] at hb8
          have hI3 := Go.Lib.hid (hI.out.trans (cont_skip hon))
          clear hI hon
          go_wp2_with fail
          exact ⟨⟨4, s, _, bl, by omega, rfl, rfl, hst, hbl, hI3⟩, by simp [intOf, bitV]⟩
        · rw [decide_eq_false hon] at hb8
          have hI3 := Go.Lib.hid (hI.out.trans (cont_do hon))
          clear hI hon
          have TX := reflist_c _ bl _ hst.rd hbl
          have hrest := listI_rest bl
          have hne := listI_ne bl
          unfold stepI at hI3
          simp only at hI3
          generalize listI bl = r2 at *
          obtain ⟨x, l2, e2⟩ := r2
          unfold GivesLs at TX
          simp only at TX hI3 hrest hne
          have t30 : True := trivial
          go_upto_region 33 with (first
            | (have _t := t30; go_at_call 80; refine TX.mono ?_; rintro e w2 ⟨u2, v2, rfl, hu2, hv2, hn2, hb2⟩; have hG := hst.k7.lt; replace hst := (hst.below hb2).rest hv2 (fun g hg => by have := hn2 g hg; omega); have d1 : _ = some _ := hst.k7.cell 5; have z1 := hst.k7.frozen 5; obtain ⟨A2, c2, ee2, re2⟩ := hu2.rd.open; clear re2; generalize hn2l : x.length = nl2 at ee2; subst ee2; clear t30; have t31 : True := trivial))
          replace hst := hst.set (s' := { s with l := x }) (vl' := .slice A2 nl2 c2) 5 (.slice A2 nl2 c2) rfl (hu2.mono (by omega))
          clear d1 z1 hb2 TX hv2 hG hu2 hn2
          generalize w2.setCell ⟨G, 5, none⟩ (.slice A2 nl2 c2) = w3 at *
          by_cases he2 : e2 = 0
          rotate_left
          focus
            have q0 : (e2 != 0) = true := by simpa using he2
            have hI := hI3.out
            replace hI := Go.Lib.hid (hI.trans (contI_err _ _ _ he2))
            clear hI3
            have tx30 : True := trivial
            go_wp2_with (first
              | (have _t := tx30; (with_reducible refine G_load ?_; refine L_load_agg agS (by with_unfolding_all (conv => lhs; whnf)) hst.k4 rfl ?_); clear tx30; have tx31 : True := trivial)
              | (have _t := tx31; (with_reducible refine G_store ?_; refine L_store_agg agS (by with_unfolding_all (conv => lhs; whnf)) (by with_unfolding_all (conv => lhs; whnf)) hst.k2 rfl rfl z1c ?_); intro wz hkz hgz hsz; clear tx31; have tx32 : True := trivial))
            exact refread_exit hst.bel hgz hkz hI rfl rfl
          subst he2
          have TH := fun w4 h => refthere_c w4 { s with l := x } (.slice A2 nl2 c2) h
          have hlt := thereI_lt { s with l := x }
          obtain ⟨b0, b1, b2, b3, b4, b5⟩ := bits_there { s with l := x }
          simp only at b0 b1 b2 b3 b4 b5 hlt
          have hq := fun hh => bit_th (c := 8) (n := thereI { s with l := x }) hh (k := 3) (by omega) rfl b3
          replace hq := hq (by omega)
          unfold stzV at TH
          simp only at TH
          generalize thereI { s with l := x } = th at *
          clear b0 b1 b2 b3 b4 b5
          have hq3 : (!x.isEmpty) = true := by have := hne rfl; simpa using this
          rw [hq3] at hq
          have hI := hI3
          clear hI3 hlt
          have u30 : True := trivial
          go_wp2_with (first
            | (have _t := u30; (with_reducible refine G_load ?_; refine L_load_agg agS (by with_unfolding_all (conv => lhs; whnf)) hst.k7 rfl ?_); clear u30; have u31 : True := trivial)
            | (have _t := u31; go_at_call 62; refine (TH _ hst.own.rd).mono ?_; rintro e w5 ⟨rfl, hb5⟩; replace hst := hst.below hb5; clear u31; have u32 : True := trivial))
          exact ⟨⟨4, { s with l := x }, _, l2, by omega, rfl, rfl, hst, by omega, hI⟩, by simp [intOf, bitV]⟩
      · simp only [bitV, ksV] at hI ⊢
        have hb8 := bit_off (c := 16) hcn (k := 4) (by omega) rfl
        by_cases hon : C / 2 ^ 4 % 2 = 0
        · rw [decide_eq_true hon] at hb8
          have hI3 := Go.Lib.hid (hI.out.trans (cont_skip hon))
          clear hI hon
          go_wp2_with fail
          exact ⟨⟨5, s, _, bl, by omega, rfl, rfl, hst, hbl, hI3⟩, by simp [intOf, bitV]⟩
        · rw [decide_eq_false hon] at hb8
          have hI3 := Go.Lib.hid (hI.out.trans (cont_do hon))
          clear hI hon
          have TX := refint_c _ bl _ hst.rd hbl
          have hrest : (intI bl).2.1.length ≤ bl.length := by unfold intI; split <;> simp
          unfold stepI numbI at hI3
          generalize intI bl = r2 at *
          obtain ⟨x, l2, e2⟩ := r2
          unfold GivesI at TX
          simp only at TX hI3 hrest
          have t40 : True := trivial
          go_upto_region 33 with (first
            | (have _t := t40; go_at_call 81; refine TX.mono ?_; rintro e w2 ⟨v2, rfl, hv2, hb2⟩; have hG := hst.k7.lt; replace hst := (hst.below hb2).rest hv2.rd (fun g hg => by have := hv2.base_le g hg; omega); have d1 : _ = some _ := hst.k7.cell 6; have z1 := hst.k7.frozen 6; clear t40; have t41 : True := trivial))
          replace hst := hst.set (s' := { s with n := x }) 6 (.int .i64 x) rfl hst.own
          clear d1 z1 hb2 TX hv2 hG
          generalize w2.setCell ⟨G, 6, none⟩ (.int .i64 x) = w3 at *
          by_cases he2 : e2 = 0
          rotate_left
          focus
            have q0 : (e2 != 0) = true := by simpa using he2
            have hI := hI3.out
            rw [if_neg he2] at hI
            replace hI := Go.Lib.hid (hI.trans (contI_err _ _ _ he2))
            clear hI3
            have tx40 : True := trivial
            go_wp2_with (first
              | (have _t := tx40; (with_reducible refine G_load ?_; refine L_load_agg agS (by with_unfolding_all (conv => lhs; whnf)) hst.k4 rfl ?_); clear tx40; have tx41 : True := trivial)
              | (have _t := tx41; (with_reducible refine G_store ?_; refine L_store_agg agS (by with_unfolding_all (conv => lhs; whnf)) (by with_unfolding_all (conv => lhs; whnf)) hst.k2 rfl rfl z1c ?_); intro wz hkz hgz hsz; clear tx41; have tx42 : True := trivial))
            exact refread_exit hst.bel hgz hkz hI rfl rfl
          subst he2
          have TH := fun w4 h => refthere_c w4 { s with n := x } (.slice Al nl cl) h
          have hlt := thereI_lt { s with n := x }
          obtain ⟨b0, b1, b2, b3, b4, b5⟩ := bits_there { s with n := x }
          simp only at b0 b1 b2 b3 b4 b5 hlt
          have hq := fun hh => bit_th (c := 16) (n := thereI { s with n := x }) hh (k := 4) (by omega) rfl b4
          replace hq := hq (by omega)
          unfold stzV at TH
          simp only at TH
          generalize thereI { s with n := x } = th at *
          clear b0 b1 b2 b3 b4 b5
          by_cases hx : x = 0
          · have hq3 : (x != 0) = false := by rw [hx]; rfl
            rw [hq3] at hq
            have hI := hI3.out
            rw [if_pos rfl, if_pos hx] at hI
            replace hI := Go.Lib.hid (hI.trans (contI_err _ _ _ (by simp)))
            clear hI3 hx hlt
            have v40 : True := trivial
            go_wp2_with (first
              | (have _t := v40; (with_reducible refine G_load ?_; refine L_load_agg agS (by with_unfolding_all (conv => lhs; whnf)) hst.k7 rfl ?_); clear v40; have v41 : True := trivial)
              | (have _t := v41; go_at_call 62; refine (TH _ hst.own.rd).mono ?_; rintro e w5 ⟨rfl, hb5⟩; replace hst := hst.below hb5; clear v41; have v42 : True := trivial)
              | (have _t := v42; (with_reducible refine G_load ?_; refine L_load_agg agS (by with_unfolding_all (conv => lhs; whnf)) hst.k4 rfl ?_); clear v42; have v43 : True := trivial)
              | (have _t := v43; (with_reducible refine G_store ?_; refine L_store_agg agS (by with_unfolding_all (conv => lhs; whnf)) (by with_unfolding_all (conv => lhs; whnf)) hst.k2 rfl rfl z1c ?_); intro wz hkz hgz hsz; clear v43; have v44 : True := trivial))
            exact refread_exit hst.bel hgz hkz hI rfl rfl
          · have hq3 : (x != 0) = true := by simpa using hx
            rw [hq3] at hq
            have hI := hI3.out
            rw [if_pos rfl, if_neg hx] at hI
            replace hI := Go.Lib.hid hI
            clear hI3 hx hlt
            have u40 : True := trivial
            go_wp2_with (first
              | (have _t := u40; (with_reducible refine G_load ?_; refine L_load_agg agS (by with_unfolding_all (conv => lhs; whnf)) hst.k7 rfl ?_); clear u40; have u41 : True := trivial)
              | (have _t := u41; go_at_call 62; refine (TH _ hst.own.rd).mono ?_; rintro e w5 ⟨rfl, hb5⟩; replace hst := hst.below hb5; clear u41; have u42 : True := trivial))
            exact ⟨⟨5, { s with n := x }, _, l2, by omega, rfl, rfl, hst, by omega, hI⟩, by simp [intOf, bitV]⟩
      · simp only [bitV, ksV] at hI ⊢
        have hb8 := bit_off (c := 32) hcn (k := 5) (by omega) rfl
        by_cases hon : C / 2 ^ 5 % 2 = 0
        · rw [decide_eq_true hon] at hb8
          have hI3 := Go.Lib.hid (hI.out.trans (cont_skip hon))
          clear hI hon
          go_wp2_with fail
          exact ⟨⟨6, s, _, bl, by omega, rfl, rfl, hst, hbl, hI3⟩, by simp [intOf, bitV]⟩
        · rw [decide_eq_false hon] at hb8
          have hI3 := Go.Lib.hid (hI.out.trans (cont_do hon))
          clear hI hon
          have TX := reffloat_c _ bl _ hst.rd hbl
          have hrest : (floatI bl).2.1.length ≤ bl.length := by unfold floatI; repeat' split <;> simp
          unfold stepI floaI at hI3
          generalize floatI bl = r2 at *
          obtain ⟨x, l2, e2⟩ := r2
          unfold GivesF at TX
          simp only at TX hI3 hrest
          have t50 : True := trivial
          go_upto_region 33 with (first
            | (have _t := t50; go_at_call 82; refine TX.mono ?_; rintro e w2 ⟨v2, rfl, hv2, hb2⟩; have hG := hst.k7.lt; replace hst := (hst.below hb2).rest hv2.rd (fun g hg => by have := hv2.base_le g hg; omega); have d1 : _ = some _ := hst.k7.cell 7; have z1 := hst.k7.frozen 7; clear t50; have t51 : True := trivial))
          replace hst := hst.set (s' := { s with f := x }) 7 (.float .f64 x) rfl hst.own
          clear d1 z1 hb2 TX hv2 hG
          generalize w2.setCell ⟨G, 7, none⟩ (.float .f64 x) = w3 at *
          by_cases he2 : e2 = 0
          rotate_left
          focus
            have q0 : (e2 != 0) = true := by simpa using he2
            have hI := hI3.out
            rw [if_neg he2] at hI
            replace hI := Go.Lib.hid (hI.trans (contI_err _ _ _ he2))
            clear hI3
            have tx50 : True := trivial
            go_wp2_with (first
              | (have _t := tx50; (with_reducible refine G_load ?_; refine L_load_agg agS (by with_unfolding_all (conv => lhs; whnf)) hst.k4 rfl ?_); clear tx50; have tx51 : True := trivial)
              | (have _t := tx51; (with_reducible refine G_store ?_; refine L_store_agg agS (by with_unfolding_all (conv => lhs; whnf)) (by with_unfolding_all (conv => lhs; whnf)) hst.k2 rfl rfl z1c ?_); intro wz hkz hgz hsz; clear tx51; have tx52 : True := trivial))
            exact refread_exit hst.bel hgz hkz hI rfl rfl
          subst he2
          have TH := fun w4 h => refthere_c w4 { s with f := x } (.slice Al nl cl) h
          have hlt := thereI_lt { s with f := x }
          obtain ⟨b0, b1, b2, b3, b4, b5⟩ := bits_there { s with f := x }
          simp only at b0 b1 b2 b3 b4 b5 hlt
          have hq := fun hh => bit_th (c := 32) (n := thereI { s with f := x }) hh (k := 5) (by omega) rfl b5
          replace hq := hq (by omega)
          unfold stzV at TH
          simp only at TH
          generalize thereI { s with f := x } = th at *
          clear b0 b1 b2 b3 b4 b5
          by_cases hx : x = 0
          · have hq3 : (x != 0) = false := by rw [hx]; rfl
            rw [hq3] at hq
            have hI := hI3.out
            rw [if_pos rfl, if_pos hx] at hI
            replace hI := Go.Lib.hid (hI.trans (contI_err _ _ _ (by simp)))
            clear hI3 hx hlt
            have v50 : True := trivial
            go_wp2_with (first
              | (have _t := v50; (with_reducible refine G_load ?_; refine L_load_agg agS (by with_unfolding_all (conv => lhs; whnf)) hst.k7 rfl ?_); clear v50; have v51 : True := trivial)
              | (have _t := v51; go_at_call 62; refine (TH _ hst.own.rd).mono ?_; rintro e w5 ⟨rfl, hb5⟩; replace hst := hst.below hb5; clear v51; have v52 : True := trivial)
              | (have _t := v52; (with_reducible refine G_load ?_; refine L_load_agg agS (by with_unfolding_all (conv => lhs; whnf)) hst.k4 rfl ?_); clear v52; have v53 : True := trivial)
              | (have _t := v53; (with_reducible refine G_store ?_; refine L_store_agg agS (by with_unfolding_all (conv => lhs; whnf)) (by with_unfolding_all (conv => lhs; whnf)) hst.k2 rfl rfl z1c ?_); intro wz hkz hgz hsz; clear v53; have v54 : True := trivial))
            exact refread_exit hst.bel hgz hkz hI rfl rfl
          · have hq3 : (x != 0) = true := by simpa using hx
            rw [hq3] at hq
            have hI := hI3.out
            rw [if_pos rfl, if_neg hx] at hI
            replace hI := Go.Lib.hid hI
            clear hI3 hx hlt
            have u50 : True := trivial
            go_wp2_with (first
              | (have _t := u50; (with_reducible refine G_load ?_; refine L_load_agg agS (by with_unfolding_all (conv => lhs; whnf)) hst.k7 rfl ?_); clear u50; have u51 : True := trivial)
              | (have _t := u51; go_at_call 62; refine (TH _ hst.own.rd).mono ?_; rintro e w5 ⟨rfl, hb5⟩; replace hst := hst.below hb5; clear u51; have u52 : True := trivial))
            exact ⟨⟨6, { s with f := x }, _, l2, by omega, rfl, rfl, hst, by omega, hI⟩, by simp [intOf, bitV]⟩
      · simp only [bitV, ksV] at hI ⊢
        have hI2 := hI.out
        unfold contI at hI2
        simp only at hI2
        rw [if_pos trivial] at hI2
        clear hI
        have hrd := hst.rd
        by_cases hx : bl = []
        · subst hx
          rw [if_pos rfl] at hI2
          have hI := Go.Lib.hid hI2
          clear hI2
          have s1c := stz1c s Al nl cl
          have w10 : True := trivial
          go_wp2_with (first
            | (have _t := w10; (with_reducible refine G_len ?_; refine L8_len Tryd.underlying28 (by with_unfolding_all (conv => lhs; whnf)) (by assumption) ?_); clear w10; have w11 : True := trivial)
            | (have _t := w11; (with_reducible refine G_load ?_; refine L_load_agg agS (by with_unfolding_all (conv => lhs; whnf)) hst.k7 rfl ?_); clear w11; have w12 : True := trivial)
            | (have _t := w12; (with_reducible refine G_store ?_; refine L_store_agg agS (by with_unfolding_all (conv => lhs; whnf)) (by with_unfolding_all (conv => lhs; whnf)) hst.k2 rfl rfl s1c ?_); intro wz hkz hgz hsz; clear w12; have w13 : True := trivial))
          have hI := hI.out
          subst hI
          have hc : Chg (fun k => k = w.heap.size) _ wz := Chg.grown hgz (fun k hk => by cases hk; rfl)
          have hlt2 := hst.lt
          exact ret_agg2 rfl agS rfl rfl hkz rfl rfl ⟨.slice Al nl cl, rfl, (hst.own.chg hc (fun g hg e => by have := hst.own.base_le g hg; omega)).mono (by omega), hst.bel.trans (hc.below hst.bel.size (fun k hk => by cases hk; omega))⟩
        · rw [if_neg hx] at hI2
          have hI := Go.Lib.hid hI2
          clear hI2
          have hl0 : (0 : Int) < (bl.length : Int) := by have := List.length_pos_iff.2 hx; omega
          have w20 : True := trivial
          go_wp2_with (first
            | (have _t := w20; (with_reducible refine G_len ?_; refine L8_len Tryd.underlying28 (by with_unfolding_all (conv => lhs; whnf)) (by assumption) ?_); clear w20; have w21 : True := trivial)
            | (have _t := w21; (with_reducible refine G_load ?_; refine L_load_agg agS (by with_unfolding_all (conv => lhs; whnf)) hst.k4 rfl ?_); clear w21; have w22 : True := trivial)
            | (have _t := w22; (with_reducible refine G_store ?_; refine L_store_agg agS (by with_unfolding_all (conv => lhs; whnf)) (by with_unfolding_all (conv => lhs; whnf)) hst.k2 rfl rfl z1c ?_); intro wz hkz hgz hsz; clear w22; have w23 : True := trivial))
          exact refread_exit hst.bel hgz hkz hI rfl rfl
end Go.Proofs.YtocfcgjjepegmaaDoor
