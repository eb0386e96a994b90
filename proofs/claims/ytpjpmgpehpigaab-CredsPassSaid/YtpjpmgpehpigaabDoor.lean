/- creds.Door: New, at, Ask, Fail, Pass. -/
import Derived.Test.YtpjpmgpehpigaabFloB
import Derived.Test.YtpjpmgpehpigaabMapS
set_option linter.unusedVariables false
set_option linter.unusedSimpArgs false
namespace Go.Proofs.Ytpjpmgpehpigaab
open Go.RowKit
def usr (u : Int × Nat) : Value := .agg #[.int .i64 u.1, .float .f64 u.2]
theorem agU : AggTy Try.prog 62 2 := ⟨⟨_, Try.underlying62, rfl⟩, by kernel_rfl⟩
theorem zU : (Try.prog.info? 62).map (·.zero) = some (some (.agg [Value.int .i64 0, Value.float .f64 0].toArray)) := by kernel_rfl
/-- In w the pointer p is a door with these bounds, of which f is known; all of it lies from B on. -/
def DoorAt (w : World) (B p : Nat) (most : Int) (sec : Nat) (f : ByteArray → Option (Int × Nat)) : Prop :=
  ∃ r, B ≤ p ∧ B ≤ r ∧ r ≠ p ∧ Blk w p 59 [.int .i64 most, .float .f64 sec, .map (some r)] ∧ MapAt w r (fun s => (f s).map usr)
theorem DoorAt.below {w w' : World} {B p : Nat} {most : Int} {sec : Nat} {f : ByteArray → Option (Int × Nat)} (h : DoorAt w B p most sec f) (hb : Below w.heap.size w w') : DoorAt w' B p most sec f := by
  obtain ⟨r, h1, h2, h3, h4, h5⟩ := h
  exact ⟨r, h1, h2, h3, h4.below hb, h5.below hb⟩
theorem DoorAt.drew {w : World} {B p : Nat} {most : Int} {sec : Nat} {f : ByteArray → Option (Int × Nat)} (h : DoorAt w B p most sec f) : DoorAt w.drew B p most sec f := h
def known (f : ByteArray → Option (Int × Nat)) (s : ByteArray) : Int × Nat := (f s).getD (0, ninf)
set_option maxRecDepth 100000 in
set_option maxHeartbeats 800000 in
theorem at_c (w : World) (B p : Nat) (most : Int) (sec : Nat) (f : ByteArray → Option (Int × Nat)) (s : ByteArray) (h : DoorAt w B p most sec f) :
    Calls Try.prog 40 #[.pointer (some ⟨p, 0, none⟩), .string s] w fun e w' => e = .returned (usr (known f s)) ∧ Below w.heap.size w w' := by
  obtain ⟨r, _, _, _, hp, hm⟩ := h
  have oZ : ∀ u ∈ [Value.int .i64 0, Value.float .f64 0], u.oneCell' = true := by simp [Value.oneCell']
  have hBu : ∀ x : Nat, Try.prog.built 62 [(1, .float .f64 x)] = some #[.int .i64 0, .float .f64 x] := fun x => by kernel_rfl
  go_enter Try.func40, Try.ntmps40
  cases hf : f s with
  | some u =>
    have hk : known f s = u := by unfold known; rw [hf]; rfl
    rw [hk]
    unfold usr
    have oU : ∀ x ∈ [Value.int .i64 u.1, Value.float .f64 u.2], x.oneCell' = true := by simp [Value.oneCell']
    have tok0 : True := trivial
    go_wp2_with (first
      | (have _t := tok0; (with_reducible refine G_alloc ?_; refine L_alloc zU ?_); intro w1 hk1 hb1 hs1; clear hs1; have hp1 := hp.below hb1; have c2 : _ = some (Value.map (some r)) := hp1.cell 2; have hl := run_lookup (P := Try.prog) (hm.below hb1) Try.underlying57 Try.underlying9 zU s; simp only [hf, Option.map_some, Option.getD_some, Option.isSome_some] at hl; unfold usr at hl; clear tok0; have tok1 : True := trivial)
      | (have _t := tok1; (with_reducible refine G_alloc ?_; refine L_alloc zU ?_); intro w2 hk2 hb2 hs2; clear hs2; clear tok1; have tok2 : True := trivial)
      | (have _t := tok2; (with_reducible refine G_store ?_; refine L_store_agg agU (by with_unfolding_all (conv => lhs; whnf)) (by with_unfolding_all (conv => lhs; whnf)) hk2 rfl rfl oU ?_); intro w3 hk3 hg3 hs3; replace hk3 : Blk w3 w1.heap.size _ [Value.int .i64 u.1, Value.float .f64 u.2] := hk3; clear tok2; have tok3 : True := trivial)
      | (have _t := tok3; (with_reducible refine G_load ?_; refine L_load_agg agU (by with_unfolding_all (conv => lhs; whnf)) hk3 rfl ?_); clear tok3; have tok4 : True := trivial)
      | (have _t := tok4; (with_reducible refine G_store ?_; refine L_store_agg agU (by with_unfolding_all (conv => lhs; whnf)) (by with_unfolding_all (conv => lhs; whnf)) ((hk1.below hb2).grown hg3 (by have := hk1.lt; simp; omega)) rfl rfl oU ?_); intro w4 hk4 hg4 hs4; clear tok4; have tok5 : True := trivial))
    have hb13 := (below_below hb1 hb2).grown hg3 (below_below hb1 hb2).size (by intro k hk; cases hk; exact hb1.size)
    exact ret_agg (cs := [Value.int .i64 u.1, Value.float .f64 u.2]) rfl agU rfl rfl (by simpa using hk4) rfl ⟨rfl, hb13.grown hg4 hb13.size (by intro k hk; cases hk; exact Nat.le_refl _)⟩
  | none =>
    have hk : known f s = (0, ninf) := by unfold known; rw [hf]; rfl
    rw [hk]
    unfold usr
    have oN : ∀ x ∈ [Value.int .i64 0, Value.float .f64 ninf], x.oneCell' = true := by simp [Value.oneCell']
    have hBn := hBu ninf
    have tok0 : True := trivial
    go_wp2_with (first
      | (have _t := tok0; (with_reducible refine G_alloc ?_; refine L_alloc zU ?_); intro w1 hk1 hb1 hs1; clear hs1; have hp1 := hp.below hb1; have c2 : _ = some (Value.map (some r)) := hp1.cell 2; have hl := run_lookup (P := Try.prog) (hm.below hb1) Try.underlying57 Try.underlying9 zU s; simp only [hf, Option.map_none, Option.getD_none, Option.isSome_none] at hl; clear tok0; have tok1 : True := trivial)
      | (have _t := tok1; (with_reducible refine G_alloc ?_; refine L_alloc zU ?_); intro w2 hk2 hb2 hs2; clear hs2; clear tok1; have tok2 : True := trivial)
      | (have _t := tok2; (with_reducible refine G_store ?_; refine L_store_agg agU (by with_unfolding_all (conv => lhs; whnf)) (by with_unfolding_all (conv => lhs; whnf)) hk2 rfl rfl oZ ?_); intro w3 hk3 hg3 hs3; clear tok2; have tok3 : True := trivial)
      | (have _t := tok3; go_at_call 44; refine (inf_c _).mono ?_; rintro e w' ⟨rfl, rfl⟩; clear tok3; have tok4 : True := trivial)
      | (have _t := tok4; (with_reducible refine G_build ?_; refine L_build #[Value.int .i64 0, Value.float .f64 ninf] (by kernel_rfl) ?_); clear tok4; have tok5 : True := trivial)
      | (have _t := tok5; (with_reducible refine G_store ?_; refine L_store_agg agU (by with_unfolding_all (conv => lhs; whnf)) (by with_unfolding_all (conv => lhs; whnf)) ((hk1.below hb2).grown hg3 (by have := hk1.lt; simp; omega)) rfl rfl oN ?_); intro w4 hk4 hg4 hs4; clear tok5; have tok6 : True := trivial))
    have hb13 := (below_below hb1 hb2).grown hg3 (below_below hb1 hb2).size (by intro k hk; cases hk; exact hb1.size)
    exact ret_agg (cs := [Value.int .i64 0, Value.float .f64 ninf]) rfl agU rfl rfl (by simpa using hk4) rfl ⟨rfl, hb13.grown hg4 hb13.size (by intro k hk; cases hk; exact Nat.le_refl _)⟩
theorem field1 (w : World) (c : Int) (t : Nat) : (Instr.field 62 (.agg #[.int .i64 c, .float .f64 t]) 1).run Try.prog w = .ok (.float .f64 t) w := by
  simp [Instr.field, run_underlying Try.underlying62, asAgg, part, isAgg, run_underlying Try.underlying31]
def askI (f : ByteArray → Option (Int × Nat)) (s : ByteArray) (now : Nat) : Int := if fnan now then 1 else if fnan (known f s).2 = false ∧ fkey now < fkey (known f s).2 then 12 else 0
set_option maxRecDepth 100000 in
set_option maxHeartbeats 800000 in
theorem ask_c (w : World) (B p : Nat) (most : Int) (sec : Nat) (f : ByteArray → Option (Int × Nat)) (s : ByteArray) (now : Nat) (h : DoorAt w B p most sec f) :
    Calls Try.prog 26 #[.pointer (some ⟨p, 0, none⟩), .string s, .float .f64 now] w fun e w' => e = .returned (.int .i64 (askI f s now)) ∧ Below w.heap.size w w' := by
  have A := at_c w B p most sec f s h
  have N := isnan_c now w
  unfold askI
  unfold usr at A
  generalize known f s = u at *
  obtain ⟨c, t⟩ := u
  have hc := f_lt now t
  have hfd := fun w' => field1 w' c t
  have oU : ∀ x ∈ [Value.int .i64 c, Value.float .f64 t], x.oneCell' = true := by simp [Value.oneCell']
  cases hn : fnan now
  · rw [hn] at N hc
    by_cases hl : fnan t = false ∧ fkey now < fkey t
    · have hc2 : (!false && !fnan t && decide (fkey now < fkey t)) = true := by simp [hl]
      rw [hc2] at hc
      rw [if_neg (by decide), if_pos hl]
      go_enter Try.func26, Try.ntmps26
      have tok0 : True := trivial
      go_wp2_with (first
        | (have _t := tok0; go_at_call 32; refine N.mono ?_; rintro e w' ⟨rfl, rfl⟩; clear tok0; have tok1 : True := trivial)
        | (have _t := tok1; go_at_call 40; refine A.mono ?_; rintro e w1 ⟨rfl, hb1⟩; clear tok1; have tok2 : True := trivial))
      go_ret
      exact ⟨rfl, hb1⟩
    · have hc2 : (!false && !fnan t && decide (fkey now < fkey t)) = false := by
        cases ht : fnan t
        · have : ¬ fkey now < fkey t := fun h => hl ⟨ht, h⟩
          simp [this]
        · rfl
      rw [hc2] at hc
      rw [if_neg (by decide), if_neg hl]
      go_enter Try.func26, Try.ntmps26
      have tok0 : True := trivial
      go_wp2_with (first
        | (have _t := tok0; go_at_call 32; refine N.mono ?_; rintro e w' ⟨rfl, rfl⟩; clear tok0; have tok1 : True := trivial)
        | (have _t := tok1; go_at_call 40; refine A.mono ?_; rintro e w1 ⟨rfl, hb1⟩; clear tok1; have tok2 : True := trivial))
      go_ret
      exact ⟨rfl, hb1⟩
  · rw [hn] at N
    go_enter Try.func26, Try.ntmps26
    go_wp2_with (go_at_call 32; refine N.mono ?_; rintro e w' ⟨rfl, rfl⟩)
    go_ret
    exact ⟨rfl, Below.refl _ _⟩
theorem G_mapupd {P : Program} {w : World} {ops : Array Oper} {rest : List Oper} {a : Act} {Q : Exit → Act → World → Prop} {x y z : Operand} {t ty : TypeId} {pos : String} {after : Array Edge}
    (h : wpList P ops Q ({ dst := none, op := .mapUpdate t x y z, type := ty, pos := pos, after := after, guard := none } :: rest) a w) :
    wpList P ops Q ({ dst := none, op := .mapUpdate t x y z, type := ty, pos := pos, after := after, guard := none } :: rest) a w := h
theorem L_mapupd {P : Program} {w : World} {ops : Array Oper} {rest : List Oper} {a : Act} {Q : Exit → Act → World → Prop} {x y z : Operand} {t ty kt et : TypeId} {pos : String} {after : Array Edge} {r : Nat} {f : ByteArray → Option Value} {s : ByteArray} {v : Value}
    (hm : P.underlying t = some (.map kt et)) (hk : P.underlying kt = some .string) (h : MapAt w r f) (hx : a.eval x = .map (some r)) (hy : a.eval y = .string s) (hz : a.eval z = v)
    (hK : ∀ w', MapAt w' r (fun t => if t = s then some v else f t) → w.grownBy w' (some r) → w'.heap.size = w.heap.size → wpList P ops Q rest (a.put none undef) w') :
    wpList P ops Q ({ dst := none, op := .mapUpdate t x y z, type := ty, pos := pos, after := after, guard := none } :: rest) a w := by
  obtain ⟨w', hr, h1, h2, h3⟩ := run_update (P := P) h hm hk s v
  refine wpList_plain rfl fun K hK' => ?_
  unfold Oper.wp execOp
  simp [hx, hy, hz, hr, Oper.upon]
  exact hK' _ _ (hK w' h1 h2 h3)
theorem map_put (f : ByteArray → Option (Int × Nat)) (s : ByteArray) (u : Int × Nat) : (fun t => if t = s then some (usr u) else (f t).map usr) = fun t => ((fun t => if t = s then some u else f t) t).map usr := by
  funext t
  by_cases h : t = s <;> simp [h]
def FailOk (B p : Nat) (most : Int) (sec : Nat) (f : ByteArray → Option (Int × Nat)) (s : ByteArray) (now : Nat) (k : Int × Nat) (w' : World) : Prop :=
  ∃ u : Int × Nat, DoorAt w' B p most sec (fun t => if t = s then some u else f t) ∧ (k.1 + 1 = most → u.1 = 0 ∧ SumOk now sec u.2) ∧ (k.1 + 1 ≠ most → u = (k.1 + 1, k.2))
set_option maxRecDepth 100000 in
set_option maxHeartbeats 1600000 in
theorem fail_c (w : World) (B p : Nat) (most : Int) (sec : Nat) (f : ByteArray → Option (Int × Nat)) (s : ByteArray) (now : Nat) (h : DoorAt w B p most sec f) (ha : askI f s now = 0) (hc : 0 ≤ (known f s).1 ∧ (known f s).1 ≤ 1000000) :
    Calls Try.prog 27 #[.pointer (some ⟨p, 0, none⟩), .string s, .float .f64 now] w fun e w' => e = .returned (.int .i64 0) ∧ Below B w w' ∧ FailOk B p most sec f s now (known f s) w' := by
  have K := fun w1 hw => ask_c w1 B p most sec f s now hw
  have A := fun w1 hw => at_c w1 B p most sec f s hw
  rw [ha] at K
  unfold usr at A
  obtain ⟨r, hBp, hBr, hrp, hp, hm⟩ := id h
  have hpl := hp.lt
  generalize known f s = k at *
  obtain ⟨c, t⟩ := k
  simp only at hc A ⊢
  have oU : ∀ x ∈ [Value.int .i64 c, Value.float .f64 t], x.oneCell' = true := by simp [Value.oneCell']
  go_enter Try.func27, Try.ntmps27
  have tok0 : True := trivial
  go_upto_region 6 with (first
    | (have _t := tok0; go_at_call 26; refine (K _ h).mono ?_; rintro e w1 ⟨rfl, hb1⟩; have h1 := h.below hb1; clear tok0; have tok1 : True := trivial)
    | (have _t := tok1; go_at_call 40; refine (A _ h1).mono ?_; rintro e w2 ⟨rfl, hb2⟩; have hb12 := below_below hb1 hb2; clear tok1; have tok2 : True := trivial)
    | (have _t := tok2; (with_reducible refine G_alloc ?_; refine L_alloc zU ?_); intro w3 hk3 hb3 hs3; clear hs3; have hb13 := below_below hb12 hb3; clear tok2; have tok3 : True := trivial)
    | (have _t := tok3; (with_reducible refine G_store ?_; refine L_store_agg agU (by with_unfolding_all (conv => lhs; whnf)) (by with_unfolding_all (conv => lhs; whnf)) hk3 rfl rfl oU ?_); intro w4 hk4 hg4 hs4; replace hk4 : Blk w4 w2.heap.size _ [Value.int .i64 c, Value.float .f64 t] := hk4; have c4 : _ = some (Value.int .i64 c) := hk4.cell 0; have f4 := hk4.frozen 0; clear tok3; have tok4 : True := trivial))
  have hb14 := hb13.grown hg4 hb13.size (by intro k hk; cases hk; exact hb12.size)
  have hls := hb12.size
  have hm1 := hm.lt
  have hpA := ((((hp.below hb1).below hb2).below hb3).grown hg4 (by simp; omega))
  have hmA := ((((hm.below hb1).below hb2).below hb3).grown hg4 (by simp; omega))
  have hk5 := hk4.stored 0 (.int .i64 (c + 1))
  simp only [List.set_cons_zero] at hk5
  have hp5 := hpA.other (a := ⟨w2.heap.size, 0, none⟩) (by show p ≠ w2.heap.size; omega) (.int .i64 (c + 1))
  have hm5 := hmA.grown (grown_setCell w4 ⟨w2.heap.size, 0, none⟩ (.int .i64 (c + 1))) (by simp; omega)
  have hb15 : Below w.heap.size w (w4.setCell ⟨w2.heap.size, 0, none⟩ (.int .i64 (c + 1))) := hb14.setCell (by show w.heap.size ≤ w2.heap.size; omega) _
  generalize hg8 : w2.heap.size = g8 at *
  generalize w4.setCell _ _ = w5 at *
  clear hk3 hk4 hg4 hs4 c4 f4 hb13 hb14 hpA hmA hb12 hb1 hb2 hb3 h1 K A
  have oV : ∀ x ∈ [Value.int .i64 (c + 1), Value.float .f64 t], x.oneCell' = true := by simp [Value.oneCell']
  by_cases hmo : c + 1 = most
  · subst hmo
    refine region_making 7 (fun _ => []) (fun _ => none) (by kernel_rfl) (by kernel_rfl) ?_ ?_
    · intro i S h; cases h
    simp only [List.take_succ_cons, List.take_zero, List.drop_succ_cons, List.drop_zero]
    (apply wpG_pure; (focus rfl); (focus (intro wg Bg hbg hBg hFg; go_simp; (try go_bits); (first | done | exact ⟨rfl, Below.refl _ _⟩ | rfl))); simp only [Act.put, List.setIfInBounds_toArray, List.set_cons_succ, List.set_cons_zero])
    (apply wpG_pure; (focus rfl); (focus (intro wg Bg hbg hBg hFg; have hc1 : _ = some (Value.int .i64 (c + 1)) := (hk5.drew.below hbg).cell 0; go_simp; (try go_bits); (first | done | exact ⟨rfl, Below.refl _ _⟩ | rfl))); simp only [Act.put, List.setIfInBounds_toArray, List.set_cons_succ, List.set_cons_zero])
    (apply wpG_pure; (focus rfl); (focus (intro wg Bg hbg hBg hFg; go_simp; (try go_bits); (first | done | exact ⟨rfl, Below.refl _ _⟩ | rfl))); simp only [Act.put, List.setIfInBounds_toArray, List.set_cons_succ, List.set_cons_zero])
    (apply wpG_pure; (focus rfl); (focus (intro wg Bg hbg hBg hFg; go_simp; (try go_bits); (first | done | exact ⟨rfl, Below.refl _ _⟩ | rfl))); simp only [Act.put, List.setIfInBounds_toArray, List.set_cons_succ, List.set_cons_zero])
    (apply wpG_pure; (focus rfl); (focus (intro wg Bg hbg hBg hFg; go_simp; (try go_bits); (first | done | exact ⟨rfl, Below.refl _ _⟩ | rfl))); simp only [Act.put, List.setIfInBounds_toArray, List.set_cons_succ, List.set_cons_zero])
    (apply wpG_pure; (focus rfl); (focus (intro wg Bg hbg hBg hFg; have hc1 : _ = some (Value.int .i64 (c + 1)) := (hp5.drew.below hbg).cell 0; go_simp; (try go_bits); (first | done | exact ⟨rfl, Below.refl _ _⟩ | rfl))); simp only [Act.put, List.setIfInBounds_toArray, List.set_cons_succ, List.set_cons_zero])
    (apply wpG_pure; (focus rfl); (focus (intro wg Bg hbg hBg hFg; go_simp; (try go_bits); (first | done | exact ⟨rfl, Below.refl _ _⟩ | rfl))); simp only [Act.put, List.setIfInBounds_toArray, List.set_cons_succ, List.set_cons_zero])
    refine wpG_end (fun wg Bg hbg hBg hFg => ?_)
    have hk6 := hk5.drew.below hbg
    have hp6 := hp5.drew.below hbg
    have hm6 := hm5.drew.below hbg
    have hb16 := below_below hb15.drew hbg
    clear hFg hBg hbg hk5 hp5 hm5 hb15
    have c6 : _ = some (Value.float .f64 sec) := hp6.cell 1
    have tok0 : True := trivial
    go_upto_region 8 with (first
      | (have _t := tok0; (with_reducible refine G_fadd ?_; refine L_fadd (by with_unfolding_all (conv => lhs; whnf)) (by with_unfolding_all (conv => lhs; whnf)) ?_); intro q w7 hw7 hq; have hk7 : Blk w7 g8 62 [Value.int .i64 (c + 1), Value.float .f64 t] := (by rcases hw7 with rfl | rfl; exact hk6; exact hk6); have hp7 : Blk w7 p 59 [.int .i64 (c + 1), .float .f64 sec, .map (some r)] := (by rcases hw7 with rfl | rfl; exact hp6; exact hp6); have hm7 : MapAt w7 r (fun s => (f s).map usr) := (by rcases hw7 with rfl | rfl; exact hm6; exact hm6); have hb17 : Below w.heap.size w w7 := (by rcases hw7 with rfl | rfl; exact hb16; exact hb16.drew); have oQ : ∀ x ∈ [Value.int .i64 0, Value.float .f64 q], x.oneCell' = true := (by simp [Value.oneCell']); have hBq : Try.prog.built 62 [(1, .float .f64 q)] = some #[.int .i64 0, .float .f64 q] := (by kernel_rfl); clear tok0; have tok1 : True := trivial)
      | (have _t := tok1; (with_reducible refine G_build ?_; refine L_build #[Value.int .i64 0, Value.float .f64 q] (by kernel_rfl) ?_); clear tok1; have tok2 : True := trivial)
      | (have _t := tok2; (with_reducible refine G_store ?_; refine L_store_agg agU (by with_unfolding_all (conv => lhs; whnf)) (by with_unfolding_all (conv => lhs; whnf)) hk7 rfl rfl oQ ?_); intro w8 hk8 hg8' hs8; replace hk8 : Blk w8 g8 _ [Value.int .i64 0, Value.float .f64 q] := hk8; clear tok2; have tok3 : True := trivial))
    have hp8 := hp7.grown hg8' (by simp; omega)
    have hm8 := hm7.grown hg8' (by simp; omega)
    have hb18 := hb17.grown hg8' hb17.size (by intro k hk; cases hk; omega)
    refine region_making 6 (fun _ => []) (fun _ => none) (by kernel_rfl) (by kernel_rfl) ?_ ?_
    · intro i S h; cases h
    simp only [List.take_succ_cons, List.take_zero, List.drop_succ_cons, List.drop_zero]
    (apply wpG_pure; (focus rfl); (focus (intro wg Bg hbg hBg hFg; go_simp; (try go_bits); (first | done | exact ⟨rfl, Below.refl _ _⟩ | rfl))); simp only [Act.put, List.setIfInBounds_toArray, List.set_cons_succ, List.set_cons_zero])
    (apply wpG_pure; (focus rfl); (focus (intro wg Bg hbg hBg hFg; go_simp; (try go_bits); (first | done | exact ⟨rfl, Below.refl _ _⟩ | rfl))); simp only [Act.put, List.setIfInBounds_toArray, List.set_cons_succ, List.set_cons_zero])
    (apply wpG_pure; (focus rfl); (focus (intro wg Bg hbg hBg hFg; go_simp; (try go_bits); (first | done | exact ⟨rfl, Below.refl _ _⟩ | rfl))); simp only [Act.put, List.setIfInBounds_toArray, List.set_cons_succ, List.set_cons_zero])
    (apply wpG_pure; (focus rfl); (focus (intro wg Bg hbg hBg hFg; have hc1 : _ = some (Value.map (some r)) := (hp8.drew.below hbg).cell 2; go_simp; (try go_bits); (first | done | exact ⟨rfl, Below.refl _ _⟩ | rfl))); simp only [Act.put, List.setIfInBounds_toArray, List.set_cons_succ, List.set_cons_zero])
    (apply wpG_pure; (focus rfl); (focus (intro wg Bg hbg hBg hFg; go_simp; (try go_bits); (first | done | exact ⟨rfl, Below.refl _ _⟩ | rfl))); simp only [Act.put, List.setIfInBounds_toArray, List.set_cons_succ, List.set_cons_zero])
    (apply wpG_pure; (focus rfl); (focus (intro wg Bg hbg hBg hFg; exact pureTo_load_agg agU (by with_unfolding_all (conv => lhs; whnf)) (hk8.drew.below hbg) rfl)); simp only [Act.put, List.setIfInBounds_toArray, List.set_cons_succ, List.set_cons_zero])
    refine wpG_end (fun wg Bg hbg hBg hFg => ?_)
    have hp9 := hp8.drew.below hbg
    have hm9 := hm8.drew.below hbg
    have hb9 := below_below hb18.drew hbg
    clear hFg hBg hbg
    go_wp2_with (first | ((with_reducible refine G_mapupd ?_; refine L_mapupd Try.underlying57 Try.underlying9 hm9 (by with_unfolding_all (conv => lhs; whnf)) (by with_unfolding_all (conv => lhs; whnf)) rfl ?_); intro wz hmz hgz hsz))
    go_ret
    refine ⟨rfl, ?_, show FailOk _ _ _ _ _ _ _ _ _ from ⟨(0, q), ⟨r, hBp, hBr, hrp, hp9.grown hgz (by simp; omega), ?_⟩, fun _ => ⟨rfl, hq⟩, fun h => absurd rfl h⟩⟩
    · exact (hb9.mono (by omega)).grown hgz (by have := hb9.size; omega) (by intro k hk; cases hk; omega)
    · have e := map_put f s (0, q)
      rw [← e]
      exact hmz
  · have e1 : decide (c + 1 = most) = false := decide_eq_false hmo
    have e2 : ((c + 1) == most) = false := by rw [← e1]; rfl
    refine region_making 7 (fun _ => []) (fun _ => none) (by kernel_rfl) (by kernel_rfl) ?_ ?_
    · intro i S h; cases h
    simp only [List.take_succ_cons, List.take_zero, List.drop_succ_cons, List.drop_zero]
    (apply wpG_pure; (focus rfl); (focus (intro wg Bg hbg hBg hFg; go_simp; (try go_bits); (first | done | exact ⟨rfl, Below.refl _ _⟩ | rfl))); simp only [Act.put, List.setIfInBounds_toArray, List.set_cons_succ, List.set_cons_zero])
    (apply wpG_pure; (focus rfl); (focus (intro wg Bg hbg hBg hFg; have hc1 : _ = some (Value.int .i64 (c + 1)) := (hk5.drew.below hbg).cell 0; go_simp; (try go_bits); (first | done | exact ⟨rfl, Below.refl _ _⟩ | rfl))); simp only [Act.put, List.setIfInBounds_toArray, List.set_cons_succ, List.set_cons_zero])
    (apply wpG_pure; (focus rfl); (focus (intro wg Bg hbg hBg hFg; go_simp; (try go_bits); (first | done | exact ⟨rfl, Below.refl _ _⟩ | rfl))); simp only [Act.put, List.setIfInBounds_toArray, List.set_cons_succ, List.set_cons_zero])
    (apply wpG_pure; (focus rfl); (focus (intro wg Bg hbg hBg hFg; go_simp; (try go_bits); (first | done | exact ⟨rfl, Below.refl _ _⟩ | rfl))); simp only [Act.put, List.setIfInBounds_toArray, List.set_cons_succ, List.set_cons_zero])
    (apply wpG_pure; (focus rfl); (focus (intro wg Bg hbg hBg hFg; go_simp; (try go_bits); (first | done | exact ⟨rfl, Below.refl _ _⟩ | rfl))); simp only [Act.put, List.setIfInBounds_toArray, List.set_cons_succ, List.set_cons_zero])
    (apply wpG_pure; (focus rfl); (focus (intro wg Bg hbg hBg hFg; have hc1 : _ = some (Value.int .i64 most) := (hp5.drew.below hbg).cell 0; go_simp; (try go_bits); (first | done | exact ⟨rfl, Below.refl _ _⟩ | rfl))); simp only [Act.put, List.setIfInBounds_toArray, List.set_cons_succ, List.set_cons_zero])
    (apply wpG_pure; (focus rfl); (focus (intro wg Bg hbg hBg hFg; go_simp; (try go_bits); (first | done | exact ⟨rfl, Below.refl _ _⟩ | rfl))); simp only [Act.put, List.setIfInBounds_toArray, List.set_cons_succ, List.set_cons_zero])
    refine wpG_end (fun wg Bg hbg hBg hFg => ?_)
    have hk6 := hk5.drew.below hbg
    have hp6 := hp5.drew.below hbg
    have hm6 := hm5.drew.below hbg
    have hb16 := below_below hb15.drew hbg
    clear hFg hBg hbg hk5 hp5 hm5 hb15
    go_upto_region 8 with fail
    refine region_making 6 (fun _ => []) (fun _ => none) (by kernel_rfl) (by kernel_rfl) ?_ ?_
    · intro i S h; cases h
    simp only [List.take_succ_cons, List.take_zero, List.drop_succ_cons, List.drop_zero]
    (apply wpG_pure; (focus rfl); (focus (intro wg Bg hbg hBg hFg; go_simp; (try go_bits); (first | done | exact ⟨rfl, Below.refl _ _⟩ | rfl))); simp only [Act.put, List.setIfInBounds_toArray, List.set_cons_succ, List.set_cons_zero])
    (apply wpG_pure; (focus rfl); (focus (intro wg Bg hbg hBg hFg; go_simp; (try go_bits); (first | done | exact ⟨rfl, Below.refl _ _⟩ | rfl))); simp only [Act.put, List.setIfInBounds_toArray, List.set_cons_succ, List.set_cons_zero])
    (apply wpG_pure; (focus rfl); (focus (intro wg Bg hbg hBg hFg; go_simp; (try go_bits); (first | done | exact ⟨rfl, Below.refl _ _⟩ | rfl))); simp only [Act.put, List.setIfInBounds_toArray, List.set_cons_succ, List.set_cons_zero])
    (apply wpG_pure; (focus rfl); (focus (intro wg Bg hbg hBg hFg; have hc1 : _ = some (Value.map (some r)) := (hp6.drew.below hbg).cell 2; go_simp; (try go_bits); (first | done | exact ⟨rfl, Below.refl _ _⟩ | rfl))); simp only [Act.put, List.setIfInBounds_toArray, List.set_cons_succ, List.set_cons_zero])
    (apply wpG_pure; (focus rfl); (focus (intro wg Bg hbg hBg hFg; go_simp; (try go_bits); (first | done | exact ⟨rfl, Below.refl _ _⟩ | rfl))); simp only [Act.put, List.setIfInBounds_toArray, List.set_cons_succ, List.set_cons_zero])
    (apply wpG_pure; (focus rfl); (focus (intro wg Bg hbg hBg hFg; exact pureTo_load_agg agU (by with_unfolding_all (conv => lhs; whnf)) (hk6.drew.below hbg) rfl)); simp only [Act.put, List.setIfInBounds_toArray, List.set_cons_succ, List.set_cons_zero])
    refine wpG_end (fun wg Bg hbg hBg hFg => ?_)
    have hp9 := hp6.drew.below hbg
    have hm9 := hm6.drew.below hbg
    have hb9 := below_below hb16.drew hbg
    clear hFg hBg hbg
    go_wp2_with (first | ((with_reducible refine G_mapupd ?_; refine L_mapupd Try.underlying57 Try.underlying9 hm9 (by with_unfolding_all (conv => lhs; whnf)) (by with_unfolding_all (conv => lhs; whnf)) rfl ?_); intro wz hmz hgz hsz))
    go_ret
    refine ⟨rfl, ?_, show FailOk _ _ _ _ _ _ _ _ _ from ⟨(c + 1, t), ⟨r, hBp, hBr, hrp, hp9.grown hgz (by simp; omega), ?_⟩, fun h => absurd h hmo, fun _ => rfl⟩⟩
    · exact (hb9.mono (by omega)).grown hgz (by have := hb9.size; omega) (by intro k hk; cases hk; omega)
    · have e := map_put f s (c + 1, t)
      rw [← e]
      exact hmz
set_option maxRecDepth 100000 in
set_option maxHeartbeats 1600000 in
/-- Pass of one of whom nothing is known: nothing turns. -/
theorem pass_none_c (w : World) (B p : Nat) (most : Int) (sec : Nat) (f : ByteArray → Option (Int × Nat)) (s : ByteArray) (h : DoorAt w B p most sec f) (hf : f s = none) :
    Calls Try.prog 28 #[.pointer (some ⟨p, 0, none⟩), .string s] w fun e w' => e = .returned (.tuple #[]) ∧ Below w.heap.size w w' := by
  obtain ⟨r, _, _, _, hp, hm⟩ := h
  have oZ : ∀ u ∈ [Value.int .i64 0, Value.float .f64 0], u.oneCell' = true := by simp [Value.oneCell']
  have c2 : _ = some (Value.map (some r)) := hp.cell 2
  have hl := run_lookup (P := Try.prog) hm Try.underlying57 Try.underlying9 zU s
  simp only [hf, Option.map_none, Option.getD_none, Option.isSome_none] at hl
  go_enter Try.func28, Try.ntmps28
  have tok0 : True := trivial
  go_wp2_with (first
    | (have _t := tok0; (with_reducible refine G_alloc ?_; refine L_alloc zU ?_); intro w2 hk2 hb2 hs2; clear hs2; clear tok0; have tok1 : True := trivial)
    | (have _t := tok1; (with_reducible refine G_store ?_; refine L_store_agg agU (by with_unfolding_all (conv => lhs; whnf)) (by with_unfolding_all (conv => lhs; whnf)) hk2 rfl rfl oZ ?_); intro w3 hk3 hg3 hs3; clear tok1; have tok2 : True := trivial))
  exact bodyPost_end (results_none rfl _ _ _) rfl ⟨rfl, hb2.grown hg3 hb2.size (by intro k hk; cases hk; exact Nat.le_refl _)⟩
set_option maxRecDepth 100000 in
set_option maxHeartbeats 1600000 in
theorem pass_c (w : World) (B p : Nat) (most : Int) (sec : Nat) (f : ByteArray → Option (Int × Nat)) (s : ByteArray) (h : DoorAt w B p most sec f) :
    Calls Try.prog 28 #[.pointer (some ⟨p, 0, none⟩), .string s] w fun e w' => e = .returned (.tuple #[]) ∧ Below B w w' ∧ ∃ f', DoorAt w' B p most sec f' ∧ known f' s = (0, (known f s).2) := by
  obtain ⟨r, hBp, hBr, hrp, hp, hm⟩ := id h
  have hpl := hp.lt
  have hml := hm.lt
  cases hf : f s with
  | none =>
    refine (pass_none_c w B p most sec f s h hf).mono ?_
    rintro e w' ⟨rfl, hb⟩
    refine ⟨rfl, hb.mono (by omega), f, h.below hb, ?_⟩
    unfold known; rw [hf]; rfl
  | some u =>
    have hk : known f s = u := by unfold known; rw [hf]; rfl
    rw [hk]
    have oU : ∀ x ∈ [Value.int .i64 u.1, Value.float .f64 u.2], x.oneCell' = true := by simp [Value.oneCell']
    have c2 : _ = some (Value.map (some r)) := hp.cell 2
    have hl := run_lookup (P := Try.prog) hm Try.underlying57 Try.underlying9 zU s
    simp only [hf, Option.map_some, Option.getD_some, Option.isSome_some] at hl
    unfold usr at hl
    have hBq : Try.prog.built 62 [(1, .float .f64 u.2)] = some #[.int .i64 0, .float .f64 u.2] := by kernel_rfl
    go_enter Try.func28, Try.ntmps28
    have tok0 : True := trivial
    go_upto_region 2 with (first
      | (have _t := tok0; (with_reducible refine G_alloc ?_; refine L_alloc zU ?_); intro w2 hk2 hb2 hs2; clear hs2; clear tok0; have tok1 : True := trivial)
      | (have _t := tok1; (with_reducible refine G_store ?_; refine L_store_agg agU (by with_unfolding_all (conv => lhs; whnf)) (by with_unfolding_all (conv => lhs; whnf)) hk2 rfl rfl oU ?_); intro w3 hk3 hg3 hs3; replace hk3 : Blk w3 w.heap.size _ [Value.int .i64 u.1, Value.float .f64 u.2] := hk3; clear tok1; have tok2 : True := trivial))
    have hb3 := hb2.grown hg3 hb2.size (by intro k hk; cases hk; exact Nat.le_refl _)
    have hp3 := (hp.below hb2).grown hg3 (by simp; omega)
    have hm3 := (hm.below hb2).grown hg3 (by simp; omega)
    clear hk2 hg3 hs3 hb2 hl c2
    refine region_making 8 (fun _ => []) (fun _ => none) (by kernel_rfl) (by kernel_rfl) ?_ ?_
    · intro i S h; cases h
    simp only [List.take_succ_cons, List.take_zero, List.drop_succ_cons, List.drop_zero]
    (apply wpG_pure; (focus rfl); (focus (intro wg Bg hbg hBg hFg; go_simp; (try go_bits); (first | done | exact ⟨rfl, Below.refl _ _⟩ | rfl))); simp only [Act.put, List.setIfInBounds_toArray, List.set_cons_succ, List.set_cons_zero])
    (apply wpG_pure; (focus rfl); (focus (intro wg Bg hbg hBg hFg; go_simp; (try go_bits); (first | done | exact ⟨rfl, Below.refl _ _⟩ | rfl))); simp only [Act.put, List.setIfInBounds_toArray, List.set_cons_succ, List.set_cons_zero])
    (apply wpG_pure; (focus rfl); (focus (intro wg Bg hbg hBg hFg; go_simp; (try go_bits); (first | done | exact ⟨rfl, Below.refl _ _⟩ | rfl))); simp only [Act.put, List.setIfInBounds_toArray, List.set_cons_succ, List.set_cons_zero])
    (apply wpG_pure; (focus rfl); (focus (intro wg Bg hbg hBg hFg; have hc1 : _ = some (Value.map (some r)) := (hp3.drew.below hbg).cell 2; go_simp; (try go_bits); (first | done | exact ⟨rfl, Below.refl _ _⟩ | rfl))); simp only [Act.put, List.setIfInBounds_toArray, List.set_cons_succ, List.set_cons_zero])
    (apply wpG_pure; (focus rfl); (focus (intro wg Bg hbg hBg hFg; go_simp; (try go_bits); (first | done | exact ⟨rfl, Below.refl _ _⟩ | rfl))); simp only [Act.put, List.setIfInBounds_toArray, List.set_cons_succ, List.set_cons_zero])
    (apply wpG_pure; (focus rfl); (focus (intro wg Bg hbg hBg hFg; go_simp; (try go_bits); (first | done | exact ⟨rfl, Below.refl _ _⟩ | rfl))); simp only [Act.put, List.setIfInBounds_toArray, List.set_cons_succ, List.set_cons_zero])
    (apply wpG_pure; (focus rfl); (focus (intro wg Bg hbg hBg hFg; have hc1 : _ = some (Value.float .f64 u.2) := (hk3.drew.below hbg).cell 1; go_simp; (try go_bits); (first | done | exact ⟨rfl, Below.refl _ _⟩ | rfl))); simp only [Act.put, List.setIfInBounds_toArray, List.set_cons_succ, List.set_cons_zero])
    (apply wpG_pure; (focus rfl); (focus (intro wg Bg hbg hBg hFg; go_simp; (try go_bits); (first | done | exact ⟨rfl, Below.refl _ _⟩ | rfl))); simp only [Act.put, List.setIfInBounds_toArray, List.set_cons_succ, List.set_cons_zero])
    refine wpG_end (fun wg Bg hbg hBg hFg => ?_)
    have hp9 := hp3.drew.below hbg
    have hm9 := hm3.drew.below hbg
    have hb9 := below_below hb3.drew hbg
    clear hFg hBg hbg
    go_wp2_with (first | ((with_reducible refine G_mapupd ?_; refine L_mapupd Try.underlying57 Try.underlying9 hm9 (by with_unfolding_all (conv => lhs; whnf)) (by with_unfolding_all (conv => lhs; whnf)) rfl ?_); intro wz hmz hgz hsz))
    refine bodyPost_end (results_none rfl _ _ _) rfl ⟨rfl, ?_, (fun t => if t = s then some ((0 : Int), u.2) else f t), ⟨r, hBp, hBr, hrp, hp9.grown hgz (by simp; omega), ?_⟩, ?_⟩
    · exact (hb9.mono (by omega)).grown hgz (by have := hb9.size; omega) (by intro k hk; cases hk; omega)
    · have e := map_put f s ((0 : Int), u.2)
      rw [← e]
      exact hmz
    · unfold known; simp
set_option maxRecDepth 100000 in
set_option maxHeartbeats 800000 in
theorem new_c (w : World) (most : Int) (sec : Nat) (hm : 1 ≤ most) (hs : fnan sec = false ∧ 0 ≤ fkey sec) :
    Calls Try.prog 23 #[.int .i64 most, .float .f64 sec] w fun e w' => ∃ p, e = .returned (.tuple #[.pointer (some ⟨p, 0, none⟩), .int .i64 0]) ∧ DoorAt w' w.heap.size p most sec (fun _ => none) ∧ Below w.heap.size w w' := by
  obtain ⟨h1, h2⟩ := hs
  have hn0 : fnan 0 = false := by decide
  have hk0 : fkey 0 = 0 := by decide
  have f1 := f_gt sec 0
  have f2 := f_eq sec 0
  rw [h1, hn0, hk0] at f1 f2
  have hmk : ∀ w1, (Instr.makeMap 57 none).run Try.prog w1 = .ok (.map (some w1.heap.size)) (w1.alloc (.map #[] 0)) := fun w1 => by simp [Instr.makeMap, Result.andThen]
  have hBd : ∀ r : Nat, Try.prog.built 59 [(0, .int .i64 most), (1, .float .f64 sec), (2, .map (some r))] = some #[.int .i64 most, .float .f64 sec, .map (some r)] := fun r => by kernel_rfl
  have hm2 : ¬ most < 1 := by omega
  have hb1 := (Below.refl w.heap.size w).alloc (Nat.le_refl _) (.map #[] 0)
  have hM := MapAt.new w 0
  have fin : ∀ w2, Blk w2 (w.heap.size + 1) 59 [.int .i64 most, .float .f64 sec, .map (some w.heap.size)] → Below (w.alloc (.map #[] 0)).heap.size (w.alloc (.map #[] 0)) w2 → DoorAt w2 w.heap.size (w.heap.size + 1) most sec (fun _ => none) ∧ Below w.heap.size w w2 := fun w2 hk hb =>
    ⟨⟨w.heap.size, by omega, Nat.le_refl _, by omega, hk, hM.below hb⟩, below_below hb1 hb⟩
  go_enter Try.func23, Try.ntmps23
  by_cases h0 : 0 < fkey sec
  · skip
    have tok0 : True := trivial
    go_wp2_with (first
      | (have _t := tok0; (with_reducible refine G_build ?_; refine L_build #[.int .i64 most, .float .f64 sec, .map (some w.heap.size)] (by kernel_rfl) ?_); clear tok0; have tok1 : True := trivial)
      | (have _t := tok1; (with_reducible refine G_box ?_; refine L_box (by with_unfolding_all (conv => lhs; whnf)) ?_); intro w2 hk2 hb2 hs2; clear tok1; have tok2 : True := trivial))
    go_ret2
    exact ⟨_, rfl, fin _ (by simpa using hk2) hb2⟩
  · have h00 : fkey sec = 0 := by omega
    have tok0 : True := trivial
    go_wp2_with (first
      | (have _t := tok0; (with_reducible refine G_build ?_; refine L_build #[.int .i64 most, .float .f64 sec, .map (some w.heap.size)] (by kernel_rfl) ?_); clear tok0; have tok1 : True := trivial)
      | (have _t := tok1; (with_reducible refine G_box ?_; refine L_box (by with_unfolding_all (conv => lhs; whnf)) ?_); intro w2 hk2 hb2 hs2; clear tok1; have tok2 : True := trivial))
    go_ret2
    exact ⟨_, rfl, fin _ (by simpa using hk2) hb2⟩
set_option maxRecDepth 100000 in
set_option maxHeartbeats 800000 in
theorem new_bad_c (w : World) (most : Int) (sec : Nat) (hm : 1 ≤ most) (hs : ¬ (fnan sec = false ∧ 0 ≤ fkey sec)) :
    Calls Try.prog 23 #[.int .i64 most, .float .f64 sec] w fun e w' => e = .returned (.tuple #[.pointer none, .int .i64 1]) ∧ w = w' := by
  have hn0 : fnan 0 = false := by decide
  have hk0 : fkey 0 = 0 := by decide
  have f1 := f_gt sec 0
  have f2 := f_eq sec 0
  rw [hn0, hk0] at f1 f2
  have hm2 : ¬ most < 1 := by omega
  go_enter Try.func23, Try.ntmps23
  cases h1 : fnan sec
  · have h0 : ¬ 0 < fkey sec := fun h => hs ⟨h1, by omega⟩
    have h00 : ¬ fkey sec = 0 := fun h => hs ⟨h1, by omega⟩
    clear hs
    go_wp2
    go_ret2
    exact ⟨rfl, rfl⟩
  · clear hs
    go_wp2
    go_ret2
    exact ⟨rfl, rfl⟩
end Go.Proofs.Ytpjpmgpehpigaab
