/- Lists of texts in memory: roostkeep.Texts, roostkeep.Same. -/
import Derived.Test.YtfnlcnjflloecaaMore2
import Derived.Test.YtfnlcnjflloecaaOct5
set_option linter.unusedVariables false
set_option linter.unusedSimpArgs false
namespace Go.Proofs.Ytfnlcnjflloecaa
open Go.RowKit
def sv (x : List UInt8) : Value := .string (strB x)
def svs (l : List (List UInt8)) : List Value := l.map sv
theorem svs_length (l : List (List UInt8)) : (svs l).length = l.length := by simp [svs]
theorem svs_append (a b : List (List UInt8)) : svs (a ++ b) = svs a ++ svs b := by simp [svs]
theorem svs_get (l : List (List UInt8)) (j : Nat) (h : j < l.length) : (svs l)[j]? = some (.string (strB l[j])) := by simp [svs, sv, List.getElem?_eq_getElem h]
theorem svs_one (l : List (List UInt8)) : ∀ u ∈ svs l, u.oneCell' = true := by
  intro u hu; obtain ⟨b, _, rfl⟩ := List.mem_map.1 hu; rfl
/-- In w the slice v reads as the texts l. -/
def RdT (w : World) (v : Value) (l : List (List UInt8)) : Prop := RdW w 1 v l.length (svs l)
theorem RdT.nil (w : World) : RdT w (.slice none 0 0) [] := RdW.nil w 1
theorem RdT.below {w w' : World} {v : Value} {l : List (List UInt8)} (h : RdT w v l) (hb : Below w.heap.size w w') : RdT w' v l := RdW.below h hb
theorem RdT.drew {w : World} {v : Value} {l : List (List UInt8)} (h : RdT w v l) : RdT w.drew v l := h
theorem RdT.open {w : World} {v : Value} {l : List (List UInt8)} (h : RdT w v l) : ∃ A c, v = .slice A l.length c ∧ l.length ≤ c ∧ c ≤ maxLen ∧
    (0 < l.length → ∃ b off, A = some ⟨b, off, none⟩ ∧ b < w.heap.size ∧ ∀ j (hj : j < l.length), w.cell? ⟨b, off + j, none⟩ = some (.string (strB l[j]))) := by
  obtain ⟨hx, A, c, rfl, h1, h2, h3⟩ := h
  refine ⟨A, c, rfl, h1, h2, fun hn => ?_⟩
  obtain ⟨b, off, rfl, hc⟩ := h3 hn
  exact ⟨b, off, rfl, World.block_lt_of_cell? w _ (hc 0 _ (svs_get l 0 hn)), fun j hj => hc j _ (svs_get l j hj)⟩
/-- v is a slice of texts of the call's own, from block `base` on. -/
def OwnT (w : World) (base : Nat) (v : Value) (l : List (List UInt8)) : Prop := w.ownsRow base 9 1 v l.length (svs l)
theorem OwnT.rd {w : World} {base : Nat} {v : Value} {l : List (List UInt8)} (h : OwnT w base v l) : RdT w v l := ownsRow_rd h
theorem OwnT.nil (w : World) (base : Nat) : OwnT w base (.slice none 0 0) [] := World.ownsRow_nil w base _ 1
theorem OwnT.grown {w w' : World} {base : Nat} {v : Value} {l : List (List UInt8)} {row : Option Nat} (h : OwnT w base v l) (hg : w.grownBy w' row) (hne : v.ownBlock = none ∨ v.ownBlock ≠ row) : OwnT w' base v l := World.ownsRow.kept h hg hne
theorem OwnT.below {w w' : World} {base : Nat} {v : Value} {l : List (List UInt8)} (h : OwnT w base v l) (hb : Below w.heap.size w w') : OwnT w' base v l := h.grown (grown_below hb none) (by cases v.ownBlock <;> simp)
theorem OwnT.lt {w : World} {base : Nat} {v : Value} {l : List (List UInt8)} (h : OwnT w base v l) (k : Nat) (hk : v.ownBlock = some k) : k < w.heap.size := (World.ownsRow.lt h k hk).2
theorem OwnT.base_le {w : World} {base : Nat} {v : Value} {l : List (List UInt8)} (h : OwnT w base v l) (k : Nat) (hk : v.ownBlock = some k) : base ≤ k := (World.ownsRow.lt h k hk).1
theorem sts : SlTy Try.prog 48 9 1 16 (.string ByteArray.empty) := SlTy.of Try.underlying48 (by kernel_rfl) rfl (by omega)
theorem rdT_one (w : World) (fr : Nat × Nat) (x : List UInt8) : RdT (w.alloc (.cells #[.string (strB x)] 9 fr)) (.slice (some ⟨w.heap.size, 0, none⟩) 1 1) [x] := by
  refine ⟨rfl, some ⟨w.heap.size, 0, none⟩, 1, rfl, by simp, by unfold maxLen; omega, fun _ => ⟨w.heap.size, 0, rfl, fun j u hu => ?_⟩⟩
  have hb : (w.alloc (.cells #[.string (strB x)] 9 fr)).heap[w.heap.size]? = some (.cells #[.string (strB x)] 9 fr) := by
    show (w.heap.push _)[w.heap.size]? = _
    simp
  rw [cell_of_row _ w.heap.size (0 + j) _ _ fr hb]
  simpa [svs, sv] using hu
/-- append of texts to texts that are owned. -/
theorem wpList_appT {w : World} {base : Nat} {ops : Array Oper} {rest : List Oper} {o : Oper} {a : Act} {Q : Exit → Act → World → Prop} (hgd : o.guard = none) (s x : Operand)
    (ho : o.op = .call { callee := .builtin .append, args := #[s, x], argTypes := #[48, 48] })
    {v : Value} (hs : a.eval s = v) {l : List (List UInt8)} (hown : OwnT w base v l)
    {xv : Value} (hxv : a.eval x = xv) {k : List (List UInt8)} (hx : RdT w xv k) (hbytes : l.length + k.length ≤ 1000000) (hbase : base ≤ w.heap.size)
    (h : ∀ v' w', OwnT w' base v' (l ++ k) → w.grownBy w' v.ownBlock → (v'.ownBlock = v.ownBlock ∨ v'.ownBlock = some w.heap.size) → wpList Try.prog ops Q rest (a.put o.dst v') w') :
    wpList Try.prog ops Q (o :: rest) a w :=
  wpList_app hgd s x ho sts hs hown hxv (RdW.src hx (svs_one k) Try.underlying48) (by unfold maxLen; omega) (by omega) hbase fun v' w' h2 h3 h4 => h v' w' (by unfold OwnT; rw [svs_append, List.length_append]; exact h2) h3 h4
theorem grown_low {wr w2 : World} {B : Nat} {v : Value} {l : List (List UInt8)} {o : Obj} (ho : OwnT wr B v l) (hg : (wr.alloc o).grownBy w2 v.ownBlock) (hB : B ≤ B) (hz : B ≤ wr.heap.size) : Below B wr w2 :=
  ((Below.refl B wr).alloc hz o).grown hg (by simp; omega) (by intro k hk; exact ho.base_le k hk)
def cutT (m k : Nat) (l : List (List UInt8)) : List (List UInt8) := (l.take m).map (·.take k)
theorem cutT_len (m k : Nat) (l : List (List UInt8)) : (cutT m k l).length ≤ m := by unfold cutT; simp; omega
theorem cutT_mem (m k : Nat) (l : List (List UInt8)) : ∀ x ∈ cutT m k l, x.length ≤ k := by
  intro x hx
  unfold cutT at hx
  obtain ⟨y, _, rfl⟩ := List.mem_map.1 hx
  simp; omega
theorem cutT_succ (m k : Nat) (l : List (List UInt8)) (h : m < l.length) : cutT (m + 1) k l = cutT m k l ++ [l[m].take k] := by
  unfold cutT; rw [List.take_succ_eq_append_getElem h, List.map_append]; rfl
def GivesTs (w : World) (l : List (List UInt8)) (e : Ending) (w' : World) : Prop := ∃ u, e = .returned u ∧ OwnT w' w.heap.size u l ∧ Below w.heap.size w w'
def TxRel (w : World) (l : List (List UInt8)) (m k : Nat) (out i : Value) (wr : World) : Prop :=
  ∃ j : Nat, j ≤ l.length ∧ j ≤ m ∧ i = .int .i64 (j : Int) ∧ OwnT wr w.heap.size out (cutT j k l) ∧ Below w.heap.size w wr
theorem takeEq_succ {a b : List (List UInt8)} {j : Nat} (ha : j < a.length) (hb : j < b.length) (h : a.take j = b.take j) (e : a[j] = b[j]) : a.take (j + 1) = b.take (j + 1) := by
  rw [List.take_succ_eq_append_getElem ha, List.take_succ_eq_append_getElem hb, h, e]
def SmRel (w : World) (a b : List (List UInt8)) (i : Value) (wr : World) : Prop := ∃ j : Nat, j ≤ a.length ∧ i = .int .i64 (j : Int) ∧ a.take j = b.take j ∧ Below w.heap.size w wr
set_option maxRecDepth 100000 in
set_option maxHeartbeats 1600000 in
theorem ksame_c (w : World) (v1 v2 : Value) (a b : List (List UInt8)) (ha : RdT w v1 a) (hb : RdT w v2 b) :
    Calls Try.prog 20 #[v1, v2] w fun e w' => e = .returned (.bool (decide (a = b))) ∧ Below w.heap.size w w' := by
  obtain ⟨A, c, rfl, h1, h2, h3⟩ := ha.open
  obtain ⟨B, d, rfl, k1, k2, k3⟩ := hb.open
  have hlen := ha.len_le
  have klen := hb.len_le
  clear ha hb
  obtain ⟨r, hr⟩ : ∃ r, decide (a = b) = r := ⟨_, rfl⟩
  rw [hr]
  replace hr := Go.Lib.hid hr
  by_cases hne : a.length = b.length
  · rw [← hne] at k1 klen
    have k3' : 0 < a.length → ∃ b_1 off, B = some ⟨b_1, off, none⟩ ∧ b_1 < w.heap.size ∧ ∀ (j : Nat) (hj : j < b.length), w.cell? ⟨b_1, off + j, none⟩ = some (Value.string (strB b[j])) := by
      intro h0
      exact k3 (by omega)
    clear k3
    have hle : a.length ≤ b.length := by omega
    have e2 : Value.slice B b.length d = Value.slice B a.length d := by rw [hne]
    rw [e2]
    clear e2
    replace hne := Go.Lib.hid hne
    go_enter Try.func20, Try.ntmps20
    go_wp2_with fail
    go_loopw [5] (SmRel w a b) (fun i _ => a.length - (intOf i).toNat)
    case atStart => exact ⟨0, by omega, rfl, rfl, Below.refl _ _⟩
    case round =>
      obtain ⟨j, hj, rfl, hE, hb⟩ := hrel
      by_cases hlt : j < a.length
      · have q1 : (j : Int) < a.length := by omega
        obtain ⟨ba, oa, rfl, hba, hca⟩ := h3 (by omega)
        obtain ⟨bb, ob, rfl, hbb, hcb⟩ := k3' (by omega)
        have ca : _ = some _ := (hb.cell (p := ⟨ba, oa + j, none⟩) hba).trans (hca j hlt)
        have cb : _ = some _ := (hb.cell (p := ⟨bb, ob + j, none⟩) hbb).trans (hcb j (by omega))
        have bq := strB_beq a[j] b[j]
        by_cases hx : a[j] = b[j]
        · have hE2 := takeEq_succ hlt (by omega) hE hx
          rw [hx] at ca
          replace hE2 := Go.Lib.hid hE2
          generalize strB b[j] = X at *
          clear hx bq hca hcb hE h3 k3'
          go_wp2_with fail
          (refine region_still (by kernel_rfl) (by kernel_rfl) ?_; repeat (refine wpStill_step (fun K hK => ?_); go_simp; (try go_bits); refine hK _ ?_; clear hK K); try refine wpStill_nil ?_)
          go_wp2_with fail
          exact ⟨⟨j + 1, by omega, by go_num, hE2.out, hb.drew⟩, by simp [intOf]; omega⟩
        · have hd : decide (a = b) = false := by
            apply decide_eq_false
            intro e
            subst e
            exact hx rfl
          have q3 : ((strB a[j]).toList == (strB b[j]).toList) = false := by rw [bq]; exact decide_eq_false hx
          have q4 : ((strB a[j]).toList != (strB b[j]).toList) = true := by unfold bne; rw [q3]; rfl
          obtain rfl : r = false := hr.out.symm.trans hd
          generalize strB a[j] = X at *
          generalize strB b[j] = Y at *
          clear hx bq hca hcb hE h3 k3' hd
          go_wp2_with fail
          (refine region_still (by kernel_rfl) (by kernel_rfl) ?_; repeat (refine wpStill_step (fun K hK => ?_); go_simp; (try go_bits); refine hK _ ?_; clear hK K); try refine wpStill_nil ?_)
          go_wp2_with fail
          go_ret
          exact ⟨rfl, hb.drew⟩
      · have q1 : ¬ (j : Int) < a.length := by omega
        have hd : decide (a = b) = true := by
          apply decide_eq_true
          have e := hne.out
          rw [List.take_of_length_le (by omega), List.take_of_length_le (by omega)] at hE
          exact hE
        obtain rfl : r = true := hr.out.symm.trans hd
        go_wp2_with fail
        go_ret
        exact ⟨rfl, hb⟩
  · have hd : decide (a = b) = false := by
      apply decide_eq_false
      intro e
      subst e
      exact hne rfl
    obtain rfl : r = false := hr.out.symm.trans hd
    clear h3 k3 hd hr
    have q1 : ((a.length : Int) != (b.length : Int)) = true := by simp; omega
    have q2 : ((a.length : Int) == (b.length : Int)) = false := by simp; omega
    generalize a.length = n1 at *
    generalize b.length = n2 at *
    go_enter Try.func20, Try.ntmps20
    go_wp2_with fail
    go_ret
    exact ⟨rfl, Below.refl _ _⟩
end Go.Proofs.Ytfnlcnjflloecaa
