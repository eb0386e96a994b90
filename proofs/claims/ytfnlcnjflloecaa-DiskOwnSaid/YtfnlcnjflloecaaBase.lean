/- General words for the walks of this seat: bytes in memory, slices that are read, slices that the call owns, append of any source. No program is named but in the closed facts at the end. -/
import Derived.Test.YtfnlcnjflloecaaProg
import Derived.WalkKit
import Derived.Below
import Derived.Lib.Hide
import Derived.WalkLawsBesides
import Derived.WalkSpells
import Derived.LoopTactic
import Derived.Laws.AppendOwn
import Derived.Maps.AppendAt
import Derived.Laws.OwnMore
import Derived.Laws.MakeOwn
import Derived.Deep.AppendSrc
import Derived.Deep.AppendLies
import Derived.OwnWalk
import Derived.Deep.QuietTactic
import Derived.BigQuiet
import Derived.Outline
import Derived.RegionTactic
import Derived.StillTailTactics
import Derived.Deep.RegionHeld3
import Derived.Laws.BitsAllLaws
set_option linter.unusedVariables false
set_option linter.unusedSimpArgs false
namespace Go.Proofs.Ytfnlcnjflloecaa
open Go.RowKit

/-! ### bytes -/
def bt (l : List UInt8) (k : Nat) : Int := ((l.getD k 0).toNat : Int)
theorem bt_lo (l : List UInt8) (k : Nat) : 0 ≤ bt l k := by unfold bt; omega
theorem bt_hi (l : List UInt8) (k : Nat) : bt l k < 256 := by unfold bt; have := (l.getD k 0).toNat_lt; omega
theorem bt_get (l : List UInt8) (k : Nat) (h : k < l.length) : bt l k = (l[k].toNat : Int) := by unfold bt; simp [List.getD_eq_getElem?_getD, List.getElem?_eq_getElem h]
def bv (b : UInt8) : Value := .int .u8 (b.toNat : Int)
def bvs (l : List UInt8) : List Value := l.map bv
theorem bvs_length (l : List UInt8) : (bvs l).length = l.length := by simp [bvs]
theorem bvs_append (a b : List UInt8) : bvs (a ++ b) = bvs a ++ bvs b := by simp [bvs]
theorem bvs_get (l : List UInt8) (j : Nat) (h : j < l.length) : (bvs l)[j]? = some (.int .u8 (bt l j)) := by
  simp [bvs, bv, bt_get l j h, List.getElem?_eq_getElem h]
theorem bvs_one (l : List UInt8) : ∀ u ∈ bvs l, u.oneCell' = true := by
  intro u hu; obtain ⟨b, _, rfl⟩ := List.mem_map.1 hu; rfl
theorem bvs_inj {a b : List UInt8} (h : bvs a = bvs b) : a = b := by
  unfold bvs at h
  exact (List.map_inj_right (fun x y hxy => by simp [bv] at hxy; exact UInt8.toNat_inj.1 (by omega))).1 h

/-! ### a slice that is read -/
theorem add_lit (b off k : Nat) : (⟨b, off, none⟩ : Addr).add k = ⟨b, off + k, none⟩ := by unfold Addr.add; split <;> simp_all
theorem grown_below {w w' : World} (hb : Below w.heap.size w w') (row : Option Nat) : w.grownBy w' row := ⟨hb.os, hb.tape, hb.output, hb.size, fun k hk _ => hb.block k hk⟩
/-- In w the slice v of n elements of `size` cells each reads as the cells xs. -/
def RdW (w : World) (size : Nat) (v : Value) (n : Nat) (xs : List Value) : Prop := xs.length = n * size ∧ ∃ A c, v = .slice A n c ∧ n ≤ c ∧ c ≤ maxLen ∧
  (0 < n → ∃ b off, A = some ⟨b, off, none⟩ ∧ ∀ j u, xs[j]? = some u → w.cell? ⟨b, off + j, none⟩ = some u)
theorem RdW.nil (w : World) (size : Nat) : RdW w size (.slice none 0 0) 0 [] := ⟨by simp, none, 0, rfl, by simp, by unfold maxLen; omega, fun h => absurd h (by simp)⟩
theorem RdW.grown {w w' : World} {size : Nat} {v : Value} {n : Nat} {xs : List Value} {row : Option Nat} (h : RdW w size v n xs) (hg : w.grownBy w' row) (hne : 0 < n → v.ownBlock ≠ row) : RdW w' size v n xs := by
  obtain ⟨hx, A, c, rfl, h1, h2, h3⟩ := h
  refine ⟨hx, A, c, rfl, h1, h2, fun hn => ?_⟩
  obtain ⟨b, off, rfl, hc⟩ := h3 hn
  refine ⟨b, off, rfl, fun j u hu => hg.cell (hc j u hu) ?_⟩
  have := hne hn
  simpa [Value.ownBlock] using this
theorem RdW.below {w w' : World} {size : Nat} {v : Value} {n : Nat} {xs : List Value} (h : RdW w size v n xs) (hb : Below w.heap.size w w') : RdW w' size v n xs := by
  obtain ⟨hx, A, c, rfl, h1, h2, h3⟩ := h
  refine ⟨hx, A, c, rfl, h1, h2, fun hn => ?_⟩
  obtain ⟨b, off, rfl, hc⟩ := h3 hn
  refine ⟨b, off, rfl, fun j u hu => ?_⟩
  have := hc j u hu
  rw [hb.cell (World.block_lt_of_cell? w _ this)]; exact this
theorem RdW.lt {w : World} {size : Nat} {v : Value} {n : Nat} {xs : List Value} (h : RdW w size v n xs) (hs : 0 < size) (g : Nat) (hg : v.ownBlock = some g) (hn : 0 < n) : g < w.heap.size := by
  obtain ⟨hx, A, c, rfl, h1, h2, h3⟩ := h
  obtain ⟨b, off, rfl, hc⟩ := h3 hn
  have hl : 0 < xs.length := by rw [hx]; exact Nat.mul_pos hn hs
  have h4 : b < w.heap.size := World.block_lt_of_cell? w _ (hc 0 xs[0] (by simp [List.getElem?_eq_getElem hl]))
  simp [Value.ownBlock] at hg
  omega
theorem RdW.len_le {w : World} {size : Nat} {v : Value} {n : Nat} {xs : List Value} (h : RdW w size v n xs) : n ≤ 9223372036854775807 := by
  obtain ⟨hx, A, c, rfl, h1, h2, h3⟩ := h
  unfold maxLen at h2; omega
/-- A piece of it: whatever the slicing yields. -/
theorem RdW.piece {w : World} {size : Nat} {A : Option Addr} {n c : Nat} {xs : List Value} (h : RdW w size (.slice A n c) n xs) (lo hi : Nat) (hl : lo ≤ hi) (hh : hi ≤ n) :
    RdW w size (sliced A lo hi c size) (hi - lo) ((xs.take (hi * size)).drop (lo * size)) := by
  obtain ⟨hx, A', c', e, h1, h2, h3⟩ := h
  cases e
  have hlen : ((xs.take (hi * size)).drop (lo * size)).length = (hi - lo) * size := by
    have : hi * size ≤ n * size := Nat.mul_le_mul_right _ hh
    simp only [List.length_drop, List.length_take, hx, Nat.min_eq_left this, Nat.sub_mul]
  refine ⟨hlen, _, _, rfl, by omega, by omega, fun hn => ?_⟩
  obtain ⟨b, off, rfl, hc⟩ := h3 (by omega)
  refine ⟨b, off + lo * size, ?_, fun j u hu => ?_⟩
  · rw [if_neg (by omega)]; simp [add_lit]
  · have hj := (List.getElem?_eq_some_iff.1 hu).1
    rw [List.getElem?_drop, List.getElem?_take] at hu
    split at hu
    · have := hc _ _ hu
      rw [Nat.add_assoc]; exact this
    · cases hu

/-! ### a slice of bytes -/
/-- In w the slice v reads as the bytes l. -/
def Rd (w : World) (v : Value) (l : List UInt8) : Prop := RdW w 1 v l.length (bvs l)
theorem Rd.nil (w : World) : Rd w (.slice none 0 0) [] := RdW.nil w 1
theorem Rd.below {w w' : World} {v : Value} {l : List UInt8} (h : Rd w v l) (hb : Below w.heap.size w w') : Rd w' v l := RdW.below h hb
theorem Rd.grown {w w' : World} {v : Value} {l : List UInt8} {row : Option Nat} (h : Rd w v l) (hg : w.grownBy w' row) (hne : 0 < l.length → v.ownBlock ≠ row) : Rd w' v l := RdW.grown h hg hne
theorem Rd.len_le {w : World} {v : Value} {l : List UInt8} (h : Rd w v l) : l.length ≤ 9223372036854775807 := RdW.len_le h
theorem Rd.lt {w : World} {v : Value} {l : List UInt8} (h : Rd w v l) (g : Nat) (hg : v.ownBlock = some g) (hn : 0 < l.length) : g < w.heap.size := RdW.lt h (by omega) g hg hn
theorem Rd.open {w : World} {v : Value} {l : List UInt8} (h : Rd w v l) : ∃ A c, v = .slice A l.length c ∧ l.length ≤ c ∧ c ≤ maxLen ∧
    (0 < l.length → ∃ b off, A = some ⟨b, off, none⟩ ∧ ∀ j, j < l.length → w.cell? ⟨b, off + j, none⟩ = some (.int .u8 (bt l j))) := by
  obtain ⟨hx, A, c, rfl, h1, h2, h3⟩ := h
  refine ⟨A, c, rfl, h1, h2, fun hn => ?_⟩
  obtain ⟨b, off, rfl, hc⟩ := h3 hn
  exact ⟨b, off, rfl, fun j hj => hc j _ (bvs_get l j hj)⟩
theorem Rd.mk {w : World} {A : Option Addr} {n c : Nat} {l : List UInt8} (hn : n = l.length) (h1 : n ≤ c) (h2 : c ≤ maxLen)
    (h3 : 0 < n → ∃ b off, A = some ⟨b, off, none⟩ ∧ ∀ j, j < n → w.cell? ⟨b, off + j, none⟩ = some (.int .u8 (bt l j))) : Rd w (.slice A n c) l := by
  subst hn
  refine ⟨by simp [bvs_length], A, c, rfl, h1, h2, fun hn => ?_⟩
  obtain ⟨b, off, rfl, hc⟩ := h3 hn
  refine ⟨b, off, rfl, fun j u hu => ?_⟩
  have hj : j < l.length := by have := (List.getElem?_eq_some_iff.1 hu).1; simpa [bvs] using this
  rw [bvs_get l j hj] at hu; cases hu
  exact hc j hj

/-- The element type's row of the table, as an append asks for it. -/
structure SlTy (P : Program) (t e : TypeId) (size bytes : Nat) (z : Value) : Prop where
  under : P.underlying t = some (.slice e)
  info : ∃ i, P.info? e = some i ∧ i.zero = some z ∧ i.size = size ∧ i.bytes = bytes
  cells : z.cells.size = size
  pos : 0 < size

theorem SlTy.of {P : Program} {t e : TypeId} {size bytes : Nat} {z : Value} (h : P.underlying t = some (.slice e))
    (hi : (P.info? e).map (fun i => (i.zero, i.size, i.bytes)) = some (some z, size, bytes)) (hc : z.cells.size = size) (hp : 0 < size) : SlTy P t e size bytes z := by
  refine ⟨h, ?_, hc, hp⟩
  cases hx : P.info? e with
  | none => rw [hx] at hi; cases hi
  | some i => rw [hx] at hi; simp at hi; exact ⟨i, rfl, hi⟩

theorem World.drew_heap_alloc_old (w : World) (o : Obj) (k : Nat) (hk : k < w.heap.size) : (w.drew.alloc o).heap[k]? = w.heap[k]? := by
  show (w.heap.push o)[k]? = _
  rw [Array.getElem?_push, if_neg (by omega)]
section
variable {P : Program} {w : World} {base : Nat} {t tx e : TypeId} {size bytes : Nat} {z : Value}

/-- Where the new slice lies: the old row, or the block that is made now. -/
theorem run_append_src (ST : SlTy P t e size bytes z) (ty : TypeId) (v : Value) (n : Nat) (xs : List Value) (hown : w.ownsRow base e size v n xs)
    (x : Value) (m : Nat) (news : List Value) (hx : Src P size tx x m news w) (h63 : n + m ≤ maxLen) (hbytes : (n + m) * bytes ≤ 140737488355328) (hbase : base ≤ w.heap.size) :
    ∃ v' w', (Builtin.append_ #[t, tx] ty #[v, x]).run P w = .ok v' w' ∧ w'.ownsRow base e size v' (n + m) (xs ++ news) ∧ w.grownBy w' v.ownBlock ∧
      (v'.ownBlock = v.ownBlock ∨ v'.ownBlock = some w.heap.size) := by
  obtain ⟨i, hi, hz, rfl, rfl⟩ := ST.info
  have ht := ST.under
  have hsmall : n + m ≤ 9223372036854775807 := by simp only [maxLen] at h63; omega
  have hl := hx.newsLen
  have hlen : (xs ++ news).length = (n + m) * i.size := by rw [List.length_append, hown.1, hl, Nat.add_mul]
  have grown : ∀ (old : Nat), old < n + m → ∀ (row : Option Nat),
      (w.drew.alloc (.cells ((xs ++ news).toArray ++ Builtin.zeroCells z.cells (grownCap w (n + m) old e - (n + m))) e)).ownsRow base e i.size
        (.slice (some ⟨w.heap.size, 0, none⟩) (n + m) (grownCap w (n + m) old e)) (n + m) (xs ++ news) ∧
      w.grownBy (w.drew.alloc (.cells ((xs ++ news).toArray ++ Builtin.zeroCells z.cells (grownCap w (n + m) old e - (n + m))) e)) row := by
    intro old ho row
    have hge := grownCap_ge w (n + m) old e
    have hcm : grownCap w (n + m) old e ≤ maxLen := grownCap_le_maxLen w (n + m) old e h63
    refine ⟨⟨hlen, .inr ⟨w.heap.size, _, _, rfl, hbase, heap_alloc_new w.drew _, hge, hcm, ?_, ?_⟩⟩, ⟨rfl, rfl, rfl, by simp, fun k hk _ => World.drew_heap_alloc_old w _ k hk⟩⟩
    · simp only [Array.size_append, List.size_toArray, size_zeroCells, ST.cells, hlen, ← Nat.add_mul]
      congr 1
      omega
    · simp only [Array.toList_append]
      rw [← hlen]
      exact List.take_left
  rcases hown.2 with ⟨rfl, rfl⟩ | ⟨g, cap, cur, rfl, hbg, hg, hnc, hcm, hcs, htake⟩
  · have hx0 : xs = [] := List.eq_nil_of_length_eq_zero (by simpa using hown.1)
    subst hx0
    by_cases hm : m = 0
    · subst hm
      have hn : news = [] := List.eq_nil_of_length_eq_zero (by simpa using hl)
      subst hn
      refine ⟨.slice none 0 0, w, ?_, World.ownsRow_nil w base e i.size, ⟨rfl, rfl, rfl, Nat.le_refl _, fun _ _ _ => rfl⟩, Or.inl rfl⟩
      rcases hx.kind with ⟨e', hk⟩ | hk <;> simp [Builtin.append_, run_underlying ht, run_underlying hk, sizeOf, typeInfo, hi, hx.len, hx.cells]
    · have hr := run_append_grow_src (P := P) w t tx ty e i z ht hi hz none 0 0 [] (by simp [Builtin.firstCells]) x m news hx (by omega) (by omega) (growslice_fits (by omega) hbytes)
      have hgr := grown 0 (by omega) (Value.ownBlock (.slice none 0 0))
      exact ⟨_, _, hr, hgr.1, hgr.2, Or.inr rfl⟩
  · by_cases hroom : n + m ≤ cap
    · have hfit : n * i.size + news.length ≤ cur.size := by rw [hl, hcs, ← Nat.add_mul]; exact Nat.mul_le_mul_right _ hroom
      have hst := run_storeCells_at P g (n * i.size) e news 0 cur w hg (by simpa using hfit) hx.one
      simp only [Nat.add_zero] at hst
      have hr : (Builtin.append_ #[t, tx] ty #[.slice (some ⟨g, 0, none⟩) n cap, x]).run P w =
          .ok (.slice (some ⟨g, 0, none⟩) (n + m) cap) (w.setRow g (cur.toList.take (n * i.size) ++ news ++ cur.toList.drop (n * i.size + news.length)).toArray) := by
        rcases hx.kind with ⟨e', hk⟩ | hk <;> simp [Builtin.append_, run_underlying ht, run_underlying hk, sizeOf, typeInfo, hi, hx.len, hroom, hx.cells, Addr.add_lit, hst]
      refine ⟨_, _, hr, ⟨hlen, .inr ⟨g, cap, _, rfl, hbg, setRow_heap w g cur _ e _ hg, hroom, hcm, ?_, ?_⟩⟩, ⟨rfl, rfl, rfl, by simp, fun k _ hk => setRow_other w g k _ (fun e => hk (by simp [Value.ownBlock, e]))⟩, Or.inl rfl⟩
      · simp only [List.size_toArray, List.length_append, List.length_take, List.length_drop, Array.length_toList]
        omega
      · rw [htake, ← hlen]
        exact List.take_left
    · have hold : (Builtin.firstCells i.size n (.slice (some ⟨g, 0, none⟩) n cap)).run P w.drew = .ok xs.toArray w.drew := by
        refine run_firstCells_some w.drew i.size n ⟨g, 0, none⟩ n cap xs hown.1 ?_
        intro j u hu
        have := hown.cells (g := g) rfl j u hu
        simpa using this
      have hr := run_append_grow_src (P := P) w t tx ty e i z ht hi hz (some ⟨g, 0, none⟩) n cap xs hold x m news hx (by omega) (by omega) (growslice_fits (by omega) hbytes)
      have hgr := grown cap (by omega) (Value.ownBlock (.slice (some ⟨g, 0, none⟩) n cap))
      exact ⟨_, _, hr, hgr.1, hgr.2, Or.inr rfl⟩

theorem wp_app {o : Oper} {a : Act} {K : Act → World → Prop} {Q : Exit → Act → World → Prop} (s x : Operand)
    (ho : o.op = .call { callee := .builtin .append, args := #[s, x], argTypes := #[t, tx] }) (ST : SlTy P t e size bytes z)
    {v : Value} (hs : a.eval s = v) {n : Nat} {xs : List Value} (hown : w.ownsRow base e size v n xs)
    {xv : Value} (hxv : a.eval x = xv) {m : Nat} {news : List Value} (hx : Src P size tx xv m news w) (h63 : n + m ≤ maxLen) (hbytes : (n + m) * bytes ≤ 140737488355328) (hbase : base ≤ w.heap.size)
    (h : ∀ v' w', w'.ownsRow base e size v' (n + m) (xs ++ news) → w.grownBy w' v.ownBlock → (v'.ownBlock = v.ownBlock ∨ v'.ownBlock = some w.heap.size) → K (a.put o.dst v') w') : o.wp P a w K Q := by
  obtain ⟨v', w', hr, h2, h3, h4⟩ := run_append_src ST o.type v n xs hown xv m news hx h63 hbytes hbase
  unfold Oper.wp execOp
  simp only [ho, resolve, invoke, builtin, Sem.run_bind, Sem.run_pure, Result.andThen_ok, List.map_toArray, List.map_cons, List.map_nil, hs, hxv, hr]
  exact h v' w' h2 h3 h4

theorem wpList_app {ops : Array Oper} {rest : List Oper} {o : Oper} {a : Act} {Q : Exit → Act → World → Prop} (hgd : o.guard = none) (s x : Operand)
    (ho : o.op = .call { callee := .builtin .append, args := #[s, x], argTypes := #[t, tx] }) (ST : SlTy P t e size bytes z)
    {v : Value} (hs : a.eval s = v) {n : Nat} {xs : List Value} (hown : w.ownsRow base e size v n xs)
    {xv : Value} (hxv : a.eval x = xv) {m : Nat} {news : List Value} (hx : Src P size tx xv m news w) (h63 : n + m ≤ maxLen) (hbytes : (n + m) * bytes ≤ 140737488355328) (hbase : base ≤ w.heap.size)
    (h : ∀ v' w', w'.ownsRow base e size v' (n + m) (xs ++ news) → w.grownBy w' v.ownBlock → (v'.ownBlock = v.ownBlock ∨ v'.ownBlock = some w.heap.size) → wpList P ops Q rest (a.put o.dst v') w') :
    wpList P ops Q (o :: rest) a w :=
  wpList_plain hgd fun _ hK => wp_app s x ho ST hs hown hxv hx h63 hbytes hbase fun v' w' h2 h3 h4 => hK _ _ (h v' w' h2 h3 h4)
end

/-! ### bytes that are owned -/
/-- v is a slice of the call's own, from block `base` on, that reads as l. -/
def Own8 (w : World) (base : Nat) (e : TypeId) (v : Value) (l : List UInt8) : Prop := w.ownsRow base e 1 v l.length (bvs l)
theorem RdW.src {P : Program} {w : World} {size : Nat} {v : Value} {n : Nat} {xs : List Value} {t e : TypeId} (h : RdW w size v n xs) (h1 : ∀ u ∈ xs, u.oneCell' = true) (ht : P.underlying t = some (.slice e)) : Src P size t v n xs w := by
  obtain ⟨hx, A, c, rfl, _, h2, h3⟩ := h
  rcases Nat.eq_zero_or_pos n with h0 | h0
  · subst h0
    obtain rfl : xs = [] := List.eq_nil_of_length_eq_zero (by simpa using hx)
    cases A with
    | none => exact Src.ofNil w ht c
    | some a => exact Src.ofSlice w ht a 0 c [] (by simp) (fun j u hu => by cases hu) (fun u hu => by cases hu)
  · obtain ⟨b, off, rfl, hc⟩ := h3 h0
    refine Src.ofSlice w ht _ _ c xs hx (fun j u hu => ?_) h1
    rw [add_lit]; exact hc j u hu
theorem Rd.src {P : Program} {w : World} {v : Value} {l : List UInt8} {t e : TypeId} (h : Rd w v l) (ht : P.underlying t = some (.slice e)) : Src P 1 t v l.length (bvs l) w := RdW.src h (bvs_one l) ht
theorem ownsRow_rd {w : World} {base : Nat} {e : TypeId} {size : Nat} {v : Value} {n : Nat} {xs : List Value} (h : w.ownsRow base e size v n xs) : RdW w size v n xs := by
  refine ⟨h.1, ?_⟩
  rcases h.2 with ⟨rfl, h0⟩ | ⟨g, cap, cur, rfl, hb, hg, hn, hm, hs, ht⟩
  · exact ⟨none, 0, by rw [h0], by omega, by unfold maxLen; omega, fun hp => by omega⟩
  · refine ⟨_, cap, rfl, hn, hm, fun hp => ⟨g, 0, rfl, fun j u hu => ?_⟩⟩
    have := h.cells (g := g) rfl j _ hu
    rw [add_lit] at this; exact this
theorem Own8.rd {w : World} {base : Nat} {e : TypeId} {v : Value} {l : List UInt8} (h : Own8 w base e v l) : Rd w v l := ownsRow_rd h
theorem Own8.open {w : World} {base : Nat} {e : TypeId} {v : Value} {l : List UInt8} (h : Own8 w base e v l) (hn : 0 < l.length) : ∃ g cap, v = .slice (some ⟨g, 0, none⟩) l.length cap ∧ base ≤ g ∧ g < w.heap.size := World.ownsRow.form h hn
theorem Own8.cell {w : World} {base : Nat} {e : TypeId} {g n cap : Nat} {l : List UInt8} (h : Own8 w base e (.slice (some ⟨g, 0, none⟩) n cap) l) (j : Nat) (hj : j < l.length) : w.cell? ⟨g, j, none⟩ = some (.int .u8 (bt l j)) := by
  obtain ⟨_, _, e, _⟩ := Own8.open h (by omega)
  cases e
  rw [World.ownsRow.cellAt h j (by omega), bvs_get l j hj]
theorem Own8.frozen {w : World} {base : Nat} {e : TypeId} {g n cap : Nat} {l : List UInt8} (h : Own8 w base e (.slice (some ⟨g, 0, none⟩) n cap) l) (j : Nat) (hj : j < l.length) : w.frozen? ⟨g, j, none⟩ = false := by
  obtain ⟨_, _, e, _⟩ := Own8.open h (by omega)
  cases e
  exact World.ownsRow.frozenAt h j
theorem bvs_set (l : List UInt8) (j : Nat) (b : UInt8) : (bvs l).set j (bv b) = bvs (l.set j b) := by simp [bvs, List.map_set]
theorem Own8.stored {w : World} {base : Nat} {e : TypeId} {g n cap : Nat} {l : List UInt8} (h : Own8 w base e (.slice (some ⟨g, 0, none⟩) n cap) l) (j : Nat) (hj : j < l.length) (b : UInt8) :
    Own8 (w.setCell ⟨g, j, none⟩ (.int .u8 (b.toNat : Int))) base e (.slice (some ⟨g, 0, none⟩) n cap) (l.set j b) := by
  obtain ⟨_, _, e, _⟩ := Own8.open h (by omega)
  cases e
  have := (World.ownsRow.stored h j (bv b)).1
  rw [bvs_set] at this
  unfold Own8
  rw [List.length_set]; exact this
theorem Own8.form {w : World} {base : Nat} {e : TypeId} {v : Value} {l : List UInt8} {g : Nat} (h : Own8 w base e v l) (hg : v.ownBlock = some g) : ∃ cap, v = .slice (some ⟨g, 0, none⟩) l.length cap := by
  rcases h.2 with ⟨rfl, h0⟩ | ⟨g', cap, cur, rfl, _⟩
  · simp [Value.ownBlock] at hg
  · simp [Value.ownBlock] at hg
    subst hg
    exact ⟨cap, rfl⟩
theorem Own8.stored' {w : World} {base : Nat} {e : TypeId} {v : Value} {l : List UInt8} {g : Nat} (h : Own8 w base e v l) (hg : v.ownBlock = some g) (j : Nat) (hj : j < l.length) (b : UInt8) :
    Own8 (w.setCell ⟨g, j, none⟩ (.int .u8 (b.toNat : Int))) base e v (l.set j b) := by
  obtain ⟨cap, rfl⟩ := h.form hg
  exact h.stored j hj b
theorem grown_setCell (w : World) (a : Addr) (u : Value) : w.grownBy (w.setCell a u) (some a.block) :=
  ⟨rfl, rfl, rfl, by simp [World.setCell], fun k _ hk => Below.heap_setCell _ _ _ _ (fun e => hk (by rw [e]))⟩
theorem Own8.drew {w : World} {base : Nat} {e : TypeId} {v : Value} {l : List UInt8} (h : Own8 w base e v l) : Own8 w.drew base e v l := h
theorem Rd.drew {w : World} {v : Value} {l : List UInt8} (h : Rd w v l) : Rd w.drew v l := h
theorem Own8.base_le {w : World} {base : Nat} {e : TypeId} {v : Value} {l : List UInt8} (h : Own8 w base e v l) (k : Nat) (hk : v.ownBlock = some k) : base ≤ k := (World.ownsRow.lt h k hk).1
theorem Own8.lt {w : World} {base : Nat} {e : TypeId} {v : Value} {l : List UInt8} (h : Own8 w base e v l) (k : Nat) (hk : v.ownBlock = some k) : k < w.heap.size := (World.ownsRow.lt h k hk).2
theorem Own8.grown {w w' : World} {base : Nat} {e : TypeId} {v : Value} {l : List UInt8} {row : Option Nat} (h : Own8 w base e v l) (hg : w.grownBy w' row) (hne : v.ownBlock = none ∨ v.ownBlock ≠ row) : Own8 w' base e v l := World.ownsRow.kept h hg hne
theorem Own8.below {w w' : World} {base : Nat} {e : TypeId} {v : Value} {l : List UInt8} (h : Own8 w base e v l) (hb : Below w.heap.size w w') : Own8 w' base e v l :=
  h.grown (grown_below hb none) (by cases v.ownBlock <;> simp)
theorem Own8.mono {w : World} {base base' : Nat} {e : TypeId} {v : Value} {l : List UInt8} (h : Own8 w base e v l) (hb : base' ≤ base) : Own8 w base' e v l := by
  obtain ⟨h1, h2⟩ := h
  refine ⟨h1, ?_⟩
  rcases h2 with h2 | ⟨g, cap, cur, a, b, c⟩
  · exact .inl h2
  · exact .inr ⟨g, cap, cur, a, by omega, c⟩
theorem Own8.nil (w : World) (base : Nat) (e : TypeId) : Own8 w base e (.slice none 0 0) [] := World.ownsRow_nil w base e 1
/-- An empty literal, a block of its own. -/
theorem Own8.empty (w : World) (base : Nat) (e : TypeId) (hb : base ≤ w.heap.size) : Own8 (w.alloc (.cells #[] e)) base e (.slice (some ⟨w.heap.size, 0, none⟩) 0 0) [] :=
  World.ownsRow_made w #[] 0 hb (by unfold maxLen; omega) rfl
/-- append of bytes to bytes that are owned. -/
theorem wpList_app8 {P : Program} {w : World} {base : Nat} {t tx e : TypeId} {ops : Array Oper} {rest : List Oper} {o : Oper} {a : Act} {Q : Exit → Act → World → Prop} (hgd : o.guard = none) (s x : Operand)
    (ho : o.op = .call { callee := .builtin .append, args := #[s, x], argTypes := #[t, tx] }) (ST : SlTy P t e 1 1 (.int .u8 0))
    {v : Value} (hs : a.eval s = v) {l : List UInt8} (hown : Own8 w base e v l)
    {xv : Value} (hxv : a.eval x = xv) {k : List UInt8} (hx : Src P 1 tx xv k.length (bvs k) w) (hbytes : l.length + k.length ≤ 140737488355328) (hbase : base ≤ w.heap.size)
    (h : ∀ v' w', Own8 w' base e v' (l ++ k) → w.grownBy w' v.ownBlock → (v'.ownBlock = v.ownBlock ∨ v'.ownBlock = some w.heap.size) → wpList P ops Q rest (a.put o.dst v') w') :
    wpList P ops Q (o :: rest) a w :=
  wpList_app hgd s x ho ST hs hown hxv hx (by unfold maxLen; omega) (by omega) hbase fun v' w' h2 h3 h4 => h v' w' (by unfold Own8; rw [bvs_append, List.length_append]; exact h2) h3 h4
/-- A row that the call has just laid, marked or not. -/
theorem Rd.lit (w : World) (e : TypeId) (fr : Nat × Nat) {cs : Array Value} (l : List UInt8) (hcs : cs = (bvs l).toArray) {n c : Nat} (hn : n = l.length) (hc : n ≤ c) (hm : c ≤ maxLen) :
    Rd (w.alloc (.cells cs e fr)) (.slice (some ⟨w.heap.size, 0, none⟩) n c) l := by
  subst hcs hn
  refine Rd.mk rfl hc hm fun hp => ⟨w.heap.size, 0, rfl, fun j hj => ?_⟩
  have hb : (w.alloc (.cells (bvs l).toArray e fr)).heap[w.heap.size]? = some (.cells (bvs l).toArray e fr) := by
    show (w.heap.push _)[w.heap.size]? = _
    simp
  rw [cell_of_row _ w.heap.size (0 + j) _ e fr hb]
  simp [bvs_get l j hj]
/-- What a law answers: true, and nothing that was there has turned. -/
def Ok (w : World) (e : Ending) (w' : World) : Prop := e = .returned (.bool true) ∧ Below w.heap.size w w'
theorem below_below {w w1 w2 : World} (h : Below w.heap.size w w1) (k : Below w1.heap.size w1 w2) : Below w.heap.size w w2 := h.trans (k.mono h.size)
theorem region_tail {P : Program} {id : Nat} {Q : Exit → Act → World → Prop} {a : Act} {w : World} {l : List Oper} (n : Nat) (hm : P.follows .mixedOrders = true) (hB : Region.lexTailB .any l.toArray n = true)
    (h : wpStill P l.toArray w.drew (fun a' => wpList P l.toArray Q (l.drop n) a' w.drew) (l.take n) a) : (Code.region id l.toArray true).wp P Q a w := wp_region_still_tail n hm hB h
theorem region_still {P : Program} {id : Nat} {Q : Exit → Act → World → Prop} {a : Act} {w : World} {l : List Oper} (hm : P.follows .mixedOrders = true) (hB : Region.lexB .any l.toArray = true)
    (h : wpStill P l.toArray w.drew (fun a' => Q .normal a' w.drew) l a) : (Code.region id l.toArray true).wp P Q a w := wp_region_still_lit hm hB h
/-! ### operations on slices that are only known by what they read -/
section
variable {P : Program} {w : World} {ops : Array Oper} {rest : List Oper} {a : Act} {Q : Exit → Act → World → Prop} {d x : Nat} {ty : TypeId} {pos : String} {after : Array Edge} {t e : TypeId}
theorem shape_len {v : Value} {W : World} {size n : Nat} {xs : List Value} (h : RdW W size v n xs) : ∃ A c, v = .slice A n c := by
  obtain ⟨_, A, c, rfl, _⟩ := h; exact ⟨A, c, rfl⟩
/- Guards: the goal stands at such an operation. -/
theorem G_len (h : wpList P ops Q ({ dst := some d, op := .call { callee := .builtin .len, args := #[.tmp x], argTypes := #[t] }, type := ty, pos := pos, after := after, guard := none } :: rest) a w) :
    wpList P ops Q ({ dst := some d, op := .call { callee := .builtin .len, args := #[.tmp x], argTypes := #[t] }, type := ty, pos := pos, after := after, guard := none } :: rest) a w := h
theorem G_slice {lo hi : Option Operand} (h : wpList P ops Q ({ dst := some d, op := .slice t (.tmp x) lo hi none, type := ty, pos := pos, after := after, guard := none } :: rest) a w) :
    wpList P ops Q ({ dst := some d, op := .slice t (.tmp x) lo hi none, type := ty, pos := pos, after := after, guard := none } :: rest) a w := h
theorem G_index {oi : Operand} (h : wpList P ops Q ({ dst := some d, op := .indexAddr t (.tmp x) oi, type := ty, pos := pos, after := after, guard := none } :: rest) a w) :
    wpList P ops Q ({ dst := some d, op := .indexAddr t (.tmp x) oi, type := ty, pos := pos, after := after, guard := none } :: rest) a w := h
theorem L_len {v : Value} {n : Nat} (ht : P.underlying t = some (.slice e)) (hv : a.eval (.tmp x) = v) {W : World} {size : Nat} {xs : List Value} (hs : RdW W size v n xs) (h : wpList P ops Q rest (a.put (some d) (.int .i64 n)) w) :
    wpList P ops Q ({ dst := some d, op := .call { callee := .builtin .len, args := #[.tmp x], argTypes := #[t] }, type := ty, pos := pos, after := after, guard := none } :: rest) a w := by
  obtain ⟨A, c, rfl⟩ := shape_len hs
  refine wpList_plain rfl fun K hK => ?_
  unfold Oper.wp execOp
  simp [resolve, invoke, builtin, Builtin.len_, hv, run_underlying ht, Oper.upon]
  exact hK _ _ h
theorem L8_len {v : Value} {l : List UInt8} (ht : P.underlying t = some (.slice e)) (hv : a.eval (.tmp x) = v) {W : World} (hs : Rd W v l) (h : wpList P ops Q rest (a.put (some d) (.int .i64 l.length)) w) :
    wpList P ops Q ({ dst := some d, op := .call { callee := .builtin .len, args := #[.tmp x], argTypes := #[t] }, type := ty, pos := pos, after := after, guard := none } :: rest) a w := L_len ht hv hs h
theorem sliced_block (A : Option Addr) (lo hi c size n : Nat) : (sliced A lo hi c size).ownBlock = (Value.slice A n c).ownBlock := by
  unfold sliced
  cases A with
  | none => simp [Value.ownBlock]
  | some ad =>
    split
    · simp [Value.ownBlock]
    · simp only [Option.map_some, Value.ownBlock, Addr.add]
      split <;> rfl
theorem run_sliced {size bytes : Nat} {z : Value} (ST : SlTy P t e size bytes z) (A : Option Addr) (n c lo hi : Nat) (hl : lo ≤ hi) (hh : hi ≤ n) (hc : n ≤ c) (k k' : IntKind) :
    (Instr.sliceAt t (.slice A n c) (some (.int k lo)) (some (.int k' hi)) none).run P w = .ok (sliced A lo hi c size) w ∧
    (Instr.sliceAt t (.slice A n c) none (some (.int k' hi)) none).run P w = .ok (sliced A 0 hi c size) w ∧
    (Instr.sliceAt t (.slice A n c) (some (.int k lo)) none none).run P w = .ok (sliced A lo n c size) w := by
  obtain ⟨i, hi', hz, rfl, hb⟩ := ST.info
  have e1 : hi ≤ c := by omega
  have e3 : lo ≤ n := by omega
  refine ⟨?_, ?_, ?_⟩ <;> simp [hl, Instr.sliceAt, Instr.slice, run_underlying ST.under, Instr.sliceBounds, Instr.sliceBound, asIntOf, sizeOf, typeInfo, hi', e1, e3, sliced]
theorem L_slice_lh {size bytes : Nat} {z : Value} (ST : SlTy P t e size bytes z) {v : Value} {n : Nat} {xs : List Value} {W : World} {ol oh : Operand} {k k' : IntKind} {lo hi : Nat} {LO HI : Int}
    (hv : a.eval (.tmp x) = v) (hs : RdW W size v n xs) (hlo : a.eval ol = .int k LO) (elo : LO = (lo : Int)) (hhi : a.eval oh = .int k' HI) (ehi : HI = (hi : Int)) (hl : lo ≤ hi) (hh : hi ≤ n)
    (h : ∀ v', RdW W size v' (hi - lo) ((xs.take (hi * size)).drop (lo * size)) → v'.ownBlock = v.ownBlock → wpList P ops Q rest (a.put (some d) v') w) :
    wpList P ops Q ({ dst := some d, op := .slice t (.tmp x) (some ol) (some oh) none, type := ty, pos := pos, after := after, guard := none } :: rest) a w := by
  subst elo
  subst ehi
  obtain ⟨A, c, rfl⟩ := shape_len hs
  obtain ⟨_, _, _, e, hc, _⟩ := id hs
  cases e
  have hr := (run_sliced (w := w) ST A n c lo hi hl hh hc k k').1
  refine wpList_plain rfl fun K hK => ?_
  unfold Oper.wp execOp
  simp [hv, hlo, hhi, hr, Oper.upon]
  exact hK _ _ (h _ (hs.piece lo hi hl hh) (sliced_block ..))
theorem L_slice_h {size bytes : Nat} {z : Value} (ST : SlTy P t e size bytes z) {v : Value} {n : Nat} {xs : List Value} {W : World} {oh : Operand} {k' : IntKind} {hi : Nat} {HI : Int}
    (hv : a.eval (.tmp x) = v) (hs : RdW W size v n xs) (hhi : a.eval oh = .int k' HI) (ehi : HI = (hi : Int)) (hh : hi ≤ n)
    (h : ∀ v', RdW W size v' hi (xs.take (hi * size)) → v'.ownBlock = v.ownBlock → wpList P ops Q rest (a.put (some d) v') w) :
    wpList P ops Q ({ dst := some d, op := .slice t (.tmp x) none (some oh) none, type := ty, pos := pos, after := after, guard := none } :: rest) a w := by
  subst ehi
  obtain ⟨A, c, rfl⟩ := shape_len hs
  obtain ⟨_, _, _, e, hc, _⟩ := id hs
  cases e
  have hr := (run_sliced (w := w) ST A n c 0 hi (Nat.zero_le _) hh hc k' k').2.1
  have hp := hs.piece 0 hi (Nat.zero_le _) hh
  simp only [Nat.zero_mul, List.drop_zero, Nat.sub_zero] at hp
  refine wpList_plain rfl fun K hK => ?_
  unfold Oper.wp execOp
  simp [hv, hhi, hr, Oper.upon]
  exact hK _ _ (h _ hp (sliced_block ..))
theorem L_slice_l {size bytes : Nat} {z : Value} (ST : SlTy P t e size bytes z) {v : Value} {n : Nat} {xs : List Value} {W : World} {ol : Operand} {k : IntKind} {lo : Nat} {LO : Int}
    (hv : a.eval (.tmp x) = v) (hs : RdW W size v n xs) (hlo : a.eval ol = .int k LO) (elo : LO = (lo : Int)) (hh : lo ≤ n)
    (h : ∀ v', RdW W size v' (n - lo) (xs.drop (lo * size)) → v'.ownBlock = v.ownBlock → wpList P ops Q rest (a.put (some d) v') w) :
    wpList P ops Q ({ dst := some d, op := .slice t (.tmp x) (some ol) none none, type := ty, pos := pos, after := after, guard := none } :: rest) a w := by
  subst elo
  obtain ⟨A, c, rfl⟩ := shape_len hs
  obtain ⟨hx, _, _, e, hc, _⟩ := id hs
  cases e
  have hr := (run_sliced (w := w) ST A n c lo n hh (Nat.le_refl _) hc k k).2.2
  have hp := hs.piece lo n hh (Nat.le_refl _)
  rw [← hx, List.take_length] at hp
  refine wpList_plain rfl fun K hK => ?_
  unfold Oper.wp execOp
  simp [hv, hlo, hr, Oper.upon]
  exact hK _ _ (h _ hp (sliced_block ..))
/-- Bytes: the same, told of bytes. -/
theorem L8_slice_lh {z : Value} {bytes : Nat} (ST : SlTy P t e 1 bytes z) {v : Value} {l : List UInt8} {W : World} {ol oh : Operand} {k k' : IntKind} {lo hi : Nat} {LO HI : Int}
    (hv : a.eval (.tmp x) = v) (hs : Rd W v l) (hlo : a.eval ol = .int k LO) (elo : LO = (lo : Int)) (hhi : a.eval oh = .int k' HI) (ehi : HI = (hi : Int)) (hl : lo ≤ hi) (hh : hi ≤ l.length)
    (h : ∀ v', Rd W v' ((l.take hi).drop lo) → v'.ownBlock = v.ownBlock → wpList P ops Q rest (a.put (some d) v') w) :
    wpList P ops Q ({ dst := some d, op := .slice t (.tmp x) (some ol) (some oh) none, type := ty, pos := pos, after := after, guard := none } :: rest) a w :=
  L_slice_lh ST hv hs hlo elo hhi ehi hl hh fun v' h1 h2 => h v' (by
    have e : ((l.take hi).drop lo).length = hi - lo := by simp; omega
    unfold Rd; rw [e]; simpa [bvs, List.map_take, List.map_drop] using h1) h2
theorem L8_slice_h {z : Value} {bytes : Nat} (ST : SlTy P t e 1 bytes z) {v : Value} {l : List UInt8} {W : World} {oh : Operand} {k' : IntKind} {hi : Nat} {HI : Int}
    (hv : a.eval (.tmp x) = v) (hs : Rd W v l) (hhi : a.eval oh = .int k' HI) (ehi : HI = (hi : Int)) (hh : hi ≤ l.length)
    (h : ∀ v', Rd W v' (l.take hi) → v'.ownBlock = v.ownBlock → wpList P ops Q rest (a.put (some d) v') w) :
    wpList P ops Q ({ dst := some d, op := .slice t (.tmp x) none (some oh) none, type := ty, pos := pos, after := after, guard := none } :: rest) a w :=
  L_slice_h ST hv hs hhi ehi hh fun v' h1 h2 => h v' (by
    have e : (l.take hi).length = hi := by simp; omega
    unfold Rd; rw [e]; simpa [bvs, List.map_take] using h1) h2
theorem L8_slice_l {z : Value} {bytes : Nat} (ST : SlTy P t e 1 bytes z) {v : Value} {l : List UInt8} {W : World} {ol : Operand} {k : IntKind} {lo : Nat} {LO : Int}
    (hv : a.eval (.tmp x) = v) (hs : Rd W v l) (hlo : a.eval ol = .int k LO) (elo : LO = (lo : Int)) (hh : lo ≤ l.length)
    (h : ∀ v', Rd W v' (l.drop lo) → v'.ownBlock = v.ownBlock → wpList P ops Q rest (a.put (some d) v') w) :
    wpList P ops Q ({ dst := some d, op := .slice t (.tmp x) (some ol) none none, type := ty, pos := pos, after := after, guard := none } :: rest) a w :=
  L_slice_l ST hv hs hlo elo hh fun v' h1 h2 => h v' (by
    have e : (l.drop lo).length = l.length - lo := by simp
    unfold Rd; rw [e]; simpa [bvs, List.map_drop] using h1) h2
/-- xs[i]: the place; it lies in the slice's own block. -/
theorem L_index {size bytes : Nat} {z : Value} (ST : SlTy P t e size bytes z) {v : Value} {n : Nat} {xs : List Value} {oi : Operand} {k : IntKind} {i : Nat} {I : Int}
    (hv : a.eval (.tmp x) = v) (hs : RdW w size v n xs) (hi : a.eval oi = .int k I) (ei : I = (i : Int)) (hh : i < n)
    (h : ∀ b o, v.ownBlock = some b → (∀ j, j < size → w.cell? ⟨b, o + j, none⟩ = xs[i * size + j]?) → wpList P ops Q rest (a.put (some d) (.pointer (some ⟨b, o, none⟩))) w) :
    wpList P ops Q ({ dst := some d, op := .indexAddr t (.tmp x) oi, type := ty, pos := pos, after := after, guard := none } :: rest) a w := by
  subst ei
  obtain ⟨hx, A, c, rfl, hc, hm, h3⟩ := hs
  obtain ⟨b, off, rfl, hcell⟩ := h3 (by omega)
  obtain ⟨ti, hti, hz, hsz, hb⟩ := ST.info
  refine wpList_plain rfl fun K hK => ?_
  unfold Oper.wp execOp
  simp [hv, hi, Instr.indexAt, asIntOf, run_underlying ST.under, sizeOf, typeInfo, hti, hh, hsz, add_lit, Oper.upon]
  refine hK _ _ (h b (off + i * size) rfl fun j hj => ?_)
  have hlt : i * size + j < xs.length := by
    rw [hx]
    calc i * size + j < i * size + size := by omega
      _ = (i + 1) * size := by rw [Nat.add_mul, Nat.one_mul]
      _ ≤ n * size := Nat.mul_le_mul_right _ (by omega)
  rw [Nat.add_assoc, hcell _ _ (List.getElem?_eq_getElem hlt), List.getElem?_eq_getElem hlt]
theorem L8_index {z : Value} {bytes : Nat} (ST : SlTy P t e 1 bytes z) {v : Value} {l : List UInt8} {oi : Operand} {k : IntKind} {i : Nat} {I : Int}
    (hv : a.eval (.tmp x) = v) (hs : Rd w v l) (hi : a.eval oi = .int k I) (ei : I = (i : Int)) (hh : i < l.length)
    (h : ∀ b o, v.ownBlock = some b → w.cell? ⟨b, o, none⟩ = some (.int .u8 (bt l i)) → wpList P ops Q rest (a.put (some d) (.pointer (some ⟨b, o, none⟩))) w) :
    wpList P ops Q ({ dst := some d, op := .indexAddr t (.tmp x) oi, type := ty, pos := pos, after := after, guard := none } :: rest) a w :=
  L_index ST hv hs hi ei hh fun b o h1 h2 => h b o h1 (by have := h2 0 (by omega); simpa [bvs_get l i hh] using this)
end
theorem grown_fresh {W wa : World} {o : Obj} {row : Option Nat} (hg : (W.alloc o).grownBy wa row) (hr : row = some W.heap.size ∨ row = none) : Below W.heap.size W wa :=
  ((Below.refl _ _).alloc (Nat.le_refl _) o).grown hg (by simp) (by intro k hk; rcases hr with h | h <;> rw [h] at hk <;> cases hk; exact Nat.le_refl _)
section
variable {P : Program} {w : World} {ops : Array Oper} {rest : List Oper} {a : Act} {Q : Exit → Act → World → Prop} {d x : Nat} {ty : TypeId} {pos : String} {after : Array Edge} {t e : TypeId}
theorem L8_oindex {z : Value} {bytes : Nat} (ST : SlTy P t e 1 bytes z) {v : Value} {l : List UInt8} {oi : Operand} {k : IntKind} {i base g : Nat} {I : Int} {e' : TypeId}
    (hv : a.eval (.tmp x) = v) (hs : Own8 w base e' v l) (hg : v.ownBlock = some g) (hi : a.eval oi = .int k I) (ei : I = (i : Int)) (hh : i < l.length)
    (h : w.cell? ⟨g, i, none⟩ = some (.int .u8 (bt l i)) → w.frozen? ⟨g, i, none⟩ = false → wpList P ops Q rest (a.put (some d) (.pointer (some ⟨g, i, none⟩))) w) :
    wpList P ops Q ({ dst := some d, op := .indexAddr t (.tmp x) oi, type := ty, pos := pos, after := after, guard := none } :: rest) a w := by
  subst ei
  obtain ⟨cap, rfl⟩ := hs.form hg
  have h1 := hs.cell i hh
  have h2 := hs.frozen i hh
  obtain ⟨ti, hti, hz, hsz, hb⟩ := ST.info
  refine wpList_plain rfl fun K hK => ?_
  unfold Oper.wp execOp
  simp [hv, hi, Instr.indexAt, asIntOf, run_underlying ST.under, sizeOf, typeInfo, hti, hh, hsz, add_lit, Oper.upon]
  exact hK _ _ (h h1 h2)
end
/-! ### the same inside the quiet head of a region that draws its order -/
section
variable {P : Program} {w : World} {ops : Array Oper} {rest : List Oper} {a : Act} {Q : Act → Prop} {d x : Nat} {ty : TypeId} {pos : String} {after : Array Edge} {t e : TypeId}
theorem still_value {o : Oper} {v : Value} (hg : o.guard = none) (hd : o.dst = some d) (hr : (execOp a.eval o).run P w = .ok (.value v) w) (h : wpStill P ops w Q rest (a.put (some d) v)) : wpStill P ops w Q (o :: rest) a := by
  unfold wpStill
  rw [if_pos (by simp [Region.wanted, hg])]
  unfold Oper.still
  rw [hr, Oper.stillUpon_value, hd]
  exact h
theorem GS_slice {lo hi : Option Operand} (h : wpStill P ops w Q ({ dst := some d, op := .slice t (.tmp x) lo hi none, type := ty, pos := pos, after := after, guard := none } :: rest) a) :
    wpStill P ops w Q ({ dst := some d, op := .slice t (.tmp x) lo hi none, type := ty, pos := pos, after := after, guard := none } :: rest) a := h
theorem GS_index {oi : Operand} (h : wpStill P ops w Q ({ dst := some d, op := .indexAddr t (.tmp x) oi, type := ty, pos := pos, after := after, guard := none } :: rest) a) :
    wpStill P ops w Q ({ dst := some d, op := .indexAddr t (.tmp x) oi, type := ty, pos := pos, after := after, guard := none } :: rest) a := h
theorem GS_len (h : wpStill P ops w Q ({ dst := some d, op := .call { callee := .builtin .len, args := #[.tmp x], argTypes := #[t] }, type := ty, pos := pos, after := after, guard := none } :: rest) a) :
    wpStill P ops w Q ({ dst := some d, op := .call { callee := .builtin .len, args := #[.tmp x], argTypes := #[t] }, type := ty, pos := pos, after := after, guard := none } :: rest) a := h
theorem S_len {v : Value} {n : Nat} (ht : P.underlying t = some (.slice e)) (hv : a.eval (.tmp x) = v) {W : World} {size : Nat} {xs : List Value} (hs : RdW W size v n xs) (h : wpStill P ops w Q rest (a.put (some d) (.int .i64 n))) :
    wpStill P ops w Q ({ dst := some d, op := .call { callee := .builtin .len, args := #[.tmp x], argTypes := #[t] }, type := ty, pos := pos, after := after, guard := none } :: rest) a := by
  obtain ⟨A, c, rfl⟩ := shape_len hs
  exact still_value rfl rfl (by unfold execOp; simp [resolve, invoke, builtin, Builtin.len_, hv, run_underlying ht]; rfl) h
theorem S8_len {v : Value} {l : List UInt8} (ht : P.underlying t = some (.slice e)) (hv : a.eval (.tmp x) = v) {W : World} (hs : Rd W v l) (h : wpStill P ops w Q rest (a.put (some d) (.int .i64 l.length))) :
    wpStill P ops w Q ({ dst := some d, op := .call { callee := .builtin .len, args := #[.tmp x], argTypes := #[t] }, type := ty, pos := pos, after := after, guard := none } :: rest) a := S_len ht hv hs h
theorem S_slice_h {size bytes : Nat} {z : Value} (ST : SlTy P t e size bytes z) {v : Value} {n : Nat} {xs : List Value} {W : World} {oh : Operand} {k' : IntKind} {hi : Nat} {HI : Int}
    (hv : a.eval (.tmp x) = v) (hs : RdW W size v n xs) (hhi : a.eval oh = .int k' HI) (ehi : HI = (hi : Int)) (hh : hi ≤ n)
    (h : ∀ v', RdW W size v' hi (xs.take (hi * size)) → v'.ownBlock = v.ownBlock → wpStill P ops w Q rest (a.put (some d) v')) :
    wpStill P ops w Q ({ dst := some d, op := .slice t (.tmp x) none (some oh) none, type := ty, pos := pos, after := after, guard := none } :: rest) a := by
  subst ehi
  obtain ⟨A, c, rfl⟩ := shape_len hs
  obtain ⟨_, _, _, e, hc, _⟩ := id hs
  cases e
  have hr := (run_sliced (w := w) ST A n c 0 hi (Nat.zero_le _) hh hc k' k').2.1
  have hp := hs.piece 0 hi (Nat.zero_le _) hh
  simp only [Nat.zero_mul, List.drop_zero, Nat.sub_zero] at hp
  exact still_value rfl rfl (by unfold execOp; simp [hv, hhi, hr]) (h _ hp (sliced_block ..))
theorem S_slice_l {size bytes : Nat} {z : Value} (ST : SlTy P t e size bytes z) {v : Value} {n : Nat} {xs : List Value} {W : World} {ol : Operand} {k : IntKind} {lo : Nat} {LO : Int}
    (hv : a.eval (.tmp x) = v) (hs : RdW W size v n xs) (hlo : a.eval ol = .int k LO) (elo : LO = (lo : Int)) (hh : lo ≤ n)
    (h : ∀ v', RdW W size v' (n - lo) (xs.drop (lo * size)) → v'.ownBlock = v.ownBlock → wpStill P ops w Q rest (a.put (some d) v')) :
    wpStill P ops w Q ({ dst := some d, op := .slice t (.tmp x) (some ol) none none, type := ty, pos := pos, after := after, guard := none } :: rest) a := by
  subst elo
  obtain ⟨A, c, rfl⟩ := shape_len hs
  obtain ⟨hx, _, _, e, hc, _⟩ := id hs
  cases e
  have hr := (run_sliced (w := w) ST A n c lo n hh (Nat.le_refl _) hc k k).2.2
  have hp := hs.piece lo n hh (Nat.le_refl _)
  rw [← hx, List.take_length] at hp
  exact still_value rfl rfl (by unfold execOp; simp [hv, hlo, hr]) (h _ hp (sliced_block ..))
theorem S8_slice_h {z : Value} {bytes : Nat} (ST : SlTy P t e 1 bytes z) {v : Value} {l : List UInt8} {W : World} {oh : Operand} {k' : IntKind} {hi : Nat} {HI : Int}
    (hv : a.eval (.tmp x) = v) (hs : Rd W v l) (hhi : a.eval oh = .int k' HI) (ehi : HI = (hi : Int)) (hh : hi ≤ l.length)
    (h : ∀ v', Rd W v' (l.take hi) → v'.ownBlock = v.ownBlock → wpStill P ops w Q rest (a.put (some d) v')) :
    wpStill P ops w Q ({ dst := some d, op := .slice t (.tmp x) none (some oh) none, type := ty, pos := pos, after := after, guard := none } :: rest) a :=
  S_slice_h ST hv hs hhi ehi hh fun v' h1 h2 => h v' (by
    have e : (l.take hi).length = hi := by simp; omega
    unfold Rd; rw [e]; simpa [bvs, List.map_take] using h1) h2
theorem S8_slice_l {z : Value} {bytes : Nat} (ST : SlTy P t e 1 bytes z) {v : Value} {l : List UInt8} {W : World} {ol : Operand} {k : IntKind} {lo : Nat} {LO : Int}
    (hv : a.eval (.tmp x) = v) (hs : Rd W v l) (hlo : a.eval ol = .int k LO) (elo : LO = (lo : Int)) (hh : lo ≤ l.length)
    (h : ∀ v', Rd W v' (l.drop lo) → v'.ownBlock = v.ownBlock → wpStill P ops w Q rest (a.put (some d) v')) :
    wpStill P ops w Q ({ dst := some d, op := .slice t (.tmp x) (some ol) none none, type := ty, pos := pos, after := after, guard := none } :: rest) a :=
  S_slice_l ST hv hs hlo elo hh fun v' h1 h2 => h v' (by
    have e : (l.drop lo).length = l.length - lo := by simp
    unfold Rd; rw [e]; simpa [bvs, List.map_drop] using h1) h2
theorem S_index {size bytes : Nat} {z : Value} (ST : SlTy P t e size bytes z) {v : Value} {n : Nat} {xs : List Value} {oi : Operand} {k : IntKind} {i : Nat} {I : Int}
    (hv : a.eval (.tmp x) = v) (hs : RdW w size v n xs) (hi : a.eval oi = .int k I) (ei : I = (i : Int)) (hh : i < n)
    (h : ∀ b o, v.ownBlock = some b → (∀ j, j < size → w.cell? ⟨b, o + j, none⟩ = xs[i * size + j]?) → wpStill P ops w Q rest (a.put (some d) (.pointer (some ⟨b, o, none⟩)))) :
    wpStill P ops w Q ({ dst := some d, op := .indexAddr t (.tmp x) oi, type := ty, pos := pos, after := after, guard := none } :: rest) a := by
  subst ei
  obtain ⟨hx, A, c, rfl, hc, hm, h3⟩ := hs
  obtain ⟨b, off, rfl, hcell⟩ := h3 (by omega)
  obtain ⟨ti, hti, hz, hsz, hb⟩ := ST.info
  refine still_value rfl rfl (by unfold execOp; simp [hv, hi, Instr.indexAt, asIntOf, run_underlying ST.under, sizeOf, typeInfo, hti, hh, hsz, add_lit]) (h b (off + i * size) rfl fun j hj => ?_)
  have hlt : i * size + j < xs.length := by
    rw [hx]
    calc i * size + j < i * size + size := by omega
      _ = (i + 1) * size := by rw [Nat.add_mul, Nat.one_mul]
      _ ≤ n * size := Nat.mul_le_mul_right _ (by omega)
  rw [Nat.add_assoc, hcell _ _ (List.getElem?_eq_getElem hlt), List.getElem?_eq_getElem hlt]
theorem S8_index {z : Value} {bytes : Nat} (ST : SlTy P t e 1 bytes z) {v : Value} {l : List UInt8} {oi : Operand} {k : IntKind} {i : Nat} {I : Int}
    (hv : a.eval (.tmp x) = v) (hs : Rd w v l) (hi : a.eval oi = .int k I) (ei : I = (i : Int)) (hh : i < l.length)
    (h : ∀ b o, v.ownBlock = some b → w.cell? ⟨b, o, none⟩ = some (.int .u8 (bt l i)) → wpStill P ops w Q rest (a.put (some d) (.pointer (some ⟨b, o, none⟩)))) :
    wpStill P ops w Q ({ dst := some d, op := .indexAddr t (.tmp x) oi, type := ty, pos := pos, after := after, guard := none } :: rest) a :=
  S_index ST hv hs hi ei hh fun b o h1 h2 => h b o h1 (by have := h2 0 (by omega); simpa [bvs_get l i hh] using this)
theorem S8_oindex {z : Value} {bytes : Nat} (ST : SlTy P t e 1 bytes z) {v : Value} {l : List UInt8} {oi : Operand} {k : IntKind} {i base g : Nat} {I : Int} {e' : TypeId}
    (hv : a.eval (.tmp x) = v) (hs : Own8 w base e' v l) (hg : v.ownBlock = some g) (hi : a.eval oi = .int k I) (ei : I = (i : Int)) (hh : i < l.length)
    (h : w.cell? ⟨g, i, none⟩ = some (.int .u8 (bt l i)) → w.frozen? ⟨g, i, none⟩ = false → wpStill P ops w Q rest (a.put (some d) (.pointer (some ⟨g, i, none⟩)))) :
    wpStill P ops w Q ({ dst := some d, op := .indexAddr t (.tmp x) oi, type := ty, pos := pos, after := after, guard := none } :: rest) a := by
  subst ei
  obtain ⟨cap, rfl⟩ := hs.form hg
  have h1 := hs.cell i hh
  have h2 := hs.frozen i hh
  obtain ⟨ti, hti, hz, hsz, hb⟩ := ST.info
  exact still_value rfl rfl (by unfold execOp; simp [hv, hi, Instr.indexAt, asIntOf, run_underlying ST.under, sizeOf, typeInfo, hti, hh, hsz, add_lit]) (h h1 h2)
end
theorem G_make {P : Program} {w : World} {ops : Array Oper} {rest : List Oper} {a : Act} {Q : Exit → Act → World → Prop} {d : Nat} {ty : TypeId} {pos : String} {after : Array Edge} {t : TypeId} {ol oc : Operand}
    (h : wpList P ops Q ({ dst := some d, op := .makeSlice t ol oc, type := ty, pos := pos, after := after, guard := none } :: rest) a w) :
    wpList P ops Q ({ dst := some d, op := .makeSlice t ol oc, type := ty, pos := pos, after := after, guard := none } :: rest) a w := h
/-- make([]byte, n). -/
theorem wpList_make8 {P : Program} {w : World} {ops : Array Oper} {rest : List Oper} {o : Oper} {a : Act} {Q : Exit → Act → World → Prop} {t e : TypeId} {base : Nat}
    (hg : o.guard = none) (l c : Operand) (hop : o.op = Op.makeSlice t l c) (ST : SlTy P t e 1 1 (.int .u8 0)) {n : Nat} {kl kc : IntKind} (hl : a.eval l = .int kl n) (hc : a.eval c = .int kc n)
    (hn : n ≤ 281474976710656) (hb : base ≤ w.heap.size)
    (h : ∀ w', Own8 w' base e (.slice (some ⟨w.heap.size, 0, none⟩) n n) (List.replicate n 0) → w.grownBy w' none → wpList P ops Q rest (a.put o.dst (.slice (some ⟨w.heap.size, 0, none⟩) n n)) w') :
    wpList P ops Q (o :: rest) a w := by
  obtain ⟨i, hi, hz, hs, hby⟩ := ST.info
  refine wpList_make_full w hg l c t hop base e i _ 1 ST.under hi hz hs kl kc n n n hl hc rfl rfl (by rw [hby]; omega) (by unfold maxLen; omega) hb fun w' h1 h2 => h w' ?_ h2
  have e : (madeCells (Value.int .u8 0).cells (n * 1)).toList = bvs (List.replicate n 0) := by
    have := toList_madeCells_one (.int .u8 0) (n * 1)
    simp only [Value.cells]
    rw [this]; simp [bvs, bv]
  rw [e] at h1
  unfold Own8
  rw [List.length_replicate]; exact h1
theorem L8_make {P : Program} {w : World} {ops : Array Oper} {rest : List Oper} {a : Act} {Q : Exit → Act → World → Prop} {d : Nat} {ty : TypeId} {pos : String} {after : Array Edge} {t e : TypeId} {ol oc : Operand} {base : Nat}
    (ST : SlTy P t e 1 1 (.int .u8 0)) {n : Nat} {kl kc : IntKind} (hl : a.eval ol = .int kl n) (hc : a.eval oc = .int kc n) (hn : n ≤ 281474976710656) (hb : base ≤ w.heap.size)
    (h : ∀ v w', Own8 w' base e v (List.replicate n 0) → v.ownBlock = some w.heap.size → w.grownBy w' none → wpList P ops Q rest (a.put (some d) v) w') :
    wpList P ops Q ({ dst := some d, op := .makeSlice t ol oc, type := ty, pos := pos, after := after, guard := none } :: rest) a w :=
  wpList_make8 rfl ol oc rfl ST hl hc hn hb fun w' h1 h2 => h _ w' h1 rfl h2
/-- What a call answers: new bytes; nothing that was there has turned. -/
def Gives8 (e : TypeId) (w : World) (l : List UInt8) (en : Ending) (w' : World) : Prop := ∃ v, en = .returned v ∧ Own8 w' w.heap.size e v l ∧ Below w.heap.size w w'
theorem sti : SlTy Try.prog 39 3 1 8 (.int .i64 0) := SlTy.of Try.underlying39 (by kernel_rfl) rfl (by omega)
theorem st8 : SlTy Try.prog 38 5 1 1 (.int .u8 0) := SlTy.of Try.underlying38 (by kernel_rfl) rfl (by omega)
end Go.Proofs.Ytfnlcnjflloecaa
