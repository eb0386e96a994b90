/- What an append leaves of the other lists in the same block. -/
import Derived.Test.YtpjpmgpehpigaabDoorBook3
set_option linter.unusedVariables false
set_option linter.unusedSimpArgs false
namespace Go.Proofs.YtpjpmgpehpigaabDoor
open Go.RowKit
section
variable {P : Program} {w : World} {base : Nat} {t tx e : TypeId} {size bytes : Nat} {z : Value}
theorem run_append_keep (ST : SlTy P t e size bytes z) (ty : TypeId) (v : Value) (n : Nat) (xs : List Value) (hown : w.ownsRow base e size v n xs)
    (x : Value) (m : Nat) (news : List Value) (hx : Src P size tx x m news w) (h63 : n + m ≤ maxLen) (hbytes : (n + m) * bytes ≤ 140737488355328) (hbase : base ≤ w.heap.size) :
    ∃ v' w', (Builtin.append_ #[t, tx] ty #[v, x]).run P w = .ok v' w' ∧ w'.ownsRow base e size v' (n + m) (xs ++ news) ∧ w.grownBy w' v.ownBlock ∧
      (v'.ownBlock = v.ownBlock ∨ (v'.ownBlock = some w.heap.size ∧ w.grownBy w' none)) ∧ w'.ownsRow base e size v n xs := by
  obtain ⟨i, hi, hz, rfl, rfl⟩ := ST.info
  have ht := ST.under
  have hsmall : n + m ≤ 9223372036854775807 := by simp only [maxLen] at h63; omega
  have hl := hx.newsLen
  have hlen : (xs ++ news).length = (n + m) * i.size := by rw [List.length_append, hown.1, hl, Nat.add_mul]
  have grown : ∀ (old : Nat), old < n + m → ∀ (row : Option Nat),
      (w.drew.alloc (.cells ((xs ++ news).toArray ++ Builtin.zeroCells z.cells (grownCap w (n + m) old e - (n + m))) e)).ownsRow base e i.size
        (.slice (some ⟨w.heap.size, 0, none⟩) (n + m) (grownCap w (n + m) old e)) (n + m) (xs ++ news) ∧
      w.grownBy (w.drew.alloc (.cells ((xs ++ news).toArray ++ Builtin.zeroCells z.cells (grownCap w (n + m) old e - (n + m))) e)) row := by
    intro old ho row
    have hge := grownCap_ge w (n + m) old e
    have hcm : grownCap w (n + m) old e ≤ maxLen := grownCap_le_maxLen w (n + m) old e h63
    refine ⟨⟨hlen, .inr ⟨w.heap.size, _, _, rfl, hbase, heap_alloc_new w.drew _, hge, hcm, ?_, ?_⟩⟩, ⟨rfl, rfl, rfl, by simp, fun k hk _ => World.drew_heap_alloc_old w _ k hk⟩⟩
    · simp only [Array.size_append, List.size_toArray, size_zeroCells, ST.cells, hlen, ← Nat.add_mul]
      congr 1
      omega
    · simp only [Array.toList_append]
      rw [← hlen]
      exact List.take_left
  have hown0 := hown
  rcases hown.2 with ⟨rfl, rfl⟩ | ⟨g, cap, cur, rfl, hbg, hg, hnc, hcm, hcs, htake⟩
  · have hx0 : xs = [] := List.eq_nil_of_length_eq_zero (by simpa using hown.1)
    subst hx0
    by_cases hm : m = 0
    · subst hm
      have hn : news = [] := List.eq_nil_of_length_eq_zero (by simpa using hl)
      subst hn
      refine ⟨.slice none 0 0, w, ?_, World.ownsRow_nil w base e i.size, ⟨rfl, rfl, rfl, Nat.le_refl _, fun _ _ _ => rfl⟩, Or.inl rfl, hown0⟩
      rcases hx.kind with ⟨e', hk⟩ | hk <;> simp [Builtin.append_, run_underlying ht, run_underlying hk, sizeOf, typeInfo, hi, hx.len, hx.cells]
    · have hr := run_append_grow_src (P := P) w t tx ty e i z ht hi hz none 0 0 [] (by simp [Builtin.firstCells]) x m news hx (by omega) (by omega) (growslice_fits (by omega) hbytes)
      have hgr := grown 0 (by omega) (Value.ownBlock (.slice none 0 0))
      exact ⟨_, _, hr, hgr.1, hgr.2, Or.inr ⟨rfl, (grown 0 (by omega) none).2⟩, hown0.kept hgr.2 (.inl rfl)⟩
  · by_cases hroom : n + m ≤ cap
    · have hfit : n * i.size + news.length ≤ cur.size := by rw [hl, hcs, ← Nat.add_mul]; exact Nat.mul_le_mul_right _ hroom
      have hst := run_storeCells_at P g (n * i.size) e news 0 cur w hg (by simpa using hfit) hx.one
      simp only [Nat.add_zero] at hst
      have hr : (Builtin.append_ #[t, tx] ty #[.slice (some ⟨g, 0, none⟩) n cap, x]).run P w =
          .ok (.slice (some ⟨g, 0, none⟩) (n + m) cap) (w.setRow g (cur.toList.take (n * i.size) ++ news ++ cur.toList.drop (n * i.size + news.length)).toArray) := by
        rcases hx.kind with ⟨e', hk⟩ | hk <;> simp [Builtin.append_, run_underlying ht, run_underlying hk, sizeOf, typeInfo, hi, hx.len, hroom, hx.cells, Addr.add_lit, hst]
      have hsz : (cur.toList.take (n * i.size) ++ news ++ cur.toList.drop (n * i.size + news.length)).toArray.size = cap * i.size := by
        simp only [List.size_toArray, List.length_append, List.length_take, List.length_drop, Array.length_toList]
        omega
      refine ⟨_, _, hr, ⟨hlen, .inr ⟨g, cap, _, rfl, hbg, setRow_heap w g cur _ e _ hg, hroom, hcm, hsz, ?_⟩⟩, ⟨rfl, rfl, rfl, by simp, fun k _ hk => setRow_other w g k _ (fun e => hk (by simp [Value.ownBlock, e]))⟩, Or.inl rfl,
        ⟨hown.1, .inr ⟨g, cap, _, rfl, hbg, setRow_heap w g cur _ e _ hg, hnc, hcm, hsz, ?_⟩⟩⟩
      · rw [htake, ← hlen]
        exact List.take_left
      · rw [htake, ← hown.1, List.append_assoc]
        exact List.take_left
    · have hold : (Builtin.firstCells i.size n (.slice (some ⟨g, 0, none⟩) n cap)).run P w.drew = .ok xs.toArray w.drew := by
        refine run_firstCells_some w.drew i.size n ⟨g, 0, none⟩ n cap xs hown.1 ?_
        intro j u hu
        have := hown.cells (g := g) rfl j u hu
        simpa using this
      have hr := run_append_grow_src (P := P) w t tx ty e i z ht hi hz (some ⟨g, 0, none⟩) n cap xs hold x m news hx (by omega) (by omega) (growslice_fits (by omega) hbytes)
      have hgr := grown cap (by omega) (Value.ownBlock (.slice (some ⟨g, 0, none⟩) n cap))
      have hgn := (grown cap (by omega) none).2
      exact ⟨_, _, hr, hgr.1, hgr.2, Or.inr ⟨rfl, hgn⟩, hown0.kept hgn (.inr (by simp [Value.ownBlock]))⟩
end
/-- What an append to u leaves: its own list is kept too. -/
structure Appd (w w' : World) (base : Nat) (e : TypeId) (u u' : Value) (l k : List UInt8) : Prop where
  own : Own8 w' base e u' (l ++ k)
  grown : w.grownBy w' u.ownBlock
  place : u'.ownBlock = u.ownBlock ∨ (u'.ownBlock = some w.heap.size ∧ w.grownBy w' none)
  old : Own8 w' base e u l
/-- Another list in the same block that the new one holds. -/
theorem own_pre {w w' : World} {base : Nat} {e : TypeId} {v u x : Value} {l lu lx : List UInt8} {g : Nat} (hv : Own8 w base e v l) (hu : Own8 w base e u lu) (hv' : Own8 w' base e v l) (hx : Own8 w' base e x lx)
    (gv : v.ownBlock = some g) (gu : u.ownBlock = some g) (gx : x.ownBlock = some g) (hlen : lu.length ≤ lx.length) (hp : lu = lx.take lu.length) : Own8 w' base e u lu := by
  rcases hv.2 with ⟨rfl, _⟩ | ⟨g1, cap1, cur1, rfl, b1, h1, _, _, s1, _⟩
  · cases gv
  rcases hu.2 with ⟨rfl, _⟩ | ⟨g2, cap2, cur2, rfl, b2, h2, _, m2, s2, _⟩
  · cases gu
  rcases hx.2 with ⟨rfl, _⟩ | ⟨g3, cap3, cur3, rfl, b3, h3, n3, m3, s3, t3⟩
  · cases gx
  cases gv; cases gu; cases gx
  rcases hv'.2 with ⟨h, _⟩ | ⟨g4, cap4, cur4, e4, b4, h4, _, _, s4, _⟩
  · cases h
  cases e4
  rw [h1] at h2
  cases h2
  rw [h3] at h4
  cases h4
  have c12 : cap2 = cap1 := by omega
  have c31 : cap3 = cap1 := by omega
  subst c12 c31
  refine ⟨hu.1, .inr ⟨_, _, _, rfl, b2, h3, by omega, m3, s3, ?_⟩⟩
  have h6 : cur3.toList.take (lu.length * 1) = (cur3.toList.take (lx.length * 1)).take (lu.length * 1) := by rw [List.take_take]; congr 1; omega
  rw [h6, t3]
  conv => rhs; rw [hp]
  unfold bvs
  rw [Nat.mul_one, List.map_take]
theorem Appd.other {w w' : World} {base : Nat} {e : TypeId} {u u' : Value} {l k : List UInt8} (h : Appd w w' base e u u' l k) (hu : Own8 w base e u l) {z : Value} {lz : List UInt8} (hz : Own8 w base e z lz)
    (hc : z.ownBlock = u.ownBlock → lz.length ≤ (l ++ k).length ∧ lz = (l ++ k).take lz.length) : Own8 w' base e z lz := by
  by_cases hn : z.ownBlock = none
  · exact hz.grown h.grown (.inl hn)
  by_cases he : z.ownBlock = u.ownBlock
  · rcases h.place with hp | ⟨_, hp⟩
    · obtain ⟨g, hg⟩ := Option.ne_none_iff_exists'.1 hn
      exact own_pre hu hz h.old h.own (by rw [← he]; exact hg) hg (by rw [hp, ← he]; exact hg) (hc he).1 (hc he).2
    · exact hz.grown hp (.inr (by rw [Ne]; exact hn))
  · exact hz.grown h.grown (.inr he)
theorem run_app8k {P : Program} {w : World} {base : Nat} {t tx e : TypeId} (ST : SlTy P t e 1 1 (.int .u8 0)) (ty : TypeId) {v : Value} {l : List UInt8} (hown : Own8 w base e v l)
    {xv : Value} {k : List UInt8} (hx : Src P 1 tx xv k.length (bvs k) w) (hbytes : l.length + k.length ≤ 140737488355328) (hbase : base ≤ w.heap.size) :
    ∃ v' w', (Builtin.append_ #[t, tx] ty #[v, xv]).run P w = .ok v' w' ∧ Appd w w' base e v v' l k := by
  obtain ⟨v', w', h1, h2, h3, h4, h5⟩ := run_append_keep ST ty v l.length (bvs l) hown xv k.length (bvs k) hx (by unfold maxLen; omega) (by omega) hbase
  exact ⟨v', w', h1, ⟨by unfold Own8; rw [bvs_append, List.length_append]; exact h2, h3, h4, h5⟩⟩
theorem wpList_app8k {P : Program} {w : World} {base : Nat} {t tx e : TypeId} {ops : Array Oper} {rest : List Oper} {o : Oper} {a : Act} {Q : Exit → Act → World → Prop} (hgd : o.guard = none) (s x : Operand)
    (ho : o.op = .call { callee := .builtin .append, args := #[s, x], argTypes := #[t, tx] }) (ST : SlTy P t e 1 1 (.int .u8 0))
    {v : Value} (hs : a.eval s = v) {l : List UInt8} (hown : Own8 w base e v l)
    {xv : Value} (hxv : a.eval x = xv) {k : List UInt8} (hx : Src P 1 tx xv k.length (bvs k) w) (hbytes : l.length + k.length ≤ 140737488355328) (hbase : base ≤ w.heap.size)
    (h : ∀ v' w', Appd w w' base e v v' l k → wpList P ops Q rest (a.put o.dst v') w') :
    wpList P ops Q (o :: rest) a w :=
  wpList_plain hgd fun _ hK => by
    obtain ⟨v', w', hr, h2⟩ := run_app8k ST o.type hown hx hbytes hbase
    unfold Oper.wp execOp
    simp only [ho, resolve, invoke, builtin, Sem.run_bind, Sem.run_pure, Result.andThen_ok, List.map_toArray, List.map_cons, List.map_nil, hs, hxv, hr]
    exact hK _ _ (h v' w' h2)
end Go.Proofs.YtpjpmgpehpigaabDoor
