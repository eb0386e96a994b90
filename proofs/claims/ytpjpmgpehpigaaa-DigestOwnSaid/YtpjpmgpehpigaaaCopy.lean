/- copy into owned bytes, out of bytes that are only known by what they read. -/
import Derived.Test.YtpjpmgpehpigaaaArr
import Derived.Laws.CopyOwn
set_option linter.unusedVariables false
set_option linter.unusedSimpArgs false
namespace Go.Proofs.Ytpjpmgpehpigaaa
open Go.RowKit
def over (l k : List UInt8) : List UInt8 := k.take l.length ++ l.drop k.length
theorem over_len (l k : List UInt8) : (over l k).length = l.length := by simp [over]; omega
theorem wpList_copy8 {P : Program} {w : World} {base : Nat} {dT sT e : TypeId} {ops : Array Oper} {rest : List Oper} {o : Oper} {a : Act} {Q : Exit → Act → World → Prop} (hgd : o.guard = none) (d s : Operand)
    (ho : o.op = .call { callee := .builtin .copy, args := #[d, s], argTypes := #[dT, sT] }) (ST : SlTy P dT e 1 1 (.int .u8 0))
    {v u : Value} {l k : List UInt8} (hd : a.eval d = v) (hown : Own8 w base e v l) (hs : a.eval s = u) (hk : Rd w u k)
    (h : ∀ w', Own8 w' base e v (over l k) → w.grownBy w' v.ownBlock → w'.heap.size = w.heap.size → wpList P ops Q rest (a.put o.dst (goInt (min k.length l.length : Nat))) w') :
    wpList P ops Q (o :: rest) a w := by
  obtain ⟨A, c, rfl, hc, hm, hp⟩ := hk.open
  have hsz : (P.info? e).map (·.size) = some 1 := by obtain ⟨i, hi, _, hs1, _⟩ := ST.info; rw [hi]; simp [hs1]
  have hmin : Nat.min k.length l.length = min k.length l.length := rfl
  rcases hown.2 with ⟨rfl, h0⟩ | ⟨g, cap, cur, rfl, hb, hg, hcap, hmx, hcs, htk⟩
  · have hl : l = [] := List.eq_nil_of_length_eq_zero h0
    subst hl
    refine wpList_copy_nothing hgd d s dT sT ho e ST.under hsz none A 0 0 k.length c hd hs (by simp) ?_
    have := h w (by simpa [over] using hown) ⟨rfl, rfl, rfl, Nat.le_refl _, fun _ _ _ => rfl⟩ rfl
    simpa using this
  · by_cases hz : min k.length l.length = 0
    · refine wpList_copy_nothing hgd d s dT sT ho e ST.under hsz _ A l.length cap k.length c hd hs hz ?_
      have ho2 : over l k = l := by
        unfold over
        rcases Nat.eq_zero_or_pos k.length with h1 | h1
        · rw [List.eq_nil_of_length_eq_zero h1]; simp
        · rw [List.eq_nil_of_length_eq_zero (show l.length = 0 by omega)]; simp
      have := h w (by rw [ho2]; exact hown) ⟨rfl, rfl, rfl, Nat.le_refl _, fun _ _ _ => rfl⟩ rfl
      rw [hz] at this
      exact this
    · obtain ⟨b, of, rfl, hcell⟩ := hp (by omega)
      have hcl : (bvs (k.take l.length)).length = min k.length l.length := by simp [bvs_length, Nat.min_comm]
      refine wpList_copy_own hgd d s dT sT ho e ST.under hsz g 0 l.length cap ⟨b, of, none⟩ k.length c hd hs cur e hg (bvs (k.take l.length)) hcl ?_ ?_ (bvs_one _) ?_
      · intro j x hj
        have hjl : j < min k.length l.length := by rw [← hcl]; exact (List.getElem?_eq_some_iff.1 hj).1
        rw [add_lit, hcell j (by omega)]
        rw [bvs_get _ _ (by rw [← bvs_length, hcl]; exact hjl)] at hj
        rw [← hj]
        unfold bt
        simp [List.getD_eq_getElem?_getD, List.getElem?_take, show j < l.length by omega]
      · rw [hcl]; simp at hcs; omega
      · rw [hcl]
        refine h _ ⟨?_, .inr ⟨g, cap, _, ?_, hb, setRow_heap w g _ _ e _ hg, ?_, hmx, ?_, ?_⟩⟩ ⟨rfl, rfl, rfl, by simp, fun k' _ hk' => setRow_other w g k' _ (fun e => hk' (by simp [e, Value.ownBlock]))⟩ (by simp)
        · simp [bvs_length]
        · rw [over_len]
        · rw [over_len]; exact hcap
        · simp [hcs]; simp at hcs; omega
        · rw [over_len]
          unfold over
          simp only [Nat.mul_one] at htk ⊢
          rw [bvs_append]
          simp only [List.take_zero, List.nil_append, Nat.zero_add]
          rw [List.take_append, List.take_of_length_le (by rw [hcl]; omega), hcl, List.take_drop, show min k.length l.length + (l.length - min k.length l.length) = l.length by omega, htk]
          congr 1
          rcases Nat.le_total k.length l.length with hle | hle
          · rw [Nat.min_eq_left hle]; simp [bvs, List.map_drop]
          · rw [Nat.min_eq_right hle, List.drop_of_length_le (by rw [bvs_length]; omega), List.drop_of_length_le hle]; rfl
theorem G_copy {P : Program} {w : World} {ops : Array Oper} {rest : List Oper} {a : Act} {Q : Exit → Act → World → Prop} {d : Nat} {x y : Operand} {ty t t' : TypeId} {pos : String} {after : Array Edge}
    (h : wpList P ops Q ({ dst := some d, op := .call { callee := .builtin .copy, args := #[x, y], argTypes := #[t, t'] }, type := ty, pos := pos, after := after, guard := none } :: rest) a w) :
    wpList P ops Q ({ dst := some d, op := .call { callee := .builtin .copy, args := #[x, y], argTypes := #[t, t'] }, type := ty, pos := pos, after := after, guard := none } :: rest) a w := h
end Go.Proofs.Ytpjpmgpehpigaaa
