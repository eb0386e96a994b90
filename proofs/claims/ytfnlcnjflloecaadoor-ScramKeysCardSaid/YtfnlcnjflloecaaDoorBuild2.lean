/- strings.Builder's WriteString at this program. -/
import Derived.Test.YtfnlcnjflloecaaDoorBuild
import Derived.Test.YtfnlcnjflloecaaDoorMore2
import Derived.Deep.AppendSrc
set_option linter.unusedVariables false
set_option linter.unusedSimpArgs false
set_option linter.unnecessarySimpa false
namespace Go.Proofs.YtfnlcnjflloecaaDoor
open Go.RowKit
theorem src_str (w : World) (l : List UInt8) : Src Tryd.prog 1 9 (.string (strB l)) l.length (bvs l) w := by
  have h := Src.ofString (P := Tryd.prog) (w := w) Tryd.underlying9 (strB l)
  rw [strB_size] at h
  have e : byteCells (strB l) = bvs l := by unfold byteCells bvs bv; rfl
  rw [e] at h
  exact h
set_option maxHeartbeats 1000000 in
theorem writeString_c (B b : Nat) (bs : List Value) (l : List UInt8) (w : World) (h : Lib.IsBuilder 122 5 B b bs w) (hlen : bs.length + l.length ≤ 140737488355328) (hBw : B ≤ w.heap.size) :
    Calls Tryd.prog 94 #[.pointer (some ⟨b, 0, none⟩), .string (strB l)] w fun e w' => e = .returned (.tuple #[.int .i64 (l.length : Int), .nilIface]) ∧ (Lib.BuilderAt 122 5 B b (.pointer (some ⟨b, 0, none⟩)) (bs ++ bvs l) w' ∧ Below B w w') := by
  have hsz := strB_size l
  have SR := fun w1 => src_str w1 l
  have lb := bvs_length l
  generalize strB l = S at *
  go_enter Tryd.func94, Tryd.ntmps94
  have tok0 : True := trivial
  go_wp2_with (first
    | (have _t := tok0; go_at_call 130; refine (copyCheck_c B b bs _ h).mono ?_; rintro e w1 ⟨rfl, h1, hb1⟩; obtain ⟨hB, v, hbk, hown, hne⟩ := h1; have c0 : w1.cell? ⟨b, 0, none⟩ = some (.pointer (some ⟨b, 0, none⟩)) := (by rw [Lib.cell_of_heap hbk]; rfl); have c1 : w1.cell? ⟨b, 1, none⟩ = some v := (by rw [Lib.cell_of_heap hbk]; rfl); have z1 := hb1.size; clear tok0; have tok1 : True := trivial)
    | (have _t := tok1; at_builtin; refine wpList_app rfl _ _ rfl st8 (by with_unfolding_all (conv => lhs; whnf)) hown rfl (SR _) (by unfold maxLen; omega) (by omega) (by omega) ?_; intro v' w2 hown' hgrow hv'; obtain ⟨g, len', cap, rfl⟩ : ∃ A n c, v' = Value.slice A n c := (by rcases hown'.2 with ⟨rfl, _⟩ | ⟨g, cap, cur, rfl, _⟩; exact ⟨_, _, _, rfl⟩; exact ⟨_, _, _, rfl⟩); have hlt : b < w1.heap.size := (by rcases Nat.lt_or_ge b w1.heap.size with h' | h'; exact h'; simp [Array.getElem?_eq_none h'] at hbk); have hb2 : w2.heap[b]? = some (.cells #[.pointer (some ⟨b, 0, none⟩), v] 122 (0, 0)) := (by rw [hgrow.block b (by omega) (fun e => hne e.symm)]; exact hbk); have d1 : w2.cell? ⟨b, 1, none⟩ = some v := (by rw [Lib.cell_of_heap hb2]; rfl); have f1 : w2.frozen? ⟨b, 1, none⟩ = false := Lib.frozen_of_heap hb2 1; clear tok1; have tok2 : True := trivial))
  go_ret2
  refine ⟨rfl, ?_, ?_⟩
  · exact Lib.BuilderAt.put (T := 122) (e := 5) hB hb2 (bs' := bs ++ bvs l) (by rw [List.length_append, lb]; exact hown') (by decide)
  · exact (hb1.grown hgrow (by omega) (fun k hk => (hown.lt k hk).1)).setCell (p := ⟨b, 1, none⟩) hB _
end Go.Proofs.YtfnlcnjflloecaaDoor
