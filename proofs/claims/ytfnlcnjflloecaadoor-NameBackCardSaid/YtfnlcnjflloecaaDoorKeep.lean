/- roostkeep.Twin: bytes in new memory, at most so many. -/
import Derived.Test.YtfnlcnjflloecaaDoorBase
set_option linter.unusedVariables false
set_option linter.unusedSimpArgs false
namespace Go.Proofs.YtfnlcnjflloecaaDoor
open Go.RowKit

theorem bvs_piece (l : List UInt8) (lo hi : Nat) : ((bvs l).take (hi * 1)).drop (lo * 1) = bvs ((l.take hi).drop lo) := by simp [bvs, List.map_take, List.map_drop]
theorem Rd.piece {w : World} {A : Option Addr} {c : Nat} {l : List UInt8} (h : Rd w (.slice A l.length c) l) (lo hi : Nat) (hl : lo ≤ hi) (hh : hi ≤ l.length) : Rd w (sliced A lo hi c 1) ((l.take hi).drop lo) := by
  have := RdW.piece h lo hi hl hh
  rw [bvs_piece] at this
  have e : ((l.take hi).drop lo).length = hi - lo := by simp; omega
  unfold Rd; rw [e]; exact this
theorem Rd.take {w : World} {A : Option Addr} {c : Nat} {l : List UInt8} (h : Rd w (.slice A l.length c) l) (m : Nat) (hm : m ≤ l.length) : Rd w (.slice A m c) (l.take m) := by
  obtain ⟨A', c', e, h1, h2, h3⟩ := h.open
  cases e
  refine Rd.mk (by simp; omega) (by omega) h2 fun hn => ?_
  obtain ⟨b, off, e, hc⟩ := h3 (by omega)
  refine ⟨b, off, e, fun j hj => ?_⟩
  rw [hc j (by omega)]
  unfold bt; simp [List.getD_eq_getElem?_getD, hj]
set_option maxHeartbeats 400000 in
theorem twin_c (v : Value) (l : List UInt8) (m : Int) (w : World) (h : Rd w v l) (hm0 : 0 ≤ m) (hm1 : m ≤ 1000000) :
    Calls Tryd.prog 18 #[v, .int .i64 m] w (Gives8 5 w (l.take m.toNat)) := by
  obtain ⟨m, rfl⟩ := Int.eq_ofNat_of_zero_le hm0
  rw [Int.toNat_natCast]
  have hm2 : m ≤ 1000000 := by omega
  have hll := h.len_le
  obtain ⟨A, c, rfl, h1, h2, h3⟩ := h.open
  unfold maxLen at h2
  clear h3
  by_cases hlt : m < l.length
  · have hT := h.take m (by omega)
    have hl : (l.take m).length = m := by simp; omega
    go_enter Tryd.func18, Tryd.ntmps18
    go_wp2_with (at_builtin; refine wpList_app8 rfl _ _ rfl st8 rfl (Own8.empty w w.heap.size _ (Nat.le_refl _)) rfl (Rd.src (Rd.below hT ((Below.refl _ _).alloc (Nat.le_refl _) _)) Tryd.underlying37) ?_ ?_ ?_)
    · simp; omega
    · simp
    · intro v' w' ho hg hb
      go_wp2
      go_ret
      exact ⟨v', rfl, ho, ((Below.refl _ _).alloc (Nat.le_refl _) _).grown hg (by simp) (by intro k hk; cases hk; exact Nat.le_refl _)⟩
  · go_enter Tryd.func18, Tryd.ntmps18
    rw [List.take_of_length_le (by omega)]
    go_wp2_with (at_builtin; refine wpList_app8 rfl _ _ rfl st8 rfl (Own8.empty w w.heap.size _ (Nat.le_refl _)) rfl (Rd.src (Rd.below h ((Below.refl _ _).alloc (Nat.le_refl _) _)) Tryd.underlying37) ?_ ?_ ?_)
    · simp; omega
    · simp
    · intro v' w' ho hg hb
      go_wp2
      go_ret
      exact ⟨v', rfl, ho, ((Below.refl _ _).alloc (Nat.le_refl _) _).grown hg (by simp) (by intro k hk; cases hk; exact Nat.le_refl _)⟩
end Go.Proofs.YtfnlcnjflloecaaDoor
