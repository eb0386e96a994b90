/- The digest laws' helpers: few, wakes. -/
import Derived.Test.YtpjpmgpehpigaaaSha
import Derived.Test.YtpjpmgpehpigaaaDigXor
import Derived.Test.YtpjpmgpehpigaaaKeep
import Derived.Test.YtpjpmgpehpigaaaRow
import Derived.Lib.SlBytesConst
set_option linter.unusedVariables false
set_option linter.unusedSimpArgs false
namespace Go.Proofs.Ytpjpmgpehpigaaa
open Go.RowKit
theorem few5_c (v : Value) (l : List UInt8) (w : World) (h : Rd w v l) :
    Calls Try.prog 22 #[v] w (Gives8 5 w (l.take 1000)) := by
  go_enter Try.func22, Try.ntmps22
  go_wp2_with (refine (twin_c _ l 1000 _ h (by omega) (by omega)).mono ?_; rintro e w' ⟨v', rfl, ho, hb⟩)
  go_ret
  exact ⟨v', rfl, ho, hb⟩
theorem rd_lit2 (w : World) (A : Obj) (e : TypeId) (fr : Nat × Nat) {cs : Array Value} (l : List UInt8) (hcs : cs = (bvs l).toArray) {n c : Nat} (hn : n = l.length) (hc : n ≤ c) (hm : c ≤ maxLen) :
    Rd ((w.alloc A).alloc (.cells cs e fr)) (.slice (some ⟨w.heap.size + 1, 0, none⟩) n c) l := by
  have := Rd.lit (w.alloc A) e fr l hcs hn hc hm
  rwa [show (w.alloc A).heap.size = w.heap.size + 1 from by simp] at this
theorem eq_lits (w : World) (a b : List UInt8) (e e' : TypeId) (fr fr' : Nat × Nat) {cs cs' : Array Value} (ha : cs = (bvs a).toArray) (hb : cs' = (bvs b).toArray) {n c n' c' : Nat} (hn : n = a.length) (hc : n ≤ c) (hm : c ≤ maxLen) (hn' : n' = b.length) (hc' : n' ≤ c') (hm' : c' ≤ maxLen) (t : Bool) (ht : decide (a = b) = t) :
    Calls Try.prog 25 #[.slice (some ⟨w.heap.size, 0, none⟩) n c, .slice (some ⟨w.heap.size + 1, 0, none⟩) n' c'] ((w.alloc (.cells cs e fr)).alloc (.cells cs' e' fr')) fun en w' => en = .returned (.bool t) ∧ Below w.heap.size w w' := by
  refine (equal_c _ _ a b _ (Rd.below (Rd.lit w e fr a ha hn hc hm) ((Below.refl _ _).alloc (Nat.le_refl _) _)) (rd_lit2 w _ e' fr' b hb hn' hc' hm')).mono ?_
  rintro en w' ⟨rfl, h⟩
  refine ⟨by rw [ht], ?_⟩
  have h1 := (Below.refl w.heap.size w).alloc (Nat.le_refl _) (.cells cs e fr)
  have h2 := (Below.refl (w.alloc (.cells cs e fr)).heap.size (w.alloc (.cells cs e fr))).alloc (Nat.le_refl _) (.cells cs' e' fr')
  exact below_below (below_below h1 h2) h
theorem sha_nil : bt (shaI []) 0 = 227 ∧ bt (shaI []) 31 = 85 := by
  have h : (shaI []).getD 0 0 = 227 ∧ (shaI []).getD 31 0 = 85 := by decide +kernel
  unfold bt
  rw [h.1, h.2]
  exact ⟨rfl, rfl⟩
set_option maxRecDepth 100000 in
set_option maxHeartbeats 800000 in
theorem wakes5_c (w : World) : Calls Try.prog 24 #[] w (Ok w) := by
  have kc : ∀ (w : World) (C : Array Value) (n c g : Nat), g = w.heap.size → _ := fun (w : World) (C : Array Value) (n c g : Nat) (hg : g = w.heap.size) => (by subst hg; exact Lib.run_convert_bytes_const (P := Try.prog) w 23 5 C n c Try.underlying23 Try.underlying5 : (convert 23 23 (.slice (some ⟨g, 0, none⟩) n c)).run Try.prog (w.alloc (.cells C 5)) = .ok (.slice (some ⟨g, 0, none⟩) n c) (w.alloc (.cells C 5 (C.size, C.size + 1))))
  have H := fun w' => sha_c (.slice none 0 0) [] w' (Rd.nil w') (by simp)
  unfold GivesB at H
  have nS : (bvs (shaI [])).length = 32 := by rw [bvs_length, shaI_len]
  have oS := bvs_one (shaI [])
  have e0 : (bvs (shaI []))[0]? = some (.int .u8 227) := by rw [bvs_get _ _ (by rw [shaI_len]; omega), sha_nil.1]
  have e31 : (bvs (shaI []))[31]? = some (.int .u8 85) := by rw [bvs_get _ _ (by rw [shaI_len]; omega), sha_nil.2]
  generalize bvs (shaI []) = S at *
  have HE := equal_c
  go_enter Try.func24, Try.ntmps24
  go_wp2_with (first
    | (go_at_call 21; refine (H _).mono ?_; rintro e wa ⟨rfl, hba⟩)
    | ((with_reducible refine G_alloc ?_; refine L_alloc z32 ?_); intro wb hkb hbb hsb)
    | ((with_reducible refine G_store ?_; refine L_store_agg ag32 (by with_unfolding_all (conv => lhs; whnf)) (by with_unfolding_all (conv => lhs; whnf)) hkb rfl (by simpa using nS) (fun u hu => oS u (by simpa using hu)) ?_); intro wc hkc hgc hsc; have c0 := (hkc.cell 0).trans (by simpa using e0); have c31 := (hkc.cell 31).trans (by simpa using e31); clear hsc hsb)
    | fail)
  refine (eq_lits wc [97] [97] _ _ _ _ rfl rfl rfl (by simp) (by decide) rfl (by simp) (by decide) true rfl).mono ?_
  rintro e wd ⟨rfl, hbd⟩
  go_wp2_with fail
  refine (eq_lits wd [97] [97, 98] _ _ _ _ rfl rfl rfl (by simp) (by decide) rfl (by simp) (by decide) false rfl).mono ?_
  rintro e we ⟨rfl, hbe⟩
  go_wp2
  go_ret
  refine ⟨rfl, below_below (below_below ?_ hbd) hbe⟩
  have hbb2 := below_below hba hbb
  exact hbb2.grown hgc hbb2.size (by intro k hk; cases hk; exact hba.size)
end Go.Proofs.Ytpjpmgpehpigaaa
