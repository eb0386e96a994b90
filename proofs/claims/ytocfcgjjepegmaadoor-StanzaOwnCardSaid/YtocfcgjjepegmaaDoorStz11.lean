/- The document's runs of layer 4. -/
import Derived.Test.YtocfcgjjepegmaaDoorStz10
set_option linter.unusedVariables false
set_option linter.unusedSimpArgs false
namespace Go.Proofs.YtocfcgjjepegmaaDoor
open Go.RowKit
theorem write_ex : writeI ⟨5, 7, [], [], [], [], 0, 0⟩ = ([5, 7, 0], 0) := by
  have e1 : checkI ⟨5, 7, [], [], [], [], 0, 0⟩ = 0 := by decide +kernel
  have e2 : thereI ⟨5, 7, [], [], [], [], 0, 0⟩ = 0 := rfl
  unfold writeI
  rw [if_pos e1]
  unfold writeL
  rw [e2]
  show (formU 5 ++ (formU 7 ++ _), _) = _
  rw [formU_lt (by omega), formU_lt (by omega)]
  rfl
theorem read_ex : readI [15, 0, 8, 1, 0] = (⟨15, 0, [], [], [], [[]], 0, 0⟩, 0) := by
  have h := readI_write ⟨15, 0, [], [], [], [[]], 0, 0⟩ [] (by decide +kernel) (by simp) (by simp) (by simp)
  have e : writeL ⟨15, 0, [], [], [], [[]], 0, 0⟩ ++ [] = [15, 0, 8, 1, 0] := by
    have e2 : thereI ⟨15, 0, [], [], [], [[]], 0, 0⟩ = 8 := rfl
    unfold writeL
    rw [e2]
    show (formU 15 ++ (formU 0 ++ (UInt8.ofNat 8 :: (pT [] ++ (pT [] ++ (pT [] ++ (pL [[]] ++ (pN 0 ++ pF 0)))))))) ++ [] = _
    have e3 : pL [[]] = [1, 0] := by
      show formU 1 ++ (formU 0 ++ [] ++ []) = _
      rw [formU_lt (by omega), formU_lt (by omega)]; rfl
    rw [e3, formU_lt (by omega), formU_lt (by omega)]
    rfl
  rw [e] at h
  rw [h]
  rfl
set_option maxRecDepth 100000 in
set_option maxHeartbeats 1600000 in
theorem wakes4_c (w : World) (hT : Tabs w) : Calls Tryd.prog 21 #[] w (Ok w) := by
  have WR : ∀ w1, Below w.heap.size w w1 → Calls Tryd.prog 16 #[.agg #[.int .i64 5, .int .u64 7, .string ⟨#[]⟩, .string ⟨#[]⟩, .string ⟨#[]⟩, .slice none 0 0, .int .i64 0, .float .f64 0]] w1 (GivesW w1 (writeI ⟨5, 7, [], [], [], [], 0, 0⟩)) := fun w1 hb =>
    write_c w1 (hT.below hb) ⟨5, 7, [], [], [], [], 0, 0⟩ (.slice none 0 0) (RdT.nil _) ⟨by simp, by simp, by simp, by simp, by simp, by simp, by simp, by simp⟩
  rw [write_ex] at WR
  have RD : ∀ w1 v, Below w.heap.size w w1 → Rd w1 v [15, 0, 8, 1, 0] → Calls Tryd.prog 23 #[v] w1 (GivesS w1 (readI [15, 0, 8, 1, 0])) := fun w1 v hb h => read_c w1 (hT.below hb) v [15, 0, 8, 1, 0] h (by simp)
  rw [read_ex] at RD
  have C1 := fun w1 => client_c 19 w1
  have C2 := fun w1 => client_c 31 w1
  rw [show (decide ((1 : Int) ≤ 19) && decide ((19 : Int) ≤ 19)) = true from rfl] at C1
  rw [show (decide ((1 : Int) ≤ 31) && decide ((31 : Int) ≤ 19)) = false from rfl] at C2
  have s1 := str_toList [5, 7, 0]
  unfold GivesW at WR
  unfold GivesS stzV at RD
  simp only at WR RD
  have hsf := fun (W : World) (a : Addr) (x : Nat) m => run_store Tryd.prog W a (.float .f64 x) m rfl
  go_enter Tryd.func21, Tryd.ntmps21
  have c0 : True := trivial
  go_wp2_with (first
    | (have _t := c0; go_at_call 16; refine (WR _ (Below.refl _ _)).mono ?_; rintro e w1 ⟨v1, rfl, ho1, hb1⟩; clear c0; have c1 : True := trivial)
    | (have _t := c1; go_at_call 23; refine (RD _ _ (below_below hb1 ((Below.refl w1.heap.size w1).alloc (Nat.le_refl _) _)) (Rd.lit w1 _ _ [15, 0, 8, 1, 0] rfl rfl (by simp) (by decide))).mono ?_; rintro e w2 ⟨v2, rfl, ho2, hb2⟩; obtain ⟨A2, c2, e2, r2⟩ := ho2.rd.open; clear r2; subst e2; have hb01 := below_below (below_below hb1 ((Below.refl w1.heap.size w1).alloc (Nat.le_refl _) _)) hb2; have hr1 := (ho1.rd.below ((Below.refl w1.heap.size w1).alloc (Nat.le_refl _) _)).below hb2; have hc1 := fun (o : Obj) => convert_str (w := w2.alloc o) (hr1.below ((Below.refl w2.heap.size w2).alloc (Nat.le_refl _) o)); clear c1; have c2 : True := trivial)
    | (have _t := c2; go_at_call 19; refine (C1 _).mono ?_; rintro e w3 ⟨rfl, rfl⟩; clear c2; have c3 : True := trivial)
    | (have _t := c3; go_at_call 19; refine (C2 _).mono ?_; rintro e w4 ⟨rfl, rfl⟩; clear c3; have c4 : True := trivial))
  go_ret
  exact ⟨rfl, below_below hb01 ((Below.refl w2.heap.size w2).alloc (Nat.le_refl _) _)⟩
end Go.Proofs.YtocfcgjjepegmaaDoor
