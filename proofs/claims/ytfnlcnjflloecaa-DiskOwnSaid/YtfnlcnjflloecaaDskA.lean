/- disk.Read, List. -/
import Derived.Test.YtfnlcnjflloecaaDsk9
set_option linter.unusedVariables false
set_option linter.unusedSimpArgs false
set_option linter.unnecessarySimpa false
namespace Go.Proofs.Ytfnlcnjflloecaa
open Go.RowKit
theorem results_cell_tmp (fn : Func) (i j : Nat) (T : TypeId) (hf : fn.results = #[.cell i T, .tmp j]) (tmps : Array Value) (w : World) (b : Nat) (u v : Value) (hi : tmps.getD i undef = .pointer (some ⟨b, 0, none⟩)) (hj : tmps.getD j undef = v)
    (hl : (loadVar T ⟨b, 0, none⟩).run Try.prog w = .ok u w) : (results fn tmps).run Try.prog w = .ok (.tuple #[u, v]) w := by
  have hi' : tmps[i]?.getD undef = .pointer (some ⟨b, 0, none⟩) := by simpa using hi
  have hj' : tmps[j]?.getD undef = v := by simpa using hj
  simp [results, hf, hi', hj', asAddr, hl]
theorem step_res (p : Nat) (M : Nat → Prop) (D : Dsk) (x : Int) (k : Nat) (caps : Array Value) (w : World) (br : Nat) (T : TypeId) (z : Value) (B : Nat) (P : World → Value → Prop) (h : DiskAt w M p D) (kr : Blk w br T [z]) (ek : ∀ args w, (callFunc k args).run Try.prog w = .ok (.enter k args) w)
    (hP : ∀ w2 w3 u, P w2 u → w.heap.size < w2.heap.size → w2.grownBy w3 (some w.heap.size) → P w3 u) (hz : D.off = true → x = 13 ∧ ∀ w1, Below w.heap.size w w1 → P w1 z)
    (HC : D.off = false → ∀ w1, Below w.heap.size w w1 → w.heap.size < w1.heap.size → Calls Try.prog k caps w1 fun e w2 => Chg (fun k => k = br) w1 w2 ∧ (∃ u, Blk w2 br T [u] ∧ P w2 u) ∧ EndsDk x e) :
    Calls Try.prog 26 #[.pointer (some ⟨p, 0, none⟩), .func (.func k) #[] caps] w fun e w' => e = .returned (.int .i64 x) ∧ (∃ u, Blk w' br T [u] ∧ P w' u) ∧ Chg (fun k => k = br) w w' := by
  obtain ⟨r, G, V, Lb, h⟩ := h
  have hbl := kr.lt
  cases ho : D.off
  · refine (step_on p (dskC r D) k caps w h.blk (by unfold dskC; rw [ho]; rfl) ek (fun k => k = br) (fun y w2 => y = x ∧ ∃ u, Blk w2 br T [u] ∧ P w2 u) (by omega) ?_ ?_).mono ?_
    · rintro y w2 w3 ⟨h1, u, h2, h3⟩ hz hg
      exact ⟨h1, u, h2.grown hg (by simp; omega), hP w2 w3 u h3 hz hg⟩
    · intro w1 hb hz
      refine (HC ho w1 hb hz).mono ?_
      rintro e w2 ⟨h1, h2, h3⟩
      refine ⟨h1, x, ⟨rfl, h2⟩, ?_⟩
      rcases h3 with ⟨h4, h5⟩ | ⟨h4, h5⟩
      · exact .inl ⟨h4, h5⟩
      · exact .inr h5
    · rintro e w' ⟨y, rfl, ⟨rfl, h2⟩, h3⟩
      exact ⟨rfl, h2, h3⟩
  · obtain ⟨hx, hz2⟩ := hz ho
    subst hx
    refine (step_off p (dskC r D) _ w h.blk (by unfold dskC; rw [ho]; rfl)).mono ?_
    rintro e w' ⟨rfl, hb⟩
    exact ⟨rfl, ⟨z, kr.below hb, hz2 w' hb⟩, Chg.of_below hb⟩
set_option maxRecDepth 100000 in
set_option maxHeartbeats 3200000 in
theorem read_c (p : Nat) (M : Nat → Prop) (D : Dsk) (s : List UInt8) (w : World) (h : DiskAt w M p D) (ok : DskOk D) (hs : s.length ≤ 9223372036854775807) :
    Calls Try.prog 13 #[.pointer (some ⟨p, 0, none⟩), .string (strB s)] w fun e w' => ∃ u, e = .returned (.tuple #[u, .int .i64 (readD D s).1]) ∧ Own8 w' w.heap.size 5 u (readD D s).2 ∧ Below w.heap.size w w' := by
  have hmf : ∀ (fn : Fn) (first cap : Array Value) (w : World), (Instr.makeFunc fn first cap).run Try.prog w = .ok (.func fn first cap) w := fun _ _ _ _ => rfl
  have ek : ∀ args w, (callFunc 37 args).run Try.prog w = .ok (.enter 37 args) w := enters_of Try.func37 (by kernel_rfl) rfl
  have kd := Blk.new w 23 [.pointer (some ⟨p, 0, none⟩)]
  have b1 := (Below.refl w.heap.size w).alloc (Nat.le_refl _) (.cells #[.pointer (some ⟨p, 0, none⟩)] 23)
  have z1 : (w.alloc (.cells #[.pointer (some ⟨p, 0, none⟩)] 23)).heap.size = w.heap.size + 1 := by simp
  generalize hw1 : w.alloc (.cells #[.pointer (some ⟨p, 0, none⟩)] 23) = w1 at *
  have kn := Blk.new w1 9 [.string (strB s)]
  have b2 := (Below.refl w1.heap.size w1).alloc (Nat.le_refl _) (.cells #[.string (strB s)] 9)
  have z2 : (w1.alloc (.cells #[.string (strB s)] 9)).heap.size = w1.heap.size + 1 := by simp
  generalize hw2 : w1.alloc (.cells #[.string (strB s)] 9) = w2 at *
  have kr := Blk.new w2 38 [.slice none 0 0]
  have b3 := (Below.refl w2.heap.size w2).alloc (Nat.le_refl _) (.cells #[.slice none 0 0] 38)
  generalize hw3 : w2.alloc (.cells #[.slice none 0 0] 38) = w3 at *
  have hb := below_below (below_below b1 b2) b3
  have kd3 := (kd.below b2).below b3
  have kn3 := kn.below b3
  have c3 : _ = some _ := kd3.cell 0
  have z3 : w.heap.size ≤ w3.heap.size := hb.size
  have ST := step_res p M D (readD D s).1 37 #[.pointer (some ⟨w1.heap.size, 0, none⟩), .pointer (some ⟨w.heap.size, 0, none⟩), .pointer (some ⟨w2.heap.size, 0, none⟩)] w3 w2.heap.size 38 (.slice none 0 0) 0
    (fun w u => Own8 w (w3.heap.size + 1) 5 u (readD D s).2) (h.below hb) kr ek
    (fun wa wb u h1 hz hg => h1.grown hg (.inr (fun e => by have := h1.base_le _ e; omega)))
    (fun ho => by
      have e : readD D s = (13, []) := by unfold readD; rw [if_pos (by rw [first_off ho]; decide), first_off ho]
      rw [e]
      exact ⟨rfl, fun w1 _ => Own8.nil _ _ _⟩)
    (fun ho wx hx hz => (read1_c p M D s _ _ _ wx ((h.below hb).below hx) ok ho hs (kn3.below hx) (kd3.below hx) (kr.below hx)).mono (by
      rintro e wy ⟨h1, ⟨u, h2, h3⟩, h4⟩
      exact ⟨h1, ⟨u, h2, h3.mono hz⟩, h4⟩))
  generalize readD D s = R at *
  generalize strB s = S at *
  rw [z2, z1] at ST
  subst hw3 hw2 hw1
  go_enter Try.func13, Try.ntmps13
  go_wp2_with fail
  refine ST.mono ?_
  rintro e w4 ⟨rfl, ⟨u, k4, ho4⟩, hc4⟩
  have hb4 : Below w.heap.size w w4 := hb.trans (hc4.below hb.size (fun k hk => by subst hk; omega))
  obtain ⟨Aa, ca, ea, -, -, -⟩ := ho4.rd.open
  subst ea
  have c4 : _ = some _ := k4.cell 0
  have f4 := k4.frozen 0
  have k5 := k4.stored 0 (.slice Aa R.2.length ca)
  have g5 := grown_setCell w4 ⟨w.heap.size + 1 + 1, 0, none⟩ (.slice Aa R.2.length ca)
  have hge := fun k hk => ho4.base_le k hk
  have ho5 := ho4.grown g5 (.inr (fun e => by have h1 := hge _ e; simp at h1; try omega))
  have c5 : _ = some _ := k5.cell 0
  have hL : (loadVar 38 ⟨w.heap.size + 1 + 1, 0, none⟩).run Try.prog (w4.setCell ⟨w.heap.size + 1 + 1, 0, none⟩ (.slice Aa R.2.length ca)) = .ok (.slice Aa R.2.length ca) (w4.setCell ⟨w.heap.size + 1 + 1, 0, none⟩ (.slice Aa R.2.length ca)) := by simp [go_sem, c5]
  go_wp2_with fail
  refine bodyPost_ret (results_cell_tmp _ 4 5 _ rfl _ _ _ _ _ rfl rfl hL) rfl ?_
  exact ⟨_, rfl, ho5.mono (by simp; omega), hb4.grown g5 hb4.size (fun k hk => by cases hk; omega)⟩
set_option maxRecDepth 100000 in
set_option maxHeartbeats 1600000 in
theorem list1_c (p : Nat) (M : Nat → Prop) (D : Dsk) (bd br : Nat) (w : World) (h : DiskAt w M p D) (ok : DskOk D) (hn : ∀ f ∈ D.fs, f.name.length ≤ 64) (hl : D.fs.length ≤ 1099511627776)
    (kd : Blk w bd 23 [.pointer (some ⟨p, 0, none⟩)]) (kr : Blk w br 48 [.slice none 0 0]) :
    Calls Try.prog 43 #[.pointer (some ⟨bd, 0, none⟩), .pointer (some ⟨br, 0, none⟩)] w fun e w2 =>
      Chg (fun k => k = br) w w2 ∧ (∃ u, Blk w2 br 48 [u] ∧ OwnT w2 w.heap.size u (namesF D.fs)) ∧ EndsDk 0 e := by
  obtain ⟨r, G, V, Lb, h⟩ := h
  have cd : _ = some _ := kd.cell 0
  have NM := names_c p r _ G D.fs w h.blk h.map ok.up hl hn
  go_enter Try.func43, Try.ntmps43
  go_wp2_with fail
  refine NM.mono ?_; rintro e w3 ⟨u, rfl, ho3, hb3⟩
  have kr3 := kr.below hb3
  obtain ⟨Aa, ca, ea, -, -, -⟩ := ho3.rd.open
  have hug := fun k hk => ho3.base_le k hk
  have hrl := kr.lt
  have c0 : _ = some _ := kr3.cell 0
  have f0 := kr3.frozen 0
  subst ea
  have kr4 := kr3.stored 0 (.slice Aa (namesF D.fs).length ca)
  have g4 := grown_setCell w3 ⟨br, 0, none⟩ (.slice Aa (namesF D.fs).length ca)
  have ho4 := ho3.grown g4 (.inr (fun e => by have := hug br e; omega))
  go_wp2_with fail
  refine bodyPost_end (results_none rfl _ _ _) rfl ⟨?_, ⟨_, kr4, ho4⟩, .inl ⟨rfl, rfl⟩⟩
  exact (Chg.of_below hb3).tr (Chg.grown g4 (fun k hk => by cases hk; rfl))
set_option maxRecDepth 100000 in
set_option maxHeartbeats 3200000 in
theorem list_c (p : Nat) (M : Nat → Prop) (D : Dsk) (w : World) (h : DiskAt w M p D) (ok : DskOk D) (hn : ∀ f ∈ D.fs, f.name.length ≤ 64) (hl : D.fs.length ≤ 1099511627776) :
    Calls Try.prog 17 #[.pointer (some ⟨p, 0, none⟩)] w fun e w' => ∃ u, e = .returned (.tuple #[u, .int .i64 (listD D).1]) ∧ OwnT w' w.heap.size u (listD D).2 ∧ Below w.heap.size w w' := by
  have hmf : ∀ (fn : Fn) (first cap : Array Value) (w : World), (Instr.makeFunc fn first cap).run Try.prog w = .ok (.func fn first cap) w := fun _ _ _ _ => rfl
  have ek : ∀ args w, (callFunc 43 args).run Try.prog w = .ok (.enter 43 args) w := enters_of Try.func43 (by kernel_rfl) rfl
  have kd := Blk.new w 23 [.pointer (some ⟨p, 0, none⟩)]
  have b1 := (Below.refl w.heap.size w).alloc (Nat.le_refl _) (.cells #[.pointer (some ⟨p, 0, none⟩)] 23)
  have z1 : (w.alloc (.cells #[.pointer (some ⟨p, 0, none⟩)] 23)).heap.size = w.heap.size + 1 := by simp
  generalize hw1 : w.alloc (.cells #[.pointer (some ⟨p, 0, none⟩)] 23) = w1 at *
  have kr := Blk.new w1 48 [.slice none 0 0]
  have b3 := (Below.refl w1.heap.size w1).alloc (Nat.le_refl _) (.cells #[.slice none 0 0] 48)
  generalize hw3 : w1.alloc (.cells #[.slice none 0 0] 48) = w3 at *
  have hb := below_below b1 b3
  have kd3 := kd.below b3
  have c3 : _ = some _ := kd3.cell 0
  have z3 : w.heap.size ≤ w3.heap.size := hb.size
  have ST := step_res p M D (listD D).1 43 #[.pointer (some ⟨w.heap.size, 0, none⟩), .pointer (some ⟨w1.heap.size, 0, none⟩)] w3 w1.heap.size 48 (.slice none 0 0) 0
    (fun w u => OwnT w (w3.heap.size + 1) u (listD D).2) (h.below hb) kr ek
    (fun wa wb u h1 hz hg => h1.grown hg (.inr (fun e => by have := h1.base_le _ e; omega)))
    (fun ho => by
      have e : listD D = (13, []) := by unfold listD; rw [if_pos ho]
      rw [e]
      exact ⟨rfl, fun w1 _ => OwnT.nil _ _⟩)
    (fun ho wx hx hz => (list1_c p M D _ _ wx ((h.below hb).below hx) ok hn hl (kd3.below hx) (kr.below hx)).mono (by
      have e : listD D = (0, namesF D.fs) := by unfold listD; rw [if_neg (by rw [ho]; decide)]
      rw [e]
      rintro e wy ⟨h1, ⟨u, h2, h3⟩, h4⟩
      exact ⟨h1, ⟨u, h2, ownsRow_low h3 hz⟩, h4⟩))
  generalize listD D = R at *
  rw [z1] at ST
  subst hw3 hw1
  go_enter Try.func17, Try.ntmps17
  go_wp2_with fail
  refine ST.mono ?_
  rintro e w4 ⟨rfl, ⟨u, k4, ho4⟩, hc4⟩
  have hb4 : Below w.heap.size w w4 := hb.trans (hc4.below hb.size (fun k hk => by subst hk; omega))
  obtain ⟨Aa, ca, ea, -, -, -⟩ := ho4.rd.open
  subst ea
  have c4 : _ = some _ := k4.cell 0
  have f4 := k4.frozen 0
  have k5 := k4.stored 0 (.slice Aa R.2.length ca)
  have g5 := grown_setCell w4 ⟨w.heap.size + 1, 0, none⟩ (.slice Aa R.2.length ca)
  have hge := fun k hk => ho4.base_le k hk
  have ho5 := ho4.grown g5 (.inr (fun e => by have h1 := hge _ e; simp at h1; try omega))
  have c5 : _ = some _ := k5.cell 0
  have hL : (loadVar 48 ⟨w.heap.size + 1, 0, none⟩).run Try.prog (w4.setCell ⟨w.heap.size + 1, 0, none⟩ (.slice Aa R.2.length ca)) = .ok (.slice Aa R.2.length ca) (w4.setCell ⟨w.heap.size + 1, 0, none⟩ (.slice Aa R.2.length ca)) := by simp [go_sem, c5]
  go_wp2_with fail
  refine bodyPost_ret (results_cell_tmp _ 2 3 _ rfl _ _ _ _ _ rfl rfl hL) rfl ?_
  exact ⟨_, rfl, ownsRow_low ho5 (by simp; omega), hb4.grown g5 hb4.size (fun k hk => by cases hk; omega)⟩
end Go.Proofs.Ytfnlcnjflloecaa
