/- disk.Sync, Fuse, Steps. -/
import Derived.Test.YtfnlcnjflloecaaDsk7
set_option linter.unusedVariables false
set_option linter.unusedSimpArgs false
set_option linter.unnecessarySimpa false
namespace Go.Proofs.Ytfnlcnjflloecaa
open Go.RowKit
theorem ptrK_some {G : List UInt8 → Nat} {fs : List FileE} {s : List UInt8} {f : FileE} (h : lookF fs s = some f) : ptrK G fs (strB s) = some (.pointer (some ⟨G s, 0, none⟩)) := by
  unfold ptrK
  rw [show (strB s).data.toList = s from rfl, h]; rfl
theorem ptrK_none {G : List UInt8 → Nat} {fs : List FileE} {s : List UInt8} (h : lookF fs s = none) : ptrK G fs (strB s) = none := by
  unfold ptrK
  rw [show (strB s).data.toList = s from rfl, h]; rfl
theorem DiskMem.growd {w w' : World} {M M1 : Nat → Prop} {p r : Nat} {G : List UInt8 → Nat} {V : List UInt8 → Value} {Lb : Nat → Nat × List UInt8} {D : Dsk} (h : DiskMem w' M1 p r G V Lb D) (hM : ∀ k, M1 k → growM M w w' k) (hlt : ∀ k, M k → k < w.heap.size) (hz : w.heap.size ≤ w'.heap.size) : DiskAt w' (growM M w w') p D := by
  refine ⟨r, G, V, Lb, h.mono hM ?_⟩
  rintro k (hk | hk)
  · have := hlt k hk; omega
  · exact hk.2
set_option maxRecDepth 100000 in
set_option maxHeartbeats 3200000 in
theorem sync1_c (p : Nat) (M : Nat → Prop) (D : Dsk) (s : List UInt8) (bn bd : Nat) (w : World) (h : DiskAt w M p D) (ok : DskOk D) (hoff : D.off = false) (hd : D.done ≤ 4611686018427387904) (hs : s.length ≤ 9223372036854775807)
    (kn : Blk w bn 9 [.string (strB s)]) (kd : Blk w bd 23 [.pointer (some ⟨p, 0, none⟩)]) (nn : ¬ M bn) (nd : ¬ M bd) :
    Calls Try.prog 45 #[.pointer (some ⟨bn, 0, none⟩), .pointer (some ⟨bd, 0, none⟩)] w (DkPost w M p (syncD D s)) := by
  have cn : _ = some _ := kn.cell 0
  obtain ⟨R, hR⟩ : ∃ R, syncD D s = R := ⟨_, rfl⟩
  rw [hR]
  have hR2 := hR
  unfold syncD at hR2
  replace hR := Go.Lib.hid hR
  have bA := (Below.refl w.heap.size w).alloc (Nat.le_refl _) (.cells #[.string (strB s)] 9)
  have NM := named_c _ [s] _ (rdT_one w (0, 0) s) (by simpa using hs)
  have hf1 : firstD D s true = if rightD s = false then 4 else if lookF D.fs s = none then 7 else 0 := by unfold firstD; rw [if_neg (by rw [hoff]; decide)]; simp
  generalize hS : strB s = S at *
  go_enter Try.func45, Try.ntmps45
  go_wp2_with fail
  refine NM.mono ?_; rintro e w1 ⟨hr, hb1⟩
  have hb := below_below bA hb1
  simp only [List.all_cons, List.all_nil, Bool.and_true] at hr
  rcases hr with ⟨hr, rfl⟩ | ⟨hr, rfl⟩
  rotate_left
  · rw [if_pos hr] at hf1
    rw [if_pos (by rw [hf1]; decide), hf1] at hR2
    subst hR2
    clear hR NM bA
    go_wp2_with fail
    exact ⟨rfl, Chg.of_below hb, h.grow hb, .inr ⟨by simp, rfl⟩⟩
  rw [if_neg (by rw [hr]; decide)] at hf1
  clear NM cn bA hb1 hr
  have hlt := h.lt
  have h0 := h
  obtain ⟨r, G, V, Lb, h⟩ := h
  have h1 := h.below hb
  have cn : _ = some _ := (kn.below hb).cell 0
  have cd : _ = some _ := (kd.below hb).cell 0
  cases hlk : lookF D.fs s with
  | none =>
    rw [if_pos hlk] at hf1
    rw [if_pos (by rw [hf1]; decide), hf1] at hR2
    subst hR2
    have AT := at_none p r _ _ S w1 h1.blk h1.map (by rw [← hS]; exact ptrK_none hlk)
    clear hR
    go_wp2_with fail
    refine AT.mono ?_; rintro e w2 ⟨rfl, rfl⟩
    go_wp2_with fail
    exact ⟨rfl, Chg.of_below hb, h0.grow hb, .inr ⟨by simp, rfl⟩⟩
  | some f =>
    rw [if_neg (by rw [hlk]; simp)] at hf1
    rw [if_neg (by rw [hf1]; simp)] at hR2
    have AT := at_some p r _ _ _ S w1 h1.blk h1.map (by rw [← hS]; exact ptrK_some hlk)
    have PW := power_c p r D w1 h1.blk hoff ⟨ok.done, hd⟩ ok.left.2
    clear hR
    go_wp2_with fail
    refine AT.mono ?_; rintro e w2 ⟨rfl, rfl⟩
    go_wp2_with fail
    refine PW.mono ?_; rintro e w3 ⟨he, hb3, hg3⟩
    have hc3 := Chg.grown hg3 (M := fun k => k = p) (fun k hk => by cases hk; rfl)
    have hm3 := h1.ctl (D' := (powerD D).2) (power_fs D).1 hc3 hb3
    have hM3 : Chg M w w3 := ((Chg.of_below hb).chg_trans hc3 (fun k hk => by subst hk; exact .inr h.mp))
    rcases he with ⟨h5, rfl⟩ | ⟨h5, rfl⟩
    rotate_left
    · rw [if_pos h5] at hR2
      subst hR2
      go_wp2_with fail
      exact ⟨rfl, hM3, hm3.growd (fun k hk => .inl hk) hlt hM3.size, .inr ⟨h5, rfl⟩⟩
    · rw [if_neg (by rw [h5]; simp)] at hR2
      have F := hm3.file s f (by rw [(power_fs D).1]; exact hlk)
      obtain ⟨Aa, ca, ea, -, -, -⟩ := F.row.rd.open
      have cF : _ = some _ := F.blk.cell 0
      have cG : _ = some _ := F.blk.cell 1
      have fG := F.blk.frozen 1
      have kF := F.blk.stored 1 (.int .i64 (f.b.length : Int))
      have gF := grown_setCell w3 ⟨G s, 1, none⟩ (.int .i64 (f.b.length : Int))
      have hrd := F.row.rd
      have hGp : G s ≠ p := fun e => by have := F.lab; rw [e, hm3.lp] at this; cases this
      have hown := F.row.grown gF (.inr (fun e => by have := (F.rown _ e).2; rw [show (⟨G s, 1, none⟩ : Addr).block = G s from rfl, F.lab] at this; cases this))
      have kP := hm3.blk.other (a := ⟨G s, 1, none⟩) (Ne.symm hGp) (.int .i64 (f.b.length : Int))
      go_wp2_with (first | (with_reducible refine G_len ?_; refine L8_len Try.underlying38 (by with_unfolding_all (conv => lhs; whnf)) (by assumption) ?_))
      have hcF := Chg.grown gF (M := fun k => k = p ∨ k = G s ∨ (V s).ownBlock = some k) (fun k hk => by cases hk; exact .inr (.inl rfl))
      have e1 := used_mod ok.up s (fun f => ⟨f.name, f.b, f.b.length⟩)
      obtain ⟨V2, Lb2, hm4, -⟩ := hm3.modify (s := s) (f := f) (by rw [(power_fs D).1]; exact hlk) (g := fun f => ⟨f.name, f.b, f.b.length⟩) (fun _ => rfl) (D' := { (powerD D).2 with fs := modF D.fs s fun f => ⟨f.name, f.b, f.b.length⟩ }) (by simp only [(power_fs D).1]) hcF
        (by
          have e2 : usedF (modF D.fs s fun f => ⟨f.name, f.b, f.b.length⟩) = usedF (powerD D).2.fs := by rw [(power_fs D).1]; simp only at e1; omega
          unfold dskC at kP ⊢
          simp only [e2]
          exact kP) kF hown (fun k hk => .inl hk)
      subst hR2
      have hM4 : Chg M w (w3.setCell ⟨G s, 1, none⟩ (.int .i64 (f.b.length : Int))) := hM3.chg_trans (Chg.grown gF (M := fun k => k = G s) (fun k hk => by cases hk; rfl)) (fun k hk => by subst hk; exact .inr F.own)
      refine bodyPost_end (results_none rfl _ _ _) rfl ⟨hM4, hm4.growd ?_ hlt hM4.size, .inl ⟨rfl, rfl⟩⟩
      exact fun k hk => hk.imp id fun h => ⟨by have := hM3.size; omega, h.2⟩
set_option maxRecDepth 100000 in
set_option maxHeartbeats 1600000 in
theorem sync_c (p : Nat) (M : Nat → Prop) (D : Dsk) (s : List UInt8) (w : World) (h : DiskAt w M p D) (ok : DskOk D) (hd : D.done ≤ 4611686018427387904) (hs : s.length ≤ 9223372036854775807) :
    Calls Try.prog 21 #[.pointer (some ⟨p, 0, none⟩), .string (strB s)] w (DkGives w M p (syncD D s)) := by
  have hmf : ∀ (fn : Fn) (first cap : Array Value) (w : World), (Instr.makeFunc fn first cap).run Try.prog w = .ok (.func fn first cap) w := fun _ _ _ _ => rfl
  have ek : ∀ args w, (callFunc 45 args).run Try.prog w = .ok (.enter 45 args) w := enters_of Try.func45 (by kernel_rfl) rfl
  have kd := Blk.new w 23 [.pointer (some ⟨p, 0, none⟩)]
  have b1 := (Below.refl w.heap.size w).alloc (Nat.le_refl _) (.cells #[.pointer (some ⟨p, 0, none⟩)] 23)
  have z1 : (w.alloc (.cells #[.pointer (some ⟨p, 0, none⟩)] 23)).heap.size = w.heap.size + 1 := by simp
  generalize hw1 : w.alloc (.cells #[.pointer (some ⟨p, 0, none⟩)] 23) = w1 at *
  have kn := Blk.new w1 9 [.string (strB s)]
  have b2 := (Below.refl w1.heap.size w1).alloc (Nat.le_refl _) (.cells #[.string (strB s)] 9)
  generalize hw2 : w1.alloc (.cells #[.string (strB s)] 9) = w2 at *
  have hlt := h.lt
  have hb := below_below b1 b2
  have kd3 := kd.below b2
  have hno : ∀ k, w.heap.size ≤ k → ¬ M k := fun k hk hm => by have := hlt k hm; omega
  have c3 : _ = some _ := kd3.cell 0
  have ST := step_disk p M D (syncD D s) 45 #[.pointer (some ⟨w1.heap.size, 0, none⟩), .pointer (some ⟨w.heap.size, 0, none⟩)] w2 (h.below hb)
    (fun ho => by unfold syncD; rw [if_pos (by rw [first_off ho]; decide), first_off ho]) ek (fun ho wx hx =>
      sync1_c p M D s _ _ wx ((h.below hb).below hx) ok ho hd hs (kn.below hx) (kd3.below hx) (hno _ (by omega)) (hno _ (Nat.le_refl _)))
  generalize syncD D s = R at *
  generalize strB s = S at *
  rw [z1] at ST
  subst hw2 hw1
  go_enter Try.func21, Try.ntmps21
  go_wp2_with fail
  refine ST.mono ?_
  rintro e w4 h4
  obtain ⟨rfl, h5⟩ := h4.pre hb hlt
  go_wp2_with fail
  go_ret
  exact ⟨rfl, h5⟩
end Go.Proofs.Ytfnlcnjflloecaa
