/- name: all, label, sized, Local, Host, Resource. -/
import Derived.Test.YtfnlcnjflloecaaDoorNam2
import Derived.Test.YtfnlcnjflloecaaDoorShelfN
import Derived.Test.YtfnlcnjflloecaaDoorShelfV
import Derived.Test.YtfnlcnjflloecaaDoorOct8
set_option linter.unusedVariables false
set_option linter.unusedSimpArgs false
namespace Go.Proofs.YtfnlcnjflloecaaDoor
open Go.RowKit
theorem nvalids_c (s : List UInt8) (w : World) (hl : s.length ≤ 9223372036854775807) (hT : Tabs w) : Calls Tryd.prog 55 #[.string (strB s)] w fun e w' => e = .returned (.bool (Lib.validD s)) ∧ Below w.heap.size w w' :=
  Tryd.utf8_ValidString (strB s) w hl hT
theorem below_eq {w w' : World} (h : w = w') : Below w.heap.size w w' := h ▸ Below.refl _ _
set_option maxHeartbeats 1600000 in
theorem all_c (g : Nat) (p : Nat → Bool) (eg : ∀ args w, (callFunc g args).run Tryd.prog w = .ok (.enter g args) w) (hp : ∀ (W : World) (x : Nat), x ≤ 1114111 → Calls Tryd.prog g #[.int .i32 (x : Int)] W fun e w' => e = .returned (.bool (p x)) ∧ W = w')
    (s : List UInt8) (w : World) : Calls Tryd.prog 49 #[.string (strB s), .func (.func g) #[] #[]] w fun e w' => e = .returned (.bool (allD (fun r => p r.toNat) s)) ∧ Below w.heap.size w w' := by
  have hmf : ∀ (fn : Fn) (first cap : Array Value) (w : World), (Instr.makeFunc fn first cap).run Tryd.prog w = .ok (.func fn first cap) w := fun _ _ _ _ => rfl
  have e1 : ∀ args w, (callFunc 100 args).run Tryd.prog w = .ok (.enter 100 args) w := enters_of Tryd.func100 (by kernel_rfl) rfl
  have hI := idx_all0 (fun x => !p x) (strB s)
  have hd : (strB s).data.toList = s := rfl
  rw [hd] at hI
  simp only [Bool.not_not] at hI
  have hk := Blk.new w 84 [.func (.func g) #[] #[]]
  have hb := (Below.refl w.heap.size w).alloc (Nat.le_refl _) (.cells #[.func (.func g) #[] #[]] 84)
  have hlt := hk.lt
  have IX : Calls Tryd.prog 99 #[.string (strB s), .func (.func 100) #[] #[.pointer (some ⟨w.heap.size, 0, none⟩)]] (w.alloc (.cells #[.func (.func g) #[] #[]] 84)) _ :=
    Tryd.strings_IndexFunc_grows 100 #[.pointer (some ⟨w.heap.size, 0, none⟩)] e1 (fun x => !p x) (strB s) _ (fun W x hx hbW => by
      have hc : _ = some _ := (hk.below hbW).cell 0
      exact (all1_c g p eg hp w.heap.size W hc x hx).mono fun e w' h => ⟨h.1, below_eq h.2⟩)
  generalize allD (fun r => p r.toNat) s = R at *
  generalize Lib.idxFunc (fun x => !p x) true (strB s) = X at *
  have hI2 := Go.Lib.hid hI
  clear hI hd hp e1
  generalize strB s = S at *
  go_enter Tryd.func49, Tryd.ntmps49
  go_wp2_with (go_at_call 99; refine IX.mono ?_; rintro e w1 ⟨rfl, hb1⟩)
  go_ret
  rw [← hI2.out]
  exact ⟨rfl, below_below hb hb1⟩
theorem u8_ne (c : UInt8) : ((c.toNat : Int) != 45) = (c != 45) := by
  by_cases h : c = 45
  · subst h; rfl
  · have h2 : ¬ c.toNat = 45 := fun e => h (UInt8.toNat_inj.1 e)
    rw [bne_iff_ne.2 h, bne_iff_ne]
    omega
set_option maxHeartbeats 3200000 in
theorem label_c (s : List UInt8) (w : World) (hl : s.length ≤ 1000000000) : Calls Tryd.prog 54 #[.string (strB s)] w fun e w' => e = .returned (.bool (labelB s)) ∧ Below w.heap.size w w' := by
  have e1 : ∀ args w, (callFunc 103 args).run Tryd.prog w = .ok (.enter 103 args) w := enters_of Tryd.func103 (by kernel_rfl) rfl
  have AL := fun w1 => all_c 103 (fun x => ddI (x : Int)) e1 (fun W x hx => label_p (x : Int) (by omega) (by omega) W) s w1
  have hq : (fun r : Int => ddI ((r.toNat : Nat) : Int)) = fun r => ddI ((r.toNat : Nat) : Int) := rfl
  have ha : allD (fun r : Int => ddI ((r.toNat : Nat) : Int)) s = allD ddI s := by
    have key : ∀ (n : Nat) (l : List UInt8), l.length ≤ n → allD (fun r : Int => ddI ((r.toNat : Nat) : Int)) l = allD ddI l := by
      intro n
      induction n with
      | zero => intro l hn; have : l = [] := List.eq_nil_of_length_eq_zero (by omega); subst this; rfl
      | succ n ih =>
        intro l hn
        by_cases hne : l = []
        · subst hne; rfl
        · have hd := drop_len hne
          rw [allD_step _ _ hne, allD_step _ _ hne, ih _ (by omega)]
          simp
    exact key s.length s (Nat.le_refl _)
  rw [ha] at AL
  have hlb : labelB s = (!s.isEmpty && (s.getD 0 0 != 45) && (s.getD (s.length - 1) 0 != 45) && allD ddI s) := rfl
  clear ha hq e1
  by_cases hne : s = []
  · subst hne
    have hem : (strB []).toList.isEmpty = true := by rw [strB_toList]; rfl
    go_enter Tryd.func54, Tryd.ntmps54
    go_wp2_with fail
    go_ret
    exact ⟨rfl, Below.refl _ _⟩
  · have hem := s_empty s hne
    have hie : s.isEmpty = false := by cases s <;> simp_all
    obtain ⟨n, hn⟩ : ∃ n, s.length = n + 1 := ⟨s.length - 1, by have := List.length_pos_iff.2 hne; omega⟩
    have hsz : (strB s).size = n + 1 := by rw [strB_size, hn]
    have hlt0 : 0 < (strB s).size := by omega
    have hltn : n < (strB s).size := by omega
    have h0 : (strB s)[0]'hlt0 = s.getD 0 0 := by
      rw [List.getD_eq_getElem?_getD, List.getElem?_eq_getElem (by omega)]; rfl
    have h1 : (strB s)[n]'hltn = s.getD n 0 := by
      rw [List.getD_eq_getElem?_getD, List.getElem?_eq_getElem (by omega)]; rfl
    have hn' : s.length - 1 = n := by omega
    rw [hn', hie] at hlb
    have u0 := u8_ne (s.getD 0 0)
    have u1 := u8_ne (s.getD n 0)
    generalize s.getD 0 0 = c0 at *
    generalize s.getD n 0 = c1 at *
    generalize (c0 != 45) = b0 at *
    generalize (c1 != 45) = b1 at *
    generalize allD ddI s = b2 at *
    generalize strB s = S at *
    have hnl : (n : Int) ≤ 1000000000 := by omega
    clear hn hn' hl hne hie
    rw [hlb]
    clear hlb
    cases b0 <;> cases b1
    all_goals
      go_enter Tryd.func54, Tryd.ntmps54
      go_wp2_with (go_at_call 49; refine (AL _).mono ?_; rintro e w1 ⟨rfl, hb1⟩)
      go_ret
      first
      | exact ⟨rfl, Below.refl _ _⟩
      | exact ⟨rfl, hb1⟩
theorem sized_c (s : List UInt8) (w : World) (hl : s.length ≤ 1000000000) (hT : Tabs w) : Calls Tryd.prog 46 #[.string (strB s)] w fun e w' => e = .returned (.int .i64 (sizedI s)) ∧ Below w.heap.size w w' := by
  have hz : sizedI s = if 64 < s.length then 5 else if s = [] ∨ Lib.validD s = false then 4 else 0 := rfl
  have V := nvalids_c s w (by omega) hT
  have hsz := strB_size s
  by_cases h64 : 64 < s.length
  · rw [if_pos h64] at hz
    rw [hz]
    have q1 : (64 : Int) < ((strB s).size : Int) := by omega
    clear hz hsz
    generalize strB s = S at *
    go_enter Tryd.func46, Tryd.ntmps46
    go_wp2_with fail
    go_ret
    exact ⟨rfl, Below.refl _ _⟩
  rw [if_neg h64] at hz
  have q1 : ¬ (64 : Int) < ((strB s).size : Int) := by omega
  by_cases hne : s = []
  · subst hne
    rw [if_pos (.inl rfl)] at hz
    rw [hz]
    have hem : (strB []).toList.isEmpty = true := by rw [strB_toList]; rfl
    clear hz hsz V
    go_enter Tryd.func46, Tryd.ntmps46
    go_wp2_with fail
    go_ret
    exact ⟨rfl, Below.refl _ _⟩
  have hem := s_empty s hne
  cases hv : Lib.validD s
  · rw [if_pos (.inr hv)] at hz
    rw [hz]
    rw [hv] at V
    clear hz hsz
    generalize strB s = S at *
    go_enter Tryd.func46, Tryd.ntmps46
    go_wp2_with (go_at_call 55; refine V.mono ?_; rintro e w1 ⟨rfl, hb1⟩)
    go_ret
    exact ⟨rfl, hb1⟩
  · rw [if_neg (by rintro (h | h); exact hne h; rw [hv] at h; cases h)] at hz
    rw [hz]
    rw [hv] at V
    clear hz hsz
    generalize strB s = S at *
    go_enter Tryd.func46, Tryd.ntmps46
    go_wp2_with (go_at_call 55; refine V.mono ?_; rintro e w1 ⟨rfl, hb1⟩)
    go_ret
    exact ⟨rfl, hb1⟩
theorem allD_nat (p : Int → Bool) (s : List UInt8) : allD (fun r : Int => p ((r.toNat : Nat) : Int)) s = allD p s := by
  have key : ∀ (n : Nat) (l : List UInt8), l.length ≤ n → allD (fun r : Int => p ((r.toNat : Nat) : Int)) l = allD p l := by
    intro n
    induction n with
    | zero => intro l hn; have : l = [] := List.eq_nil_of_length_eq_zero (by omega); subst this; rfl
    | succ n ih =>
      intro l hn
      by_cases hne : l = []
      · subst hne; rfl
      · have hd := drop_len hne
        rw [allD_step _ _ hne, allD_step _ _ hne, ih _ (by omega)]
        simp
  exact key s.length s (Nat.le_refl _)
theorem all_p (g : Nat) (p : Int → Bool) (eg : ∀ args w, (callFunc g args).run Tryd.prog w = .ok (.enter g args) w) (hp : ∀ (r : Int), 0 ≤ r → r ≤ 1114111 → ∀ W : World, Calls Tryd.prog g #[.int .i32 r] W fun e w' => e = .returned (.bool (p r)) ∧ W = w')
    (s : List UInt8) (w : World) : Calls Tryd.prog 49 #[.string (strB s), .func (.func g) #[] #[]] w fun e w' => e = .returned (.bool (allD p s)) ∧ Below w.heap.size w w' := by
  have := all_c g (fun x => p (x : Int)) eg (fun W x hx => hp (x : Int) (by omega) (by omega) W) s w
  rwa [allD_nat] at this
theorem map_c (g : Nat) (f : Int → Int) (eg : ∀ args w, (callFunc g args).run Tryd.prog w = .ok (.enter g args) w) (hp : ∀ (r : Int), 0 ≤ r → r ≤ 1114111 → ∀ W : World, Calls Tryd.prog g #[.int .i32 r] W fun e w' => e = .returned (.int .i32 (f r)) ∧ W = w')
    (hf : ∀ x : Nat, x ≤ 1114111 → -2147483648 ≤ f x ∧ f x ≤ 2147483647) (s : List UInt8) (w : World) (hl : s.length ≤ 1000000000) (hT : Tabs w) :
    Calls Tryd.prog 47 #[.func (.func g) #[] #[], .string (strB s)] w fun e w' => e = .returned (.string (strB (Lib.mapD f s))) ∧ Below w.heap.size w w' :=
  Tryd.strings_Map_grows g #[] eg f (strB s) w (by rw [strB_size]; omega) (fun W x hx hb => (hp (x : Int) (by omega) (by omega) W).mono fun e w' h => ⟨h.1, below_eq h.2⟩) hf hT
theorem foldI_small (x : Nat) (h : x ≤ 1114111) : -2147483648 ≤ foldI (x : Int) ∧ foldI (x : Int) ≤ 2147483647 := by
  unfold foldI
  split <;> omega
theorem capI_small (x : Nat) (h : x ≤ 1114111) : -2147483648 ≤ capI (x : Int) ∧ capI (x : Int) ≤ 2147483647 := by
  unfold capI
  split <;> omega
set_option maxHeartbeats 1600000 in
theorem local_c (s : List UInt8) (w : World) (hl : s.length ≤ 1000000000) (hT : Tabs w) : Calls Tryd.prog 15 #[.string (strB s)] w (GivesSE w (localI s)) := by
  have SZ := sized_c s w hl hT
  have ef : ∀ args w, (callFunc 48 args).run Tryd.prog w = .ok (.enter 48 args) w := enters_of Tryd.func48 (by kernel_rfl) rfl
  have ep : ∀ args w, (callFunc 50 args).run Tryd.prog w = .ok (.enter 50 args) w := enters_of Tryd.func50 (by kernel_rfl) rfl
  have M := fun w1 (hb : Below w.heap.size w w1) => map_c 48 foldI ef (fun r h0 h1 W => fold_c r h0 h1 W) foldI_small s w1 hl (hT.below hb)
  have A := fun w1 => all_p 50 lttI ep (fun r h0 h1 W => local_p r h0 h1 W) (Lib.mapD foldI s) w1
  have hI : localI s = if sizedI s ≠ 0 then ([], sizedI s) else if allD lttI (Lib.mapD foldI s) = true then (Lib.mapD foldI s, 0) else ([], 4) := rfl
  have hc := sizedI_cases s
  generalize localI s = I at *
  generalize Lib.mapD foldI s = t at *
  generalize allD lttI t = b at *
  clear ef ep
  generalize sizedI s = z at *
  generalize strB s = S at *
  rcases hc with rfl | rfl | rfl
  · rw [if_neg (by simp)] at hI
    cases b
    · rw [if_neg (by simp)] at hI
      subst hI
      go_enter Tryd.func15, Tryd.ntmps15
      have ta0 : True := trivial
      go_wp2_with (first
        | (have _t := ta0; go_at_call 46; refine SZ.mono ?_; rintro e w1 ⟨rfl, hb1⟩; clear ta0; have ta1 : True := trivial)
        | (have _t := ta1; go_at_call 47; refine (M _ hb1).mono ?_; rintro e w2 ⟨rfl, hb2⟩; clear ta1; have ta2 : True := trivial)
        | (have _t := ta2; go_at_call 49; refine (A _).mono ?_; rintro e w3 ⟨rfl, hb3⟩; clear ta2; have ta3 : True := trivial))
      go_ret2
      exact ⟨rfl, below_below (below_below hb1 hb2) hb3⟩
    · rw [if_pos rfl] at hI
      subst hI
      go_enter Tryd.func15, Tryd.ntmps15
      have tb0 : True := trivial
      go_wp2_with (first
        | (have _t := tb0; go_at_call 46; refine SZ.mono ?_; rintro e w1 ⟨rfl, hb1⟩; clear tb0; have tb1 : True := trivial)
        | (have _t := tb1; go_at_call 47; refine (M _ hb1).mono ?_; rintro e w2 ⟨rfl, hb2⟩; clear tb1; have tb2 : True := trivial)
        | (have _t := tb2; go_at_call 49; refine (A _).mono ?_; rintro e w3 ⟨rfl, hb3⟩; clear tb2; have tb3 : True := trivial))
      go_ret2
      exact ⟨rfl, below_below (below_below hb1 hb2) hb3⟩
  · rw [if_pos (by omega)] at hI
    subst hI
    go_enter Tryd.func15, Tryd.ntmps15
    go_wp2_with (go_at_call 46; refine SZ.mono ?_; rintro e w1 ⟨rfl, hb1⟩)
    go_ret2
    exact ⟨rfl, hb1⟩
  · rw [if_pos (by omega)] at hI
    subst hI
    go_enter Tryd.func15, Tryd.ntmps15
    go_wp2_with (go_at_call 46; refine SZ.mono ?_; rintro e w1 ⟨rfl, hb1⟩)
    go_ret2
    exact ⟨rfl, hb1⟩
set_option maxHeartbeats 1600000 in
theorem resource_c (s : List UInt8) (w : World) (hl : s.length ≤ 1000000000) (hT : Tabs w) : Calls Tryd.prog 40 #[.string (strB s)] w (GivesSE w (resI s)) := by
  have SZ := sized_c s w hl hT
  have ep : ∀ args w, (callFunc 88 args).run Tryd.prog w = .ok (.enter 88 args) w := enters_of Tryd.func88 (by kernel_rfl) rfl
  have A := fun w1 => all_p 88 visI ep (fun r h0 h1 W => vis_p r h0 h1 W) s w1
  have hI : resI s = if sizedI s ≠ 0 then ([], sizedI s) else if allD visI s = true then (s, 0) else ([], 4) := rfl
  have hc := sizedI_cases s
  generalize resI s = I at *
  generalize allD visI s = b at *
  clear ep
  generalize sizedI s = z at *
  obtain ⟨S, hS⟩ : ∃ S, S = strB s := ⟨_, rfl⟩
  rw [← hS] at SZ A ⊢
  replace hS := Go.Lib.hid hS
  rcases hc with rfl | rfl | rfl
  · rw [if_neg (by simp)] at hI
    cases b
    · rw [if_neg (by simp)] at hI
      subst hI
      go_enter Tryd.func40, Tryd.ntmps40
      have ta0 : True := trivial
      go_wp2_with (first
        | (have _t := ta0; go_at_call 46; refine SZ.mono ?_; rintro e w1 ⟨rfl, hb1⟩; clear ta0; have ta1 : True := trivial)
        | (have _t := ta1; go_at_call 49; refine (A _).mono ?_; rintro e w3 ⟨rfl, hb3⟩; clear ta1; have ta2 : True := trivial))
      go_ret2
      exact ⟨rfl, below_below hb1 hb3⟩
    · rw [if_pos rfl] at hI
      subst hI
      go_enter Tryd.func40, Tryd.ntmps40
      have tb0 : True := trivial
      go_wp2_with (first
        | (have _t := tb0; go_at_call 46; refine SZ.mono ?_; rintro e w1 ⟨rfl, hb1⟩; clear tb0; have tb1 : True := trivial)
        | (have _t := tb1; go_at_call 49; refine (A _).mono ?_; rintro e w3 ⟨rfl, hb3⟩; clear tb1; have tb2 : True := trivial))
      go_ret2
      rw [hS.out]
      exact ⟨rfl, below_below hb1 hb3⟩
  · rw [if_pos (by omega)] at hI
    subst hI
    go_enter Tryd.func40, Tryd.ntmps40
    go_wp2_with (go_at_call 46; refine SZ.mono ?_; rintro e w1 ⟨rfl, hb1⟩)
    go_ret2
    exact ⟨rfl, hb1⟩
  · rw [if_pos (by omega)] at hI
    subst hI
    go_enter Tryd.func40, Tryd.ntmps40
    go_wp2_with (go_at_call 46; refine SZ.mono ?_; rintro e w1 ⟨rfl, hb1⟩)
    go_ret2
    exact ⟨rfl, hb1⟩
end Go.Proofs.YtfnlcnjflloecaaDoor
