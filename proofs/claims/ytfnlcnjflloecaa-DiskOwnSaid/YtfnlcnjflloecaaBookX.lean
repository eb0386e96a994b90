/- A Book is closed: what that may turn. A Loan's list is none of the blocks that it leaves alone. -/
import Derived.Test.YtfnlcnjflloecaaKeepX
import Derived.Test.YtfnlcnjflloecaaBack2
set_option linter.unusedVariables false
set_option linter.unusedSimpArgs false
namespace Go.Proofs.Ytfnlcnjflloecaa
open Go.RowKit
def K1 (w : World) (S : Nat → Prop) (p : Nat) (vB vW : Value) (N : Int) (bs : List Kept) (i : Value) (wr : World) : Prop :=
  ∃ j : Nat, j ≤ bs.length ∧ i = .int .i64 j ∧ Blk wr p 37 [vB, vW, .slice none 0 0, .slice none 0 0, .int .i64 N] ∧ OwnV wr (p + 1) vB (bs.map (·.v)) ∧ Chg S w wr ∧
    ∀ i e, bs[i]? = some e → ∃ l', Own8 wr (p + 1) 5 e.v l' ∧ l'.length = e.l.length ∧ (i < j → l' = mk i e.l.length 0)
def K3 (w : World) (S : Nat → Prop) (p : Nat) (vB vW : Value) (N : Int) (vs : List Value) (i : Value) (wr : World) : Prop :=
  ∃ (j : Nat) (vO : Value) (us : List Value), j ≤ vs.length ∧ i = .int .i64 j ∧ us.length = j ∧ CAt wr p vB vW vO (.slice none 0 0) N vs us [] ∧ Chg S w wr ∧ ∀ g, vO.ownBlock = some g → w.heap.size ≤ g
def K5 (w : World) (S : Nat → Prop) (p : Nat) (vB vW vO : Value) (N : Int) (vs us : List Value) (i : Value) (wr : World) : Prop :=
  ∃ (j : Nat) (vM : Value) (ms : List Value), j ≤ vs.length ∧ i = .int .i64 j ∧ ms.length = j ∧ CAt wr p vB vW vO vM N vs us ms ∧ Chg S w wr ∧ ∀ g, vM.ownBlock = some g → w.heap.size ≤ g
set_option maxRecDepth 100000 in
set_option maxHeartbeats 1600000 in
theorem closeX_c (w : World) (B p : Nat) (S : Nat → Prop) (bs : List Kept) (h : BookAt w B p S bs) (hn : bs.length ≤ 1000) :
    Calls Try.prog 42 #[.pointer (some ⟨p, 0, none⟩)] w fun e w' => e = .returned (.bool true) ∧ Chg S w w' := by
  obtain ⟨vB, vW, N, tg, hBp, hN, hp, hF, hW, htB, htW, hes, hSp, hSB, hSW, hSe, hSl⟩ := h
  replace hSe := Go.Lib.hid hSe
  clear hSB hSW hSl htW hW
  have hpl := hp.lt
  obtain ⟨AF, cF, rfl, hAF⟩ := hF.form
  rw [List.length_map] at *
  go_enter Try.func42, Try.ntmps42
  go_wp2_with fail
  go_loopw [3] (fun i wr => K1 w S p (.slice AF bs.length cF) vW N bs i wr) (fun i _ => bs.length - (intOf i).toNat)
  case atStart => exact ⟨0, by omega, rfl, hp, hF, Chg.refl _ _, fun i e he => ⟨e.l, (hes i e he).1, rfl, fun h => by omega⟩⟩
  case round =>
    obtain ⟨j, hj, rfl, hpr, hFr, hbr, hls⟩ := hrel
    have c0 : _ = some _ := hpr.cell 0
    by_cases hlt : j < bs.length
    · have q1 : (j : Int) < bs.length := by omega
      have q2 : (0 : Int) ≤ j := by omega
      obtain ⟨gF, rfl⟩ := hAF (by omega)
      obtain ⟨e, he⟩ : ∃ e, bs[j]? = some e := ⟨bs[j], List.getElem?_eq_getElem hlt⟩
      have jf : (bs.map (·.v))[j]? = some e.v := by rw [List.getElem?_map, he]; rfl
      obtain ⟨l0, k1, k2, _⟩ := hls j e he
      obtain ⟨_, _, k3, k4, _⟩ := hes j e he
      have hapF : ∀ g, e.v.ownBlock = some g → p + 1 ≤ g ∧ (Value.slice (some ⟨gF, 0, none⟩) bs.length cF).ownBlock ≠ some g := fun g hg => ⟨k1.base_le g hg, fun e' => by have a := k4 g hg; have b := htB g e'; simp only at a b; omega⟩
      have hoth : ∀ i e', bs[i]? = some e' → i ≠ j → ∀ g, e'.v.ownBlock = some g → e.v.ownBlock ≠ some g := fun i e' he' hne g hg hg' => by
        have a := (hes i e' he').2.2.2.1 g hg; have b := k4 g hg'; simp only at a b; omega
      replace hls := Go.Lib.hid hls
      replace hes := Go.Lib.hid hes
      have hee := Go.Lib.hid he
      clear he k4
      generalize hvfe : e.v = vf at *
      generalize hlel : e.l.length = n at *
      replace hvfe := Go.Lib.hid hvfe
      replace hlel := Go.Lib.hid hlel
      go_wp2_with fail
      go_loopw [4] (fun k wr' => L2 wr (p + 1) vf n j k wr') (fun k _ => n - (intOf k).toNat)
      case atStart => exact ⟨0, l0, by omega, rfl, k2, k1, rfl, Chg.refl _ _⟩
      case round =>
        obtain ⟨x, l', hx, rfl, hl', hown, htk, hci⟩ := hrel
        have hpm := hpr.chg hci (fun hm => by have := (hapF p hm).1; omega)
        have hFm := hFr.chg hci (fun g hg hm => (hapF g hm).2 hg)
        have c0 : _ = some _ := hpm.cell 0
        have cf : _ = some _ := hFm.cell j vf jf
        by_cases hml : x < n
        · have q3 : (x : Int) < n := by omega
          have q4 : (0 : Int) ≤ x := by omega
          have r1 : Int.tmod (j : Int) 125 = ((j % 125 : Nat) : Int) := by rw [Int.tmod_eq_emod_of_nonneg q2]; omega
          obtain ⟨g, cap, hvf, hge, hgl⟩ := hown.open (by omega)
          rw [hl'] at hvf
          have hcap : n ≤ cap := by obtain ⟨A', c', e', h1, h2, _⟩ := hown.rd.open; rw [hvf, hl'] at e'; cases e'; omega
          subst hvf
          have cm : _ = some _ := hown.cell x (by omega)
          have fm := hown.frozen x (by omega)
          have st := hown.stored x (by omega) (ma j)
          rw [ma_nat] at st
          replace hl' := Go.Lib.hid hl'
          replace htk := Go.Lib.hid htk
          go_wp2_with fail
          refine ⟨⟨x + 1, l'.set x (ma j), by omega, by go_num, by rw [List.length_set]; exact hl'.out, st, rep_set l' x _ (by rw [hl'.out]; omega) htk.out, ?_⟩, by simp [intOf]; omega⟩
          exact hci.chg_trans (Chg.setCell _ _ _) (fun k hk => .inr (by cases hk; rfl))
        · have q3 : ¬ (x : Int) < n := by omega
          obtain ⟨A', c', e', h1, h2, _⟩ := hown.rd.open
          rw [hl'] at e'
          subst e'
          replace hl' := Go.Lib.hid hl'
          replace htk := Go.Lib.hid htk
          go_wp2_with fail
          refine ⟨⟨j + 1, by omega, by go_num, hpm, hFm, ?_, fun i e' he' => ?_⟩, by simp [intOf]; omega⟩
          · exact hbr.chg_trans hci (fun k hk => .inr ((hSe.out e (List.mem_of_getElem? hee.out)).1 k (by rw [hvfe.out]; exact hk)))
          · by_cases hij : i = j
            · subst hij
              rw [hee.out] at he'
              cases he'
              refine ⟨l', by rw [hvfe.out]; exact hown, by rw [hlel.out]; exact hl'.out, fun _ => ?_⟩
              have : x = n := by omega
              subst this
              rw [hlel.out, mk_zero, ← htk.out, List.take_of_length_le (by rw [hl'.out]; omega)]
            · obtain ⟨l2, a1, a2, a3⟩ := hls.out i e' he'
              exact ⟨l2, a1.chg hci (fun g hg hm => hoth i e' he' hij g hg hm), a2, fun h => a3 (by omega)⟩
    · have q1 : ¬ (j : Int) < bs.length := by omega
      have hC : CAt wr p (.slice AF bs.length cF) vW (.slice none 0 0) (.slice none 0 0) N (bs.map (·.v)) [] [] := by
        refine ⟨tg, hpr, hFr, World.ownsRow_nil _ _ _ _, World.ownsRow_nil _ _ _ _, htB, fun g hg => (by cases hg), fun g hg => (by cases hg), fun i v hv => ?_⟩
        rw [List.getElem?_map] at hv
        obtain ⟨e, he, rfl⟩ := Option.map_eq_some_iff.1 hv
        have hi := (List.getElem?_eq_some_iff.1 he).1
        obtain ⟨l2, a1, a2, a3⟩ := hls i e he
        have := a3 (by omega)
        subst this
        exact ⟨e.l.length, (hes i e he).2.2.1, a1, (hes i e he).2.2.2.1, fun u hu => (by simp at hu), fun u hu => (by simp at hu)⟩
      clear hls hes hpr hFr hp hF htB
      have hvS : ∀ v ∈ bs.map (·.v), In S v := fun v hv => by
        obtain ⟨e, he, rfl⟩ := List.mem_map.1 hv
        exact (hSe.out e he).1
      replace hvS := Go.Lib.hid hvS
      clear hSe
      have hK : (bs.map (·.v)).length = bs.length := List.length_map _
      generalize bs.map (·.v) = vs at *
      generalize bs.length = K at *
      subst hK
      go_wp2_with fail
      clear c0 q1 hj
      go_loopw [5] (fun i wr' => K3 w S p (.slice AF vs.length cF) vW N vs i wr') (fun i _ => vs.length - (intOf i).toNat)
      case atStart => exact ⟨0, _, [], by omega, rfl, rfl, hC, hbr, fun g hg => (by cases hg)⟩
      clear hC hbr
      case round =>
        obtain ⟨j, vO, us, hj, rfl, hul, ⟨tg, hpr, hFr, hOr, hMr, tB, tO, tM, hen⟩, hbr, hfr⟩ := hrel
        have c0 : _ = some _ := hpr.cell 0
        replace hul := Go.Lib.hid hul
        by_cases hlt : j < vs.length
        · have q1 : (j : Int) < vs.length := by omega
          have q2 : (0 : Int) ≤ j := by omega
          obtain ⟨gF, rfl⟩ := hAF (by omega)
          obtain ⟨v, hv⟩ : ∃ v, vs[j]? = some v := ⟨vs[j], List.getElem?_eq_getElem hlt⟩
          have cf : _ = some _ := hFr.cell j v hv
          obtain ⟨n, hn1, k1, k2, _, _⟩ := hen j v hv
          replace hen := Go.Lib.hid hen
          replace hv := Go.Lib.hid hv
          have r1 : Int.tmod (j : Int) 125 = ((j % 125 : Nat) : Int) := by rw [Int.tmod_eq_emod_of_nonneg q2]; omega
          have hpz := hpr.lt
          go_wp2_with fail
          obtain ⟨w1, e1⟩ : ∃ w1, w1 = wr := ⟨_, rfl⟩
          subst e1
          go_loopw [6, 7] (fun u k wr => L4 w1 (p + 1) v n j u k wr) (fun _ k _ => 16 - (intOf k).toNat)
          case atStart => exact ⟨0, by omega, rfl, k1, k1, .inl rfl, Chg.refl _ _⟩
          case round =>
            obtain ⟨x, hx, rfl, hou, hov, hpl, hci⟩ := hrel
            have hsz : p + 1 ≤ wr.heap.size := by have := hci.size; omega
            by_cases hx16 : x < 16
            · have q3 : (x : Int) < 16 := by omega
              have hA : Below wr.heap.size wr (wr.alloc (.cells #[.int .u8 ((125 + j % 125 : Nat) : Int)] 5)) := (Below.refl _ _).alloc (Nat.le_refl _) _
              have hLit : Rd (wr.alloc (.cells #[.int .u8 ((125 + j % 125 : Nat) : Int)] 5)) (.slice (some ⟨wr.heap.size, 0, none⟩) 1 1) [mb j] := Rd.lit _ _ _ [mb j] (by simp [bvs, bv, mb_nat]) rfl (by simp) (by decide)
              have houA := hou.below hA
              have tok0 : True := trivial
              go_wp2_with (first
                | (have _t := tok0; at_builtin; refine wpList_app8k rfl _ _ rfl st8 (by with_unfolding_all (conv => lhs; whnf)) houA rfl (Rd.src hLit Try.underlying38) (by simp; omega) (by simp; omega) ?_; intro u2 w2 hap; clear tok0; have tok1 : True := trivial))
              have hz2 := hap.grown.size
              have hzA : (wr.alloc (.cells #[.int .u8 ((125 + j % 125 : Nat) : Int)] 5)).heap.size = wr.heap.size + 1 := by simp
              have hz1 := hci.size
              refine ⟨⟨x + 1, by omega, by go_num, by have := hap.own; rwa [mk_succ] at this, hap.other houA (hov.below hA) (fun _ => by rw [mk_succ]; exact ⟨by simp, mk_pre _ _ _ _ (by omega)⟩), ?_, ?_⟩, by simp [intOf]; omega⟩
              · rcases hap.place with h | ⟨h, _⟩
                · rw [h]; exact hpl
                · exact .inr (fun g hg => by rw [h] at hg; cases hg; exact Nat.le_trans hz1 hA.size)
              · refine Chg.chg_trans (hci.below_trans hA) (Chg.grown' hap.grown) (fun k hk => ?_)
                rcases hpl with h | h
                · exact .inr (by rw [← h]; exact hk)
                · exact .inl (h k hk)
            · have q3 : ¬ (x : Int) < 16 := by omega
              obtain rfl : x = 16 := by omega
              have hpm := hpr.chg hci (fun hm => by have := k1.base_le p hm; omega)
              have hOm := hOr.chg hci (fun g hg hm => by have a := tO g hg; have b := k2 g hm; simp only at a b; omega)
              have c2 : _ = some _ := hpm.cell 2
              obtain ⟨Au, cu, eu, _, _, _⟩ := hou.rd.open
              obtain ⟨L, hL⟩ : ∃ L, L = (mk j n 16).length := ⟨_, rfl⟩
              rw [← hL] at eu
              replace hL := Go.Lib.hid hL
              subst eu
              have tok0 : True := trivial
              go_wp2_with (first
                | (have _t := tok0; at_builtin; refine wpList_appL rfl _ _ rfl (by with_unfolding_all (conv => lhs; whnf)) (hOm.below ((Below.refl wr.heap.size wr).alloc (Nat.le_refl _) (.cells #[.slice Au L cu] 38))) rfl (RdW.lit1 wr _ _ _) (own_one hou) (by rw [hul.out]; omega) (by simp; omega) ?_; intro v3 w3 ho3 hg3 hb3; have hp3 := (hpm.below ((Below.refl wr.heap.size wr).alloc (Nat.le_refl _) (.cells #[.slice Au L cu] 38))).grown hg3 (fun e => by have := hOm.base_le p e.symm; omega); have f3 := hp3.frozen 2; have k3 : _ = some vO := hp3.cell 2; obtain ⟨g3, cp3, e3, hg3a, hg3b⟩ := ho3.open (by simp); obtain ⟨n3, hn3⟩ : ∃ n3, n3 = (us ++ [Value.slice Au L cu]).length := ⟨_, rfl⟩; rw [← hn3] at e3; replace hn3 := Go.Lib.hid hn3; subst e3; clear tok0; have tok1 : True := trivial))
              have hz1 := hci.size
              have hzA : (wr.alloc (.cells #[.slice Au L cu] 38)).heap.size = wr.heap.size + 1 := by simp
              have hz3 := hg3.size
              have hpl1 : p < w1.heap.size := hpz
              have hset := Chg.setCell w3 ⟨p, 2, none⟩ (.slice (some ⟨g3, 0, none⟩) n3 cp3)
              have hch0 : Chg (fun k => v.ownBlock = some k ∨ vO.ownBlock = some k) w1 w3 := by
                refine Chg.chg_trans ((hci.mono (fun k hk => .inl hk)).below_trans ((Below.refl wr.heap.size wr).alloc (Nat.le_refl _) _)) (Chg.grown hg3 (M := fun k => vO.ownBlock = some k) (fun k hk => hk)) (fun k hk => .inr (.inr hk))
              have hch : Chg (fun k => k = p ∨ v.ownBlock = some k ∨ vO.ownBlock = some k) w1 (w3.setCell ⟨p, 2, none⟩ (.slice (some ⟨g3, 0, none⟩) n3 cp3)) :=
                Chg.chg_trans (hch0.mono (fun k hk => .inr hk)) hset (fun k hk => .inr (.inl hk))
              have uOlt : ∀ g, (Value.slice Au L cu).ownBlock = some g → (g < w1.heap.size → v.ownBlock = some g) ∧ p + 1 ≤ g ∧ g < wr.heap.size := fun g hg => ⟨fun hlt => by
                rcases hpl with h | h
                · rw [← h]; exact hg
                · have := h g hg; omega, hou.base_le g hg, hou.lt g hg⟩
              have g3p : p + 1 ≤ g3 := ho3.base_le g3 rfl
              have uO : ∀ g, (Value.slice Au L cu).ownBlock = some g → vO.ownBlock ≠ some g := fun g hg e => by
                have h1 := hOr.lt g e
                have a := tO g e
                have b := k2 g ((uOlt g hg).1 h1)
                simp only at a b; omega
              have u3 : (Value.slice Au L cu).ownBlock ≠ some g3 := fun e => by
                rcases hb3 with h | h
                · exact uO g3 e h.symm
                · have h' : some g3 = some _ := h
                  rw [hzA] at h'
                  cases h'
                  have := (uOlt _ e).2.2; omega
              have kept : ∀ {z : Value} {m : List UInt8}, Own8 wr (p + 1) 5 z m → (∀ g, z.ownBlock = some g → vO.ownBlock ≠ some g) → Own8 (w3.setCell ⟨p, 2, none⟩ (.slice (some ⟨g3, 0, none⟩) n3 cp3)) (p + 1) 5 z m := fun h hne =>
                ((h.below ((Below.refl wr.heap.size wr).alloc (Nat.le_refl _) _)).chg (Chg.grown hg3 (M := fun k => vO.ownBlock = some k) (fun k hk => hk)) (fun g hg => hne g hg)).chg hset (fun g hg e => by have := h.base_le g hg; have e' : g = p := e; omega)
              refine ⟨⟨j + 1, .slice (some ⟨g3, 0, none⟩) n3 cp3, us ++ [.slice Au L cu], by omega, by go_num, by rw [List.length_append, hul.out]; rfl, ?_, ?_⟩, by simp [intOf]; omega⟩
              · refine CAt.put (j := j) hFr tB hen.out hch ?_ (hp3.stored 2 _) ?_ (World.ownsRow_nil _ _ _ _) ?_ (fun g hg => by cases hg) (fun g _ hg => by cases hg) ?_ ?_
                · intro k hk
                  rcases hk with h | h | h
                  · exact .inl h
                  · exact .inr (.inr (.inr (k2 k h)))
                  · exact .inr (.inl (tO k h))
                · exact ho3.chg hset (fun g hg e => by cases hg; have e' : g3 = p := e; omega)
                · intro g hg hlt
                  have hgg : g3 = g := Option.some.inj hg
                  subst hgg
                  have hlt' : g3 < w1.heap.size := hlt
                  rcases hb3 with h | h
                  · exact tO g3 h.symm
                  · have h' : some g3 = some _ := h
                    rw [hzA] at h'
                    have := Option.some.inj h'; omega
                · intro i hij
                  refine ⟨?_, rfl⟩
                  rw [List.getElem?_append, hul.out]
                  split
                  · rfl
                  · rw [List.getElem?_eq_none (by rw [List.length_singleton]; omega), List.getElem?_eq_none (by rw [hul.out]; omega)]
                · intro v' hv'
                  rw [hv.out] at hv'
                  cases hv'
                  refine ⟨n, hn1, kept hov (fun g hg e => ?_), fun g hg => ⟨k1.lt g hg, k2 g hg⟩, fun u hu => ?_, fun u hu => by simp at hu⟩
                  · have a := tO g e; have b := k2 g hg; simp only at a b; omega
                  · rw [List.getElem?_append_right (by rw [hul.out]; omega), hul.out, Nat.sub_self] at hu
                    cases hu
                    exact ⟨kept hou uO, fun g hg => ⟨fun hlt => k2 g ((uOlt g hg).1 hlt), fun e => by cases e; exact u3 hg, fun e => by cases e⟩⟩
              · refine ⟨hbr.chg_trans hch (fun k hk => ?_), fun g hg => ?_⟩
                · rcases hk with h | h | h
                  · exact .inr (by rw [h]; exact hSp)
                  · exact .inr (hvS.out v (List.mem_of_getElem? hv.out) k h)
                  · exact .inl (hfr k h)
                · have hgg : g3 = g := Option.some.inj hg
                  subst hgg
                  have := hbr.size
                  rcases hb3 with h | h
                  · exact hfr g3 h.symm
                  · have h' : some g3 = some _ := h
                    rw [hzA] at h'
                    have := Option.some.inj h'; omega
        · have q1 : ¬ (j : Int) < vs.length := by omega
          obtain rfl : j = vs.length := by omega
          have c2 : _ = some vO := hpr.cell 2
          have LK := look_c wr (p + 1) p (.slice AF vs.length cF) vW vO (.slice none 0 0) _ vO vs us hpr hFr hOr hul.out (by omega) (fun i v u hv hu => by
            obtain ⟨n, h1, h2, _, h4, _⟩ := hen i v hv
            exact ⟨n, 16, h2, (h4 u hu).1, h1, by omega⟩)
          have hC : CAt wr p (.slice AF vs.length cF) vW vO (.slice none 0 0) N vs us [] := ⟨tg, hpr, hFr, hOr, hMr, tB, tO, tM, hen⟩
          clear hen hpr hFr hOr hMr tB tO tM
          have tok0 : True := trivial
          go_wp2_with (first
            | (have _t := tok0; go_at_call 51; refine LK.mono ?_; rintro e wz ⟨rfl, rfl⟩; clear tok0; have tok1 : True := trivial))
          clear c0 c2 q1 LK hj
          go_loopw [8] (fun i wr => K5 w S p (.slice AF vs.length cF) vW vO N vs us i wr) (fun i _ => vs.length - (intOf i).toNat)
          case atStart => exact ⟨0, _, [], by omega, rfl, rfl, hC, hbr, fun g hg => (by cases hg)⟩
          clear hC hbr
          case round =>
            obtain ⟨j, vM, ms, hj, rfl, hml, ⟨tg, hpr, hFr, hOr, hMr, tB, tO, tM, hen⟩, hbr, hfr⟩ := hrel
            have c0 : _ = some _ := hpr.cell 0
            replace hml := Go.Lib.hid hml
            by_cases hlt : j < vs.length
            · have q1 : (j : Int) < vs.length := by omega
              have q2 : (0 : Int) ≤ j := by omega
              obtain ⟨gF, rfl⟩ := hAF (by omega)
              obtain ⟨v, hv⟩ : ∃ v, vs[j]? = some v := ⟨vs[j], List.getElem?_eq_getElem hlt⟩
              obtain ⟨u, hu⟩ : ∃ u, us[j]? = some u := ⟨us[j]'(by rw [hul.out]; exact hlt), List.getElem?_eq_getElem _⟩
              have cf : _ = some _ := hFr.cell j v hv
              obtain ⟨n, hn1, k1, k2, k3, _⟩ := hen j v hv
              obtain ⟨k3, k4⟩ := k3 u hu
              replace hen := Go.Lib.hid hen
              replace hv := Go.Lib.hid hv
              replace hu := Go.Lib.hid hu
              have r1 : Int.tmod (j : Int) 125 = ((j % 125 : Nat) : Int) := by rw [Int.tmod_eq_emod_of_nonneg q2]; omega
              have hpz := hpr.lt
              obtain ⟨w1, e1⟩ : ∃ w1, w1 = wr := ⟨_, rfl⟩
              subst e1
              go_wp2_with fail
              go_loopw [9, 10] (fun m k wr => L6 w1 j m k wr) (fun _ k _ => 700 - (intOf k).toNat)
              case atStart => exact ⟨0, by omega, rfl, Own8.nil _ _ _, Below.refl _ _⟩
              case round =>
                obtain ⟨x, hx, rfl, hmo, hbm⟩ := hrel
                have hz1 := hbm.size
                by_cases hx7 : x < 700
                · have q3 : (x : Int) < 700 := by omega
                  have hA : Below wr.heap.size wr (wr.alloc (.cells #[.int .u8 ((125 + j % 125 : Nat) : Int)] 5)) := (Below.refl _ _).alloc (Nat.le_refl _) _
                  have hLit : Rd (wr.alloc (.cells #[.int .u8 ((125 + j % 125 : Nat) : Int)] 5)) (.slice (some ⟨wr.heap.size, 0, none⟩) 1 1) [mb j] := Rd.lit _ _ _ [mb j] (by simp [bvs, bv, mb_nat]) rfl (by simp) (by decide)
                  have hmA := hmo.below hA
                  have tok0 : True := trivial
                  go_wp2_with (first
                    | (have _t := tok0; at_builtin; refine wpList_app8k rfl _ _ rfl st8 (by with_unfolding_all (conv => lhs; whnf)) hmA rfl (Rd.src hLit Try.underlying38) (by rw [mbs_len]; simp; omega) (by simp; omega) ?_; intro u2 w2 hap; clear tok0; have tok1 : True := trivial))
                  refine ⟨⟨x + 1, by omega, by go_num, by have := hap.own; rwa [mbs_succ] at this, ?_⟩, by simp [intOf]; omega⟩
                  refine (hbm.trans (hA.mono hz1)).trans ((Chg.grown' hap.grown).below (Nat.le_trans hz1 hA.size) (fun k hk => hmo.base_le k hk))
                · have q3 : ¬ (x : Int) < 700 := by omega
                  obtain rfl : x = 700 := by omega
                  have hpm := hpr.below hbm
                  have hFm := hFr.below hbm
                  have vlt : ∀ g, v.ownBlock = some g → p + 1 ≤ g ∧ g < w1.heap.size ∧ tg g = 3 + j := fun g hg => ⟨k1.base_le g hg, k1.lt g hg, k2 g hg⟩
                  have ult : ∀ g, u.ownBlock = some g → p + 1 ≤ g ∧ g < w1.heap.size ∧ tg g = 3 + j := fun g hg => ⟨k3.base_le g hg, k3.lt g hg, k4 g hg⟩
                  have Mlt : ∀ g, vM.ownBlock = some g → p + 1 ≤ g ∧ g < w1.heap.size ∧ tg g = 2 := fun g hg => ⟨hMr.base_le g hg, hMr.lt g hg, tM g hg⟩
                  have Olt : ∀ g, vO.ownBlock = some g → p + 1 ≤ g ∧ g < w1.heap.size ∧ tg g = 1 := fun g hg => ⟨hOr.base_le g hg, hOr.lt g hg, tO g hg⟩
                  have Flt : ∀ g, (Value.slice (some ⟨gF, 0, none⟩) vs.length cF).ownBlock = some g → p + 1 ≤ g ∧ g < w1.heap.size ∧ tg g = 0 := fun g hg => ⟨hFr.base_le g hg, hFr.lt g hg, tB g hg⟩
                  have avM : ap v vM := fun g h1 h2 => by have := vlt g h1; have := Mlt g h2; omega
                  have auM : ap u vM := fun g h1 h2 => by have := ult g h1; have := Mlt g h2; omega
                  have hS : manyS (p + 1) v u vM ms j n (fun k => vM.ownBlock = some k ∨ v.ownBlock = some k) wr := ⟨hMr.below hbm, k1.below hbm, fun _ => k3.below hbm, fun g hg => .inl hg, fun g hg => .inr hg⟩
                  obtain ⟨Am, cm, em, _, _, _⟩ := hmo.rd.open
                  obtain ⟨L, hL⟩ : ∃ L, L = (mbs j 700).length := ⟨_, rfl⟩
                  rw [← hL] at em
                  replace hL := Go.Lib.hid hL
                  subst em
                  have hmr := hmo.rd
                  have hmlt : ∀ g, (Value.slice Am L cm).ownBlock = some g → ¬ (vM.ownBlock = some g ∨ v.ownBlock = some g) := fun g hg h => by
                    have := hmo.base_le g hg
                    rcases h with h | h
                    · have := Mlt g h; omega
                    · have := vlt g h; omega
                  have hpM : ¬ (vM.ownBlock = some p ∨ v.ownBlock = some p) := fun h => by
                    rcases h with h | h
                    · have := Mlt p h; omega
                    · have := vlt p h; omega
                  have hFM : ∀ g, (Value.slice (some ⟨gF, 0, none⟩) vs.length cF).ownBlock = some g → ¬ (vM.ownBlock = some g ∨ v.ownBlock = some g) := fun g hg h => by
                    have := Flt g hg
                    rcases h with h | h
                    · have := Mlt g h; omega
                    · have := vlt g h; omega
                  go_wp2_with fail
                  refine O.region_making 18 (fun | 13 => [100] | 14 => [13] | 15 => [14] | _ => []) (fun | 13 => some fun _ => manyX (p + 1) wr.heap.size v u vM ms j n | 14 => some fun _ => manyL (p + 1) wr.heap.size v u vM ms j n | 15 => some fun _ => manyR (p + 1) wr.heap.size v u vM ms j n | _ => none) 13 100 (fun k => vM.ownBlock = some k ∨ v.ownBlock = some k) (manyS (p + 1) v u vM ms j n) (by kernel_rfl) (by kernel_rfl) ?_ ?_ ?_ ?_ ?_
                  · intro i' S' h' e v'
                    match i', h' with
                    | 13, h' => cases h'; exact manyX_loc _ _ _ _ _ _ _ _ _ _ _
                    | 14, h' => cases h'; exact manyL_loc _ _ _ _ _ _ _ _ _ _ _
                    | 15, h' => cases h'; exact manyR_loc _ _ _ _ _ _ _ _ _ _ _
                  · exact manyS_loc _ _ _ _ _ _ _ _ _
                  · exact hS
                  · intro k hk
                    rcases hk with h | h
                    · have := Mlt k h; omega
                    · have := vlt k h; omega
                  simp only [List.take_succ_cons, List.take_zero, List.drop_succ_cons, List.drop_zero]
                  (apply O.wpG_pure; (focus rfl); (focus (intro wg Bg hbg hBg hFg; go_simp; (try go_bits); (first | done | exact ⟨rfl, Below.refl _ _⟩ | rfl))); simp only [Act.put, List.setIfInBounds_toArray, List.set_cons_succ, List.set_cons_zero])
                  (apply O.wpG_pure; (focus rfl); (focus (intro wg Bg hbg hBg hFg; go_simp; (try go_bits); (first | done | exact ⟨rfl, Below.refl _ _⟩ | rfl))); simp only [Act.put, List.setIfInBounds_toArray, List.set_cons_succ, List.set_cons_zero])
                  (apply O.wpG_pure; (focus rfl); (focus (intro wg Bg hbg hBg hFg; go_simp; (try go_bits); (first | done | exact ⟨rfl, Below.refl _ _⟩ | rfl))); simp only [Act.put, List.setIfInBounds_toArray, List.set_cons_succ, List.set_cons_zero])
                  (apply O.wpG_pure; (focus rfl); (focus (intro wg Bg hbg hBg hFg; go_simp; (try go_bits); (first | done | exact ⟨rfl, Below.refl _ _⟩ | rfl))); simp only [Act.put, List.setIfInBounds_toArray, List.set_cons_succ, List.set_cons_zero])
                  (apply O.wpG_pure; (focus rfl); (focus (intro wg Bg hbg hBg hFg; have c3 : _ = some vM := (hpm.drew.chg hbg hpM).cell 3; go_simp; (try go_bits); (first | done | exact ⟨rfl, Below.refl _ _⟩ | rfl))); simp only [Act.put, List.setIfInBounds_toArray, List.set_cons_succ, List.set_cons_zero])
                  (apply O.wpG_pure; (focus rfl); (focus (intro wg Bg hbg hBg hFg; go_simp; (try go_bits); (first | done | exact ⟨rfl, Below.refl _ _⟩ | rfl))); simp only [Act.put, List.setIfInBounds_toArray, List.set_cons_succ, List.set_cons_zero])
                  (apply O.wpG_pure; (focus rfl); (focus (intro wg Bg hbg hBg hFg; go_simp; (try go_bits); (first | done | exact ⟨rfl, Below.refl _ _⟩ | rfl))); simp only [Act.put, List.setIfInBounds_toArray, List.set_cons_succ, List.set_cons_zero])
                  (apply O.wpG_pure; (focus rfl); (focus (intro wg Bg hbg hBg hFg; go_simp; (try go_bits); (first | done | exact ⟨rfl, Below.refl _ _⟩ | rfl))); simp only [Act.put, List.setIfInBounds_toArray, List.set_cons_succ, List.set_cons_zero])
                  (apply O.wpG_pure; (focus rfl); (focus (intro wg Bg hbg hBg hFg; have c0 : _ = some _ := (hpm.drew.chg hbg hpM).cell 0; go_simp; (try go_bits); (first | done | exact ⟨rfl, Below.refl _ _⟩ | rfl))); simp only [Act.put, List.setIfInBounds_toArray, List.set_cons_succ, List.set_cons_zero])
                  (apply O.wpG_pure; (focus rfl); (focus (intro wg Bg hbg hBg hFg; go_simp; (try go_bits); (first | done | exact ⟨rfl, Below.refl _ _⟩ | rfl))); simp only [Act.put, List.setIfInBounds_toArray, List.set_cons_succ, List.set_cons_zero])
                  (apply O.wpG_pure; (focus rfl); (focus (intro wg Bg hbg hBg hFg; go_simp; (try go_bits); (first | done | exact ⟨rfl, Below.refl _ _⟩ | rfl))); simp only [Act.put, List.setIfInBounds_toArray, List.set_cons_succ, List.set_cons_zero])
                  (apply O.wpG_pure; (focus rfl); (focus (intro wg Bg hbg hBg hFg; have cf : _ = some v := (OwnV.chg (w := wr.drew) hFm hbg hFM).cell j v hv.out; go_simp; (try go_bits); (first | done | exact ⟨rfl, Below.refl _ _⟩ | rfl))); simp only [Act.put, List.setIfInBounds_toArray, List.set_cons_succ, List.set_cons_zero])
                  (apply O.wpG_pure; (focus rfl); (focus (intro wg Bg hbg hBg hFg; go_simp; (try go_bits); (first | done | exact ⟨rfl, Below.refl _ _⟩ | rfl))); simp only [Act.put, List.setIfInBounds_toArray, List.set_cons_succ, List.set_cons_zero])
                  apply O.wpG_make; (focus rfl); (focus (intro wg Bg hbg hBg hFg; have hN : manyS (p + 1) v u vM ms j n (Bg 100) wg := hFg 100 (by decide +kernel); have zg := hbg.size; have hN' := manyS_mono hN (B' := fun b => ∃ j ∈ [100], Bg j b) (fun k hk => ⟨100, by simp, hk⟩); exact goesTo_manyX (n0 := wr.heap.size) (by go_simp) _ _ rfl (by with_unfolding_all (conv => lhs; whnf)) hN' (by with_unfolding_all (conv => lhs; whnf)) (hmr.drew.chg hbg hmlt) avM hn1 (Nat.le_trans (Nat.le_trans hpz hz1) zg) zg)); intro va; simp only [Act.put, List.setIfInBounds_toArray, List.set_cons_succ, List.set_cons_zero]
                  apply O.wpG_make; (focus rfl); (focus (intro wg Bg hbg hBg hFg; have hN : manyX (p + 1) wr.heap.size v u vM ms j n va (Bg 13) wg := hFg 13 (by decide +kernel); have hN' := manyX_mono hN (B' := fun b => ∃ j ∈ [13], Bg j b) (fun k hk => ⟨13, by simp, hk⟩); clear hFg hN; obtain ⟨A7, c7, e7, _, _, _⟩ := hN'.2.1.rd.open; subst e7; exact goesTo_manyL (by go_simp) hN' (by go_simp))); intro vb; simp only [Act.put, List.setIfInBounds_toArray, List.set_cons_succ, List.set_cons_zero]
                  apply O.wpG_make; (focus rfl); (focus (intro wg Bg hbg hBg hFg; have hN : manyL (p + 1) wr.heap.size v u vM ms j n vb (Bg 14) wg := hFg 14 (by decide +kernel); have zg := hbg.size; have hN' := manyL_mono hN (B' := fun b => ∃ j ∈ [14], Bg j b) (fun k hk => ⟨14, by simp, hk⟩); exact goesTo_manyR (by go_simp) _ _ rfl (by with_unfolding_all (conv => lhs; whnf)) (by with_unfolding_all (conv => lhs; whnf)) hN' avM (fun _ => auM) (fun g hg => Nat.lt_of_lt_of_le (Mlt g hg).2.1 hz1) (by rw [hml.out]; omega) (Nat.le_trans (Nat.le_trans hpz hz1) zg) zg)); intro vc; simp only [Act.put, List.setIfInBounds_toArray, List.set_cons_succ, List.set_cons_zero]
                  (apply O.wpG_pure; (focus rfl); (focus (intro wg Bg hbg hBg hFg; go_simp; (try go_bits); (first | done | exact ⟨rfl, Below.refl _ _⟩ | rfl))); simp only [Act.put, List.setIfInBounds_toArray, List.set_cons_succ, List.set_cons_zero])
                  (apply O.wpG_pure; (focus rfl); (focus (intro wg Bg hbg hBg hFg; go_simp; (try go_bits); (first | done | exact ⟨rfl, Below.refl _ _⟩ | rfl))); simp only [Act.put, List.setIfInBounds_toArray, List.set_cons_succ, List.set_cons_zero])
                  refine O.wpG_end (fun wg Bg hbg hBg hFg => ?_)
                  have hR : manyR (p + 1) wr.heap.size v u vM ms j n vc (Bg 15) wg := hFg 15
                  clear hFg hBg
                  obtain ⟨y, m1, _, m3, m4, m5, m6, _, m8, _, m10⟩ := hR
                  obtain ⟨g4, cp4, e4, hg4a, hg4b⟩ := m1.open (by simp)
                  obtain ⟨n4, hn4⟩ : ∃ n4, n4 = (ms ++ [y]).length := ⟨_, rfl⟩
                  rw [← hn4] at e4
                  replace hn4 := Go.Lib.hid hn4
                  subst e4
                  have hpg := hpm.drew.chg hbg hpM
                  have f3 := hpg.frozen 3
                  have k33 : _ = some vM := hpg.cell 3
                  go_wp2_with fail
                  have hset := Chg.setCell wg ⟨p, 3, none⟩ (.slice (some ⟨g4, 0, none⟩) n4 cp4)
                  have hch0 : Chg (fun k => vM.ownBlock = some k ∨ v.ownBlock = some k) w1 wg := Chg.chg_trans (Chg.of_below hbm) (show Chg _ wr wg from ⟨hbg.os, hbg.tape, hbg.output, hbg.size, hbg.block⟩) (fun k hk => .inr hk)
                  have hch : Chg (fun k => k = p ∨ vM.ownBlock = some k ∨ v.ownBlock = some k) w1 (wg.setCell ⟨p, 3, none⟩ (.slice (some ⟨g4, 0, none⟩) n4 cp4)) :=
                    Chg.chg_trans (hch0.mono (fun k hk => .inr hk)) hset (fun k hk => .inr (.inl hk))
                  have setk : ∀ {z : Value} {l : List UInt8}, Own8 wg (p + 1) 5 z l → Own8 (wg.setCell ⟨p, 3, none⟩ (.slice (some ⟨g4, 0, none⟩) n4 cp4)) (p + 1) 5 z l := fun h =>
                    h.chg hset (fun g hg e => by have := h.base_le g hg; have e' : g = p := e; omega)
                  have g4o : (vM.ownBlock = some g4 ∨ wr.heap.size ≤ g4) := m3 g4 rfl
                  have yo : ∀ g, y.ownBlock = some g → (v.ownBlock = some g ∨ wr.heap.size ≤ g) := fun g hg => m10 g hg
                  have r4 : ∀ g, (Value.slice (some ⟨g4, 0, none⟩) n4 cp4).ownBlock = some g → g4 = g := fun g hg => Option.some.inj hg
                  refine ⟨⟨j + 1, .slice (some ⟨g4, 0, none⟩) n4 cp4, ms ++ [y], by omega, by go_num, by rw [List.length_append, hml.out]; rfl, ?_, ?_⟩, by simp [intOf]; omega⟩
                  · refine CAt.put (j := j) hFr tB hen.out hch ?_ (hpg.stored 3 _) (hOr.chg hch ?_) ?_ (fun g hg _ => tO g hg) ?_ ?_ ?_ ?_
                    · intro k hk
                      rcases hk with h | h | h
                      · exact .inl h
                      · exact .inr (.inr (.inl (tM k h)))
                      · exact .inr (.inr (.inr (k2 k h)))
                    · intro g hg hm
                      have := Olt g hg
                      rcases hm with h | h | h
                      · omega
                      · have := Mlt g h; omega
                      · have := vlt g h; omega
                    · exact m1.chg hset (fun g hg e => by have := m1.base_le g hg; have e' : g = p := e; omega)
                    · intro g hg hlt
                      have hlt' : g < w1.heap.size := hlt
                      have e := r4 g hg
                      subst e
                      rcases g4o with h | h
                      · exact tM g4 h
                      · omega
                    · intro g hg hg'
                      have e := r4 g hg'
                      subst e
                      have := Olt g4 hg
                      rcases g4o with h | h
                      · have := Mlt g4 h; omega
                      · omega
                    · intro i hij
                      refine ⟨rfl, ?_⟩
                      rw [List.getElem?_append, hml.out]
                      split
                      · rfl
                      · rw [List.getElem?_eq_none (by rw [List.length_singleton]; omega), List.getElem?_eq_none (by rw [hml.out]; omega)]
                    · intro v' hv'
                      rw [hv.out] at hv'
                      cases hv'
                      refine ⟨n, hn1, setk m5, fun g hg => ⟨(vlt g hg).2.1, k2 g hg⟩, fun u' hu' => ?_, fun y' hy' => ?_⟩
                      · rw [hu.out] at hu'
                        cases hu'
                        refine ⟨?_, fun g hg => ⟨fun _ => k4 g hg, fun e => ?_, fun e => ?_⟩⟩
                        · by_cases he : u.ownBlock = v.ownBlock
                          · exact setk (m6 he)
                          · refine k3.chg hch (fun g hg hm => ?_)
                            have := ult g hg
                            rcases hm with h | h | h
                            · omega
                            · have := Mlt g h; omega
                            · exact he (by rw [hg, h])
                        · have := ult g hg; have := Olt g e; omega
                        · have e := r4 g e
                          subst e
                          have := ult g4 hg
                          rcases g4o with h | h
                          · have := Mlt g4 h; omega
                          · omega
                      · rw [List.getElem?_append_right (by rw [hml.out]; omega), hml.out, Nat.sub_self] at hy'
                        cases hy'
                        refine ⟨setk m8, fun g hg => ⟨fun hlt => ?_, fun e => ?_, fun e => m4 g e hg⟩⟩
                        · rcases yo g hg with h | h
                          · exact k2 g h
                          · omega
                        · have := Olt g e
                          rcases yo g hg with h | h
                          · have := vlt g h; omega
                          · omega
                  · refine ⟨hbr.chg_trans hch (fun k hk => ?_), fun g hg => ?_⟩
                    · rcases hk with h | h | h
                      · exact .inr (by rw [h]; exact hSp)
                      · exact .inl (hfr k h)
                      · exact .inr (hvS.out v (List.mem_of_getElem? hv.out) k h)
                    · have e := r4 g hg
                      subst e
                      have := hbr.size
                      rcases g4o with h | h
                      · exact hfr g4 h
                      · omega
            · have q1 : ¬ (j : Int) < vs.length := by omega
              obtain rfl : j = vs.length := by omega
              have c2 : _ = some vO := hpr.cell 2
              have c3 : _ = some vM := hpr.cell 3
              have LK2 := look_c wr (p + 1) p (.slice AF vs.length cF) vW vO vM _ vO vs us hpr hFr hOr hul.out (by omega) (fun i v u hv hu => by
                obtain ⟨n, h1, h2, _, h4, _⟩ := hen i v hv
                exact ⟨n, 16, h2, (h4 u hu).1, h1, by omega⟩)
              have LK3 := look_c wr (p + 1) p (.slice AF vs.length cF) vW vO vM _ vM vs ms hpr hFr hMr hml.out (by omega) (fun i v u hv hu => by
                obtain ⟨n, h1, h2, _, _, h4⟩ := hen i v hv
                exact ⟨n, 700, h2, (h4 u hu).1, h1, by omega⟩)
              clear hen hpr hFr hOr hMr tB tO tM
              have tok0 : True := trivial
              go_wp2_with (first
                | (have _t := tok0; go_at_call 51; refine LK3.mono ?_; rintro e wz ⟨rfl, rfl⟩; clear tok0; have tok1 : True := trivial)
                | (have _t := tok1; go_at_call 51; refine LK2.mono ?_; rintro e wz ⟨rfl, rfl⟩; clear tok1; have tok2 : True := trivial))
              go_ret
              exact ⟨rfl, hbr⟩
set_option maxRecDepth 100000 in
set_option maxHeartbeats 800000 in
theorem keepX_close (w : World) (B p : Nat) (S : Nat → Prop) (bs : List Kept) (h : BookAt w B p S bs) (hn : bs.length ≤ 1000) :
    Calls Try.prog 16 #[.pointer (some ⟨p, 0, none⟩)] w fun e w' => e = .returned (.bool true) ∧ Chg S w w' := by
  have ST := stands_c w B p S bs h hn
  have CL := fun w1 (hb : Below w.heap.size w w1) => closeX_c w1 B p S bs (h.below hb) hn
  go_enter Try.func16, Try.ntmps16
  have tok0 : True := trivial
  go_wp2_with (first
    | (have _t := tok0; go_at_call 41; refine ST.mono ?_; rintro e w1 ⟨rfl, hb1⟩; clear tok0; have tok1 : True := trivial)
    | (have _t := tok1; go_at_call 42; refine (CL _ hb1).mono ?_; rintro e w2 ⟨rfl, hb2⟩; clear tok1; have tok2 : True := trivial))
  go_ret
  exact ⟨rfl, (Chg.of_below hb1).chg_trans hb2 (fun k hk => .inr hk)⟩
end Go.Proofs.Ytfnlcnjflloecaa
