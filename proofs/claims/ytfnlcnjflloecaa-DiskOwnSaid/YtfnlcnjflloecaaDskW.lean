/- DiskOwn: the walk. -/
import Derived.Test.YtfnlcnjflloecaaDskO
set_option linter.unusedVariables false
set_option linter.unusedSimpArgs false
set_option linter.unnecessarySimpa false
namespace Go.Proofs.Ytfnlcnjflloecaa
open Go.RowKit
/-- What DiskOwn reads of one of its calls. -/
structure OpE where
  act : Int
  a : List UInt8
  raw : List UInt8
def RdO (w : World) (v : Value) (os : List OpE) : Prop := ∃ A c, v = .slice A os.length c ∧ os.length ≤ 9223372036854775807 ∧ (∀ o ∈ os, o.a.length ≤ 9223372036854775807) ∧
  (0 < os.length → ∃ b off, A = some ⟨b, off, none⟩ ∧ b < w.heap.size ∧ ∀ j o, os[j]? = some o → w.cell? ⟨b, off + j * 7 + 1, none⟩ = some (.int .i64 o.act) ∧ w.cell? ⟨b, off + j * 7 + 2, none⟩ = some (.string (strB o.a)) ∧ ∃ x, w.cell? ⟨b, off + j * 7 + 4, none⟩ = some x ∧ Rd w x o.raw)
/-- The disk of DiskOwn behind i calls. -/
structure DkI (D : Dsk) (i : Nat) : Prop where
  ok : DskOk D
  done : D.done ≤ (i : Int)
  len : D.fs.length ≤ i
  names : ∀ f ∈ D.fs, f.name.length ≤ 64
  room : D.room = 5000
theorem DkI.new : DkI (newD 5000) 0 := ⟨DskOk.new (by omega) (by omega), by simp [newD], by simp [newD], fun f hf => (by simp [newD] at hf), rfl⟩
theorem DkI.up {D : Dsk} {i : Nat} (h : DkI D i) : DkI D (i + 1) := ⟨h.ok, by have := h.done; omega, by have := h.len; omega, h.names, h.room⟩
theorem DkI.append {D : Dsk} {i : Nat} (h : DkI D i) (s b : List UInt8) : DkI (appendD D s b).2 (i + 1) := by
  have ok := h.ok.append s b
  have hd := h.done
  have hl := h.len
  refine ⟨ok, ?_, ?_, ?_, ?_⟩ <;> clear ok
  · unfold appendD
    split
    · simp only; omega
    · split
      · simp only; omega
      · have := (power_done { D with fs := addF D.fs s b }).1
        simp only at this
        omega
  · unfold appendD
    split
    · simp only; omega
    · split
      · simp only; omega
      · rw [(power_fs _).1]
        have := len_add D.fs s b
        simp only; omega
  · unfold appendD
    split
    · exact h.names
    · split
      · exact h.names
      · rename_i hf _
        rw [(power_fs _).1]
        intro f hf'
        rcases mem_add hf' with ⟨h1, _⟩ | ⟨h1, _⟩
        · exact h.names f h1
        · have hr : rightD s = true := by
            cases hr : rightD s
            · exfalso
              apply hf
              intro e
              unfold firstD at e
              split at e
              · cases e
              · first | (rw [if_pos hr] at e; cases e) | (simp [hr] at e)
            · rfl
          rw [h1]
          unfold rightD at hr
          simp only [Bool.and_eq_true, decide_eq_true_eq] at hr
          exact hr.1.2
  · unfold appendD
    split
    · exact h.room
    · split
      · exact h.room
      · rw [(power_fs _).2]; exact h.room
theorem DkI.read {D : Dsk} {i : Nat} (h : DkI D i) (s : List UInt8) : (readD D s).2.length ≤ 10000000 := by
  have h1 := h.ok.used
  rw [h.room] at h1
  unfold readD
  split
  · simp
  · cases hl : lookF D.fs s with
    | none => simp
    | some f =>
      have := used_look hl
      simp only [Option.map_some, Option.getD_some]
      omega
def OwnRel (w : World) (p q pL pB : Nat) (v9 : Value) (wr : World) : Prop :=
  ∃ (i : Nat) (M R : Nat → Prop) (D : Dsk) (es : List Lent) (bs : List Kept), v9 = .int .i64 (i : Int) ∧ i ≤ 60 ∧ es.length ≤ i ∧ bs.length ≤ i ∧ DkI D i ∧ OwnM w wr p q pL pB M R D es bs
theorem OwnT.gblk {w : World} {base n c : Nat} {A : Option Addr} {l : List (List UInt8)} (h : OwnT w base (.slice A n c) l) (hn : 0 < n) : ∃ g, A = some ⟨g, 0, none⟩ := by
  rcases h.2 with ⟨e, h0⟩ | ⟨g', cap, cur, e, _⟩
  · cases e; omega
  · cases e; exact ⟨g', rfl⟩
theorem OwnT.nlen {w : World} {base n c : Nat} {A : Option Addr} {l : List (List UInt8)} (h : OwnT w base (.slice A n c) l) : n = l.length := by
  rcases h.2 with ⟨e, h0⟩ | ⟨g', cap, cur, e, _⟩
  · cases e; exact h0.symm
  · cases e; rfl
theorem OwnT.cell0 {w : World} {base g n c : Nat} {l : List (List UInt8)} (h : OwnT w base (.slice (some ⟨g, 0, none⟩) n c) l) (j : Nat) (s : List UInt8) (hj : l[j]? = some s) : w.cell? ⟨g, j, none⟩ = some (.string (strB s)) := by
  have hn := h.nlen
  subst hn
  have hjl := (List.getElem?_eq_some_iff.1 hj).1
  rw [World.ownsRow.cellAt h j (by omega), svs_get l j hjl]
  have := (List.getElem?_eq_some_iff.1 hj).2
  rw [this]
theorem OwnT.fr0 {w : World} {base g n c : Nat} {l : List (List UInt8)} (h : OwnT w base (.slice (some ⟨g, 0, none⟩) n c) l) (j : Nat) : w.frozen? ⟨g, j, none⟩ = false := by
  have hn := h.nlen
  subst hn
  exact World.ownsRow.frozenAt h j
theorem OwnT.set0 {w : World} {base g n c : Nat} {l : List (List UInt8)} (h : OwnT w base (.slice (some ⟨g, 0, none⟩) n c) l) (j : Nat) : OwnT (w.setCell ⟨g, j, none⟩ (.string { data := #[] })) base (.slice (some ⟨g, 0, none⟩) n c) (l.set j []) := by
  have hn := h.nlen
  subst hn
  have h2 := (World.ownsRow.stored h j (.string { data := #[] })).1
  have e : (svs l).set j (.string { data := #[] }) = svs (l.set j []) := by
    unfold svs
    rw [List.map_set]
    rfl
  rw [e] at h2
  unfold OwnT
  rw [List.length_set]
  exact h2
def Own2Rel (w : World) (base p q : Nat) (M R : Nat → Prop) (D : Dsk) (N : List (List UInt8)) (u : Value) (v14 : Value) (wr : World) : Prop :=
  ∃ (j : Nat) (l' : List (List UInt8)), j ≤ N.length ∧ v14 = .int .i64 (j : Int) ∧ l'.length = N.length ∧ l'.drop j = N.drop j ∧ OwnT wr base u l' ∧ DiskAt wr M p D ∧ RAt wr R q D ∧ Below w.heap.size w wr
set_option maxRecDepth 100000 in
set_option maxHeartbeats 6400000 in
theorem diskOwn_w (w : World) (v : Value) (os : List OpE) (h : RdO w v os) : Calls Try.prog 3 #[v] w (Ok w) := by
  obtain ⟨A, c, rfl, hlen, ha, hcs⟩ := h
  have NW := new_good 5000 w (by omega) (by omega)
  go_enter Try.func3, Try.ntmps3
  go_wp2_with fail
  refine NW.mono ?_; rintro e w1 ⟨p, rfl, hd, hb1⟩
  go_wp2_with fail
  refine (refnewd_c 5000 w1 (by omega) (by omega)).mono ?_; rintro e w2 ⟨rfl, hr, hb2, hz2⟩
  go_wp2_with fail
  refine (wakes10_c _).mono ?_; rintro e w3 ⟨rfl, hb3⟩
  have hd3 := (hd.below hb2).below hb3
  have hr3 := hr.below hb3
  have hb := below_below (below_below hb1 hb2) hb3
  have hz3 := hb3.size
  have hz1 := hb1.size
  have kL := Blk.new w3 34 [.slice none 0 0, .slice none 0 0]
  have bL := (Below.refl w3.heap.size w3).alloc (Nat.le_refl _) (.cells #[.slice none 0 0, .slice none 0 0] 34)
  have zL : (w3.alloc (.cells #[.slice none 0 0, .slice none 0 0] 34)).heap.size = w3.heap.size + 1 := by simp
  go_upto_region 6 with fail
  generalize w3.alloc (.cells #[.slice none 0 0, .slice none 0 0] 34) = w4 at *
  replace zL : w3.heap.size < w4.heap.size := by omega
  have kB := Blk.new w4 37 [.slice none 0 0, .slice none 0 0, .slice none 0 0, .slice none 0 0, .int .i64 0]
  have bB := (Below.refl w4.heap.size w4).alloc (Nat.le_refl _) (.cells #[.slice none 0 0, .slice none 0 0, .slice none 0 0, .slice none 0 0, .int .i64 0] 37)
  have zB : (w4.alloc (.cells #[.slice none 0 0, .slice none 0 0, .slice none 0 0, .slice none 0 0, .int .i64 0] 37)).heap.size = w4.heap.size + 1 := by simp
  go_upto_region 7 with fail
  generalize w4.alloc (.cells #[.slice none 0 0, .slice none 0 0, .slice none 0 0, .slice none 0 0, .int .i64 0] 37) = w5 at *
  replace zB : w4.heap.size < w5.heap.size := by omega
  have hO : OwnM w w5 p w1.heap.size w3.heap.size w4.heap.size (fun k => w.heap.size ≤ k ∧ k < w1.heap.size) (fun k => k = w1.heap.size) (newD 5000) [] [] := by
    refine ⟨(hd3.below bL).below bB, (hr3.below bL).below bB, fun k hk e => by omega, fun k hk => hk.1, fun k hk => by omega, KeepX.new (kL.below bB) kB (by omega) (by omega) (by omega) (fun k hk => ?_), below_below hb (below_below bL bB)⟩
    rcases hk with hk | hk | hk <;> refine ⟨?_, ?_, ?_⟩ <;> omega
  generalize w1.heap.size = q at *
  generalize w3.heap.size = pL at *
  generalize w4.heap.size = pB at *
  clear NW hd hb1 hr hb2 hz2 hd3 hr3 hb hz3 hz1 kL bL zL kB bB zB hb3
  go_wp2_with fail
  go_loopw [9] (OwnRel w p q pL pB) (fun i _ => 60 - (intOf i).toNat)
  case atStart => exact ⟨0, _, _, _, [], [], rfl, by omega, by simp, by simp, DkI.new, hO⟩
  case round =>
    clear hO
    obtain ⟨i, M, R, D, es, bs, rfl, hi, hes, hbs, hD, hO⟩ := hrel
    by_cases hlt : i < os.length
    rotate_left
    · have q1 : ¬ (i : Int) < (os.length : Int) := by omega
      have q2 : decide ((i : Int) < (os.length : Int)) = false := decide_eq_false q1
      clear hcs
      have BA := hO.back (by omega)
      have hlen3 := hD.len
      have hle : D.fs.length ≤ 60 := by omega
      have LI := fun W (hW : DiskAt W M p D) => list_c p M D W hW hD.ok hD.names (by omega)
      have RL := fun W (hW : RAt W R q D) => reflist10_c q R D W hW (by omega)
      have RD := fun W (hW : DiskAt W M p D) s (hs : s.length ≤ 9223372036854775807) => read_c p M D s W hW hD.ok hs
      have RR := fun W (hW : RAt W R q D) s (hs : s.length ≤ 9223372036854775807) => refread10_c q R D s W hW hD.ok (by omega) hs
      have hnm : ∀ s ∈ (listD D).2, s.length ≤ 64 := fun s hs => by
        unfold listD at hs
        split at hs
        · cases hs
        · obtain ⟨f, hf, rfl⟩ := List.mem_map.1 hs
          exact hD.names f hf
      generalize (listD D).2 = N at *
      generalize (listD D).1 = E0 at *
      clear hD hlen3 hle
      go_wp2_with fail
      refine BA.mono ?_; rintro e w10 ⟨rfl, hd10, hr10, hb10, SB, hbk, hSB⟩
      have CL := keepX_close w10 _ pB SB bs hbk (by omega)
      clear BA hO
      go_wp2_with fail
      refine CL.mono ?_; rintro e w11 ⟨rfl, hc11⟩
      have hd11 := hd10.chg hc11 (fun k hm hs => (hSB k hs).2.1 hm)
      have hr11 := hr10.chg hc11 (fun k hr hs => (hSB k hs).2.2 hr)
      have hb11 := hb10.trans (hc11.below hb10.size (fun k hk => (hSB k hk).1))
      clear hd10 hr10 hb10 hbk hSB CL hc11
      go_wp2_with fail
      refine (LI w11 hd11).mono ?_; rintro e w12 ⟨u, rfl, ho12, hb12⟩
      obtain ⟨Au, cu, eu, hu1, hu2, -⟩ := ho12.rd.open
      subst eu
      have hMl := hd11.lt
      have hRl := hr11.lt
      have hd12 := hd11.below hb12
      have hr12 := hr11.below hb12
      have hb12' := below_below hb11 hb12
      have hNl : N.length ≤ 9223372036854775807 := ho12.rd.len_le
      clear hb12 hd11 hr11 hu1 hu2
      go_wp2_with fail
      go_loopw [14] (Own2Rel w w11.heap.size p q M R D N (.slice Au N.length cu)) (fun i _ => N.length - (intOf i).toNat)
      case atStart => exact ⟨0, N, by omega, rfl, rfl, rfl, ho12, hd12, hr12, hb12'⟩
      clear ho12 hd12 hr12 hb12'
      case round =>
        obtain ⟨j, l', hj, rfl, hl', hdr, hot, hdj, hrj, hbj⟩ := hrel
        by_cases hjl : j < N.length
        rotate_left
        · have z1 : ¬ (j : Int) < (N.length : Int) := by omega
          clear hdr hot hl'
          go_wp2_with fail
          refine (LI _ hdj).mono ?_; rintro e w13 ⟨u2, rfl, ho13, hb13⟩
          have hr13 := hrj.below hb13
          go_wp2_with fail
          refine (RL _ hr13).mono ?_; rintro e w14 ⟨u3, rfl, ho14, hb14⟩
          have SM := ksame_c w14 u2 u3 N N (ho13.below hb14).rd ho14.rd
          rw [decide_eq_true rfl] at SM
          have hbe := below_below (below_below hbj hb13) hb14
          go_wp2_with fail
          refine SM.mono ?_; rintro e w15 ⟨rfl, hb15⟩
          go_wp2_with fail
          go_ret
          exact ⟨rfl, below_below hbe hb15⟩
        have z1 : (j : Int) < (N.length : Int) := by omega
        obtain ⟨gu, eA⟩ := hot.gblk (by omega)
        subst eA
        obtain ⟨s, hs⟩ : ∃ s, N[j]? = some s := ⟨N[j], List.getElem?_eq_getElem hjl⟩
        have hs64 := hnm s (List.mem_of_getElem? hs)
        have hls : l'[j]? = some s := by
          have h9 := congrArg (·[0]?) hdr
          simp only [List.getElem?_drop, Nat.add_zero] at h9
          rw [h9, hs]
        have hgb := hot.base_le gu rfl
        have cS : _ = some _ := hot.cell0 j s hls
        have DR := RD _ hdj s (by omega)
        replace hs := Go.Lib.hid hs
        replace hls := Go.Lib.hid hls
        replace hl' := Go.Lib.hid hl'
        replace hdr := Go.Lib.hid hdr
        go_wp2_with fail
        refine DR.mono ?_; rintro e w13 ⟨u2, rfl, ho13, hb13⟩
        have hot13 := hot.below hb13
        have hr13 := hrj.below hb13
        have hd13 := hdj.below hb13
        have cS3 : _ = some _ := hot13.cell0 j s hls.out
        have RRj := RR _ hr13 s (by omega)
        clear cS DR hdj hrj
        go_wp2_with fail
        refine RRj.mono ?_; rintro e w14 ⟨u3, rfl, ho14, hb14⟩
        have hot14 := hot13.below hb14
        have hr14 := hr13.below hb14
        have hd14 := hd13.below hb14
        have hr2 := (ho13.below hb14).rd
        have hr3 := ho14.rd
        generalize (readD D s).2 = X at *
        generalize (readD D s).1 = E1 at *
        obtain ⟨A2, c2, e2, -⟩ := hr2.open
        obtain ⟨A3, c3, e3, -⟩ := hr3.open
        obtain ⟨nX, hnX⟩ : ∃ nX, X.length = nX := ⟨_, rfl⟩
        rw [hnX] at e2 e3
        clear hnX
        subst e2 e3
        have cv1 := convert_str hr2
        have cv2 := convert_str hr3
        generalize hTT : strB X = T at cv1 cv2
        have hTq : (T.toList != T.toList) = false := by simp
        have hbe := below_below (below_below hbj hb13) hb14
        have cS4 : _ = some _ := hot14.cell0 j s hls.out
        have fS4 := hot14.fr0 j
        have hset := hot14.set0 j
        have hC := Chg.setCell w14 ⟨gu, j, none⟩ (.string { data := #[] })
        have hdF := hd14.chg hC (fun k hk e => by have := hMl k hk; have e9 : k = gu := e; omega)
        have hrF := hr14.chg hC (fun k hk e => by have := hRl k hk; have e9 : k = gu := e; omega)
        have hbF := hbe.trans (hC.below hbe.size (fun k hk => by have e9 : k = gu := hk; have := hb11.size; omega))
        clear cS3 RRj ho13 ho14 hot13 hot14 hd13 hr13 hd14 hr14 hr2 hr3 hbe hot hbj hTT hb13 hb14
        go_wp2_with fail
        refine ⟨⟨j + 1, l'.set j [], by omega, by go_num, by rw [List.length_set]; exact hl'.out, ?_, hset, hdF, hrF, hbF⟩, by simp [intOf]; omega⟩
        rw [List.drop_set, if_pos (by omega)]
        have h9 := congrArg (List.drop 1) hdr.out
        simpa [List.drop_drop, Nat.add_comm] using h9
    have q1 : (i : Int) < (os.length : Int) := by omega
    have q2 : decide ((i : Int) < (os.length : Int)) = true := decide_eq_true q1
    by_cases h60 : i < 60
    rotate_left
    · have q3 : ¬ (i : Int) < 60 := by omega
      have q4 : decide ((i : Int) < 60) = false := decide_eq_false q3
      clear hcs
      have BA := hO.back (by omega)
      have hlen3 := hD.len
      have hle : D.fs.length ≤ 60 := by omega
      have LI := fun W (hW : DiskAt W M p D) => list_c p M D W hW hD.ok hD.names (by omega)
      have RL := fun W (hW : RAt W R q D) => reflist10_c q R D W hW (by omega)
      have RD := fun W (hW : DiskAt W M p D) s (hs : s.length ≤ 9223372036854775807) => read_c p M D s W hW hD.ok hs
      have RR := fun W (hW : RAt W R q D) s (hs : s.length ≤ 9223372036854775807) => refread10_c q R D s W hW hD.ok (by omega) hs
      have hnm : ∀ s ∈ (listD D).2, s.length ≤ 64 := fun s hs => by
        unfold listD at hs
        split at hs
        · cases hs
        · obtain ⟨f, hf, rfl⟩ := List.mem_map.1 hs
          exact hD.names f hf
      generalize (listD D).2 = N at *
      generalize (listD D).1 = E0 at *
      clear hD hlen3 hle
      go_wp2_with fail
      refine BA.mono ?_; rintro e w10 ⟨rfl, hd10, hr10, hb10, SB, hbk, hSB⟩
      have CL := keepX_close w10 _ pB SB bs hbk (by omega)
      clear BA hO
      go_wp2_with fail
      refine CL.mono ?_; rintro e w11 ⟨rfl, hc11⟩
      have hd11 := hd10.chg hc11 (fun k hm hs => (hSB k hs).2.1 hm)
      have hr11 := hr10.chg hc11 (fun k hr hs => (hSB k hs).2.2 hr)
      have hb11 := hb10.trans (hc11.below hb10.size (fun k hk => (hSB k hk).1))
      clear hd10 hr10 hb10 hbk hSB CL hc11
      go_wp2_with fail
      refine (LI w11 hd11).mono ?_; rintro e w12 ⟨u, rfl, ho12, hb12⟩
      obtain ⟨Au, cu, eu, hu1, hu2, -⟩ := ho12.rd.open
      subst eu
      have hMl := hd11.lt
      have hRl := hr11.lt
      have hd12 := hd11.below hb12
      have hr12 := hr11.below hb12
      have hb12' := below_below hb11 hb12
      have hNl : N.length ≤ 9223372036854775807 := ho12.rd.len_le
      clear hb12 hd11 hr11 hu1 hu2
      go_wp2_with fail
      go_loopw [14] (Own2Rel w w11.heap.size p q M R D N (.slice Au N.length cu)) (fun i _ => N.length - (intOf i).toNat)
      case atStart => exact ⟨0, N, by omega, rfl, rfl, rfl, ho12, hd12, hr12, hb12'⟩
      clear ho12 hd12 hr12 hb12'
      case round =>
        obtain ⟨j, l', hj, rfl, hl', hdr, hot, hdj, hrj, hbj⟩ := hrel
        by_cases hjl : j < N.length
        rotate_left
        · have z1 : ¬ (j : Int) < (N.length : Int) := by omega
          clear hdr hot hl'
          go_wp2_with fail
          refine (LI _ hdj).mono ?_; rintro e w13 ⟨u2, rfl, ho13, hb13⟩
          have hr13 := hrj.below hb13
          go_wp2_with fail
          refine (RL _ hr13).mono ?_; rintro e w14 ⟨u3, rfl, ho14, hb14⟩
          have SM := ksame_c w14 u2 u3 N N (ho13.below hb14).rd ho14.rd
          rw [decide_eq_true rfl] at SM
          have hbe := below_below (below_below hbj hb13) hb14
          go_wp2_with fail
          refine SM.mono ?_; rintro e w15 ⟨rfl, hb15⟩
          go_wp2_with fail
          go_ret
          exact ⟨rfl, below_below hbe hb15⟩
        have z1 : (j : Int) < (N.length : Int) := by omega
        obtain ⟨gu, eA⟩ := hot.gblk (by omega)
        subst eA
        obtain ⟨s, hs⟩ : ∃ s, N[j]? = some s := ⟨N[j], List.getElem?_eq_getElem hjl⟩
        have hs64 := hnm s (List.mem_of_getElem? hs)
        have hls : l'[j]? = some s := by
          have h9 := congrArg (·[0]?) hdr
          simp only [List.getElem?_drop, Nat.add_zero] at h9
          rw [h9, hs]
        have hgb := hot.base_le gu rfl
        have cS : _ = some _ := hot.cell0 j s hls
        have DR := RD _ hdj s (by omega)
        replace hs := Go.Lib.hid hs
        replace hls := Go.Lib.hid hls
        replace hl' := Go.Lib.hid hl'
        replace hdr := Go.Lib.hid hdr
        go_wp2_with fail
        refine DR.mono ?_; rintro e w13 ⟨u2, rfl, ho13, hb13⟩
        have hot13 := hot.below hb13
        have hr13 := hrj.below hb13
        have hd13 := hdj.below hb13
        have cS3 : _ = some _ := hot13.cell0 j s hls.out
        have RRj := RR _ hr13 s (by omega)
        clear cS DR hdj hrj
        go_wp2_with fail
        refine RRj.mono ?_; rintro e w14 ⟨u3, rfl, ho14, hb14⟩
        have hot14 := hot13.below hb14
        have hr14 := hr13.below hb14
        have hd14 := hd13.below hb14
        have hr2 := (ho13.below hb14).rd
        have hr3 := ho14.rd
        generalize (readD D s).2 = X at *
        generalize (readD D s).1 = E1 at *
        obtain ⟨A2, c2, e2, -⟩ := hr2.open
        obtain ⟨A3, c3, e3, -⟩ := hr3.open
        obtain ⟨nX, hnX⟩ : ∃ nX, X.length = nX := ⟨_, rfl⟩
        rw [hnX] at e2 e3
        clear hnX
        subst e2 e3
        have cv1 := convert_str hr2
        have cv2 := convert_str hr3
        generalize hTT : strB X = T at cv1 cv2
        have hTq : (T.toList != T.toList) = false := by simp
        have hbe := below_below (below_below hbj hb13) hb14
        have cS4 : _ = some _ := hot14.cell0 j s hls.out
        have fS4 := hot14.fr0 j
        have hset := hot14.set0 j
        have hC := Chg.setCell w14 ⟨gu, j, none⟩ (.string { data := #[] })
        have hdF := hd14.chg hC (fun k hk e => by have := hMl k hk; have e9 : k = gu := e; omega)
        have hrF := hr14.chg hC (fun k hk e => by have := hRl k hk; have e9 : k = gu := e; omega)
        have hbF := hbe.trans (hC.below hbe.size (fun k hk => by have e9 : k = gu := hk; have := hb11.size; omega))
        clear cS3 RRj ho13 ho14 hot13 hot14 hd13 hr13 hd14 hr14 hr2 hr3 hbe hot hbj hTT hb13 hb14
        go_wp2_with fail
        refine ⟨⟨j + 1, l'.set j [], by omega, by go_num, by rw [List.length_set]; exact hl'.out, ?_, hset, hdF, hrF, hbF⟩, by simp [intOf]; omega⟩
        rw [List.drop_set, if_pos (by omega)]
        have h9 := congrArg (List.drop 1) hdr.out
        simpa [List.drop_drop, Nat.add_comm] using h9
    have q3 : (i : Int) < 60 := by omega
    have q4 : decide ((i : Int) < 60) = true := decide_eq_true q3
    obtain ⟨bb, off, eA, hbl, hcc⟩ := hcs (by omega)
    obtain ⟨hc1, hc2, x, hc4, hxr⟩ := hcc i os[i] (by simp [hlt])
    have hal := ha _ (List.getElem_mem hlt)
    subst eA
    generalize os[i] = o at *
    obtain ⟨act, a, raw⟩ := o
    simp only at hc1 hc2 hc4 hxr hal
    have cX : _ = some _ := (hO.bel.cell (p := ⟨bb, off + i * 7 + 1, none⟩) hbl).trans hc1
    clear hcs hcc ha
    by_cases h1 : act = 1
    · subst h1
      obtain ⟨S, hS1, hS2, hS3, hLend⟩ := hO.lend
      have hLl : (raw.take 100).length ≤ 1000000 := by simp; omega
      have FW := fun W (hb : Below w.heap.size w W) => few10_c x raw W (hxr.below hb)
      generalize raw.take 100 = L at *
      have hbel := hO.bel
      have hdn := hD.done
      have hln := hD.len
      go_upto_region 11 with fail
      clear cX
      refine O.region_making 14 (fun | 13 => [100] | _ => []) (fun | 12 => some fun _ => new8 5 L | 13 => some fun _ => lentS w.heap.size pL (es.length + 1) L | _ => none) 13 100 S (loanS w.heap.size pL es) (by kernel_rfl) (by kernel_rfl) ?_ ?_ ?_ ?_ ?_
      · intro i' S' h' e v'
        match i', h' with
        | 12, h' => cases h'; exact O.new8_loc _ _ _ _ _
        | 13, h' => cases h'; exact lentS_loc _ _ _ _ _ _ _
      · exact loanS_loc _ _ _ _ _
      · obtain ⟨S1, h1, h2⟩ := hS1
        exact ⟨S1, h1.loc (Nat.le_refl _) (fun k _ => rfl), h2⟩
      · exact hS2
      simp only [List.take_succ_cons, List.take_zero, List.drop_succ_cons, List.drop_zero]
      have hbw : ∀ wg, Chg S wr.drew wg → Below w.heap.size w wg := fun wg hc => hbel.trans ((Chg.below (w := wr) ⟨hc.os, hc.tape, hc.output, hc.size, hc.block⟩ hbel.size (fun k hk => (hS3 k hk).1)))
      (apply O.wpG_pure; (focus rfl); (focus (intro wg Bg hbg hBg hFg; go_simp; (try go_bits); (first | done | exact ⟨rfl, Below.refl _ _⟩ | rfl))); simp only [Act.put, List.setIfInBounds_toArray, List.set_cons_succ, List.set_cons_zero])
      (apply O.wpG_pure; (focus rfl); (focus (intro wg Bg hbg hBg hFg; go_simp; (try go_bits); (first | done | exact ⟨rfl, Below.refl _ _⟩ | rfl))); simp only [Act.put, List.setIfInBounds_toArray, List.set_cons_succ, List.set_cons_zero])
      (apply O.wpG_pure; (focus rfl); (focus (intro wg Bg hbg hBg hFg; go_simp; (try go_bits); (first | done | exact ⟨rfl, Below.refl _ _⟩ | rfl))); simp only [Act.put, List.setIfInBounds_toArray, List.set_cons_succ, List.set_cons_zero])
      (apply O.wpG_pure; (focus rfl); (focus (intro wg Bg hbg hBg hFg; go_simp; (try go_bits); (first | done | exact ⟨rfl, Below.refl _ _⟩ | rfl))); simp only [Act.put, List.setIfInBounds_toArray, List.set_cons_succ, List.set_cons_zero])
      (apply O.wpG_pure; (focus rfl); (focus (intro wg Bg hbg hBg hFg; go_simp; (try go_bits); (first | done | exact ⟨rfl, Below.refl _ _⟩ | rfl))); simp only [Act.put, List.setIfInBounds_toArray, List.set_cons_succ, List.set_cons_zero])
      (apply O.wpG_pure; (focus rfl); (focus (intro wg Bg hbg hBg hFg; have cW : _ = some _ := ((hbw _ hbg).cell (p := ⟨bb, off + i * 7 + 2, none⟩) hbl).trans hc2; go_simp; (try go_bits); (first | done | exact ⟨rfl, Below.refl _ _⟩ | rfl))); simp only [Act.put, List.setIfInBounds_toArray, List.set_cons_succ, List.set_cons_zero])
      (apply O.wpG_pure; (focus rfl); (focus (intro wg Bg hbg hBg hFg; go_simp; (try go_bits); (first | done | exact ⟨rfl, Below.refl _ _⟩ | rfl))); simp only [Act.put, List.setIfInBounds_toArray, List.set_cons_succ, List.set_cons_zero])
      (apply O.wpG_pure; (focus rfl); (focus (intro wg Bg hbg hBg hFg; go_simp; (try go_bits); (first | done | exact ⟨rfl, Below.refl _ _⟩ | rfl))); simp only [Act.put, List.setIfInBounds_toArray, List.set_cons_succ, List.set_cons_zero])
      (apply O.wpG_pure; (focus rfl); (focus (intro wg Bg hbg hBg hFg; go_simp; (try go_bits); (first | done | exact ⟨rfl, Below.refl _ _⟩ | rfl))); simp only [Act.put, List.setIfInBounds_toArray, List.set_cons_succ, List.set_cons_zero])
      (apply O.wpG_pure; (focus rfl); (focus (intro wg Bg hbg hBg hFg; go_simp; (try go_bits); (first | done | exact ⟨rfl, Below.refl _ _⟩ | rfl))); simp only [Act.put, List.setIfInBounds_toArray, List.set_cons_succ, List.set_cons_zero])
      (apply O.wpG_pure; (focus rfl); (focus (intro wg Bg hbg hBg hFg; go_simp; (try go_bits); (first | done | exact ⟨rfl, Below.refl _ _⟩ | rfl))); simp only [Act.put, List.setIfInBounds_toArray, List.set_cons_succ, List.set_cons_zero])
      (apply O.wpG_pure; (focus rfl); (focus (intro wg Bg hbg hBg hFg; have cW : _ = some _ := ((hbw _ hbg).cell (p := ⟨bb, off + i * 7 + 4, none⟩) hbl).trans hc4; go_simp; (try go_bits); (first | done | exact ⟨rfl, Below.refl _ _⟩ | rfl))); simp only [Act.put, List.setIfInBounds_toArray, List.set_cons_succ, List.set_cons_zero])
      apply O.wpG_make; (focus rfl); (focus (intro wg Bg hbg hBg hFg; go_simp; go_at_call 11; exact Calls.mono (FW _ (hbw _ hbg)) (fun e w' h => (by obtain ⟨u, rfl, ho, hb⟩ := h; exact ⟨u, rfl, Chg.of_below hb, ⟨ho.mono (Nat.zero_le _), fun g hg => (by first | exact .inr ⟨ho.base_le g hg, ho.lt g hg⟩ | exact ⟨ho.base_le g hg, ho.lt g hg⟩)⟩⟩)))); intro vf; simp only [Act.put, List.setIfInBounds_toArray, List.set_cons_succ, List.set_cons_zero]
      apply O.wpG_make; (focus rfl); (focus (intro wg Bg hbg hBg hFg; have hN : new8 5 L vf (Bg 12) wg := hFg 12 (by decide +kernel); have hO : loanS w.heap.size pL es (Bg 100) wg := hFg 100 (by decide +kernel); go_simp; go_at_call 10; exact Calls.mono (lend_c _ w.heap.size pL es vf L (Bg 100) hO hN.1.rd hLl (by omega)) (fun e w' h => h))); intro vu; simp only [Act.put, List.setIfInBounds_toArray, List.set_cons_succ, List.set_cons_zero]
      refine O.wpG_end (fun wg Bg hbg hBg hFg => ?_)
      have hN : lentS w.heap.size pL (es.length + 1) L vu (Bg 13) wg := hFg 13
      obtain ⟨es9, he9, hO6, hru, hgu⟩ := hLend wg L vu (Bg 13) ⟨hbg.os, hbg.tape, hbg.output, hbg.size, hbg.block⟩ (fun k hk => by
        rcases hBg.lo _ _ hk with h | h
        · exact .inr ⟨h, hBg.hi _ _ hk⟩
        · exact .inl h) hN
      clear hFg hBg hN hbg hbw hLend hS1 hS2 hS3 hO hbel
      have AP := append_c p M D a L vu wg hO6.dsk hD.ok (by omega) hal hru (fun g hg => (hgu g hg).1) (fun g hg => (hgu g hg).2.2)
      clear hgu hru
      go_wp2_with fail
      refine AP.mono ?_; rintro e w6 ⟨rfl, hd6, hc6⟩
      have hH := hO6.stepD hd6 hc6
      clear AP hO6 hd6
      generalize growM M wg w6 = M9 at *
      have cX : _ = some _ := (hH.bel.cell (p := ⟨bb, off + i * 7 + 1, none⟩) hbl).trans hc1
      go_upto_region 12 with fail
      clear cX
      refine region_making 12 (fun _ => []) (fun | 11 => some fun _ => new8 5 L | _ => none) (by kernel_rfl) (by kernel_rfl) ?_ ?_
      · intro i' S' h' e v'
        match i', h' with
        | 11, h' => cases h'; exact new8_loc _ _ _ _
      simp only [List.take_succ_cons, List.take_zero, List.drop_succ_cons, List.drop_zero]
      have hbw : ∀ wh, Below w6.drew.heap.size w6.drew wh → Below w.heap.size w wh := fun wh hb => below_below hH.bel (below_of_drew hb)
      (apply wpG_pure; (focus rfl); (focus (intro wg Bg hbg hBg hFg; go_simp; (try go_bits); (first | done | exact ⟨rfl, Below.refl _ _⟩ | rfl))); simp only [Act.put, List.setIfInBounds_toArray, List.set_cons_succ, List.set_cons_zero])
      (apply wpG_pure; (focus rfl); (focus (intro wg Bg hbg hBg hFg; go_simp; (try go_bits); (first | done | exact ⟨rfl, Below.refl _ _⟩ | rfl))); simp only [Act.put, List.setIfInBounds_toArray, List.set_cons_succ, List.set_cons_zero])
      (apply wpG_pure; (focus rfl); (focus (intro wg Bg hbg hBg hFg; go_simp; (try go_bits); (first | done | exact ⟨rfl, Below.refl _ _⟩ | rfl))); simp only [Act.put, List.setIfInBounds_toArray, List.set_cons_succ, List.set_cons_zero])
      (apply wpG_pure; (focus rfl); (focus (intro wg Bg hbg hBg hFg; go_simp; (try go_bits); (first | done | exact ⟨rfl, Below.refl _ _⟩ | rfl))); simp only [Act.put, List.setIfInBounds_toArray, List.set_cons_succ, List.set_cons_zero])
      (apply wpG_pure; (focus rfl); (focus (intro wg Bg hbg hBg hFg; go_simp; (try go_bits); (first | done | exact ⟨rfl, Below.refl _ _⟩ | rfl))); simp only [Act.put, List.setIfInBounds_toArray, List.set_cons_succ, List.set_cons_zero])
      (apply wpG_pure; (focus rfl); (focus (intro wg Bg hbg hBg hFg; have cW : _ = some _ := ((hbw _ hbg).cell (p := ⟨bb, off + i * 7 + 2, none⟩) hbl).trans hc2; go_simp; (try go_bits); (first | done | exact ⟨rfl, Below.refl _ _⟩ | rfl))); simp only [Act.put, List.setIfInBounds_toArray, List.set_cons_succ, List.set_cons_zero])
      (apply wpG_pure; (focus rfl); (focus (intro wg Bg hbg hBg hFg; go_simp; (try go_bits); (first | done | exact ⟨rfl, Below.refl _ _⟩ | rfl))); simp only [Act.put, List.setIfInBounds_toArray, List.set_cons_succ, List.set_cons_zero])
      (apply wpG_pure; (focus rfl); (focus (intro wg Bg hbg hBg hFg; go_simp; (try go_bits); (first | done | exact ⟨rfl, Below.refl _ _⟩ | rfl))); simp only [Act.put, List.setIfInBounds_toArray, List.set_cons_succ, List.set_cons_zero])
      (apply wpG_pure; (focus rfl); (focus (intro wg Bg hbg hBg hFg; go_simp; (try go_bits); (first | done | exact ⟨rfl, Below.refl _ _⟩ | rfl))); simp only [Act.put, List.setIfInBounds_toArray, List.set_cons_succ, List.set_cons_zero])
      (apply wpG_pure; (focus rfl); (focus (intro wg Bg hbg hBg hFg; go_simp; (try go_bits); (first | done | exact ⟨rfl, Below.refl _ _⟩ | rfl))); simp only [Act.put, List.setIfInBounds_toArray, List.set_cons_succ, List.set_cons_zero])
      (apply wpG_pure; (focus rfl); (focus (intro wg Bg hbg hBg hFg; have cW : _ = some _ := ((hbw _ hbg).cell (p := ⟨bb, off + i * 7 + 4, none⟩) hbl).trans hc4; go_simp; (try go_bits); (first | done | exact ⟨rfl, Below.refl _ _⟩ | rfl))); simp only [Act.put, List.setIfInBounds_toArray, List.set_cons_succ, List.set_cons_zero])
      (apply wpG_make; (focus rfl); (focus (intro wg Bg hbg hBg hFg; go_simp; go_at_call 11; exact Calls.mono (FW _ (hbw _ hbg)) (fun e w' h => (by obtain ⟨u, rfl, ho, hb⟩ := h; exact ⟨u, rfl, Chg.of_below hb, ⟨ho.mono (Nat.zero_le _), fun g hg => (by first | exact .inr ⟨ho.base_le g hg, ho.lt g hg⟩ | exact ⟨ho.base_le g hg, ho.lt g hg⟩)⟩⟩)))); intro v2; simp only [Act.put, List.setIfInBounds_toArray, List.set_cons_succ, List.set_cons_zero])
      refine wpG_end (fun wh Bg hbg hBg hFg => ?_)
      have hN : new8 5 L v2 (Bg 11) wh := hFg 11
      have hH2 := hH.below (below_of_drew hbg)
      have hv2 : ∀ g, v2.ownBlock = some g → ¬ R g := fun g hg hr => by
        have h1 := hBg.lo _ _ (hN.2 g hg)
        have h2 := hH.ref.lt g hr
        have h3 : w6.heap.size ≤ g := h1
        omega
      have RA := refappend_c q R D a L v2 wh hH2.ref hD.ok (by omega) (by omega) hal hN.1.rd hv2
      clear hFg hBg hN hbg hbw hH hv2 hc6
      go_wp2_with fail
      refine RA.mono ?_; rintro e w7 ⟨rfl, hr7, hc7⟩
      have hO7 := hH2.stepR hr7 hc7
      have hD9 := hD.append a L
      clear RA hH2 hr7 hD hdn hln
      generalize growM R wh w7 = R9 at *
      generalize (appendD D a L).2 = D9 at *
      have RD := fun s (hs : s.length ≤ 9223372036854775807) => read_c p M9 D9 s w7 hO7.dsk hD9.ok hs
      have cA7 : _ = some _ := (hO7.bel.cell (p := ⟨bb, off + i * 7 + 2, none⟩) hbl).trans hc2
      go_wp2_with fail
      refine (RD _ hal).mono ?_; rintro e w8 ⟨u8, rfl, ho8, hb8⟩
      have BK := hO7.book hb8 ho8 (hD9.read _) (by omega)
      go_wp2_with fail
      refine BK.mono ?_; rintro e w9 ⟨bs9, rfl, hl9, hO9⟩
      go_wp2_with fail
      exact ⟨⟨i + 1, M9, R9, D9, es9, bs9, by go_num, by omega, by omega, by omega, hD9, hO9⟩, by simp [intOf]; omega⟩
    · have x1 : (act == 1) = false := beq_eq_false_iff_ne.2 h1
      obtain ⟨w7, e7⟩ : ∃ w7, w7 = wr := ⟨_, rfl⟩
      subst e7
      have hO7 := hO
      have hD9 := hD.up
      obtain ⟨M9, eM⟩ : ∃ M9, M9 = M := ⟨_, rfl⟩
      obtain ⟨R9, eR⟩ : ∃ R9, R9 = R := ⟨_, rfl⟩
      obtain ⟨D9, eD⟩ : ∃ D9, D9 = D := ⟨_, rfl⟩
      obtain ⟨es9, ee⟩ : ∃ es9, es9 = es := ⟨_, rfl⟩
      rw [← eM, ← eR, ← eD, ← ee] at hO7
      rw [← eD] at hD9
      rw [← ee] at hes
      clear eM eR eD ee hO hD
      have RD := fun s (hs : s.length ≤ 9223372036854775807) => read_c p M9 D9 s w7 hO7.dsk hD9.ok hs
      have cA7 : _ = some _ := (hO7.bel.cell (p := ⟨bb, off + i * 7 + 2, none⟩) hbl).trans hc2
      go_wp2_with fail
      refine (RD _ hal).mono ?_; rintro e w8 ⟨u8, rfl, ho8, hb8⟩
      have BK := hO7.book hb8 ho8 (hD9.read _) (by omega)
      go_wp2_with fail
      refine BK.mono ?_; rintro e w9 ⟨bs9, rfl, hl9, hO9⟩
      go_wp2_with fail
      exact ⟨⟨i + 1, M9, R9, D9, es9, bs9, by go_num, by omega, by omega, by omega, hD9, hO9⟩, by simp [intOf]; omega⟩
end Go.Proofs.Ytfnlcnjflloecaa
