/- disk.Restart. -/
import Derived.Test.YtfnlcnjflloecaaDskB
import Derived.Test.YtfnlcnjflloecaaRow
import Derived.Deep.DeepCutAuto
set_option linter.unusedVariables false
set_option linter.unusedSimpArgs false
set_option linter.unnecessarySimpa false
namespace Go.Proofs.Ytfnlcnjflloecaa
open Go.RowKit
theorem modF_mid {pre r : List FileE} {f : FileE} (hu : upF (pre ++ f :: r)) (h : FileE → FileE) : modF (pre ++ f :: r) f.name h = pre ++ h f :: r := by
  have h1 := List.pairwise_append.1 hu
  have h2 := List.pairwise_cons.1 h1.2.1
  unfold modF
  rw [List.map_append, List.map_cons, if_pos rfl]
  congr 1
  · refine (List.map_congr_left fun x hx => ?_).trans (List.map_id _)
    exact if_neg (ne_of_name_lt (h1.2.2 x hx f List.mem_cons_self))
  · congr 1
    refine (List.map_congr_left fun x hx => ?_).trans (List.map_id _)
    exact if_neg (ne_of_name_lt (h2.1 x hx)).symm
theorem lookF_mid {pre r : List FileE} {f : FileE} (hu : upF (pre ++ f :: r)) : lookF (pre ++ f :: r) f.name = some f := lookF_mem hu (by simp)
theorem usedF_append (a b : List FileE) : usedF (a ++ b) = usedF a + usedF b := by
  induction a with
  | nil => simp [usedF]
  | cons f r ih => simp only [List.cons_append, usedF, ih]; omega
/-- What a restart makes of the first file: its bytes, and what is left of the list. -/
def restB (f : FileE) (x : Int) : List UInt8 := if f.safe < f.b.length then f.b.take (f.safe + keptN x (f.b.length - f.safe)) else f.b
theorem restF_cons (f : FileE) (r : List FileE) (kp : List Int) (hs : f.safe ≤ f.b.length) : restF (f :: r) kp = ⟨f.name, restB f (kp.headD 0), (restB f (kp.headD 0)).length⟩ :: restF r (if f.safe < f.b.length then kp.tail else kp) := by
  rw [restF]
  unfold restB
  by_cases h : f.safe < f.b.length
  · simp only [if_pos h]
    have := keptN_le (kp.headD 0) (f.b.length - f.safe)
    congr 2
    rw [List.length_take]; omega
  · simp only [if_neg h]
theorem restB_len (f : FileE) (x : Int) : (restB f x).length ≤ f.b.length := by unfold restB; split <;> simp <;> omega
theorem chg_cell {M : Nat → Prop} {w w' : World} (h : Chg M w w') {b : Nat} (hb : b < w.heap.size) (hM : ¬ M b) {o : Nat} {x : Option Nat} : w'.cell? ⟨b, o, x⟩ = w.cell? ⟨b, o, x⟩ := by
  have e := h.block b hb hM
  simp only [World.cell?, e]
theorem kept_eq (x : Int) (n : Nat) : Int.tmod (max x 0) ((n : Int) + 1) = ((keptN x n : Nat) : Int) := by
  rw [Int.tmod_eq_emod_of_nonneg (by omega)]
  unfold keptN
  have h1 : ((max x 0).toNat : Int) = max x 0 := by omega
  rw [Int.natCast_emod, h1]
  rfl
theorem RdI.cells {w : World} {v : Value} {l : List Int} (h : RdI w v l) : ∃ A c, v = .slice A l.length c ∧ l.length ≤ c ∧ c ≤ maxLen ∧ (0 < l.length → ∃ b off, A = some ⟨b, off, none⟩ ∧ b < w.heap.size ∧ ∀ j x, l[j]? = some x → w.cell? ⟨b, off + j, none⟩ = some (.int .i64 x)) := by
  obtain ⟨⟨hx, A, c, rfl, h1, h2, h3⟩, -⟩ := h
  refine ⟨A, c, rfl, h1, h2, fun hn => ?_⟩
  obtain ⟨b, off, rfl, hc⟩ := h3 hn
  have hg : ∀ j x, l[j]? = some x → w.cell? ⟨b, off + j, none⟩ = some (.int .i64 x) := fun j x hj => hc j _ (by simp [ivs, hj])
  refine ⟨b, off, rfl, World.block_lt_of_cell? w _ (hg 0 l[0] (by simp)), hg⟩
structure RsRel (w1 : World) (M : Nat → Prop) (p : Nat) (D : Dsk) (keep : List Int) (pre r : List FileE) (i : Nat) (wr : World) : Prop where
  fin : restF D.fs keep = pre ++ restF r (keep.drop i)
  nam : namesF (pre ++ r) = namesF D.fs
  ile : i ≤ pre.length
  saf : ∀ f ∈ pre ++ r, f.safe ≤ f.b.length
  usd : (usedF (pre ++ r) : Int) ≤ 16777216
  mem : ∃ rr G V Lb M1, DiskMem wr M1 p rr G V Lb { D with fs := pre ++ r } ∧ ∀ k, M1 k → growM M w1 wr k
  chg : Chg M w1 wr
def RsLoop (w1 : World) (M : Nat → Prop) (p : Nat) (D : Dsk) (keep : List Int) (v4 v13 : Value) (wr : World) : Prop :=
  ∃ pre r i, v4 = .int .i64 ((i : Nat) : Int) ∧ v13 = .int .i64 ((pre : List FileE).length : Int) ∧ RsRel w1 M p D keep pre r i wr
def RsCut (w1 : World) (M : Nat → Prop) (p : Nat) (D : Dsk) (keep : List Int) (pre r : List FileE) (f : FileE) (v4 v7 v13 : Value) (wr : World) : Prop :=
  ∃ (i : Nat) (b1 : List UInt8) (rr : Nat) (G : List UInt8 → Nat) (V : List UInt8 → Value) (Lb : Nat → Nat × List UInt8) (M1 : Nat → Prop), v4 = .int .i64 (i : Int) ∧ v13 = .int .i64 (pre.length : Int) ∧ v7 = .pointer (some ⟨G f.name, 0, none⟩) ∧
    restF D.fs keep = pre ++ ⟨f.name, b1, b1.length⟩ :: restF r (keep.drop i) ∧ i ≤ pre.length + 1 ∧ b1.length ≤ f.b.length ∧ DiskMem wr M1 p rr G V Lb { D with fs := pre ++ ⟨f.name, b1, f.safe⟩ :: r } ∧ (∀ k, M1 k → growM M w1 wr k) ∧ Chg M w1 wr
set_option maxRecDepth 100000 in
set_option maxHeartbeats 12800000 in
theorem restart_c (p : Nat) (M : Nat → Prop) (D : Dsk) (keep : List Int) (kv : Value) (w : World) (h : DiskAt w M p D) (ok : DskOk D) (hn : ∀ f ∈ D.fs, f.name.length ≤ 64) (hl : D.fs.length ≤ 1099511627776)
    (hk : RdI w kv keep) (hkM : ∀ g, kv.ownBlock = some g → ¬ M g) :
    Calls Try.prog 23 #[.pointer (some ⟨p, 0, none⟩), kv] w fun e w' => e = .returned (.tuple #[]) ∧ DiskAt w' (growM M w w') p (restartD D keep) ∧ Chg M w w' := by
  have hlt := h.lt
  have hkw := hk.2
  obtain ⟨Ak, ck, ekv, hck1, hck2, hckx⟩ := hk.cells
  subst ekv
  clear hk
  obtain ⟨r0, G0, V0, Lb0, h⟩ := h
  have NM := names_c p r0 _ G0 D.fs w h.blk h.map ok.up hl hn
  go_enter Try.func23, Try.ntmps23
  go_wp2_with fail
  refine NM.mono ?_; rintro e w1 ⟨u, rfl, ho1, hb1⟩
  have hu := ho1.rd
  obtain ⟨A, c, eu, hc1, hc2, hc3⟩ := hu.open
  have huM : ∀ g, u.ownBlock = some g → ¬ M g := fun g hg hm => by have := hlt g hm; have := ho1.base_le g hg; omega
  have hnl : (namesF D.fs).length = D.fs.length := by simp [namesF]
  subst eu
  have hcx : 0 < (namesF D.fs).length → ∃ b off, A = some ⟨b, off, none⟩ ∧ b < w1.heap.size ∧ ∀ j x, (namesF D.fs)[j]? = some x → w1.cell? ⟨b, off + j, none⟩ = some (.string (strB x)) := fun hp => by
    obtain ⟨b, off, e, hb, hc⟩ := hc3 hp
    refine ⟨b, off, e, hb, fun j x hx => ?_⟩
    obtain ⟨hj, e⟩ := List.getElem?_eq_some_iff.1 hx
    rw [← e]; exact hc j hj
  clear hc3 NM ho1 hu
  obtain ⟨NL, hNl⟩ : ∃ NL, (namesF D.fs).length = NL := ⟨_, rfl⟩
  rw [hNl] at hc1 hcx hnl huM ⊢
  replace hNl := Go.Lib.hid hNl
  go_wp2_with fail
  go_loopw [4, 13] (fun v4 v13 wr => RsLoop w1 M p D keep v4 v13 wr) (fun _ v13 _ => NL - (intOf v13).toNat)
  case atStart => exact ⟨[], D.fs, 0, rfl, rfl, ⟨rfl, rfl, Nat.le_refl _, ok.safe, by have := ok.used; have := ok.room; simp only [List.nil_append]; omega, ⟨r0, G0, V0, Lb0, M, h.below hb1, fun k hk => .inl hk⟩, Chg.refl _ _⟩⟩
  case round =>
    obtain ⟨pre, r, i, rfl, rfl, hR⟩ := hrel
    obtain ⟨hfin, hnam, hile, hsaf, husd, ⟨rr, G, V, Lb, M1, hm, hM1⟩, hchg⟩ := hR
    have hlen : pre.length + r.length = NL := by rw [← hNl.out, ← hnam]; simp [namesF]
    cases r with
    | nil =>
      have q1 : ¬ (pre.length : Int) < (NL : Int) := by simp at hlen; omega
      have e1 : restF D.fs keep = pre := by rw [hfin]; simp [restF]
      rw [List.append_nil] at hm
      have c4 : _ = some _ := hm.blk.cell 4
      have f4 := hm.blk.frozen 4
      have k4 := hm.blk.stored 4 (.bool false)
      have g4 := grown_setCell wr ⟨p, 4, none⟩ (.bool false)
      have c5 : _ = some _ := k4.cell 5
      have f5 := k4.frozen 5
      have k5 := k4.stored 5 (.int .i64 (-1))
      have g5 := grown_setCell (wr.setCell ⟨p, 4, none⟩ (.bool false)) ⟨p, 5, none⟩ (.int .i64 (-1))
      have gg := grown_two g4 g5
      have hcp := Chg.grown gg (M := fun k => k = p) (fun k hk => by cases hk; rfl)
      have hm5 := hm.ctl (D' := restartD D keep) e1 hcp (by
        have e2 : dskC rr (restartD D keep) = (((dskC rr { D with fs := pre }).set 4 (.bool false)).set 5 (.int .i64 (-1))) := by
          unfold restartD dskC; rw [e1]; rfl
        rw [e2]; exact k5)
      have hcF : Chg M w1 _ := hchg.chg_trans hcp (fun k hk => by
        subst hk
        rcases hM1 _ hm.mp with h | h
        · exact .inr h
        · exact .inl h.1)
      clear hcx hckx
      go_wp2_with fail
      refine bodyPost_end (results_none rfl _ _ _) rfl ⟨rfl, ?_, (Chg.of_below hb1).tr hcF⟩
      refine hm5.growd (fun k hk => (hM1 k hk).imp id fun h => ⟨by have := hb1.size; omega, by have := gg.size; omega⟩) hlt (by have := hb1.size; have := hcF.size; omega)
    | cons f r =>
      have q1 : (pre.length : Int) < (NL : Int) := by simp at hlen; omega
      have hup : upF (pre ++ f :: r) := by rw [upF_names, hnam, ← upF_names]; exact ok.up
      have hlk := lookF_mid hup
      have F := hm.file f.name f hlk
      have hnj : (namesF D.fs)[pre.length]? = some f.name := by rw [← hnam]; simp [namesF]
      obtain ⟨bu, ou, eA, hbu, hcu⟩ := hcx (by omega)
      have hcj := hcu pre.length f.name hnj
      have huM2 : ¬ M bu := huM bu (by rw [eA]; rfl)
      subst eA
      have hcj2 : wr.cell? ⟨bu, ou + pre.length, none⟩ = some (.string (strB f.name)) := by rw [chg_cell hchg hbu huM2]; exact hcj
      have hl2 := (run_lookupK (P := Try.prog) hm.map Try.underlying66 Try.underlying9 zPF (strB f.name)).2
      rw [ptrK_some hlk] at hl2
      simp only [Option.getD_some] at hl2
      have c0 : _ = some (Value.map (some rr)) := hm.blk.cell 0
      generalize strB f.name = SN at *
      have uF := used_look hlk
      have uS := hsaf f (by simp)
      have hlk8 : (keep.length : Int) ≤ 9223372036854775807 := by unfold maxLen at hck2; omega
      have hil : (i : Int) ≤ 1099511627776 := by omega
      go_upto_region 5 with fail
      have cF := F.blk.drew.cell 0
      have cS := F.blk.drew.cell 1
      replace cF : _ = some (V f.name) := cF
      replace cS : _ = some (Value.int .i64 (f.safe : Int)) := cS
      have hrdF := F.row.rd
      have q5 : (f.b.length : Int) ≤ 16777216 := by omega
      have q6 : (f.safe : Int) ≤ (f.b.length : Int) := by omega
      (refine region_still (by kernel_rfl) (by kernel_rfl) ?_; repeat (first | (with_reducible refine GS_len ?_; refine S8_len Try.underlying38 (by with_unfolding_all (conv => lhs; whnf)) (by assumption) ?_) | (refine wpStill_step (fun K hK => ?_); go_simp; (try go_bits); refine hK _ ?_; clear hK K)); try refine wpStill_nil ?_)
      have hm' := hm.drew
      have hchg' : Chg M w1 wr.drew := ⟨hchg.os, hchg.tape, hchg.output, hchg.size, hchg.block⟩
      replace hM1 : ∀ k, M1 k → growM M w1 wr.drew k := hM1
      clear cF cS c0 hl2 hcj2 hcj F hm hchg
      generalize wr.drew = wd at *
      have hGp : p ≠ G f.name := fun e => by have := (hm'.file f.name f hlk).lab; rw [← e, hm'.lp] at this; cases this
      have hVp : (V f.name).ownBlock ≠ some p := fun e => by have := ((hm'.file f.name f hlk).rown _ e).2; rw [hm'.lp] at this; cases this
      have hVg : (V f.name).ownBlock ≠ some (G f.name) := fun e => by have := ((hm'.file f.name f hlk).rown _ e).2; rw [(hm'.file f.name f hlk).lab] at this; cases this
      have SH := fun (K : Nat) (hK : f.safe + K ≤ f.b.length) => shorten_c p (G f.name) rr { D with fs := pre ++ f :: r } (V f.name) (.int .i64 (f.safe : Int)) f.b (f.safe + K) wd hm'.blk (hm'.file f.name f hlk).blk (hm'.file f.name f hlk).row hGp hVp hVg hK uF husd
      have hz1 := hchg'.size
      have FIN : ∀ (K : Nat) (w' : World) (v' : Value) (i' : Nat), f.safe + K ≤ f.b.length →
          Blk w' p 68 ((dskC rr { D with fs := pre ++ f :: r }).set 2 (.int .i64 ((usedF (pre ++ f :: r) : Int) - ((f.b.length : Int) - ((f.safe + K : Nat) : Int))))) → Blk w' (G f.name) 77 [v', .int .i64 (f.safe : Int)] → Own8 w' 0 5 v' (f.b.take (f.safe + K)) →
          v'.ownBlock = (V f.name).ownBlock → Chg (fun k => k = p ∨ k = G f.name) wd w' → i' ≤ pre.length + 1 → restF D.fs keep = pre ++ ⟨f.name, f.b.take (f.safe + K), (f.b.take (f.safe + K)).length⟩ :: restF r (keep.drop i') →
          RsCut w1 M p D keep pre r f (.int .i64 (i' : Int)) (.pointer (some ⟨G f.name, 0, none⟩)) (.int .i64 (pre.length : Int)) w' := by
        intro K w' v' i' hK k1 k2 k3 k4 k5 k6 k7
        have e1 := used_mod hup f.name (fun x => ⟨x.name, x.b.take (f.safe + K), x.safe⟩)
        have e2 := modF_mid hup (fun x => ⟨x.name, x.b.take (f.safe + K), x.safe⟩)
        obtain ⟨V2, Lb2, hm2, -⟩ := hm'.modify hlk (g := fun x => ⟨x.name, x.b.take (f.safe + K), x.safe⟩) (fun _ => rfl) (D' := { D with fs := pre ++ ⟨f.name, f.b.take (f.safe + K), f.safe⟩ :: r }) e2.symm
          (k5.mono (fun k hk => by rcases hk with h | h; exact .inl h; exact .inr (.inl h)))
          (by
            have e3 : (usedF (pre ++ ⟨f.name, f.b.take (f.safe + K), f.safe⟩ :: r) : Int) = (usedF (pre ++ f :: r) : Int) - ((f.b.length : Int) - ((f.safe + K : Nat) : Int)) := by
              rw [e2] at e1
              rw [hlk] at e1
              simp only [Option.map_some, Option.getD_some, List.length_take] at e1
              omega
            unfold dskC at k1 ⊢
            simp only at k1 ⊢
            rw [e3]
            exact k1) k2 k3 (fun k hk => .inl (k4 ▸ hk))
        refine ⟨i', f.b.take (f.safe + K), rr, G, V2, Lb2, _, rfl, rfl, rfl, k7, k6, by simp; omega, hm2, ?_, ?_⟩
        · rintro k (hk | hk)
          · exact (hM1 k hk).imp id fun h => ⟨h.1, by have := k5.size; omega⟩
          · exact .inr ⟨by omega, hk.2⟩
        · refine hchg'.chg_trans k5 fun k hk => ?_
          rcases hk with rfl | rfl
          · rcases hM1 _ hm'.mp with h | h
            · exact .inr h
            · exact .inl h.1
          · rcases hM1 _ (hm'.file f.name f hlk).own with h | h
            · exact .inr h
            · exact .inl h.1
      have hfin2 := hfin
      rw [restF_cons f r _ (hsaf f (by simp))] at hfin2
      have hkd : (keep.drop i).tail = keep.drop (i + 1) := by rw [List.tail_drop]
      go_upto_if 34 with fail
      go_cut [4, 7, 13] (fun v4 v7 v13 wx => RsCut w1 M p D keep pre r f v4 v7 v13 wx)
      case first =>
        by_cases hun : f.safe < f.b.length
        · have d1 : (0 : Int) < (f.b.length : Int) - (f.safe : Int) := by omega
          have d2 : decide ((0 : Int) < (f.b.length : Int) - (f.safe : Int)) = true := decide_eq_true d1
          have hrB : ∀ x, restB f x = f.b.take (f.safe + keptN x (f.b.length - f.safe)) := fun x => if_pos hun
          rw [hrB, if_pos hun, hkd] at hfin2
          by_cases hik : i < keep.length
          · have d3 : (i : Int) < (keep.length : Int) := by omega
            have d4 : decide ((i : Int) < (keep.length : Int)) = true := decide_eq_true d3
            obtain ⟨bk, ok2, eA, hbk, hck⟩ := hckx (by omega)
            have hki := hck i keep[i] (by simp [hik])
            have hkM2 : ¬ M bk := hkM bk (by rw [eA]; rfl)
            subst eA
            have hki2 : wd.cell? ⟨bk, ok2 + i, none⟩ = some (.int .i64 keep[i]) := by rw [chg_cell hchg' (by have := hb1.size; omega) hkM2, hb1.cell hbk]; exact hki
            have q7 : ¬ (f.b.length : Int) - (f.safe : Int) + 1 = 0 := by omega
            have hK : max keep[i] 0 % ((f.b.length : Int) - (f.safe : Int) + 1) = ((keptN keep[i] (f.b.length - f.safe) : Nat) : Int) := by
              have hmo : ((f.b.length : Int) - (f.safe : Int)) + 1 = (((f.b.length - f.safe : Nat) : Int)) + 1 := by omega
              rw [hmo, ← kept_eq, Int.tmod_eq_emod_of_nonneg (by omega)]
            have hKl := keptN_le keep[i] (f.b.length - f.safe)
            have hhd : (keep.drop i).headD 0 = keep[i] := by
              rw [List.headD_eq_head?_getD, List.head?_drop, List.getElem?_eq_getElem hik]; rfl
            rw [hhd] at hfin2
            have SH2 := SH (keptN keep[i] (f.b.length - f.safe)) (by omega)
            have FIN2 := fun w' v' => FIN (keptN keep[i] (f.b.length - f.safe)) w' v' (i + 1) (by omega)
            rw [Int.natCast_add] at SH2
            go_upto_region 10 with fail
            try rw [hK]
            clear hK
            generalize keptN keep[i] (f.b.length - f.safe) = K at *
            have cS : _ = some (Value.int .i64 (f.safe : Int)) := (hm'.file f.name f hlk).blk.cell 1
            have q8 : (f.safe : Int) + (K : Int) ≤ 16777216 := by omega
            clear hki2 hki hck hckx SH FIN hcx
            go_wp2_with fail
            refine SH2.mono ?_
            rintro e w2 ⟨rfl, v', k1, k2, k3, k4, k5⟩
            go_wp2_with fail
            go_meet
            have FF := FIN2 w2 v' k1 k2 k3 k4 k5 (by omega) hfin2
            rw [Int.natCast_add] at FF
            exact FF
          · have d3 : ¬ (i : Int) < (keep.length : Int) := by omega
            have d4 : decide ((i : Int) < (keep.length : Int)) = false := decide_eq_false d3
            have hhd : (keep.drop i).headD 0 = 0 := by rw [List.drop_eq_nil_of_le (by omega)]; rfl
            have hK0 : keptN 0 (f.b.length - f.safe) = 0 := by simp [keptN]
            rw [hhd, hK0] at hfin2
            have SH2 := SH 0 (by omega)
            have FIN2 := fun w' v' => FIN 0 w' v' (i + 1) (by omega)
            have cS : _ = some (Value.int .i64 (f.safe : Int)) := (hm'.file f.name f hlk).blk.cell 1
            clear hckx SH FIN hcx
            simp only [Nat.add_zero] at SH2 FIN2 hfin2
            go_wp2_with fail
            refine SH2.mono ?_
            rintro e w2 ⟨rfl, v', k1, k2, k3, k4, k5⟩
            go_wp2_with fail
            go_meet
            have FF := FIN2 w2 v' k1 k2 k3 k4 k5 (by omega) hfin2
            rw [Int.natCast_add] at FF
            exact FF
        · have d1 : ¬ (0 : Int) < (f.b.length : Int) - (f.safe : Int) := by omega
          have d2 : decide ((0 : Int) < (f.b.length : Int) - (f.safe : Int)) = false := decide_eq_false d1
          have hrB : ∀ x, restB f x = f.b := fun x => if_neg hun
          rw [hrB, if_neg hun] at hfin2
          clear SH FIN hcx hckx
          go_wp2_with fail
          go_meet
          exact ⟨i, f.b, rr, G, V, Lb, M1, rfl, rfl, rfl, hfin2, by omega, Nat.le_refl _, hm', hM1, hchg'⟩
      case rest =>
        clear FIN SH hm' hM1 hchg' hVp hVg hGp hfin2 hrdF hckx hcx
        obtain ⟨i2, b1, rr2, G2, V2, Lb2, M2, rfl, rfl, rfl, hfin3, hi3, hbl, hm3, hM3, hc3⟩ := hcut
        have hup3 : upF (pre ++ ⟨f.name, b1, f.safe⟩ :: r) := by
          rw [upF_names] at hup ⊢
          have e : namesF (pre ++ ⟨f.name, b1, f.safe⟩ :: r) = namesF (pre ++ f :: r) := by simp [namesF]
          rw [e]; exact hup
        have hlk3 : lookF (pre ++ ⟨f.name, b1, f.safe⟩ :: r) f.name = some ⟨f.name, b1, f.safe⟩ := lookF_mid (f := ⟨f.name, b1, f.safe⟩) hup3
        have F := hm3.file f.name _ hlk3
        obtain ⟨Aa, ca, ea, -, -, -⟩ := F.row.rd.open
        have cF : _ = some _ := F.blk.cell 0
        have cG : _ = some _ := F.blk.cell 1
        have fG := F.blk.frozen 1
        have kF := F.blk.stored 1 (.int .i64 (b1.length : Int))
        have gF := grown_setCell wc ⟨G2 f.name, 1, none⟩ (.int .i64 (b1.length : Int))
        have hrd := F.row.rd
        have hGp : G2 f.name ≠ p := fun e => by have := F.lab; rw [e, hm3.lp] at this; cases this
        have hown := F.row.grown gF (.inr (fun e => by have := (F.rown _ e).2; rw [show (⟨G2 f.name, 1, none⟩ : Addr).block = G2 f.name from rfl, F.lab] at this; cases this))
        have kP := hm3.blk.other (a := ⟨G2 f.name, 1, none⟩) (Ne.symm hGp) (.int .i64 (b1.length : Int))
        go_wp2_with (first | (with_reducible refine G_len ?_; refine L8_len Try.underlying38 (by with_unfolding_all (conv => lhs; whnf)) (by assumption) ?_))
        have hcF := Chg.grown gF (M := fun k => k = p ∨ k = G2 f.name ∨ (V2 f.name).ownBlock = some k) (fun k hk => by cases hk; exact .inr (.inl rfl))
        have e2 := modF_mid (f := ⟨f.name, b1, f.safe⟩) hup3 (fun x => ⟨x.name, x.b, x.b.length⟩)
        obtain ⟨V4, Lb4, hm4, -⟩ := hm3.modify hlk3 (g := fun x => ⟨x.name, x.b, x.b.length⟩) (fun _ => rfl) (D' := { D with fs := pre ++ ⟨f.name, b1, b1.length⟩ :: r }) e2.symm hcF
          (by
            have e3 : usedF (pre ++ ⟨f.name, b1, b1.length⟩ :: r) = usedF (pre ++ ⟨f.name, b1, f.safe⟩ :: r) := by rw [usedF_append, usedF_append]; rfl
            unfold dskC at kP ⊢
            simp only [e3]
            exact kP) kF hown (fun k hk => .inl hk)
        refine ⟨⟨pre ++ [⟨f.name, b1, b1.length⟩], r, i2, rfl, by simp, ⟨by rw [hfin3]; simp, ?_, by simp; omega, ?_, ?_, ⟨rr2, G2, V4, Lb4, _, by rw [List.append_assoc]; exact hm4, ?_⟩, ?_⟩⟩, ?_⟩
        · rw [← hnam]; simp [namesF]
        · intro x hx
          simp only [List.mem_append, List.mem_singleton] at hx
          rcases hx with (hx | rfl) | hx
          · exact hsaf x (by simp [hx])
          · exact Nat.le_refl _
          · exact hsaf x (by simp [hx])
        · rw [usedF_append, usedF_append] at *
          simp only [usedF] at *
          omega
        · rintro k (hk | hk)
          · exact (hM3 k hk).imp id fun h => ⟨h.1, by have := gF.size; omega⟩
          · exact .inr ⟨by have := hc3.size; omega, hk.2⟩
        · refine hc3.chg_trans (Chg.grown gF (M := fun k => k = G2 f.name) (fun k hk => by cases hk; rfl)) fun k hk => ?_
          subst hk
          rcases hM3 _ F.own with h | h
          · exact .inr h
          · exact .inl h.1
        · simp [intOf]; omega
end Go.Proofs.Ytfnlcnjflloecaa
