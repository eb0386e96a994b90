/- The reference's Valid: UTF-8, byte by byte. -/
import Derived.Test.YtfnlcnjflloecaaDoorOct5
import Derived.Test.YtfnlcnjflloecaaDoorValidPure
set_option linter.unusedVariables false
set_option linter.unusedSimpArgs false
namespace Go.Proofs.YtfnlcnjflloecaaDoor
open Go.RowKit
def RvR (w : World) (l : List UInt8) (i : Value) (wr : World) : Prop := ∃ j : Nat, j ≤ l.length ∧ i = .int .i64 (j : Int) ∧ Lib.validD (l.drop j) = Lib.validD l ∧ wr = w
def InR (t : List UInt8) (n LO HI : Nat) (w1 : World) (lo hi k : Value) (wr : World) : Prop :=
  ∃ m : Nat, 1 ≤ m ∧ m ≤ n + 1 ∧ lo = .int .u8 ((if m = 1 then LO else 128 : Nat) : Int) ∧ hi = .int .u8 ((if m = 1 then HI else 191 : Nat) : Int) ∧ k = .int .i64 (m : Int) ∧ (∀ j, 1 ≤ j → j < m → okAt t LO HI j) ∧ w1 = wr
set_option maxRecDepth 100000 in
set_option maxHeartbeats 6400000 in
theorem refvalid_c (l : List UInt8) (w : World) (hl : l.length ≤ 1000000000) : Calls Tryd.prog 58 #[.string (strB l)] w fun e w' => e = .returned (.bool (Lib.validD l)) ∧ w = w' := by
  have hsz := strB_size l
  have hgetS : ∀ k (hk : k < (strB l).size), ((strB l)[k]'hk) = l.getD k 0 := fun k hk => by
    rw [List.getD_eq_getElem?_getD, List.getElem?_eq_getElem (by omega)]; rfl
  generalize strB l = S at *
  go_enter Tryd.func58, Tryd.ntmps58
  go_wp2_with fail
  go_loopw [3] (fun i wr => RvR w l i wr) (fun i _ => l.length - (intOf i).toNat)
  case atStart => exact ⟨0, by omega, rfl, rfl, rfl⟩
  case round =>
    obtain ⟨j, hj, rfl, hval, rfl⟩ := hrel
    by_cases hlt : j < l.length
    · have q0 : (j : Int) < l.length := by omega
      have hjS : j < S.size := by omega
      obtain ⟨c, hc0⟩ : ∃ c, l.getD j 0 = c := ⟨_, rfl⟩
      have hcS : S[j]'hjS = c := by rw [hgetS j hjS, hc0]
      have hY0 : ((S[j]'hjS).toNat : Int) = (c.toNat : Int) := congrArg (fun u : UInt8 => (u.toNat : Int)) hcS
      obtain ⟨t, ht⟩ : ∃ t, t = l.drop j := ⟨_, rfl⟩
      have htl : t.length = l.length - j := by rw [ht, List.length_drop]
      have hne : t ≠ [] := List.length_pos_iff.1 (by omega)
      have hc : t.getD 0 0 = c := by rw [ht, ← hc0]; simp [List.getD_eq_getElem?_getD]
      have hclt := c.toNat_lt
      rw [← ht] at hval
      clear hcS hc0
      replace hgetS := Go.Lib.hid hgetS
      by_cases hcl : c.toNat < 128
      · have f0 : (c.toNat : Int) < 128 := by omega
        have f1 : ¬ ((194 : Int) ≤ c.toNat) := by omega
        have f2 : (c.toNat : Int) ≤ 223 := by omega
        have f3 : ¬ ((224 : Int) ≤ c.toNat) := by omega
        have f4 : (c.toNat : Int) ≤ 239 := by omega
        have f5 : ¬ ((c.toNat : Int) = 224) := by omega
        have f6 : ¬ ((c.toNat : Int) = 237) := by omega
        have f7 : ¬ ((240 : Int) ≤ c.toNat) := by omega
        have f8 : (c.toNat : Int) ≤ 244 := by omega
        have f9 : ¬ ((c.toNat : Int) = 240) := by omega
        have f10 : ¬ ((c.toNat : Int) = 244) := by omega
        have hV1 : Lib.validD t = Lib.validD (t.drop 1) := (Lib.validD_ascii 1 t (by match t, hne, hc with | a :: r, _, hc => intro b hb; simp at hb hc; rw [hb, hc]; exact hcl))
        replace hcl := Go.Lib.hid hcl
        go_wp2_with fail
        go_loopw [6, 7, 8] (fun lo hi k wr' => InR t 0 128 191 wr lo hi k wr') (fun _ _ k _ => 2 - (intOf k).toNat)
        case atStart => exact ⟨1, by omega, by omega, rfl, rfl, rfl, fun j' h1 h2 => by omega, rfl⟩
        case round =>
          obtain ⟨m, hm1, hm2, rfl, rfl, rfl, hok, rfl⟩ := hrel
          have q1 : ¬ (m : Int) ≤ 0 := by omega
          obtain rfl : m = 1 := by omega
          go_wp2_with fail
          exact ⟨⟨j + 1, by omega, by go_num, by rw [← hval, hV1, ht, List.drop_drop], rfl⟩, by simp only [intOf]; omega⟩
      have hasc := hcl
      clear hcl
      by_cases hcl : 194 ≤ c.toNat ∧ c.toNat < 224
      · have f0 : ¬ ((c.toNat : Int) < 128) := by omega
        have f1 : (194 : Int) ≤ c.toNat := by omega
        have f2 : (c.toNat : Int) ≤ 223 := by omega
        have f3 : ¬ ((224 : Int) ≤ c.toNat) := by omega
        have f4 : (c.toNat : Int) ≤ 239 := by omega
        have f5 : ¬ ((c.toNat : Int) = 224) := by omega
        have f6 : ¬ ((c.toNat : Int) = 237) := by omega
        have f7 : ¬ ((240 : Int) ≤ c.toNat) := by omega
        have f8 : (c.toNat : Int) ≤ 244 := by omega
        have f9 : ¬ ((c.toNat : Int) = 240) := by omega
        have f10 : ¬ ((c.toNat : Int) = 244) := by omega
        have hV := valid_lead t 1 128 191 hne (by rw [hc]; omega) (by rw [hc]; exact lead_C2 _ hcl)
        replace hcl := Go.Lib.hid hcl
        go_wp2_with fail
        go_loopw [6, 7, 8] (fun lo hi k wr' => InR t 1 128 191 wr lo hi k wr') (fun _ _ k _ => 3 - (intOf k).toNat)
        case atStart => exact ⟨1, by omega, by omega, rfl, rfl, rfl, fun j' h1 h2 => by omega, rfl⟩
        case round =>
          obtain ⟨m, hm1, hm2, rfl, rfl, rfl, hok, rfl⟩ := hrel
          by_cases hle : m ≤ 1
          · have q1 : (m : Int) ≤ 1 := by omega
            have hLOc : (0 : Int) ≤ (if m = 1 then 128 else 128 : Nat) := by omega
            obtain ⟨LO, hLO⟩ : ∃ LO : Nat, (if m = 1 then 128 else 128) = LO := ⟨_, rfl⟩
            obtain ⟨HI, hHI⟩ : ∃ HI : Nat, (if m = 1 then 191 else 191) = HI := ⟨_, rfl⟩
            rw [hLO, hHI]
            clear hLOc
            by_cases o1 : t.length ≤ m
            · have hbad : ¬ okAt t 128 191 m := fun h => by have := h.1; omega
              have hF := hV.2 ⟨m, hm1, hle, hbad⟩
              have q2 : (l.length : Int) ≤ (j : Int) + m := by omega
              clear hV hok hbad
              go_wp2_with fail
              go_ret
              exact ⟨by rw [← hval, hF]; rfl, rfl⟩
            · obtain ⟨P, hP⟩ : ∃ P, j + m = P := ⟨_, rfl⟩
              have hPI : (j : Int) + (m : Int) = (P : Int) := by omega
              have hPl : P < S.size := by omega
              have q2 : ¬ (l.length : Int) ≤ (P : Int) := by omega
              have q3 : (P : Int) < (l.length : Int) := by omega
              have hb : S[P]'hPl = t.getD m 0 := by rw [hgetS.out P hPl, ← hP, ht]; simp [List.getD_eq_getElem?_getD]
              obtain ⟨d, hd⟩ : ∃ d, t.getD m 0 = d := ⟨_, rfl⟩
              rw [hd] at hb
              have hdlt := d.toNat_lt
              have hY : ((S[P]'hPl).toNat : Int) = (d.toNat : Int) := congrArg (fun u : UInt8 => (u.toNat : Int)) hb
              have hokm : okAt t 128 191 m ↔ LO ≤ d.toNat ∧ d.toNat ≤ HI := by
                unfold okAt
                rw [hLO, hHI, hd]
                exact ⟨fun h => h.2, fun h => ⟨by omega, h⟩⟩
              clear hb hd
              replace hLO := Go.Lib.hid hLO
              replace hHI := Go.Lib.hid hHI
              replace hP := Go.Lib.hid hP
              by_cases o2 : d.toNat < LO
              · have hF := hV.2 ⟨m, hm1, hle, fun h => by have := hokm.1 h; omega⟩
                have q4 : (d.toNat : Int) < (LO : Int) := by omega
                clear hV hok hokm hgetS
                go_wp2_with fail
                go_ret
                exact ⟨by rw [← hval, hF]; rfl, rfl⟩
              · have q4 : ¬ (d.toNat : Int) < (LO : Int) := by omega
                by_cases o3 : HI < d.toNat
                · have hF := hV.2 ⟨m, hm1, hle, fun h => by have := hokm.1 h; omega⟩
                  have q5 : (HI : Int) < (d.toNat : Int) := by omega
                  clear hV hok hokm hgetS
                  go_wp2_with fail
                  go_ret
                  exact ⟨by rw [← hval, hF]; rfl, rfl⟩
                · have q5 : ¬ (HI : Int) < (d.toNat : Int) := by omega
                  have hokm' := hokm.2 (by omega)
                  clear hokm
                  go_wp2_with fail
                  refine ⟨⟨m + 1, by omega, by omega, by rw [if_neg (by omega)]; rfl, by rw [if_neg (by omega)]; rfl, by go_num, fun j' h1 h2 => ?_, rfl⟩, by simp only [intOf]; omega⟩
                  by_cases e : j' = m
                  · rw [e]; exact hokm'
                  · exact hok j' h1 (by omega)
          · have q1 : ¬ (m : Int) ≤ 1 := by omega
            obtain rfl : m = 2 := by omega
            go_wp2_with fail
            have hl : 1 < t.length := (hok 1 (by omega) (by omega)).1
            exact ⟨⟨j + 2, by omega, by go_num, by rw [← hval, hV.1 (fun j' a b => hok j' a (by omega)), ht, List.drop_drop], rfl⟩, by simp only [intOf]; omega⟩
      have hC2 := hcl
      clear hcl
      by_cases hcl : c.toNat = 224
      · have f0 : (c.toNat : Int) = 224 := by omega
        have hV := valid_lead t 2 160 191 hne (by rw [hc]; omega) (by rw [hc]; exact (by rw [hcl]; exact lead_E0))
        replace hcl := Go.Lib.hid hcl
        go_wp2_with fail
        go_loopw [6, 7, 8] (fun lo hi k wr' => InR t 2 160 191 wr lo hi k wr') (fun _ _ k _ => 4 - (intOf k).toNat)
        case atStart => exact ⟨1, by omega, by omega, rfl, rfl, rfl, fun j' h1 h2 => by omega, rfl⟩
        case round =>
          obtain ⟨m, hm1, hm2, rfl, rfl, rfl, hok, rfl⟩ := hrel
          by_cases hle : m ≤ 2
          · have q1 : (m : Int) ≤ 2 := by omega
            have hLOc : (0 : Int) ≤ (if m = 1 then 160 else 128 : Nat) := by omega
            obtain ⟨LO, hLO⟩ : ∃ LO : Nat, (if m = 1 then 160 else 128) = LO := ⟨_, rfl⟩
            obtain ⟨HI, hHI⟩ : ∃ HI : Nat, (if m = 1 then 191 else 191) = HI := ⟨_, rfl⟩
            rw [hLO, hHI]
            clear hLOc
            by_cases o1 : t.length ≤ m
            · have hbad : ¬ okAt t 160 191 m := fun h => by have := h.1; omega
              have hF := hV.2 ⟨m, hm1, hle, hbad⟩
              have q2 : (l.length : Int) ≤ (j : Int) + m := by omega
              clear hV hok hbad
              go_wp2_with fail
              go_ret
              exact ⟨by rw [← hval, hF]; rfl, rfl⟩
            · obtain ⟨P, hP⟩ : ∃ P, j + m = P := ⟨_, rfl⟩
              have hPI : (j : Int) + (m : Int) = (P : Int) := by omega
              have hPl : P < S.size := by omega
              have q2 : ¬ (l.length : Int) ≤ (P : Int) := by omega
              have q3 : (P : Int) < (l.length : Int) := by omega
              have hb : S[P]'hPl = t.getD m 0 := by rw [hgetS.out P hPl, ← hP, ht]; simp [List.getD_eq_getElem?_getD]
              obtain ⟨d, hd⟩ : ∃ d, t.getD m 0 = d := ⟨_, rfl⟩
              rw [hd] at hb
              have hdlt := d.toNat_lt
              have hY : ((S[P]'hPl).toNat : Int) = (d.toNat : Int) := congrArg (fun u : UInt8 => (u.toNat : Int)) hb
              have hokm : okAt t 160 191 m ↔ LO ≤ d.toNat ∧ d.toNat ≤ HI := by
                unfold okAt
                rw [hLO, hHI, hd]
                exact ⟨fun h => h.2, fun h => ⟨by omega, h⟩⟩
              clear hb hd
              replace hLO := Go.Lib.hid hLO
              replace hHI := Go.Lib.hid hHI
              replace hP := Go.Lib.hid hP
              by_cases o2 : d.toNat < LO
              · have hF := hV.2 ⟨m, hm1, hle, fun h => by have := hokm.1 h; omega⟩
                have q4 : (d.toNat : Int) < (LO : Int) := by omega
                clear hV hok hokm hgetS
                go_wp2_with fail
                go_ret
                exact ⟨by rw [← hval, hF]; rfl, rfl⟩
              · have q4 : ¬ (d.toNat : Int) < (LO : Int) := by omega
                by_cases o3 : HI < d.toNat
                · have hF := hV.2 ⟨m, hm1, hle, fun h => by have := hokm.1 h; omega⟩
                  have q5 : (HI : Int) < (d.toNat : Int) := by omega
                  clear hV hok hokm hgetS
                  go_wp2_with fail
                  go_ret
                  exact ⟨by rw [← hval, hF]; rfl, rfl⟩
                · have q5 : ¬ (HI : Int) < (d.toNat : Int) := by omega
                  have hokm' := hokm.2 (by omega)
                  clear hokm
                  go_wp2_with fail
                  refine ⟨⟨m + 1, by omega, by omega, by rw [if_neg (by omega)]; rfl, by rw [if_neg (by omega)]; rfl, by go_num, fun j' h1 h2 => ?_, rfl⟩, by simp only [intOf]; omega⟩
                  by_cases e : j' = m
                  · rw [e]; exact hokm'
                  · exact hok j' h1 (by omega)
          · have q1 : ¬ (m : Int) ≤ 2 := by omega
            obtain rfl : m = 3 := by omega
            go_wp2_with fail
            have hl : 2 < t.length := (hok 2 (by omega) (by omega)).1
            exact ⟨⟨j + 3, by omega, by go_num, by rw [← hval, hV.1 (fun j' a b => hok j' a (by omega)), ht, List.drop_drop], rfl⟩, by simp only [intOf]; omega⟩
      have hE0 := hcl
      clear hcl
      by_cases hcl : (225 ≤ c.toNat ∧ c.toNat < 237) ∨ (238 ≤ c.toNat ∧ c.toNat < 240)
      · have f0 : ¬ ((c.toNat : Int) < 128) := by omega
        have f1 : (194 : Int) ≤ c.toNat := by omega
        have f2 : ¬ ((c.toNat : Int) ≤ 223) := by omega
        have f3 : (224 : Int) ≤ c.toNat := by omega
        have f4 : (c.toNat : Int) ≤ 239 := by omega
        have f5 : ¬ ((c.toNat : Int) = 224) := by omega
        have f6 : ¬ ((c.toNat : Int) = 237) := by omega
        have f7 : ¬ ((240 : Int) ≤ c.toNat) := by omega
        have f8 : (c.toNat : Int) ≤ 244 := by omega
        have f9 : ¬ ((c.toNat : Int) = 240) := by omega
        have f10 : ¬ ((c.toNat : Int) = 244) := by omega
        have hV := valid_lead t 2 128 191 hne (by rw [hc]; omega) (by rw [hc]; exact lead_E1 _ hcl)
        replace hcl := Go.Lib.hid hcl
        go_wp2_with fail
        go_loopw [6, 7, 8] (fun lo hi k wr' => InR t 2 128 191 wr lo hi k wr') (fun _ _ k _ => 4 - (intOf k).toNat)
        case atStart => exact ⟨1, by omega, by omega, rfl, rfl, rfl, fun j' h1 h2 => by omega, rfl⟩
        case round =>
          obtain ⟨m, hm1, hm2, rfl, rfl, rfl, hok, rfl⟩ := hrel
          by_cases hle : m ≤ 2
          · have q1 : (m : Int) ≤ 2 := by omega
            have hLOc : (0 : Int) ≤ (if m = 1 then 128 else 128 : Nat) := by omega
            obtain ⟨LO, hLO⟩ : ∃ LO : Nat, (if m = 1 then 128 else 128) = LO := ⟨_, rfl⟩
            obtain ⟨HI, hHI⟩ : ∃ HI : Nat, (if m = 1 then 191 else 191) = HI := ⟨_, rfl⟩
            rw [hLO, hHI]
            clear hLOc
            by_cases o1 : t.length ≤ m
            · have hbad : ¬ okAt t 128 191 m := fun h => by have := h.1; omega
              have hF := hV.2 ⟨m, hm1, hle, hbad⟩
              have q2 : (l.length : Int) ≤ (j : Int) + m := by omega
              clear hV hok hbad
              go_wp2_with fail
              go_ret
              exact ⟨by rw [← hval, hF]; rfl, rfl⟩
            · obtain ⟨P, hP⟩ : ∃ P, j + m = P := ⟨_, rfl⟩
              have hPI : (j : Int) + (m : Int) = (P : Int) := by omega
              have hPl : P < S.size := by omega
              have q2 : ¬ (l.length : Int) ≤ (P : Int) := by omega
              have q3 : (P : Int) < (l.length : Int) := by omega
              have hb : S[P]'hPl = t.getD m 0 := by rw [hgetS.out P hPl, ← hP, ht]; simp [List.getD_eq_getElem?_getD]
              obtain ⟨d, hd⟩ : ∃ d, t.getD m 0 = d := ⟨_, rfl⟩
              rw [hd] at hb
              have hdlt := d.toNat_lt
              have hY : ((S[P]'hPl).toNat : Int) = (d.toNat : Int) := congrArg (fun u : UInt8 => (u.toNat : Int)) hb
              have hokm : okAt t 128 191 m ↔ LO ≤ d.toNat ∧ d.toNat ≤ HI := by
                unfold okAt
                rw [hLO, hHI, hd]
                exact ⟨fun h => h.2, fun h => ⟨by omega, h⟩⟩
              clear hb hd
              replace hLO := Go.Lib.hid hLO
              replace hHI := Go.Lib.hid hHI
              replace hP := Go.Lib.hid hP
              by_cases o2 : d.toNat < LO
              · have hF := hV.2 ⟨m, hm1, hle, fun h => by have := hokm.1 h; omega⟩
                have q4 : (d.toNat : Int) < (LO : Int) := by omega
                clear hV hok hokm hgetS
                go_wp2_with fail
                go_ret
                exact ⟨by rw [← hval, hF]; rfl, rfl⟩
              · have q4 : ¬ (d.toNat : Int) < (LO : Int) := by omega
                by_cases o3 : HI < d.toNat
                · have hF := hV.2 ⟨m, hm1, hle, fun h => by have := hokm.1 h; omega⟩
                  have q5 : (HI : Int) < (d.toNat : Int) := by omega
                  clear hV hok hokm hgetS
                  go_wp2_with fail
                  go_ret
                  exact ⟨by rw [← hval, hF]; rfl, rfl⟩
                · have q5 : ¬ (HI : Int) < (d.toNat : Int) := by omega
                  have hokm' := hokm.2 (by omega)
                  clear hokm
                  go_wp2_with fail
                  refine ⟨⟨m + 1, by omega, by omega, by rw [if_neg (by omega)]; rfl, by rw [if_neg (by omega)]; rfl, by go_num, fun j' h1 h2 => ?_, rfl⟩, by simp only [intOf]; omega⟩
                  by_cases e : j' = m
                  · rw [e]; exact hokm'
                  · exact hok j' h1 (by omega)
          · have q1 : ¬ (m : Int) ≤ 2 := by omega
            obtain rfl : m = 3 := by omega
            go_wp2_with fail
            have hl : 2 < t.length := (hok 2 (by omega) (by omega)).1
            exact ⟨⟨j + 3, by omega, by go_num, by rw [← hval, hV.1 (fun j' a b => hok j' a (by omega)), ht, List.drop_drop], rfl⟩, by simp only [intOf]; omega⟩
      have hE1 := hcl
      clear hcl
      by_cases hcl : c.toNat = 237
      · have f0 : (c.toNat : Int) = 237 := by omega
        have hV := valid_lead t 2 128 159 hne (by rw [hc]; omega) (by rw [hc]; exact (by rw [hcl]; exact lead_ED))
        replace hcl := Go.Lib.hid hcl
        go_wp2_with fail
        go_loopw [6, 7, 8] (fun lo hi k wr' => InR t 2 128 159 wr lo hi k wr') (fun _ _ k _ => 4 - (intOf k).toNat)
        case atStart => exact ⟨1, by omega, by omega, rfl, rfl, rfl, fun j' h1 h2 => by omega, rfl⟩
        case round =>
          obtain ⟨m, hm1, hm2, rfl, rfl, rfl, hok, rfl⟩ := hrel
          by_cases hle : m ≤ 2
          · have q1 : (m : Int) ≤ 2 := by omega
            have hLOc : (0 : Int) ≤ (if m = 1 then 128 else 128 : Nat) := by omega
            obtain ⟨LO, hLO⟩ : ∃ LO : Nat, (if m = 1 then 128 else 128) = LO := ⟨_, rfl⟩
            obtain ⟨HI, hHI⟩ : ∃ HI : Nat, (if m = 1 then 159 else 191) = HI := ⟨_, rfl⟩
            rw [hLO, hHI]
            clear hLOc
            by_cases o1 : t.length ≤ m
            · have hbad : ¬ okAt t 128 159 m := fun h => by have := h.1; omega
              have hF := hV.2 ⟨m, hm1, hle, hbad⟩
              have q2 : (l.length : Int) ≤ (j : Int) + m := by omega
              clear hV hok hbad
              go_wp2_with fail
              go_ret
              exact ⟨by rw [← hval, hF]; rfl, rfl⟩
            · obtain ⟨P, hP⟩ : ∃ P, j + m = P := ⟨_, rfl⟩
              have hPI : (j : Int) + (m : Int) = (P : Int) := by omega
              have hPl : P < S.size := by omega
              have q2 : ¬ (l.length : Int) ≤ (P : Int) := by omega
              have q3 : (P : Int) < (l.length : Int) := by omega
              have hb : S[P]'hPl = t.getD m 0 := by rw [hgetS.out P hPl, ← hP, ht]; simp [List.getD_eq_getElem?_getD]
              obtain ⟨d, hd⟩ : ∃ d, t.getD m 0 = d := ⟨_, rfl⟩
              rw [hd] at hb
              have hdlt := d.toNat_lt
              have hY : ((S[P]'hPl).toNat : Int) = (d.toNat : Int) := congrArg (fun u : UInt8 => (u.toNat : Int)) hb
              have hokm : okAt t 128 159 m ↔ LO ≤ d.toNat ∧ d.toNat ≤ HI := by
                unfold okAt
                rw [hLO, hHI, hd]
                exact ⟨fun h => h.2, fun h => ⟨by omega, h⟩⟩
              clear hb hd
              replace hLO := Go.Lib.hid hLO
              replace hHI := Go.Lib.hid hHI
              replace hP := Go.Lib.hid hP
              by_cases o2 : d.toNat < LO
              · have hF := hV.2 ⟨m, hm1, hle, fun h => by have := hokm.1 h; omega⟩
                have q4 : (d.toNat : Int) < (LO : Int) := by omega
                clear hV hok hokm hgetS
                go_wp2_with fail
                go_ret
                exact ⟨by rw [← hval, hF]; rfl, rfl⟩
              · have q4 : ¬ (d.toNat : Int) < (LO : Int) := by omega
                by_cases o3 : HI < d.toNat
                · have hF := hV.2 ⟨m, hm1, hle, fun h => by have := hokm.1 h; omega⟩
                  have q5 : (HI : Int) < (d.toNat : Int) := by omega
                  clear hV hok hokm hgetS
                  go_wp2_with fail
                  go_ret
                  exact ⟨by rw [← hval, hF]; rfl, rfl⟩
                · have q5 : ¬ (HI : Int) < (d.toNat : Int) := by omega
                  have hokm' := hokm.2 (by omega)
                  clear hokm
                  go_wp2_with fail
                  refine ⟨⟨m + 1, by omega, by omega, by rw [if_neg (by omega)]; rfl, by rw [if_neg (by omega)]; rfl, by go_num, fun j' h1 h2 => ?_, rfl⟩, by simp only [intOf]; omega⟩
                  by_cases e : j' = m
                  · rw [e]; exact hokm'
                  · exact hok j' h1 (by omega)
          · have q1 : ¬ (m : Int) ≤ 2 := by omega
            obtain rfl : m = 3 := by omega
            go_wp2_with fail
            have hl : 2 < t.length := (hok 2 (by omega) (by omega)).1
            exact ⟨⟨j + 3, by omega, by go_num, by rw [← hval, hV.1 (fun j' a b => hok j' a (by omega)), ht, List.drop_drop], rfl⟩, by simp only [intOf]; omega⟩
      have hED := hcl
      clear hcl
      by_cases hcl : c.toNat = 240
      · have f0 : (c.toNat : Int) = 240 := by omega
        have hV := valid_lead t 3 144 191 hne (by rw [hc]; omega) (by rw [hc]; exact (by rw [hcl]; exact lead_F0))
        replace hcl := Go.Lib.hid hcl
        go_wp2_with fail
        go_loopw [6, 7, 8] (fun lo hi k wr' => InR t 3 144 191 wr lo hi k wr') (fun _ _ k _ => 5 - (intOf k).toNat)
        case atStart => exact ⟨1, by omega, by omega, rfl, rfl, rfl, fun j' h1 h2 => by omega, rfl⟩
        case round =>
          obtain ⟨m, hm1, hm2, rfl, rfl, rfl, hok, rfl⟩ := hrel
          by_cases hle : m ≤ 3
          · have q1 : (m : Int) ≤ 3 := by omega
            have hLOc : (0 : Int) ≤ (if m = 1 then 144 else 128 : Nat) := by omega
            obtain ⟨LO, hLO⟩ : ∃ LO : Nat, (if m = 1 then 144 else 128) = LO := ⟨_, rfl⟩
            obtain ⟨HI, hHI⟩ : ∃ HI : Nat, (if m = 1 then 191 else 191) = HI := ⟨_, rfl⟩
            rw [hLO, hHI]
            clear hLOc
            by_cases o1 : t.length ≤ m
            · have hbad : ¬ okAt t 144 191 m := fun h => by have := h.1; omega
              have hF := hV.2 ⟨m, hm1, hle, hbad⟩
              have q2 : (l.length : Int) ≤ (j : Int) + m := by omega
              clear hV hok hbad
              go_wp2_with fail
              go_ret
              exact ⟨by rw [← hval, hF]; rfl, rfl⟩
            · obtain ⟨P, hP⟩ : ∃ P, j + m = P := ⟨_, rfl⟩
              have hPI : (j : Int) + (m : Int) = (P : Int) := by omega
              have hPl : P < S.size := by omega
              have q2 : ¬ (l.length : Int) ≤ (P : Int) := by omega
              have q3 : (P : Int) < (l.length : Int) := by omega
              have hb : S[P]'hPl = t.getD m 0 := by rw [hgetS.out P hPl, ← hP, ht]; simp [List.getD_eq_getElem?_getD]
              obtain ⟨d, hd⟩ : ∃ d, t.getD m 0 = d := ⟨_, rfl⟩
              rw [hd] at hb
              have hdlt := d.toNat_lt
              have hY : ((S[P]'hPl).toNat : Int) = (d.toNat : Int) := congrArg (fun u : UInt8 => (u.toNat : Int)) hb
              have hokm : okAt t 144 191 m ↔ LO ≤ d.toNat ∧ d.toNat ≤ HI := by
                unfold okAt
                rw [hLO, hHI, hd]
                exact ⟨fun h => h.2, fun h => ⟨by omega, h⟩⟩
              clear hb hd
              replace hLO := Go.Lib.hid hLO
              replace hHI := Go.Lib.hid hHI
              replace hP := Go.Lib.hid hP
              by_cases o2 : d.toNat < LO
              · have hF := hV.2 ⟨m, hm1, hle, fun h => by have := hokm.1 h; omega⟩
                have q4 : (d.toNat : Int) < (LO : Int) := by omega
                clear hV hok hokm hgetS
                go_wp2_with fail
                go_ret
                exact ⟨by rw [← hval, hF]; rfl, rfl⟩
              · have q4 : ¬ (d.toNat : Int) < (LO : Int) := by omega
                by_cases o3 : HI < d.toNat
                · have hF := hV.2 ⟨m, hm1, hle, fun h => by have := hokm.1 h; omega⟩
                  have q5 : (HI : Int) < (d.toNat : Int) := by omega
                  clear hV hok hokm hgetS
                  go_wp2_with fail
                  go_ret
                  exact ⟨by rw [← hval, hF]; rfl, rfl⟩
                · have q5 : ¬ (HI : Int) < (d.toNat : Int) := by omega
                  have hokm' := hokm.2 (by omega)
                  clear hokm
                  go_wp2_with fail
                  refine ⟨⟨m + 1, by omega, by omega, by rw [if_neg (by omega)]; rfl, by rw [if_neg (by omega)]; rfl, by go_num, fun j' h1 h2 => ?_, rfl⟩, by simp only [intOf]; omega⟩
                  by_cases e : j' = m
                  · rw [e]; exact hokm'
                  · exact hok j' h1 (by omega)
          · have q1 : ¬ (m : Int) ≤ 3 := by omega
            obtain rfl : m = 4 := by omega
            go_wp2_with fail
            have hl : 3 < t.length := (hok 3 (by omega) (by omega)).1
            exact ⟨⟨j + 4, by omega, by go_num, by rw [← hval, hV.1 (fun j' a b => hok j' a (by omega)), ht, List.drop_drop], rfl⟩, by simp only [intOf]; omega⟩
      have hF0 := hcl
      clear hcl
      by_cases hcl : 241 ≤ c.toNat ∧ c.toNat < 244
      · have f0 : ¬ ((c.toNat : Int) < 128) := by omega
        have f1 : (194 : Int) ≤ c.toNat := by omega
        have f2 : ¬ ((c.toNat : Int) ≤ 223) := by omega
        have f3 : (224 : Int) ≤ c.toNat := by omega
        have f4 : ¬ ((c.toNat : Int) ≤ 239) := by omega
        have f5 : ¬ ((c.toNat : Int) = 224) := by omega
        have f6 : ¬ ((c.toNat : Int) = 237) := by omega
        have f7 : (240 : Int) ≤ c.toNat := by omega
        have f8 : (c.toNat : Int) ≤ 244 := by omega
        have f9 : ¬ ((c.toNat : Int) = 240) := by omega
        have f10 : ¬ ((c.toNat : Int) = 244) := by omega
        have hV := valid_lead t 3 128 191 hne (by rw [hc]; omega) (by rw [hc]; exact lead_F1 _ hcl)
        replace hcl := Go.Lib.hid hcl
        go_wp2_with fail
        go_loopw [6, 7, 8] (fun lo hi k wr' => InR t 3 128 191 wr lo hi k wr') (fun _ _ k _ => 5 - (intOf k).toNat)
        case atStart => exact ⟨1, by omega, by omega, rfl, rfl, rfl, fun j' h1 h2 => by omega, rfl⟩
        case round =>
          obtain ⟨m, hm1, hm2, rfl, rfl, rfl, hok, rfl⟩ := hrel
          by_cases hle : m ≤ 3
          · have q1 : (m : Int) ≤ 3 := by omega
            have hLOc : (0 : Int) ≤ (if m = 1 then 128 else 128 : Nat) := by omega
            obtain ⟨LO, hLO⟩ : ∃ LO : Nat, (if m = 1 then 128 else 128) = LO := ⟨_, rfl⟩
            obtain ⟨HI, hHI⟩ : ∃ HI : Nat, (if m = 1 then 191 else 191) = HI := ⟨_, rfl⟩
            rw [hLO, hHI]
            clear hLOc
            by_cases o1 : t.length ≤ m
            · have hbad : ¬ okAt t 128 191 m := fun h => by have := h.1; omega
              have hF := hV.2 ⟨m, hm1, hle, hbad⟩
              have q2 : (l.length : Int) ≤ (j : Int) + m := by omega
              clear hV hok hbad
              go_wp2_with fail
              go_ret
              exact ⟨by rw [← hval, hF]; rfl, rfl⟩
            · obtain ⟨P, hP⟩ : ∃ P, j + m = P := ⟨_, rfl⟩
              have hPI : (j : Int) + (m : Int) = (P : Int) := by omega
              have hPl : P < S.size := by omega
              have q2 : ¬ (l.length : Int) ≤ (P : Int) := by omega
              have q3 : (P : Int) < (l.length : Int) := by omega
              have hb : S[P]'hPl = t.getD m 0 := by rw [hgetS.out P hPl, ← hP, ht]; simp [List.getD_eq_getElem?_getD]
              obtain ⟨d, hd⟩ : ∃ d, t.getD m 0 = d := ⟨_, rfl⟩
              rw [hd] at hb
              have hdlt := d.toNat_lt
              have hY : ((S[P]'hPl).toNat : Int) = (d.toNat : Int) := congrArg (fun u : UInt8 => (u.toNat : Int)) hb
              have hokm : okAt t 128 191 m ↔ LO ≤ d.toNat ∧ d.toNat ≤ HI := by
                unfold okAt
                rw [hLO, hHI, hd]
                exact ⟨fun h => h.2, fun h => ⟨by omega, h⟩⟩
              clear hb hd
              replace hLO := Go.Lib.hid hLO
              replace hHI := Go.Lib.hid hHI
              replace hP := Go.Lib.hid hP
              by_cases o2 : d.toNat < LO
              · have hF := hV.2 ⟨m, hm1, hle, fun h => by have := hokm.1 h; omega⟩
                have q4 : (d.toNat : Int) < (LO : Int) := by omega
                clear hV hok hokm hgetS
                go_wp2_with fail
                go_ret
                exact ⟨by rw [← hval, hF]; rfl, rfl⟩
              · have q4 : ¬ (d.toNat : Int) < (LO : Int) := by omega
                by_cases o3 : HI < d.toNat
                · have hF := hV.2 ⟨m, hm1, hle, fun h => by have := hokm.1 h; omega⟩
                  have q5 : (HI : Int) < (d.toNat : Int) := by omega
                  clear hV hok hokm hgetS
                  go_wp2_with fail
                  go_ret
                  exact ⟨by rw [← hval, hF]; rfl, rfl⟩
                · have q5 : ¬ (HI : Int) < (d.toNat : Int) := by omega
                  have hokm' := hokm.2 (by omega)
                  clear hokm
                  go_wp2_with fail
                  refine ⟨⟨m + 1, by omega, by omega, by rw [if_neg (by omega)]; rfl, by rw [if_neg (by omega)]; rfl, by go_num, fun j' h1 h2 => ?_, rfl⟩, by simp only [intOf]; omega⟩
                  by_cases e : j' = m
                  · rw [e]; exact hokm'
                  · exact hok j' h1 (by omega)
          · have q1 : ¬ (m : Int) ≤ 3 := by omega
            obtain rfl : m = 4 := by omega
            go_wp2_with fail
            have hl : 3 < t.length := (hok 3 (by omega) (by omega)).1
            exact ⟨⟨j + 4, by omega, by go_num, by rw [← hval, hV.1 (fun j' a b => hok j' a (by omega)), ht, List.drop_drop], rfl⟩, by simp only [intOf]; omega⟩
      have hF1 := hcl
      clear hcl
      by_cases hcl : c.toNat = 244
      · have f0 : (c.toNat : Int) = 244 := by omega
        have hV := valid_lead t 3 128 143 hne (by rw [hc]; omega) (by rw [hc]; exact (by rw [hcl]; exact lead_F4))
        replace hcl := Go.Lib.hid hcl
        go_wp2_with fail
        go_loopw [6, 7, 8] (fun lo hi k wr' => InR t 3 128 143 wr lo hi k wr') (fun _ _ k _ => 5 - (intOf k).toNat)
        case atStart => exact ⟨1, by omega, by omega, rfl, rfl, rfl, fun j' h1 h2 => by omega, rfl⟩
        case round =>
          obtain ⟨m, hm1, hm2, rfl, rfl, rfl, hok, rfl⟩ := hrel
          by_cases hle : m ≤ 3
          · have q1 : (m : Int) ≤ 3 := by omega
            have hLOc : (0 : Int) ≤ (if m = 1 then 128 else 128 : Nat) := by omega
            obtain ⟨LO, hLO⟩ : ∃ LO : Nat, (if m = 1 then 128 else 128) = LO := ⟨_, rfl⟩
            obtain ⟨HI, hHI⟩ : ∃ HI : Nat, (if m = 1 then 143 else 191) = HI := ⟨_, rfl⟩
            rw [hLO, hHI]
            clear hLOc
            by_cases o1 : t.length ≤ m
            · have hbad : ¬ okAt t 128 143 m := fun h => by have := h.1; omega
              have hF := hV.2 ⟨m, hm1, hle, hbad⟩
              have q2 : (l.length : Int) ≤ (j : Int) + m := by omega
              clear hV hok hbad
              go_wp2_with fail
              go_ret
              exact ⟨by rw [← hval, hF]; rfl, rfl⟩
            · obtain ⟨P, hP⟩ : ∃ P, j + m = P := ⟨_, rfl⟩
              have hPI : (j : Int) + (m : Int) = (P : Int) := by omega
              have hPl : P < S.size := by omega
              have q2 : ¬ (l.length : Int) ≤ (P : Int) := by omega
              have q3 : (P : Int) < (l.length : Int) := by omega
              have hb : S[P]'hPl = t.getD m 0 := by rw [hgetS.out P hPl, ← hP, ht]; simp [List.getD_eq_getElem?_getD]
              obtain ⟨d, hd⟩ : ∃ d, t.getD m 0 = d := ⟨_, rfl⟩
              rw [hd] at hb
              have hdlt := d.toNat_lt
              have hY : ((S[P]'hPl).toNat : Int) = (d.toNat : Int) := congrArg (fun u : UInt8 => (u.toNat : Int)) hb
              have hokm : okAt t 128 143 m ↔ LO ≤ d.toNat ∧ d.toNat ≤ HI := by
                unfold okAt
                rw [hLO, hHI, hd]
                exact ⟨fun h => h.2, fun h => ⟨by omega, h⟩⟩
              clear hb hd
              replace hLO := Go.Lib.hid hLO
              replace hHI := Go.Lib.hid hHI
              replace hP := Go.Lib.hid hP
              by_cases o2 : d.toNat < LO
              · have hF := hV.2 ⟨m, hm1, hle, fun h => by have := hokm.1 h; omega⟩
                have q4 : (d.toNat : Int) < (LO : Int) := by omega
                clear hV hok hokm hgetS
                go_wp2_with fail
                go_ret
                exact ⟨by rw [← hval, hF]; rfl, rfl⟩
              · have q4 : ¬ (d.toNat : Int) < (LO : Int) := by omega
                by_cases o3 : HI < d.toNat
                · have hF := hV.2 ⟨m, hm1, hle, fun h => by have := hokm.1 h; omega⟩
                  have q5 : (HI : Int) < (d.toNat : Int) := by omega
                  clear hV hok hokm hgetS
                  go_wp2_with fail
                  go_ret
                  exact ⟨by rw [← hval, hF]; rfl, rfl⟩
                · have q5 : ¬ (HI : Int) < (d.toNat : Int) := by omega
                  have hokm' := hokm.2 (by omega)
                  clear hokm
                  go_wp2_with fail
                  refine ⟨⟨m + 1, by omega, by omega, by rw [if_neg (by omega)]; rfl, by rw [if_neg (by omega)]; rfl, by go_num, fun j' h1 h2 => ?_, rfl⟩, by simp only [intOf]; omega⟩
                  by_cases e : j' = m
                  · rw [e]; exact hokm'
                  · exact hok j' h1 (by omega)
          · have q1 : ¬ (m : Int) ≤ 3 := by omega
            obtain rfl : m = 4 := by omega
            go_wp2_with fail
            have hl : 3 < t.length := (hok 3 (by omega) (by omega)).1
            exact ⟨⟨j + 4, by omega, by go_num, by rw [← hval, hV.1 (fun j' a b => hok j' a (by omega)), ht, List.drop_drop], rfl⟩, by simp only [intOf]; omega⟩
      have hF4 := hcl
      clear hcl
      have hbad : Lib.validD t = false := by
        match t, hne, hc with
        | a :: r, _, hc => simp at hc; subst hc; exact valid_bad a r (by omega)
      have f1 : ¬ (c.toNat : Int) < 128 := by omega
      by_cases h194 : c.toNat < 194
      · have f2 : ¬ (194 : Int) ≤ c.toNat := by omega
        have f3 : ¬ (224 : Int) ≤ c.toNat := by omega
        have f4 : ¬ (240 : Int) ≤ c.toNat := by omega
        go_wp2_with fail
        go_ret
        exact ⟨by rw [← hval, hbad]; rfl, rfl⟩
      · have f2 : (194 : Int) ≤ c.toNat := by omega
        have f3 : ¬ (c.toNat : Int) ≤ 223 := by omega
        have f4 : (224 : Int) ≤ c.toNat := by omega
        have f5 : ¬ (c.toNat : Int) ≤ 239 := by omega
        have f6 : (240 : Int) ≤ c.toNat := by omega
        have f7 : ¬ (c.toNat : Int) ≤ 244 := by omega
        go_wp2_with fail
        go_ret
        exact ⟨by rw [← hval, hbad]; rfl, rfl⟩
    · have q0 : ¬ (j : Int) < l.length := by omega
      rw [List.drop_eq_nil_of_le (by omega), Lib.validD_nil] at hval
      go_wp2_with fail
      go_ret
      exact ⟨by rw [← hval]; rfl, rfl⟩
end Go.Proofs.YtfnlcnjflloecaaDoor
