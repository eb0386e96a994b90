/- What layer 2 computes, plain: users' names, resources, addresses there and back. -/
import Derived.Lib.ValidLaws
import Derived.Lib.MapLaws
import Derived.Lib.RuneBytes
import Derived.Lib.FieldsU
import Derived.Shelf.GgClosure.StringsIndexFunc
import Derived.Lib.Split
import Derived.Lib.SplitLaws
import Derived.Lib.IndexMore
/-! ### NamP -/
set_option linter.unusedVariables false
set_option linter.unusedSimpArgs false
namespace Go.Proofs.Ytfnlcnjflloecaa
open Go
theorem toU8 (z : Int) (h0 : 0 ≤ z) (h1 : z < 256) : (z.toNat.toUInt8).toNat = z.toNat := by
  simp; omega
/-- What a rune's form decodes to. -/
theorem decode_enc (r : Nat) (h : r < 55296 ∨ (57344 ≤ r ∧ r ≤ 1114111)) (t : List UInt8) : Lib.decodeL (Lib.encodeRune (r : Int) ++ t) = (r, (Lib.encodeRune (r : Int)).length) := by
  rw [Lib.decodeL_N]
  unfold Lib.encodeRune
  by_cases h1 : r ≤ 127
  · rw [Lib.encodeRuneZ_one (by omega) (by omega)]
    simp only [List.map_cons, List.map_nil, List.cons_append, List.nil_append, List.getD_cons_zero, List.getD_cons_succ, List.length_cons, List.length_nil]
    rw [toU8 _ (by omega) (by omega)]
    unfold Lib.decodeN
    rw [if_pos (by omega)]
    simp
  · by_cases h2 : r ≤ 2047
    · rw [Lib.encodeRuneZ_two (by omega) (by omega)]
      simp only [List.map_cons, List.map_nil, List.cons_append, List.nil_append, List.getD_cons_zero, List.getD_cons_succ, List.length_cons, List.length_nil]
      rw [toU8 _ (by omega) (by omega), toU8 _ (by omega) (by omega)]
      unfold Lib.decodeN
      rw [if_neg (by omega), if_pos ⟨by omega, by omega, by omega⟩, if_pos (by omega)]
      simp; omega
    · by_cases h3 : r ≤ 65535
      · rw [Lib.encodeRuneZ_three (by omega)]
        simp only [List.map_cons, List.map_nil, List.cons_append, List.nil_append, List.getD_cons_zero, List.getD_cons_succ, List.length_cons, List.length_nil]
        rw [toU8 _ (by omega) (by omega), toU8 _ (by omega) (by omega), toU8 _ (by omega) (by omega)]
        unfold Lib.decodeN
        rw [if_neg (by omega), if_neg (by omega), if_pos ⟨by omega, ⟨by omega, by omega⟩, by omega, by omega⟩, if_pos (by omega)]
        simp; omega
      · rw [Lib.encodeRuneZ_four (by omega) (by omega)]
        simp only [List.map_cons, List.map_nil, List.cons_append, List.nil_append, List.getD_cons_zero, List.getD_cons_succ, List.length_cons, List.length_nil]
        rw [toU8 _ (by omega) (by omega), toU8 _ (by omega) (by omega), toU8 _ (by omega) (by omega), toU8 _ (by omega) (by omega)]
        unfold Lib.decodeN
        rw [if_neg (by omega), if_neg (by omega), if_neg (by omega), if_pos ⟨by omega, ⟨by omega, by omega⟩, ⟨by omega, by omega⟩, by omega, by omega⟩, if_pos (by omega)]
        simp; omega
def runeOk (r : Nat) : Prop := r < 55296 ∨ (57344 ≤ r ∧ r ≤ 1114111)
theorem decode_ok (l : List UInt8) : runeOk (Lib.decodeL l).1 := by
  rw [Lib.decodeL_N]
  unfold runeOk
  rcases Lib.decodeN_shape l.length (l.getD 0 0).toNat (l.getD 1 0).toNat (l.getD 2 0).toNat (l.getD 3 0).toNat with ⟨c, e⟩ | ⟨c1, c2, c3, cv, e⟩ | ⟨c1, c2, c3, c4, cv, cs, e⟩ | ⟨c1, c2, c3, c4, c5, cv, cw, e⟩ | e
  all_goals (rw [e]; dsimp only; omega)
def allGoD (p : Int → Bool) : Nat → List UInt8 → Bool
  | 0, _ => true
  | n + 1, l => if l = [] then true else p (Lib.decodeL l).1 && allGoD p n (l.drop (Lib.decodeL l).2)
/-- Are all runes so? -/
def allD (p : Int → Bool) (l : List UInt8) : Bool := allGoD p l.length l
theorem allGoD_nil (p : Int → Bool) : ∀ n, allGoD p n [] = true
  | 0 => rfl
  | _ + 1 => by simp [allGoD]
theorem allGoD_fuel (p : Int → Bool) : ∀ (n m : Nat) (l : List UInt8), l.length ≤ n → l.length ≤ m → allGoD p n l = allGoD p m l
  | 0, m, l, hn, _ => by
    have : l = [] := List.eq_nil_of_length_eq_zero (by omega)
    subst this
    rw [allGoD_nil, allGoD_nil]
  | n + 1, 0, l, _, hm => by
    have : l = [] := List.eq_nil_of_length_eq_zero (by omega)
    subst this
    rw [allGoD_nil, allGoD_nil]
  | n + 1, m + 1, l, hn, hm => by
    by_cases hne : l = []
    · subst hne
      rw [allGoD_nil, allGoD_nil]
    · have hw := Lib.decodeL_width l
      have hl : 0 < l.length := List.length_pos_iff.2 hne
      simp only [allGoD, if_neg hne]
      rw [allGoD_fuel p n m _ (by rw [List.length_drop]; omega) (by rw [List.length_drop]; omega)]
theorem allD_nil (p : Int → Bool) : allD p [] = true := rfl
theorem allD_step (p : Int → Bool) (l : List UInt8) (hne : l ≠ []) : allD p l = (p (Lib.decodeL l).1 && allD p (l.drop (Lib.decodeL l).2)) := by
  have hw := Lib.decodeL_width l
  have hl : 0 < l.length := List.length_pos_iff.2 hne
  unfold allD
  obtain ⟨n, hn⟩ : ∃ n, l.length = n + 1 := ⟨l.length - 1, by omega⟩
  rw [hn]
  simp only [allGoD, if_neg hne]
  rw [allGoD_fuel p n _ _ (by rw [List.length_drop]; omega) (Nat.le_refl _)]
/-- f leads runes to runes. -/
def mapOk (f : Int → Int) : Prop := ∀ r : Nat, runeOk r → ∃ q : Nat, f r = q ∧ runeOk q
theorem mapD_cons {f : Int → Int} (hf : mapOk f) (l : List UInt8) (hne : l ≠ []) : ∃ q : Nat, f (Lib.decodeL l).1 = q ∧ runeOk q ∧ Lib.mapD f l = Lib.encodeRune q ++ Lib.mapD f (l.drop (Lib.decodeL l).2) := by
  obtain ⟨q, h1, h2⟩ := hf _ (decode_ok l)
  refine ⟨q, h1, h2, ?_⟩
  rw [Lib.mapD_step f l hne, h1, if_pos (by omega)]
theorem enc_ne (q : Nat) (t : List UInt8) : Lib.encodeRune (q : Int) ++ t ≠ [] := by
  intro e
  have h := Lib.encodeRuneZ_length (q : Int)
  have h2 := congrArg List.length e
  rw [List.length_append, List.length_nil] at h2
  unfold Lib.encodeRune at h2
  rw [List.length_map] at h2
  omega
theorem drop_len {l : List UInt8} (hne : l ≠ []) : (l.drop (Lib.decodeL l).2).length < l.length := by
  have hw := Lib.decodeL_width l
  have hl : 0 < l.length := List.length_pos_iff.2 hne
  rw [List.length_drop]; omega
theorem all_map {f : Int → Int} (hf : mapOk f) (p : Int → Bool) : ∀ (n : Nat) (l : List UInt8), l.length ≤ n → allD p (Lib.mapD f l) = allD (fun r => p (f r)) l
  | 0, l, hn => by
    have : l = [] := List.eq_nil_of_length_eq_zero (by omega)
    subst this; rfl
  | n + 1, l, hn => by
    by_cases hne : l = []
    · subst hne; rfl
    · obtain ⟨q, h1, h2, h3⟩ := mapD_cons hf l hne
      have hd := drop_len hne
      rw [h3, allD_step _ _ (enc_ne q _), decode_enc q h2, allD_step _ l hne]
      simp only [h1, List.drop_left]
      rw [all_map hf p n _ (by omega)]
theorem map_map {f g : Int → Int} (hf : mapOk f) : ∀ (n : Nat) (l : List UInt8), l.length ≤ n → Lib.mapD g (Lib.mapD f l) = Lib.mapD (fun r => g (f r)) l
  | 0, l, hn => by
    have : l = [] := List.eq_nil_of_length_eq_zero (by omega)
    subst this; rfl
  | n + 1, l, hn => by
    by_cases hne : l = []
    · subst hne; rfl
    · obtain ⟨q, h1, h2, h3⟩ := mapD_cons hf l hne
      have hd := drop_len hne
      rw [h3, Lib.mapD_step _ _ (enc_ne q _), decode_enc q h2, Lib.mapD_step _ l hne]
      simp only [h1, List.drop_left]
      rw [map_map hf n _ (by omega)]
theorem valid_map {f : Int → Int} (hf : mapOk f) : ∀ (n : Nat) (l : List UInt8), l.length ≤ n → Lib.validD (Lib.mapD f l) = true
  | 0, l, hn => by
    have : l = [] := List.eq_nil_of_length_eq_zero (by omega)
    subst this; rfl
  | n + 1, l, hn => by
    by_cases hne : l = []
    · subst hne; rfl
    · obtain ⟨q, h1, h2, h3⟩ := mapD_cons hf l hne
      have hd := drop_len hne
      rw [h3, Lib.validD_step _ (enc_ne q _), decode_enc q h2, if_neg]
      · simp only [List.drop_left]
        exact valid_map hf n _ (by omega)
      · simp only
        rintro ⟨a, b⟩
        subst a
        simp [Lib.encodeRune, Lib.encodeRuneZ] at b
/-- What is valid is its runes' forms. -/
theorem map_self {f : Int → Int} : ∀ (n : Nat) (l : List UInt8), l.length ≤ n → Lib.validD l = true → allD (fun r => f r == r) l = true → Lib.mapD f l = l
  | 0, l, hn, _, _ => by
    have : l = [] := List.eq_nil_of_length_eq_zero (by omega)
    subst this; rfl
  | n + 1, l, hn, hv, ha => by
    by_cases hne : l = []
    · subst hne; rfl
    · have hd := drop_len hne
      rw [Lib.validD_step _ hne] at hv
      rw [allD_step _ _ hne] at ha
      split at hv
      · cases hv
      · rename_i hb
        simp only [Bool.and_eq_true, beq_iff_eq] at ha
        rw [Lib.mapD_same f l hne ha.1 hb, map_self n _ (by omega) hv ha.2, List.take_append_drop]
/-- f leaves the forms' lengths. -/
def mapSized (f : Int → Int) : Prop := ∀ r : Nat, runeOk r → (Lib.encodeRune (f r)).length = (Lib.encodeRune (r : Int)).length
theorem map_len {f : Int → Int} (hf : mapOk f) (hs : mapSized f) : ∀ (n : Nat) (l : List UInt8), l.length ≤ n → Lib.validD l = true → (Lib.mapD f l).length = l.length
  | 0, l, hn, _ => by
    have : l = [] := List.eq_nil_of_length_eq_zero (by omega)
    subst this; rfl
  | n + 1, l, hn, hv => by
    by_cases hne : l = []
    · subst hne; rfl
    · have hd := drop_len hne
      obtain ⟨q, h1, h2, h3⟩ := mapD_cons hf l hne
      rw [Lib.validD_step _ hne] at hv
      split at hv
      · cases hv
      · rename_i hb
        have hz := hs _ (decode_ok l)
        rw [h1, Lib.encode_decode l hne hb] at hz
        have hle := Lib.decodeL_le l hne
        rw [h3, List.length_append, hz, map_len hf hs n _ (by omega) hv, List.length_take, List.length_drop]
        omega
/-- all(s, p) by strings.IndexFunc. -/
theorem idx_all (p : Nat → Bool) (s : ByteArray) : ∀ (n pos : Nat), s.size ≤ pos + n → (decide (Lib.idxFuncFrom p true s n pos < 0) = allD (fun r => !p r.toNat) (s.data.toList.drop pos))
  | 0, pos, h => by
    have e : s.data.toList.drop pos = [] := List.drop_eq_nil_of_le (by rw [← Lib.size_eq]; omega)
    rw [e]; rfl
  | n + 1, pos, h => by
    unfold Lib.idxFuncFrom
    by_cases hp : pos < s.size
    · have hne : s.data.toList.drop pos ≠ [] := by
        intro e
        have := congrArg List.length e
        rw [List.length_drop, ← Lib.size_eq] at this
        simp at this; omega
      have hd := Lib.decodeL_drop s pos
      have hw := Lib.decodeL_width (s.data.toList.drop pos)
      rw [allD_step _ _ hne, hd, List.drop_drop, if_pos hp]
      rw [hd] at hw
      have ih := idx_all p s n (pos + (Utf8.decode s pos).2) (by omega)
      rw [← ih]
      simp only [Int.toNat_natCast]
      cases hq : p (Utf8.decode s pos).1
      · simp
      · simp
    · have e : s.data.toList.drop pos = [] := List.drop_eq_nil_of_le (by rw [← Lib.size_eq]; omega)
      rw [if_neg hp, e]; rfl
theorem idx_all0 (p : Nat → Bool) (s : ByteArray) : decide (Lib.idxFunc p true s < 0) = allD (fun r => !p r.toNat) s.data.toList := by
  have := idx_all p s s.size 0 (by omega)
  rw [List.drop_zero] at this
  exact this
/-- Of bytes below 128 alone. -/
theorem allD_low (q : Int → Bool) (hq : ∀ r : Nat, q r = true → r < 128) : ∀ (n : Nat) (l : List UInt8), l.length ≤ n → allD q l = l.all fun b => q b.toNat
  | 0, l, hn => by
    have : l = [] := List.eq_nil_of_length_eq_zero (by omega)
    subst this; rfl
  | n + 1, [], hn => rfl
  | n + 1, b :: t, hn => by
    have hb := b.toNat_lt
    rw [allD_step q _ (by simp), List.all_cons]
    by_cases h : b.toNat < 128
    · have e : Lib.decodeL (b :: t) = (b.toNat, 1) := by
        rw [Lib.decodeL_N]
        unfold Lib.decodeN
        rw [List.getD_cons_zero, if_pos h]
      rw [e]
      simp only [List.drop_succ_cons, List.drop_zero]
      rw [allD_low q hq n t (by simpa using hn)]
    · have f1 : q (b.toNat : Int) = false := by
        cases hx : q (b.toNat : Int)
        · rfl
        · exact absurd (hq _ hx) h
      have f2 : q ((Lib.decodeL (b :: t)).1 : Int) = false := by
        cases hx : q ((Lib.decodeL (b :: t)).1 : Int)
        · rfl
        · have := hq _ hx
          rw [Lib.decodeL_N] at this
          simp only [List.getD_cons_zero] at this
          rcases Lib.decodeN_shape (b :: t).length b.toNat (((b :: t).getD 1 0).toNat) (((b :: t).getD 2 0).toNat) (((b :: t).getD 3 0).toNat) with ⟨c, e⟩ | ⟨c1, c2, c3, cv, e⟩ | ⟨c1, c2, c3, c4, cv, cs, e⟩ | ⟨c1, c2, c3, c4, c5, cv, cw, e⟩ | e
          all_goals (rw [e] at this; dsimp only at this; omega)
      rw [f1, f2]; rfl
def azB (c : UInt8) : Bool := decide (97 ≤ c.toNat ∧ c.toNat ≤ 122) || decide (48 ≤ c.toNat ∧ c.toNat ≤ 57)
def goodB (last c : UInt8) : Bool := azB c || (c == 45 && last != 46) || (c == 46 && last != 46 && last != 45)
def hostGo : UInt8 → List UInt8 → Bool
  | last, [] => last != 46 && last != 45
  | last, c :: r => goodB last c && hostGo c r
theorem hostGo_cons (last c : UInt8) (r : List UInt8) : hostGo last (c :: r) = (goodB last c && hostGo c r) := rfl
def lowB (c : UInt8) : UInt8 := if 65 ≤ c.toNat ∧ c.toNat ≤ 90 then c + 32 else c
/-- digit, or a hyphen. -/
def ddI (r : Int) : Bool := ((decide (97 ≤ r) && decide (r ≤ 122)) || (decide (48 ≤ r) && decide (r ≤ 57))) || (r == 45)
def labelB (l : List UInt8) : Bool := !l.isEmpty && (l.getD 0 0 != 45) && (l.getD (l.length - 1) 0 != 45) && allD ddI l
def okB (c : UInt8) : Bool := azB c || c == 45
theorem ddI_ok (c : UInt8) : ddI (c.toNat : Int) = okB c := by
  unfold ddI okB azB
  have e : (((c.toNat : Int) == 45)) = (c == 45) := by
    rw [Bool.eq_iff_iff, beq_iff_eq, beq_iff_eq, ← UInt8.toNat_inj]
    show _ ↔ c.toNat = 45
    omega
  rw [e]
  congr 1
  rw [Bool.eq_iff_iff]
  simp
  omega
theorem ddI_low (r : Nat) (h : ddI r = true) : r < 128 := by
  unfold ddI at h
  simp at h
  omega
theorem allD_dd (l : List UInt8) : allD ddI l = l.all okB := by
  rw [allD_low ddI ddI_low l.length l (Nat.le_refl _)]
  congr 1
  funext b
  exact ddI_ok b
theorem seg_end (last : UInt8) (h : last ≠ 46) : ∀ p : List UInt8, 46 ∉ p → hostGo last p = (p.all okB && ((last :: p).getD p.length 0 != 45)) := by
  intro p
  induction p generalizing last with
  | nil => intro _; simp [hostGo, h]
  | cons c r ih =>
    intro hn
    have hc : c ≠ 46 := fun e => hn (by simp [e])
    have hr : 46 ∉ r := fun e => hn (by simp [e])
    rw [hostGo_cons, ih c hc hr, List.all_cons]
    have e1 : goodB last c = okB c := by
      have h1 : (last == 46) = false := beq_eq_false_iff_ne.2 h
      have h2 : (c == 46) = false := beq_eq_false_iff_ne.2 hc
      unfold goodB okB
      simp [bne, h1, h2]
    rw [e1, Bool.and_assoc]
    simp only [List.length_cons, List.getD_cons_succ]
theorem seg_more (last : UInt8) (h : last ≠ 46) (t : List UInt8) : ∀ p : List UInt8, 46 ∉ p → hostGo last (p ++ 46 :: t) = (p.all okB && ((last :: p).getD p.length 0 != 45) && hostGo 46 t) := by
  intro p
  induction p generalizing last with
  | nil =>
    intro _
    rw [List.nil_append, hostGo_cons]
    have h1 : (last == 46) = false := beq_eq_false_iff_ne.2 h
    simp [goodB, bne, h1, azB]
  | cons c r ih =>
    intro hn
    have hc : c ≠ 46 := fun e => hn (by simp [e])
    have hr : 46 ∉ r := fun e => hn (by simp [e])
    rw [List.cons_append, hostGo_cons, ih c hc hr, List.all_cons]
    have e1 : goodB last c = okB c := by
      have h1 : (last == 46) = false := beq_eq_false_iff_ne.2 h
      have h2 : (c == 46) = false := beq_eq_false_iff_ne.2 hc
      unfold goodB okB
      simp [bne, h1, h2]
    rw [e1]
    simp only [List.length_cons, List.getD_cons_succ, Bool.and_assoc]
theorem good_first (c : UInt8) (hc : c ≠ 46) : goodB 46 c = (okB c && (c != 45)) := by
  unfold goodB okB azB
  by_cases h : c = 45
  · subst h; decide
  · have e : (c == 45) = false := beq_eq_false_iff_ne.2 h
    simp [e, h, hc, bne]
theorem label_end (p : List UInt8) (hn : 46 ∉ p) : hostGo 46 p = labelB p := by
  unfold labelB
  rw [allD_dd]
  cases p with
  | nil => rfl
  | cons c r =>
    have hc : c ≠ 46 := fun e => hn (by simp [e])
    have hr : 46 ∉ r := fun e => hn (by simp [e])
    rw [hostGo_cons, seg_end c hc r hr, good_first c hc, List.all_cons]
    have e0 : ((c :: r).getD ((c :: r).length - 1) 0) = (c :: r).getD r.length 0 := by simp
    rw [e0]
    simp only [List.isEmpty_cons, List.getD_cons_zero, Bool.not_false, Bool.true_and]
    generalize ((c :: r).getD r.length 0 != 45) = x
    cases okB c <;> cases (c != 45) <;> cases r.all okB <;> cases x <;> simp
theorem label_more (p t : List UInt8) (hn : 46 ∉ p) : hostGo 46 (p ++ 46 :: t) = (labelB p && hostGo 46 t) := by
  unfold labelB
  rw [allD_dd]
  cases p with
  | nil => rfl
  | cons c r =>
    have hc : c ≠ 46 := fun e => hn (by simp [e])
    have hr : 46 ∉ r := fun e => hn (by simp [e])
    rw [List.cons_append, hostGo_cons, seg_more c hc t r hr, good_first c hc, List.all_cons]
    have e0 : ((c :: r).getD ((c :: r).length - 1) 0) = (c :: r).getD r.length 0 := by simp
    rw [e0]
    simp only [List.isEmpty_cons, List.getD_cons_zero, Bool.not_false, Bool.true_and]
    generalize ((c :: r).getD r.length 0 != 45) = x
    generalize hostGo 46 t = y
    cases okB c <;> cases (c != 45) <;> cases r.all okB <;> cases x <;> simp
/-- strings.Split at a dot, label by label. -/
theorem split_host : ∀ (k : Nat) (t : List UInt8), t.count 46 = k → ((Lib.splitK [46] 0 k t).all labelB = hostGo 46 t)
  | 0, t, h => by
    have hn : 46 ∉ t := List.count_eq_zero.1 h
    unfold Lib.splitK
    rw [label_end t hn]
    simp
  | k + 1, t, h => by
    rcases Lib.index_spec t [46] with ⟨e, hno⟩ | ⟨i, e, hi, hocc, hbef⟩
    · exfalso
      have hm : 46 ∈ t := List.count_pos_iff.1 (by omega)
      obtain ⟨j, hj, hjt⟩ := List.mem_iff_getElem.1 hm
      have := hno j (by omega)
      unfold Lib.occAt at this
      rw [List.drop_eq_getElem_cons hj, hjt] at this
      simp at this
    · have hne : ¬ (Lib.index t [46] == -1) = true := by rw [beq_iff_eq]; omega
      have ei : (Lib.index t [46]).toNat = i := by omega
      unfold Lib.splitK
      rw [if_neg hne, ei]
      have h46 : t[i]? = some 46 := Lib.occAt_head rfl hocc
      obtain ⟨hil, hg⟩ := List.getElem?_eq_some_iff.1 h46
      have hd : t.drop i = 46 :: t.drop (i + 1) := by rw [List.drop_eq_getElem_cons hil, hg]
      have ht : t = t.take i ++ 46 :: t.drop (i + 1) := by rw [← hd, List.take_append_drop]
      have hn : 46 ∉ t.take i := by
        intro hm
        obtain ⟨j, hj, hjt⟩ := List.mem_iff_getElem.1 hm
        rw [List.getElem_take] at hjt
        rw [List.length_take] at hj
        have := hbef j (by omega)
        unfold Lib.occAt at this
        rw [List.drop_eq_getElem_cons (by omega), hjt] at this
        simp at this
      have hc : (t.drop (i + 1)).count 46 = k := by
        have h2 := congrArg (List.count 46) ht
        rw [List.count_append, List.count_cons, List.count_eq_zero.2 hn, h] at h2
        simp at h2
        omega
      have ih := split_host k _ hc
      rw [List.all_cons]
      simp only [List.length_cons, List.length_nil, Nat.zero_add, Nat.add_zero]
      rw [ih]
      conv => rhs; rw [ht]
      rw [label_more _ _ hn]
def capI (r : Int) : Int := if 65 ≤ r ∧ r ≤ 90 then r + 32 else r
theorem capI_ok : mapOk capI := by
  intro r hr
  unfold capI
  split
  · exact ⟨r + 32, by omega, .inl (by omega)⟩
  · exact ⟨r, rfl, hr⟩
theorem host_low : ∀ (last : UInt8) (t : List UInt8), hostGo last t = true → ∀ b ∈ t, b.toNat < 128
  | _, [], _ => by simp
  | last, c :: r, h => by
    rw [hostGo_cons] at h
    simp only [Bool.and_eq_true] at h
    have ih := host_low c r h.2
    intro b hb
    rcases List.mem_cons.1 hb with rfl | hb
    · have := h.1
      unfold goodB azB at this
      by_cases e1 : b = 45
      · subst e1; decide
      · by_cases e2 : b = 46
        · subst e2; decide
        · simp [e1, e2] at this; omega
    · exact ih b hb
theorem lowB_low (b : UInt8) : (lowB b).toNat < 128 ↔ b.toNat < 128 := by
  unfold lowB
  split
  · rename_i h
    have : (b + 32).toNat = b.toNat + 32 := by rw [UInt8.toNat_add]; simp; omega
    omega
  · exact Iff.rfl
theorem enc_low (r : Nat) (h : r < 128) : Lib.encodeRune (r : Int) = [UInt8.ofNat r] := by
  unfold Lib.encodeRune
  rw [Lib.encodeRuneZ_one (by omega) (by omega)]
  simp [Nat.toUInt8]
theorem cap_low : ∀ (l : List UInt8), (∀ b ∈ l, b.toNat < 128) → Lib.mapD capI l = l.map lowB
  | [], _ => rfl
  | b :: t, h => by
    have hb := h b (by simp)
    have e : Lib.decodeL (b :: t) = (b.toNat, 1) := by
      rw [Lib.decodeL_N]
      unfold Lib.decodeN
      rw [List.getD_cons_zero, if_pos hb]
    rw [Lib.mapD_step _ _ (by simp), e]
    simp only [List.drop_succ_cons, List.drop_zero, List.map_cons]
    rw [cap_low t (fun c hc => h c (by simp [hc]))]
    unfold capI lowB
    by_cases hc : 65 ≤ b.toNat ∧ b.toNat ≤ 90
    · rw [if_pos (by omega : (65 : Int) ≤ (b.toNat : Int) ∧ (b.toNat : Int) ≤ 90), if_pos (by omega), if_pos hc]
      have := enc_low (b.toNat + 32) (by omega)
      rw [show ((b.toNat : Int) + 32) = ((b.toNat + 32 : Nat) : Int) by omega, this]
      have e3 : UInt8.ofNat (b.toNat + 32) = b + 32 := by
        rw [← UInt8.toNat_inj, UInt8.toNat_add]; simp
      rw [e3]; rfl
    · rw [if_neg (by omega : ¬ ((65 : Int) ≤ (b.toNat : Int) ∧ (b.toNat : Int) ≤ 90)), if_pos (by omega), if_neg hc, enc_low _ hb]
      simp
/-- What was mapped to bytes below 128 was of such bytes. -/
theorem cap_high : ∀ (n : Nat) (l : List UInt8), l.length ≤ n → Lib.validD l = true → (∀ b ∈ Lib.mapD capI l, b.toNat < 128) → ∀ b ∈ l, b.toNat < 128
  | 0, l, hn, _, _ => by
    have : l = [] := List.eq_nil_of_length_eq_zero (by omega)
    subst this; simp
  | n + 1, l, hn, hv, hm => by
    by_cases hne : l = []
    · subst hne; simp
    · have hd := drop_len hne
      obtain ⟨q, h1, h2, h3⟩ := mapD_cons capI_ok l hne
      rw [Lib.validD_step _ hne] at hv
      split at hv
      · cases hv
      · rename_i hb
        rw [h3] at hm
        have ih := cap_high n _ (by omega) hv (fun b hb => hm b (by simp [hb]))
        have hq : q < 128 := by
          have hx := hm ((Lib.encodeRune (q : Int)).getD 0 0) (by
            rw [List.getD_eq_getElem?_getD]
            have hl := (Lib.encodeRuneZ_length (q : Int)).1
            have hl2 : 0 < (Lib.encodeRune (q : Int)).length := by unfold Lib.encodeRune; rw [List.length_map]; omega
            rw [List.getElem?_eq_getElem hl2]
            simp)
          unfold Lib.encodeRune at hx
          by_cases k1 : q ≤ 127
          · omega
          · exfalso
            unfold runeOk at h2
            by_cases k2 : q ≤ 2047
            · rw [Lib.encodeRuneZ_two (by omega) (by omega)] at hx
              simp only [List.map_cons, List.getD_cons_zero] at hx
              rw [toU8 _ (by omega) (by omega)] at hx
              omega
            · by_cases k3 : q ≤ 65535
              · rw [Lib.encodeRuneZ_three (by omega)] at hx
                simp only [List.map_cons, List.getD_cons_zero] at hx
                rw [toU8 _ (by omega) (by omega)] at hx
                omega
              · rw [Lib.encodeRuneZ_four (by omega) (by omega)] at hx
                simp only [List.map_cons, List.getD_cons_zero] at hx
                rw [toU8 _ (by omega) (by omega)] at hx
                omega
        have hr : (Lib.decodeL l).1 < 128 := by
          unfold capI at h1
          split at h1 <;> omega
        have he := Lib.encode_decode l hne hb
        rw [enc_low _ hr] at he
        intro b hbl
        rw [← List.take_append_drop (Lib.decodeL l).2 l, List.mem_append] at hbl
        rcases hbl with hbl | hbl
        · rw [← he] at hbl
          rw [List.mem_singleton.1 hbl]
          simp; omega
        · exact ih b hbl
/-- A host's name, prepared: by the bytes. -/
def hostI (s : List UInt8) : List UInt8 × Int := if 64 < s.length then ([], 5) else if hostGo 46 (s.map lowB) then (s.map lowB, 0) else ([], 4)
theorem host_bad (s : List UInt8) (h : s = [] ∨ Lib.validD s = false) : hostGo 46 (s.map lowB) = false := by
  cases hx : hostGo 46 (s.map lowB)
  · rfl
  · exfalso
    rcases h with rfl | h
    · cases hx
    · have hl := host_low _ _ hx
      have ha : ∀ b ∈ s, b.toNat < 128 := fun b hb => (lowB_low b).1 (hl _ (List.mem_map.2 ⟨b, hb, rfl⟩))
      have := Lib.validD_ascii s.length s (by rw [List.take_length]; exact ha)
      rw [List.drop_length, Lib.validD_nil] at this
      rw [this] at h; cases h
theorem host_good (s : List UInt8) (hv : Lib.validD s = true) : hostGo 46 (Lib.mapD capI s) = hostGo 46 (s.map lowB) ∧ (hostGo 46 (s.map lowB) = true → Lib.mapD capI s = s.map lowB) := by
  by_cases ha : ∀ b ∈ s, b.toNat < 128
  · rw [cap_low s ha]; exact ⟨rfl, fun _ => rfl⟩
  · have h1 : hostGo 46 (s.map lowB) = false := by
      cases hx : hostGo 46 (s.map lowB)
      · rfl
      · exact absurd (fun b hb => (lowB_low b).1 (host_low _ _ hx _ (List.mem_map.2 ⟨b, hb, rfl⟩))) ha
    have h2 : hostGo 46 (Lib.mapD capI s) = false := by
      cases hx : hostGo 46 (Lib.mapD capI s)
      · rfl
      · exact absurd (cap_high s.length s (Nat.le_refl _) hv (host_low _ _ hx)) ha
    rw [h1, h2]; exact ⟨rfl, fun h => by cases h⟩
end Go.Proofs.Ytfnlcnjflloecaa
/-! ### NamQ -/
set_option linter.unusedVariables false
set_option linter.unusedSimpArgs false
namespace Go.Proofs.Ytfnlcnjflloecaa
open Go
def foldI (r : Int) : Int :=
  if (65 ≤ r ∧ r ≤ 90) ∨ ((192 ≤ r ∧ r ≤ 222) ∧ r ≠ 215) ∨ ((913 ≤ r ∧ r ≤ 937) ∧ r ≠ 930) ∨ (1040 ≤ r ∧ r ≤ 1071) then r + 32 else r
def lttI (r : Int) : Bool :=
  decide (97 ≤ r ∧ r ≤ 122) || decide (48 ≤ r ∧ r ≤ 57) || (r == 46) || (r == 45) || (r == 95) || (decide (223 ≤ r ∧ r ≤ 255) && (r != 247)) || decide (945 ≤ r ∧ r ≤ 969) || decide (1072 ≤ r ∧ r ≤ 1103)
def visI (r : Int) : Bool := decide (32 ≤ r) && !decide (127 ≤ r ∧ r ≤ 159) && (r != 65534) && (r != 65535)
theorem foldI_ok : mapOk foldI := by
  intro r hr
  unfold foldI
  split
  · exact ⟨r + 32, by omega, .inl (by omega)⟩
  · exact ⟨r, rfl, hr⟩
theorem foldI_sized : mapSized foldI := by
  intro r hr
  unfold foldI
  split
  · rename_i h
    unfold Lib.encodeRune
    rw [List.length_map, List.length_map]
    by_cases h1 : r ≤ 90
    · rw [Lib.encodeRuneZ_one (by omega) (by omega), Lib.encodeRuneZ_one (by omega) (by omega)]; rfl
    · rw [Lib.encodeRuneZ_two (by omega) (by omega), Lib.encodeRuneZ_two (by omega) (by omega)]; rfl
  · rfl
theorem foldI_fold (r : Int) : foldI (foldI r) = foldI r := by
  unfold foldI
  split
  · rw [if_neg (by omega)]
  · rfl
def sizedI (s : List UInt8) : Int := if 64 < s.length then 5 else if s = [] ∨ Lib.validD s = false then 4 else 0
def localI (s : List UInt8) : List UInt8 × Int := if sizedI s ≠ 0 then ([], sizedI s) else if allD lttI (Lib.mapD foldI s) = true then (Lib.mapD foldI s, 0) else ([], 4)
def resI (s : List UInt8) : List UInt8 × Int := if sizedI s ≠ 0 then ([], sizedI s) else if allD visI s = true then (s, 0) else ([], 4)
theorem sizedI_zero {s : List UInt8} : sizedI s = 0 ↔ s.length ≤ 64 ∧ s ≠ [] ∧ Lib.validD s = true := by
  unfold sizedI
  split
  · omega
  · split
    · rename_i h
      constructor
      · intro h; omega
      · rintro ⟨_, h1, h2⟩
        rcases h with h | h
        · exact absurd h h1
        · rw [h] at h2; cases h2
    · rename_i h1 h2
      simp only [not_or] at h2
      refine ⟨fun _ => ⟨by omega, h2.1, ?_⟩, fun _ => rfl⟩
      cases hx : Lib.validD s
      · exact absurd hx h2.2
      · rfl
theorem sizedI_cases (s : List UInt8) : sizedI s = 0 ∨ sizedI s = 4 ∨ sizedI s = 5 := by
  unfold sizedI
  split
  · simp
  · split <;> simp
theorem all_fold (s : List UInt8) : allD lttI (Lib.mapD foldI s) = allD (fun r => lttI (foldI r)) s := all_map foldI_ok lttI s.length s (Nat.le_refl _)
/-- What a user's name is, once prepared. -/
structure LocOk (a : List UInt8) : Prop where
  len : a.length ≤ 64
  ne : a ≠ []
  valid : Lib.validD a = true
  all : allD lttI a = true
  same : Lib.mapD foldI a = a
theorem localI_ok {s a : List UInt8} (h : localI s = (a, 0)) : LocOk a := by
  unfold localI at h
  split at h
  · rename_i h1
    exact absurd (Prod.mk.inj h).2 h1
  · rename_i h1
    have hs := sizedI_zero.1 (by omega : sizedI s = 0)
    split at h
    · rename_i h2
      cases h
      have hl := map_len foldI_ok foldI_sized s.length s (Nat.le_refl _) hs.2.2
      refine ⟨by omega, ?_, valid_map foldI_ok s.length s (Nat.le_refl _), h2, ?_⟩
      · intro e
        rw [e] at hl
        exact hs.2.1 (List.eq_nil_of_length_eq_zero hl.symm)
      · rw [map_map foldI_ok s.length s (Nat.le_refl _)]
        congr 1
        funext r
        exact foldI_fold r
    · cases h
theorem LocOk.localI {a : List UInt8} (h : LocOk a) : localI a = (a, 0) := by
  unfold Go.Proofs.Ytfnlcnjflloecaa.localI
  rw [if_neg (by rw [sizedI_zero.2 ⟨h.len, h.ne, h.valid⟩]; simp), h.same, if_pos h.all]
theorem localI_snd {s : List UInt8} (h : (localI s).2 ≠ 0) : (localI s).1 = [] := by
  unfold localI at h ⊢
  split
  · rfl
  · rename_i h1
    rw [if_neg h1] at h
    split
    · rename_i h2
      rw [if_pos h2] at h
      exact absurd rfl h
    · rfl
theorem lowB_lowB (b : UInt8) : lowB (lowB b) = lowB b := by
  unfold lowB
  by_cases h : 65 ≤ b.toNat ∧ b.toNat ≤ 90
  · have : (b + 32).toNat = b.toNat + 32 := by rw [UInt8.toNat_add]; simp; omega
    rw [if_pos h, if_neg (by omega)]
  · rw [if_neg h, if_neg h]
structure HostOk (a : List UInt8) : Prop where
  len : a.length ≤ 64
  go : hostGo 46 a = true
  low : a.map lowB = a
theorem hostI_ok {s a : List UInt8} (h : hostI s = (a, 0)) : HostOk a := by
  unfold hostI at h
  split at h
  · cases h
  · split at h
    · rename_i h1 h2
      cases h
      refine ⟨by simp; omega, h2, ?_⟩
      rw [List.map_map]
      congr 1
      funext b
      exact lowB_lowB b
    · cases h
theorem HostOk.hostI {a : List UInt8} (h : HostOk a) : hostI a = (a, 0) := by
  unfold Go.Proofs.Ytfnlcnjflloecaa.hostI
  rw [if_neg (by have := h.len; omega), h.low, if_pos h.go]
theorem hostI_snd {s : List UInt8} (h : (hostI s).2 ≠ 0) : (hostI s).1 = [] := by
  unfold hostI at h ⊢
  split
  · rfl
  · rename_i h1
    rw [if_neg h1] at h
    split
    · rename_i h2
      rw [if_pos h2] at h
      exact absurd rfl h
    · rfl
theorem resI_ok {s a : List UInt8} (h : resI s = (a, 0)) : a = s ∧ a ≠ [] := by
  unfold resI at h
  split at h
  · rename_i h1
    exact absurd (Prod.mk.inj h).2 h1
  · rename_i h1
    have hs := sizedI_zero.1 (by omega : sizedI s = 0)
    split at h
    · cases h; exact ⟨rfl, hs.2.1⟩
    · cases h
theorem resI_snd {s : List UInt8} (h : (resI s).2 ≠ 0) : (resI s).1 = [] := by
  unfold resI at h ⊢
  split
  · rfl
  · rename_i h1
    rw [if_neg h1] at h
    split
    · rename_i h2
      rw [if_pos h2] at h
      exact absurd rfl h
    · rfl
/-- Cut at a byte's first place. -/
def cutI (c : UInt8) : List UInt8 → List UInt8 × List UInt8 × Bool
  | [] => ([], [], false)
  | b :: r => if b = c then ([], r, true) else (b :: (cutI c r).1, (cutI c r).2.1, (cutI c r).2.2)
theorem cutI_none {c : UInt8} : ∀ {s : List UInt8}, c ∉ s → cutI c s = (s, [], false)
  | [], _ => rfl
  | b :: r, h => by
    unfold cutI
    rw [if_neg (fun e => h (by simp [e])), cutI_none (fun e => h (by simp [e]))]
theorem cutI_some {c : UInt8} (t : List UInt8) : ∀ {s : List UInt8}, c ∉ s → cutI c (s ++ c :: t) = (s, t, true)
  | [], _ => by simp [cutI]
  | b :: r, h => by
    rw [List.cons_append]
    unfold cutI
    rw [if_neg (fun e => h (by simp [e])), cutI_some t (fun e => h (by simp [e]))]
theorem cut_cutI (c : UInt8) (s : List UInt8) : Lib.cut s [c] = cutI c s := by
  unfold Lib.cut
  rcases Lib.index_spec s [c] with ⟨e, hno⟩ | ⟨i, e, hi, hocc, hbef⟩
  · rw [e, if_neg (by omega), cutI_none]
    intro hm
    obtain ⟨j, hj, hjt⟩ := List.mem_iff_getElem.1 hm
    have := hno j (by omega)
    unfold Lib.occAt at this
    rw [List.drop_eq_getElem_cons hj, hjt] at this
    simp at this
  · rw [e, if_pos (by omega)]
    have hc : s[i]? = some c := Lib.occAt_head rfl hocc
    obtain ⟨hil, hg⟩ := List.getElem?_eq_some_iff.1 hc
    have hd : s.drop i = c :: s.drop (i + 1) := by rw [List.drop_eq_getElem_cons hil, hg]
    have ht : s = s.take i ++ c :: s.drop (i + 1) := by rw [← hd, List.take_append_drop]
    have hn : c ∉ s.take i := by
      intro hm
      obtain ⟨j, hj, hjt⟩ := List.mem_iff_getElem.1 hm
      rw [List.getElem_take] at hjt
      rw [List.length_take] at hj
      have := hbef j (by omega)
      unfold Lib.occAt at this
      rw [List.drop_eq_getElem_cons (by omega), hjt] at this
      simp at this
    conv => rhs; rw [ht]
    rw [cutI_some _ hn]
    simp
abbrev Jid3 := List UInt8 × List UInt8 × List UInt8
def noJ : Jid3 := ([], [], [])
/-- An address, read. -/
def parseI (s : List UInt8) : Jid3 × Int :=
  let c := cutI 47 s
  let d := cutI 64 c.1
  let l := if d.2.2 = true then localI d.1 else ([], 0)
  let h := hostI (if d.2.2 = true then d.2.1 else c.1)
  let r := if c.2.2 = true then resI c.2.1 else ([], 0)
  if l.2 ≠ 0 then (noJ, l.2) else if h.2 ≠ 0 then (noJ, h.2) else if r.2 ≠ 0 then (noJ, r.2) else ((l.1, h.1, r.1), 0)
def catI (l h r : List UInt8) : List UInt8 := (if l = [] then [] else l ++ [64]) ++ (h ++ (if r = [] then [] else 47 :: r))
/-- An address, written. -/
def textJ (j : Jid3) : List UInt8 × Int :=
  let h := hostI j.2.1
  let l := if j.1 = [] then ([], 0) else localI j.1
  let r := if j.2.2 = [] then ([], 0) else resI j.2.2
  if h.2 ≠ 0 then ([], h.2) else if l.2 ≠ 0 then ([], l.2) else if r.2 ≠ 0 then ([], r.2) else (catI l.1 h.1 r.1, 0)
structure JidOk (l h r : List UInt8) : Prop where
  l : l = [] ∨ LocOk l
  h : HostOk h
  r : r = [] ∨ resI r = (r, 0)
theorem enc_mem {r : Nat} (hr : runeOk r) {b : UInt8} (hb : b ∈ Lib.encodeRune (r : Int)) (h : b.toNat < 128) : r = b.toNat := by
  unfold runeOk at hr
  unfold Lib.encodeRune at hb
  obtain ⟨z, hz, rfl⟩ := List.mem_map.1 hb
  have hz2 := Lib.encodeRuneZ_byte _ z hz
  rw [toU8 z hz2.1 hz2.2] at h ⊢
  by_cases h1 : r ≤ 127
  · rw [Lib.encodeRuneZ_one (by omega) (by omega)] at hz
    simp at hz; omega
  · exfalso
    by_cases h2 : r ≤ 2047
    · rw [Lib.encodeRuneZ_two (by omega) (by omega)] at hz
      simp at hz; omega
    · by_cases h3 : r ≤ 65535
      · rw [Lib.encodeRuneZ_three (by omega)] at hz
        simp at hz; omega
      · rw [Lib.encodeRuneZ_four (by omega) (by omega)] at hz
        simp at hz; omega
theorem all_mem (p : Int → Bool) : ∀ (n : Nat) (l : List UInt8), l.length ≤ n → Lib.validD l = true → allD p l = true → ∀ b ∈ l, b.toNat < 128 → p b.toNat = true
  | 0, l, hn, _, _ => by
    have : l = [] := List.eq_nil_of_length_eq_zero (by omega)
    subst this; simp
  | n + 1, l, hn, hv, ha => by
    by_cases hne : l = []
    · subst hne; simp
    · have hd := drop_len hne
      rw [Lib.validD_step _ hne] at hv
      rw [allD_step _ _ hne] at ha
      split at hv
      · cases hv
      · rename_i hb
        simp only [Bool.and_eq_true] at ha
        have ih := all_mem p n _ (by omega) hv ha.2
        have he := Lib.encode_decode l hne hb
        intro b hbl h128
        rw [← List.take_append_drop (Lib.decodeL l).2 l, List.mem_append] at hbl
        rcases hbl with hbl | hbl
        · rw [← he] at hbl
          have := enc_mem (decode_ok l) hbl h128
          rw [← this]; exact ha.1
        · exact ih b hbl h128
theorem LocOk.not {a : List UInt8} (h : LocOk a) {b : UInt8} (hb : b.toNat < 128) (hp : lttI b.toNat = false) : b ∉ a := fun hm => by
  have := all_mem lttI a.length a (Nat.le_refl _) h.valid h.all b hm hb
  rw [this] at hp; cases hp
theorem host_mem : ∀ (last : UInt8) (t : List UInt8), hostGo last t = true → ∀ b ∈ t, azB b = true ∨ b = 45 ∨ b = 46
  | _, [], _ => by simp
  | last, c :: r, h => by
    rw [hostGo_cons] at h
    simp only [Bool.and_eq_true] at h
    have ih := host_mem c r h.2
    intro b hb
    rcases List.mem_cons.1 hb with rfl | hb
    · have := h.1
      unfold goodB at this
      by_cases e1 : b = 45
      · exact .inr (.inl e1)
      · by_cases e2 : b = 46
        · exact .inr (.inr e2)
        · have q1 : (b == 45) = false := beq_eq_false_iff_ne.2 e1
          have q2 : (b == 46) = false := beq_eq_false_iff_ne.2 e2
          rw [q1, q2] at this
          simp at this
          exact .inl this
    · exact ih b hb
theorem HostOk.not47 {a : List UInt8} (h : HostOk a) : (47 : UInt8) ∉ a := fun hm => by
  rcases host_mem _ _ h.go _ hm with h | h | h <;> exact absurd h (by decide)
theorem HostOk.not64 {a : List UInt8} (h : HostOk a) : (64 : UInt8) ∉ a := fun hm => by
  rcases host_mem _ _ h.go _ hm with h | h | h <;> exact absurd h (by decide)
theorem text_ok {l h r : List UInt8} (k : JidOk l h r) : textJ (l, h, r) = (catI l h r, 0) := by
  unfold textJ
  simp only [k.h.hostI]
  have e1 : (if l = [] then ([], 0) else localI l) = (l, (0 : Int)) := by
    rcases k.l with e | e
    · rw [if_pos e, e]
    · rw [if_neg e.ne, e.localI]
  have e2 : (if r = [] then ([], 0) else resI r) = (r, (0 : Int)) := by
    rcases k.r with e | e
    · rw [if_pos e, e]
    · rw [if_neg (resI_ok e).2, e]
  rw [e1, e2]
  simp
theorem parse_ok {l h r : List UInt8} (k : JidOk l h r) : parseI (catI l h r) = ((l, h, r), 0) := by
  have hb : (47 : UInt8) ∉ (if l = [] then [] else l ++ [64]) ++ h := by
    rw [List.mem_append]
    rintro (hm | hm)
    · split at hm
      · simp at hm
      · rename_i hne
        rcases k.l with e | e
        · exact hne e
        · rcases List.mem_append.1 hm with hm | hm
          · exact e.not (b := 47) (by decide) (by decide) hm
          · simp at hm
    · exact k.h.not47 hm
  have hc : cutI 47 (catI l h r) = ((if l = [] then [] else l ++ [64]) ++ h, r, decide (r ≠ [])) := by
    unfold catI
    rw [← List.append_assoc]
    by_cases hr : r = []
    · subst hr
      rw [if_pos rfl, List.append_nil, cutI_none hb]
      simp
    · rw [if_neg hr, cutI_some r hb]
      simp [hr]
  have hd : cutI 64 ((if l = [] then [] else l ++ [64]) ++ h) = if l = [] then (h, [], false) else (l, h, true) := by
    by_cases hl : l = []
    · rw [if_pos hl, if_pos hl, List.nil_append, cutI_none k.h.not64]
    · rw [if_neg hl, if_neg hl, List.append_assoc, List.singleton_append, cutI_some h]
      rcases k.l with e | e
      · exact absurd e hl
      · exact e.not (b := 64) (by decide) (by decide)
  unfold parseI
  simp only [hc, hd]
  have e2 : (if decide (r ≠ []) = true then resI r else ([], 0)) = (r, (0 : Int)) := by
    rcases k.r with e | e
    · rw [if_neg (by simp [e]), e]
    · rw [if_pos (by simpa using (resI_ok e).2), e]
  rw [e2]
  by_cases hl : l = []
  · simp [hl, k.h.hostI]
  · have e : LocOk l := by
      rcases k.l with e | e
      · exact absurd e hl
      · exact e
    simp [hl, k.h.hostI, e.localI]
theorem parse_jid {s : List UInt8} {j : Jid3} (h : parseI s = (j, 0)) : JidOk j.1 j.2.1 j.2.2 := by
  unfold parseI at h
  simp only at h
  generalize hc : cutI 47 s = c at h
  generalize hd : cutI 64 c.1 = d at h
  generalize hl : (if d.2.2 = true then localI d.1 else ([], 0)) = l at h
  generalize hh : hostI (if d.2.2 = true then d.2.1 else c.1) = hv at h
  generalize hr : (if c.2.2 = true then resI c.2.1 else ([], 0)) = r at h
  split at h
  · rename_i k; exact absurd (Prod.mk.inj h).2 k
  · split at h
    · rename_i k; exact absurd (Prod.mk.inj h).2 k
    · split at h
      · rename_i k; exact absurd (Prod.mk.inj h).2 k
      · rename_i k1 k2 k3
        cases h
        refine ⟨?_, ?_, ?_⟩
        · split at hl
          · exact .inr (localI_ok (s := d.1) (by rw [hl]; ext1 <;> simp; omega))
          · subst hl; exact .inl rfl
        · exact hostI_ok (hh.trans (by ext1 <;> simp; omega))
        · split at hr
          · have e : resI c.2.1 = (r.1, 0) := hr.trans (by ext1 <;> simp; omega)
            have := resI_ok e
            right
            rw [← this.1] at e
            exact e
          · subst hr; exact .inl rfl
theorem text_jid {j : Jid3} {t : List UInt8} (h : textJ j = (t, 0)) : ∃ l hh, JidOk l hh j.2.2 ∧ t = catI l hh j.2.2 ∧ (l = [] ↔ j.1 = []) := by
  unfold textJ at h
  simp only at h
  generalize hh : hostI j.2.1 = hv at h
  generalize hl : (if j.1 = [] then ([], 0) else localI j.1) = l at h
  generalize hr : (if j.2.2 = [] then ([], 0) else resI j.2.2) = r at h
  split at h
  · rename_i k; exact absurd (Prod.mk.inj h).2 k
  · split at h
    · rename_i k; exact absurd (Prod.mk.inj h).2 k
    · split at h
      · rename_i k; exact absurd (Prod.mk.inj h).2 k
      · rename_i k1 k2 k3
        cases h
        have er : r.1 = j.2.2 ∧ (j.2.2 = [] ∨ resI j.2.2 = (j.2.2, 0)) := by
          split at hr
          · rename_i e; subst hr; exact ⟨e.symm, .inl e⟩
          · have e : resI j.2.2 = (r.1, 0) := hr.trans (by ext1 <;> simp; omega)
            have := (resI_ok e).1
            rw [this] at e
            exact ⟨this, .inr e⟩
        refine ⟨l.1, hv.1, ⟨?_, hostI_ok (s := j.2.1) (hh.trans (by ext1 <;> simp; omega)), er.2⟩, by rw [er.1], ?_⟩
        · split at hl
          · subst hl; exact .inl rfl
          · exact .inr (localI_ok (s := j.1) (hl.trans (by ext1 <;> simp; omega)))
        · split at hl
          · rename_i e; subst hl; simp [e]
          · rename_i e
            have := (localI_ok (s := j.1) (a := l.1) (hl.trans (by ext1 <;> simp; omega))).ne
            simp [e, this]
theorem parse_bad {s : List UInt8} (h : (parseI s).2 ≠ 0) : (parseI s).1 = noJ := by
  unfold parseI at h ⊢
  simp only at h ⊢
  generalize cutI 47 s = c at h ⊢
  generalize cutI 64 c.1 = d at h ⊢
  generalize (if d.2.2 = true then localI d.1 else ([], 0)) = l at h ⊢
  generalize hostI (if d.2.2 = true then d.2.1 else c.1) = hv at h ⊢
  generalize (if c.2.2 = true then resI c.2.1 else ([], 0)) = r at h ⊢
  by_cases k1 : l.2 ≠ 0
  · rw [if_pos k1]
  · rw [if_neg k1] at h ⊢
    by_cases k2 : hv.2 ≠ 0
    · rw [if_pos k2]
    · rw [if_neg k2] at h ⊢
      by_cases k3 : r.2 ≠ 0
      · rw [if_pos k3]
      · rw [if_neg k3] at h
        exact absurd rfl h
/-- b is a, but for the case of some letters of A to Z. -/
inductive Upped : List UInt8 → List UInt8 → Prop
  | nil : Upped [] []
  | same (c : UInt8) {a b : List UInt8} : Upped a b → Upped (c :: a) (c :: b)
  | up (c : UInt8) {a b : List UInt8} (h : 97 ≤ c.toNat ∧ c.toNat ≤ 122) : Upped a b → Upped (c :: a) ((c - 32) :: b)
theorem Upped.len {a b : List UInt8} (h : Upped a b) : b.length = a.length := by
  induction h with
  | nil => rfl
  | same c _ ih => simp [ih]
  | up c _ _ ih => simp [ih]
theorem up_nat (c : UInt8) (h : 97 ≤ c.toNat ∧ c.toNat ≤ 122) : (c - 32).toNat = c.toNat - 32 := by
  rw [UInt8.toNat_sub_of_le _ _ (by rw [UInt8.le_iff_toNat_le]; show 32 ≤ c.toNat; omega)]
  rfl
theorem up_low (c : UInt8) (h : 97 ≤ c.toNat ∧ c.toNat ≤ 122) : lowB (c - 32) = lowB c := by
  have := up_nat c h
  unfold lowB
  rw [if_pos (by omega), if_neg (by omega)]
  rw [← UInt8.toNat_inj, UInt8.toNat_add, this]
  show (c.toNat - 32 + 32) % 256 = _
  omega
theorem Upped.low {a b : List UInt8} (h : Upped a b) : b.map lowB = a.map lowB := by
  induction h with
  | nil => rfl
  | same c _ ih => simp [ih]
  | up c k _ ih => simp [ih, up_low c k]
theorem Upped.get {a b : List UInt8} (h : Upped a b) : ∀ j, b.getD j 0 = a.getD j 0 ∨ ((a.getD j 0).toNat / 64 = 1 ∧ (b.getD j 0).toNat / 64 = 1) := by
  induction h with
  | nil => intro j; exact .inl rfl
  | same c _ ih =>
    intro j
    cases j with
    | zero => exact .inl rfl
    | succ j => simpa using ih j
  | up c k _ ih =>
    intro j
    have := up_nat c k
    cases j with
    | zero => right; simp only [List.getD_cons_zero]; omega
    | succ j => simpa using ih j
theorem Upped.drop {a b : List UInt8} (h : Upped a b) : ∀ k, Upped (a.drop k) (b.drop k) := by
  induction h with
  | nil => intro k; simp; exact .nil
  | same c h ih =>
    intro k
    cases k with
    | zero => exact .same c h
    | succ k => simpa using ih k
  | up c k h ih =>
    intro j
    cases j with
    | zero => exact .up c k h
    | succ j => simpa using ih j
theorem decodeN_up {n b0 b1 b2 b3 c1 c2 c3 : Nat} (h1 : c1 = b1 ∨ (b1 / 64 = 1 ∧ c1 / 64 = 1)) (h2 : c2 = b2 ∨ (b2 / 64 = 1 ∧ c2 / 64 = 1)) (h3 : c3 = b3 ∨ (b3 / 64 = 1 ∧ c3 / 64 = 1)) :
    Lib.decodeN n b0 c1 c2 c3 = Lib.decodeN n b0 b1 b2 b3 := by
  rcases h1 with rfl | ⟨a1, a2⟩
  · rcases h2 with rfl | ⟨a3, a4⟩
    · rcases h3 with rfl | ⟨a5, a6⟩
      · rfl
      · unfold Lib.decodeN
        rw [a5, a6]
        simp
    · unfold Lib.decodeN
      rw [a3, a4]
      simp
  · unfold Lib.decodeN
    rw [a1, a2]
    simp
theorem Upped.decode {a b : List UInt8} (h : Upped a b) (h0 : a.getD 0 0 = b.getD 0 0) : Lib.decodeL b = Lib.decodeL a := by
  rw [Lib.decodeL_N, Lib.decodeL_N, h.len, ← h0]
  have g := fun j => (h.get j)
  have g' : ∀ j, (b.getD j 0).toNat = (a.getD j 0).toNat ∨ ((a.getD j 0).toNat / 64 = 1 ∧ (b.getD j 0).toNat / 64 = 1) := fun j => by
    rcases g j with e | e
    · exact .inl (by rw [e])
    · exact .inr e
  exact decodeN_up (g' 1) (g' 2) (g' 3)
theorem decode_low (c : UInt8) (t : List UInt8) (h : c.toNat < 128) : Lib.decodeL (c :: t) = (c.toNat, 1) := by
  rw [Lib.decodeL_N]
  unfold Lib.decodeN
  rw [List.getD_cons_zero, if_pos h]
theorem fold_up (c : Nat) (h : 97 ≤ c ∧ c ≤ 122) : foldI ((c - 32 : Nat) : Int) = foldI (c : Int) := by
  unfold foldI
  rw [if_pos (by omega), if_neg (by omega)]
  omega
theorem Upped.maps : ∀ (n : Nat) {a b : List UInt8}, a.length ≤ n → Upped a b → Lib.mapD foldI b = Lib.mapD foldI a ∧ Lib.validD b = Lib.validD a
  | 0, a, b, hn, h => by
    have : a = [] := List.eq_nil_of_length_eq_zero (by omega)
    subst this
    cases h
    exact ⟨rfl, rfl⟩
  | n + 1, a, b, hn, h => by
    cases h with
    | nil => exact ⟨rfl, rfl⟩
    | @same c a b h =>
      have H : Upped (c :: a) (c :: b) := .same c h
      have hd := H.decode rfl
      have hl := drop_len (l := c :: a) (by simp)
      have ih := Upped.maps n (by simp only [List.length_cons] at hn hl ⊢; omega) (H.drop (Lib.decodeL (c :: a)).2)
      rw [Lib.mapD_step _ (c :: b) (by simp), Lib.mapD_step _ (c :: a) (by simp), Lib.validD_step (c :: b) (by simp), Lib.validD_step (c :: a) (by simp), hd, ih.1, ih.2]
      exact ⟨rfl, rfl⟩
    | @up c a b k h =>
      have hu := up_nat c k
      have ih := Upped.maps n (by simp only [List.length_cons] at hn; omega) h
      rw [Lib.mapD_step _ ((c - 32) :: b) (by simp), Lib.mapD_step _ (c :: a) (by simp), Lib.validD_step ((c - 32) :: b) (by simp), Lib.validD_step (c :: a) (by simp),
        decode_low (c - 32) b (by omega), decode_low c a (by omega)]
      simp only [List.drop_succ_cons, List.drop_zero]
      have z1 : ¬ c.toNat = 65533 := by omega
      have z2 : ¬ c.toNat - 32 = 65533 := by omega
      rw [ih.1, ih.2, hu, fold_up _ k]
      simp only [z1, z2, false_and, if_false]
      exact ⟨trivial, trivial⟩
theorem Upped.localI {a b : List UInt8} (h : Upped a b) : localI b = localI a := by
  have hm := Upped.maps a.length (Nat.le_refl _) h
  have hs : sizedI b = sizedI a := by
    unfold sizedI
    rw [h.len, hm.2]
    have : (b = []) = (a = []) := by
      apply propext
      rw [← List.length_eq_zero_iff, ← List.length_eq_zero_iff, h.len]
    simp only [this]
  unfold Go.Proofs.Ytfnlcnjflloecaa.localI
  rw [hs, hm.1]
theorem Upped.hostI {a b : List UInt8} (h : Upped a b) : hostI b = hostI a := by
  unfold Go.Proofs.Ytfnlcnjflloecaa.hostI
  rw [h.len, h.low]
theorem Upped.cut {a b : List UInt8} (h : Upped a b) (c : UInt8) (hc : c.toNat < 65 ∨ (90 < c.toNat ∧ c.toNat < 97) ∨ 122 < c.toNat) : Upped (cutI c a).1 (cutI c b).1 ∧ Upped (cutI c a).2.1 (cutI c b).2.1 ∧ (cutI c b).2.2 = (cutI c a).2.2 := by
  induction h with
  | nil => exact ⟨.nil, .nil, rfl⟩
  | @same d a b h ih =>
    unfold cutI
    by_cases e : d = c
    · rw [if_pos e, if_pos e]; exact ⟨.nil, h, rfl⟩
    · rw [if_neg e, if_neg e]; exact ⟨.same d ih.1, ih.2.1, ih.2.2⟩
  | @up d a b k h ih =>
    have hu := up_nat d k
    unfold cutI
    rw [if_neg (fun e => by subst e; omega), if_neg (fun e => by subst e; omega)]
    exact ⟨.up d k ih.1, ih.2.1, ih.2.2⟩
theorem Upped.refl : ∀ a : List UInt8, Upped a a
  | [] => .nil
  | c :: a => .same c (Upped.refl a)
/-- An address whose part ahead of the first '/' is written in other case. -/
theorem Upped.parse {x y r : List UInt8} (h : Upped x y) (hx : (47 : UInt8) ∉ x) (hr : r = [] ∨ ∃ t, r = 47 :: t) : parseI (y ++ r) = parseI (x ++ r) := by
  have hy : (47 : UInt8) ∉ y := fun hm => by
    have h1 := (h.cut 47 (by decide)).2.2
    rw [cutI_none hx] at h1
    obtain ⟨p, q, e⟩ := List.append_of_mem hm
    clear hm
    have : ∀ p : List UInt8, (cutI 47 (p ++ 47 :: q)).2.2 = true := by
      intro p
      induction p with
      | nil => simp [cutI]
      | cons c p ih =>
        rw [List.cons_append]
        unfold cutI
        by_cases e : c = 47
        · rw [if_pos e]
        · rw [if_neg e]; exact ih
    rw [e, this p] at h1
    cases h1
  have hc : ∀ z : List UInt8, (47 : UInt8) ∉ z → cutI 47 (z ++ r) = (z, (cutI 47 r).2.1, (cutI 47 r).2.2) := by
    intro z hz
    rcases hr with rfl | ⟨t, rfl⟩
    · rw [List.append_nil, cutI_none hz]; rfl
    · rw [cutI_some t hz]; simp [cutI]
  have hd := h.cut 64 (by decide)
  unfold parseI
  simp only [hc x hx, hc y hy, hd.2.2, hd.1.localI]
  have e : Go.Proofs.Ytfnlcnjflloecaa.hostI (if (cutI 64 x).2.2 = true then (cutI 64 y).2.1 else y) = Go.Proofs.Ytfnlcnjflloecaa.hostI (if (cutI 64 x).2.2 = true then (cutI 64 x).2.1 else x) := by
    split
    · exact hd.2.1.hostI
    · exact h.hostI
  rw [e]
end Go.Proofs.Ytfnlcnjflloecaa
