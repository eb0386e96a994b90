/- Runes and bytes, plain: what is decoded, mapped, asked of all; a host's name. -/
import Derived.Lib.ValidLaws
import Derived.Lib.MapLaws
import Derived.Lib.RuneBytes
import Derived.Lib.FieldsU
import Derived.Shelf.GgClosure.StringsIndexFunc
import Derived.Lib.Split
import Derived.Lib.SplitLaws
import Derived.Lib.IndexMore
set_option linter.unusedVariables false
set_option linter.unusedSimpArgs false
namespace Go.Proofs.YtfnlcnjflloecaaDoor
open Go
theorem toU8 (z : Int) (h0 : 0 ≤ z) (h1 : z < 256) : (z.toNat.toUInt8).toNat = z.toNat := by
  simp; omega
/-- What a rune's form decodes to. -/
theorem decode_enc (r : Nat) (h : r < 55296 ∨ (57344 ≤ r ∧ r ≤ 1114111)) (t : List UInt8) : Lib.decodeL (Lib.encodeRune (r : Int) ++ t) = (r, (Lib.encodeRune (r : Int)).length) := by
  rw [Lib.decodeL_N]
  unfold Lib.encodeRune
  by_cases h1 : r ≤ 127
  · rw [Lib.encodeRuneZ_one (by omega) (by omega)]
    simp only [List.map_cons, List.map_nil, List.cons_append, List.nil_append, List.getD_cons_zero, List.getD_cons_succ, List.length_cons, List.length_nil]
    rw [toU8 _ (by omega) (by omega)]
    unfold Lib.decodeN
    rw [if_pos (by omega)]
    simp
  · by_cases h2 : r ≤ 2047
    · rw [Lib.encodeRuneZ_two (by omega) (by omega)]
      simp only [List.map_cons, List.map_nil, List.cons_append, List.nil_append, List.getD_cons_zero, List.getD_cons_succ, List.length_cons, List.length_nil]
      rw [toU8 _ (by omega) (by omega), toU8 _ (by omega) (by omega)]
      unfold Lib.decodeN
      rw [if_neg (by omega), if_pos ⟨by omega, by omega, by omega⟩, if_pos (by omega)]
      simp; omega
    · by_cases h3 : r ≤ 65535
      · rw [Lib.encodeRuneZ_three (by omega)]
        simp only [List.map_cons, List.map_nil, List.cons_append, List.nil_append, List.getD_cons_zero, List.getD_cons_succ, List.length_cons, List.length_nil]
        rw [toU8 _ (by omega) (by omega), toU8 _ (by omega) (by omega), toU8 _ (by omega) (by omega)]
        unfold Lib.decodeN
        rw [if_neg (by omega), if_neg (by omega), if_pos ⟨by omega, ⟨by omega, by omega⟩, by omega, by omega⟩, if_pos (by omega)]
        simp; omega
      · rw [Lib.encodeRuneZ_four (by omega) (by omega)]
        simp only [List.map_cons, List.map_nil, List.cons_append, List.nil_append, List.getD_cons_zero, List.getD_cons_succ, List.length_cons, List.length_nil]
        rw [toU8 _ (by omega) (by omega), toU8 _ (by omega) (by omega), toU8 _ (by omega) (by omega), toU8 _ (by omega) (by omega)]
        unfold Lib.decodeN
        rw [if_neg (by omega), if_neg (by omega), if_neg (by omega), if_pos ⟨by omega, ⟨by omega, by omega⟩, ⟨by omega, by omega⟩, by omega, by omega⟩, if_pos (by omega)]
        simp; omega
def runeOk (r : Nat) : Prop := r < 55296 ∨ (57344 ≤ r ∧ r ≤ 1114111)
theorem decode_ok (l : List UInt8) : runeOk (Lib.decodeL l).1 := by
  rw [Lib.decodeL_N]
  unfold runeOk
  rcases Lib.decodeN_shape l.length (l.getD 0 0).toNat (l.getD 1 0).toNat (l.getD 2 0).toNat (l.getD 3 0).toNat with ⟨c, e⟩ | ⟨c1, c2, c3, cv, e⟩ | ⟨c1, c2, c3, c4, cv, cs, e⟩ | ⟨c1, c2, c3, c4, c5, cv, cw, e⟩ | e
  all_goals (rw [e]; dsimp only; omega)
def allGoD (p : Int → Bool) : Nat → List UInt8 → Bool
  | 0, _ => true
  | n + 1, l => if l = [] then true else p (Lib.decodeL l).1 && allGoD p n (l.drop (Lib.decodeL l).2)
/-- Are all runes so? -/
def allD (p : Int → Bool) (l : List UInt8) : Bool := allGoD p l.length l
theorem allGoD_nil (p : Int → Bool) : ∀ n, allGoD p n [] = true
  | 0 => rfl
  | _ + 1 => by simp [allGoD]
theorem allGoD_fuel (p : Int → Bool) : ∀ (n m : Nat) (l : List UInt8), l.length ≤ n → l.length ≤ m → allGoD p n l = allGoD p m l
  | 0, m, l, hn, _ => by
    have : l = [] := List.eq_nil_of_length_eq_zero (by omega)
    subst this
    rw [allGoD_nil, allGoD_nil]
  | n + 1, 0, l, _, hm => by
    have : l = [] := List.eq_nil_of_length_eq_zero (by omega)
    subst this
    rw [allGoD_nil, allGoD_nil]
  | n + 1, m + 1, l, hn, hm => by
    by_cases hne : l = []
    · subst hne
      rw [allGoD_nil, allGoD_nil]
    · have hw := Lib.decodeL_width l
      have hl : 0 < l.length := List.length_pos_iff.2 hne
      simp only [allGoD, if_neg hne]
      rw [allGoD_fuel p n m _ (by rw [List.length_drop]; omega) (by rw [List.length_drop]; omega)]
theorem allD_nil (p : Int → Bool) : allD p [] = true := rfl
theorem allD_step (p : Int → Bool) (l : List UInt8) (hne : l ≠ []) : allD p l = (p (Lib.decodeL l).1 && allD p (l.drop (Lib.decodeL l).2)) := by
  have hw := Lib.decodeL_width l
  have hl : 0 < l.length := List.length_pos_iff.2 hne
  unfold allD
  obtain ⟨n, hn⟩ : ∃ n, l.length = n + 1 := ⟨l.length - 1, by omega⟩
  rw [hn]
  simp only [allGoD, if_neg hne]
  rw [allGoD_fuel p n _ _ (by rw [List.length_drop]; omega) (Nat.le_refl _)]
/-- f leads runes to runes. -/
def mapOk (f : Int → Int) : Prop := ∀ r : Nat, runeOk r → ∃ q : Nat, f r = q ∧ runeOk q
theorem mapD_cons {f : Int → Int} (hf : mapOk f) (l : List UInt8) (hne : l ≠ []) : ∃ q : Nat, f (Lib.decodeL l).1 = q ∧ runeOk q ∧ Lib.mapD f l = Lib.encodeRune q ++ Lib.mapD f (l.drop (Lib.decodeL l).2) := by
  obtain ⟨q, h1, h2⟩ := hf _ (decode_ok l)
  refine ⟨q, h1, h2, ?_⟩
  rw [Lib.mapD_step f l hne, h1, if_pos (by omega)]
theorem enc_ne (q : Nat) (t : List UInt8) : Lib.encodeRune (q : Int) ++ t ≠ [] := by
  intro e
  have h := Lib.encodeRuneZ_length (q : Int)
  have h2 := congrArg List.length e
  rw [List.length_append, List.length_nil] at h2
  unfold Lib.encodeRune at h2
  rw [List.length_map] at h2
  omega
theorem drop_len {l : List UInt8} (hne : l ≠ []) : (l.drop (Lib.decodeL l).2).length < l.length := by
  have hw := Lib.decodeL_width l
  have hl : 0 < l.length := List.length_pos_iff.2 hne
  rw [List.length_drop]; omega
theorem all_map {f : Int → Int} (hf : mapOk f) (p : Int → Bool) : ∀ (n : Nat) (l : List UInt8), l.length ≤ n → allD p (Lib.mapD f l) = allD (fun r => p (f r)) l
  | 0, l, hn => by
    have : l = [] := List.eq_nil_of_length_eq_zero (by omega)
    subst this; rfl
  | n + 1, l, hn => by
    by_cases hne : l = []
    · subst hne; rfl
    · obtain ⟨q, h1, h2, h3⟩ := mapD_cons hf l hne
      have hd := drop_len hne
      rw [h3, allD_step _ _ (enc_ne q _), decode_enc q h2, allD_step _ l hne]
      simp only [h1, List.drop_left]
      rw [all_map hf p n _ (by omega)]
theorem map_map {f g : Int → Int} (hf : mapOk f) : ∀ (n : Nat) (l : List UInt8), l.length ≤ n → Lib.mapD g (Lib.mapD f l) = Lib.mapD (fun r => g (f r)) l
  | 0, l, hn => by
    have : l = [] := List.eq_nil_of_length_eq_zero (by omega)
    subst this; rfl
  | n + 1, l, hn => by
    by_cases hne : l = []
    · subst hne; rfl
    · obtain ⟨q, h1, h2, h3⟩ := mapD_cons hf l hne
      have hd := drop_len hne
      rw [h3, Lib.mapD_step _ _ (enc_ne q _), decode_enc q h2, Lib.mapD_step _ l hne]
      simp only [h1, List.drop_left]
      rw [map_map hf n _ (by omega)]
theorem valid_map {f : Int → Int} (hf : mapOk f) : ∀ (n : Nat) (l : List UInt8), l.length ≤ n → Lib.validD (Lib.mapD f l) = true
  | 0, l, hn => by
    have : l = [] := List.eq_nil_of_length_eq_zero (by omega)
    subst this; rfl
  | n + 1, l, hn => by
    by_cases hne : l = []
    · subst hne; rfl
    · obtain ⟨q, h1, h2, h3⟩ := mapD_cons hf l hne
      have hd := drop_len hne
      rw [h3, Lib.validD_step _ (enc_ne q _), decode_enc q h2, if_neg]
      · simp only [List.drop_left]
        exact valid_map hf n _ (by omega)
      · simp only
        rintro ⟨a, b⟩
        subst a
        simp [Lib.encodeRune, Lib.encodeRuneZ] at b
/-- What is valid is its runes' forms. -/
theorem map_self {f : Int → Int} : ∀ (n : Nat) (l : List UInt8), l.length ≤ n → Lib.validD l = true → allD (fun r => f r == r) l = true → Lib.mapD f l = l
  | 0, l, hn, _, _ => by
    have : l = [] := List.eq_nil_of_length_eq_zero (by omega)
    subst this; rfl
  | n + 1, l, hn, hv, ha => by
    by_cases hne : l = []
    · subst hne; rfl
    · have hd := drop_len hne
      rw [Lib.validD_step _ hne] at hv
      rw [allD_step _ _ hne] at ha
      split at hv
      · cases hv
      · rename_i hb
        simp only [Bool.and_eq_true, beq_iff_eq] at ha
        rw [Lib.mapD_same f l hne ha.1 hb, map_self n _ (by omega) hv ha.2, List.take_append_drop]
/-- f leaves the forms' lengths. -/
def mapSized (f : Int → Int) : Prop := ∀ r : Nat, runeOk r → (Lib.encodeRune (f r)).length = (Lib.encodeRune (r : Int)).length
theorem map_len {f : Int → Int} (hf : mapOk f) (hs : mapSized f) : ∀ (n : Nat) (l : List UInt8), l.length ≤ n → Lib.validD l = true → (Lib.mapD f l).length = l.length
  | 0, l, hn, _ => by
    have : l = [] := List.eq_nil_of_length_eq_zero (by omega)
    subst this; rfl
  | n + 1, l, hn, hv => by
    by_cases hne : l = []
    · subst hne; rfl
    · have hd := drop_len hne
      obtain ⟨q, h1, h2, h3⟩ := mapD_cons hf l hne
      rw [Lib.validD_step _ hne] at hv
      split at hv
      · cases hv
      · rename_i hb
        have hz := hs _ (decode_ok l)
        rw [h1, Lib.encode_decode l hne hb] at hz
        have hle := Lib.decodeL_le l hne
        rw [h3, List.length_append, hz, map_len hf hs n _ (by omega) hv, List.length_take, List.length_drop]
        omega
/-- all(s, p) by strings.IndexFunc. -/
theorem idx_all (p : Nat → Bool) (s : ByteArray) : ∀ (n pos : Nat), s.size ≤ pos + n → (decide (Lib.idxFuncFrom p true s n pos < 0) = allD (fun r => !p r.toNat) (s.data.toList.drop pos))
  | 0, pos, h => by
    have e : s.data.toList.drop pos = [] := List.drop_eq_nil_of_le (by rw [← Lib.size_eq]; omega)
    rw [e]; rfl
  | n + 1, pos, h => by
    unfold Lib.idxFuncFrom
    by_cases hp : pos < s.size
    · have hne : s.data.toList.drop pos ≠ [] := by
        intro e
        have := congrArg List.length e
        rw [List.length_drop, ← Lib.size_eq] at this
        simp at this; omega
      have hd := Lib.decodeL_drop s pos
      have hw := Lib.decodeL_width (s.data.toList.drop pos)
      rw [allD_step _ _ hne, hd, List.drop_drop, if_pos hp]
      rw [hd] at hw
      have ih := idx_all p s n (pos + (Utf8.decode s pos).2) (by omega)
      rw [← ih]
      simp only [Int.toNat_natCast]
      cases hq : p (Utf8.decode s pos).1
      · simp
      · simp
    · have e : s.data.toList.drop pos = [] := List.drop_eq_nil_of_le (by rw [← Lib.size_eq]; omega)
      rw [if_neg hp, e]; rfl
theorem idx_all0 (p : Nat → Bool) (s : ByteArray) : decide (Lib.idxFunc p true s < 0) = allD (fun r => !p r.toNat) s.data.toList := by
  have := idx_all p s s.size 0 (by omega)
  rw [List.drop_zero] at this
  exact this
/-- Of bytes below 128 alone. -/
theorem allD_low (q : Int → Bool) (hq : ∀ r : Nat, q r = true → r < 128) : ∀ (n : Nat) (l : List UInt8), l.length ≤ n → allD q l = l.all fun b => q b.toNat
  | 0, l, hn => by
    have : l = [] := List.eq_nil_of_length_eq_zero (by omega)
    subst this; rfl
  | n + 1, [], hn => rfl
  | n + 1, b :: t, hn => by
    have hb := b.toNat_lt
    rw [allD_step q _ (by simp), List.all_cons]
    by_cases h : b.toNat < 128
    · have e : Lib.decodeL (b :: t) = (b.toNat, 1) := by
        rw [Lib.decodeL_N]
        unfold Lib.decodeN
        rw [List.getD_cons_zero, if_pos h]
      rw [e]
      simp only [List.drop_succ_cons, List.drop_zero]
      rw [allD_low q hq n t (by simpa using hn)]
    · have f1 : q (b.toNat : Int) = false := by
        cases hx : q (b.toNat : Int)
        · rfl
        · exact absurd (hq _ hx) h
      have f2 : q ((Lib.decodeL (b :: t)).1 : Int) = false := by
        cases hx : q ((Lib.decodeL (b :: t)).1 : Int)
        · rfl
        · have := hq _ hx
          rw [Lib.decodeL_N] at this
          simp only [List.getD_cons_zero] at this
          rcases Lib.decodeN_shape (b :: t).length b.toNat (((b :: t).getD 1 0).toNat) (((b :: t).getD 2 0).toNat) (((b :: t).getD 3 0).toNat) with ⟨c, e⟩ | ⟨c1, c2, c3, cv, e⟩ | ⟨c1, c2, c3, c4, cv, cs, e⟩ | ⟨c1, c2, c3, c4, c5, cv, cw, e⟩ | e
          all_goals (rw [e] at this; dsimp only at this; omega)
      rw [f1, f2]; rfl
def azB (c : UInt8) : Bool := decide (97 ≤ c.toNat ∧ c.toNat ≤ 122) || decide (48 ≤ c.toNat ∧ c.toNat ≤ 57)
def goodB (last c : UInt8) : Bool := azB c || (c == 45 && last != 46) || (c == 46 && last != 46 && last != 45)
def hostGo : UInt8 → List UInt8 → Bool
  | last, [] => last != 46 && last != 45
  | last, c :: r => goodB last c && hostGo c r
theorem hostGo_cons (last c : UInt8) (r : List UInt8) : hostGo last (c :: r) = (goodB last c && hostGo c r) := rfl
def lowB (c : UInt8) : UInt8 := if 65 ≤ c.toNat ∧ c.toNat ≤ 90 then c + 32 else c
/-- digit, or a hyphen. -/
def ddI (r : Int) : Bool := ((decide (97 ≤ r) && decide (r ≤ 122)) || (decide (48 ≤ r) && decide (r ≤ 57))) || (r == 45)
def labelB (l : List UInt8) : Bool := !l.isEmpty && (l.getD 0 0 != 45) && (l.getD (l.length - 1) 0 != 45) && allD ddI l
def okB (c : UInt8) : Bool := azB c || c == 45
theorem ddI_ok (c : UInt8) : ddI (c.toNat : Int) = okB c := by
  unfold ddI okB azB
  have e : (((c.toNat : Int) == 45)) = (c == 45) := by
    rw [Bool.eq_iff_iff, beq_iff_eq, beq_iff_eq, ← UInt8.toNat_inj]
    show _ ↔ c.toNat = 45
    omega
  rw [e]
  congr 1
  rw [Bool.eq_iff_iff]
  simp
  omega
theorem ddI_low (r : Nat) (h : ddI r = true) : r < 128 := by
  unfold ddI at h
  simp at h
  omega
theorem allD_dd (l : List UInt8) : allD ddI l = l.all okB := by
  rw [allD_low ddI ddI_low l.length l (Nat.le_refl _)]
  congr 1
  funext b
  exact ddI_ok b
theorem seg_end (last : UInt8) (h : last ≠ 46) : ∀ p : List UInt8, 46 ∉ p → hostGo last p = (p.all okB && ((last :: p).getD p.length 0 != 45)) := by
  intro p
  induction p generalizing last with
  | nil => intro _; simp [hostGo, h]
  | cons c r ih =>
    intro hn
    have hc : c ≠ 46 := fun e => hn (by simp [e])
    have hr : 46 ∉ r := fun e => hn (by simp [e])
    rw [hostGo_cons, ih c hc hr, List.all_cons]
    have e1 : goodB last c = okB c := by
      have h1 : (last == 46) = false := beq_eq_false_iff_ne.2 h
      have h2 : (c == 46) = false := beq_eq_false_iff_ne.2 hc
      unfold goodB okB
      simp [bne, h1, h2]
    rw [e1, Bool.and_assoc]
    simp only [List.length_cons, List.getD_cons_succ]
theorem seg_more (last : UInt8) (h : last ≠ 46) (t : List UInt8) : ∀ p : List UInt8, 46 ∉ p → hostGo last (p ++ 46 :: t) = (p.all okB && ((last :: p).getD p.length 0 != 45) && hostGo 46 t) := by
  intro p
  induction p generalizing last with
  | nil =>
    intro _
    rw [List.nil_append, hostGo_cons]
    have h1 : (last == 46) = false := beq_eq_false_iff_ne.2 h
    simp [goodB, bne, h1, azB]
  | cons c r ih =>
    intro hn
    have hc : c ≠ 46 := fun e => hn (by simp [e])
    have hr : 46 ∉ r := fun e => hn (by simp [e])
    rw [List.cons_append, hostGo_cons, ih c hc hr, List.all_cons]
    have e1 : goodB last c = okB c := by
      have h1 : (last == 46) = false := beq_eq_false_iff_ne.2 h
      have h2 : (c == 46) = false := beq_eq_false_iff_ne.2 hc
      unfold goodB okB
      simp [bne, h1, h2]
    rw [e1]
    simp only [List.length_cons, List.getD_cons_succ, Bool.and_assoc]
theorem good_first (c : UInt8) (hc : c ≠ 46) : goodB 46 c = (okB c && (c != 45)) := by
  unfold goodB okB azB
  by_cases h : c = 45
  · subst h; decide
  · have e : (c == 45) = false := beq_eq_false_iff_ne.2 h
    simp [e, h, hc, bne]
theorem label_end (p : List UInt8) (hn : 46 ∉ p) : hostGo 46 p = labelB p := by
  unfold labelB
  rw [allD_dd]
  cases p with
  | nil => rfl
  | cons c r =>
    have hc : c ≠ 46 := fun e => hn (by simp [e])
    have hr : 46 ∉ r := fun e => hn (by simp [e])
    rw [hostGo_cons, seg_end c hc r hr, good_first c hc, List.all_cons]
    have e0 : ((c :: r).getD ((c :: r).length - 1) 0) = (c :: r).getD r.length 0 := by simp
    rw [e0]
    simp only [List.isEmpty_cons, List.getD_cons_zero, Bool.not_false, Bool.true_and]
    generalize ((c :: r).getD r.length 0 != 45) = x
    cases okB c <;> cases (c != 45) <;> cases r.all okB <;> cases x <;> simp
theorem label_more (p t : List UInt8) (hn : 46 ∉ p) : hostGo 46 (p ++ 46 :: t) = (labelB p && hostGo 46 t) := by
  unfold labelB
  rw [allD_dd]
  cases p with
  | nil => rfl
  | cons c r =>
    have hc : c ≠ 46 := fun e => hn (by simp [e])
    have hr : 46 ∉ r := fun e => hn (by simp [e])
    rw [List.cons_append, hostGo_cons, seg_more c hc t r hr, good_first c hc, List.all_cons]
    have e0 : ((c :: r).getD ((c :: r).length - 1) 0) = (c :: r).getD r.length 0 := by simp
    rw [e0]
    simp only [List.isEmpty_cons, List.getD_cons_zero, Bool.not_false, Bool.true_and]
    generalize ((c :: r).getD r.length 0 != 45) = x
    generalize hostGo 46 t = y
    cases okB c <;> cases (c != 45) <;> cases r.all okB <;> cases x <;> simp
/-- strings.Split at a dot, label by label. -/
theorem split_host : ∀ (k : Nat) (t : List UInt8), t.count 46 = k → ((Lib.splitK [46] 0 k t).all labelB = hostGo 46 t)
  | 0, t, h => by
    have hn : 46 ∉ t := List.count_eq_zero.1 h
    unfold Lib.splitK
    rw [label_end t hn]
    simp
  | k + 1, t, h => by
    rcases Lib.index_spec t [46] with ⟨e, hno⟩ | ⟨i, e, hi, hocc, hbef⟩
    · exfalso
      have hm : 46 ∈ t := List.count_pos_iff.1 (by omega)
      obtain ⟨j, hj, hjt⟩ := List.mem_iff_getElem.1 hm
      have := hno j (by omega)
      unfold Lib.occAt at this
      rw [List.drop_eq_getElem_cons hj, hjt] at this
      simp at this
    · have hne : ¬ (Lib.index t [46] == -1) = true := by rw [beq_iff_eq]; omega
      have ei : (Lib.index t [46]).toNat = i := by omega
      unfold Lib.splitK
      rw [if_neg hne, ei]
      have h46 : t[i]? = some 46 := Lib.occAt_head rfl hocc
      obtain ⟨hil, hg⟩ := List.getElem?_eq_some_iff.1 h46
      have hd : t.drop i = 46 :: t.drop (i + 1) := by rw [List.drop_eq_getElem_cons hil, hg]
      have ht : t = t.take i ++ 46 :: t.drop (i + 1) := by rw [← hd, List.take_append_drop]
      have hn : 46 ∉ t.take i := by
        intro hm
        obtain ⟨j, hj, hjt⟩ := List.mem_iff_getElem.1 hm
        rw [List.getElem_take] at hjt
        rw [List.length_take] at hj
        have := hbef j (by omega)
        unfold Lib.occAt at this
        rw [List.drop_eq_getElem_cons (by omega), hjt] at this
        simp at this
      have hc : (t.drop (i + 1)).count 46 = k := by
        have h2 := congrArg (List.count 46) ht
        rw [List.count_append, List.count_cons, List.count_eq_zero.2 hn, h] at h2
        simp at h2
        omega
      have ih := split_host k _ hc
      rw [List.all_cons]
      simp only [List.length_cons, List.length_nil, Nat.zero_add, Nat.add_zero]
      rw [ih]
      conv => rhs; rw [ht]
      rw [label_more _ _ hn]
def capI (r : Int) : Int := if 65 ≤ r ∧ r ≤ 90 then r + 32 else r
theorem capI_ok : mapOk capI := by
  intro r hr
  unfold capI
  split
  · exact ⟨r + 32, by omega, .inl (by omega)⟩
  · exact ⟨r, rfl, hr⟩
theorem host_low : ∀ (last : UInt8) (t : List UInt8), hostGo last t = true → ∀ b ∈ t, b.toNat < 128
  | _, [], _ => by simp
  | last, c :: r, h => by
    rw [hostGo_cons] at h
    simp only [Bool.and_eq_true] at h
    have ih := host_low c r h.2
    intro b hb
    rcases List.mem_cons.1 hb with rfl | hb
    · have := h.1
      unfold goodB azB at this
      by_cases e1 : b = 45
      · subst e1; decide
      · by_cases e2 : b = 46
        · subst e2; decide
        · simp [e1, e2] at this; omega
    · exact ih b hb
theorem lowB_low (b : UInt8) : (lowB b).toNat < 128 ↔ b.toNat < 128 := by
  unfold lowB
  split
  · rename_i h
    have : (b + 32).toNat = b.toNat + 32 := by rw [UInt8.toNat_add]; simp; omega
    omega
  · exact Iff.rfl
theorem enc_low (r : Nat) (h : r < 128) : Lib.encodeRune (r : Int) = [UInt8.ofNat r] := by
  unfold Lib.encodeRune
  rw [Lib.encodeRuneZ_one (by omega) (by omega)]
  simp [Nat.toUInt8]
theorem cap_low : ∀ (l : List UInt8), (∀ b ∈ l, b.toNat < 128) → Lib.mapD capI l = l.map lowB
  | [], _ => rfl
  | b :: t, h => by
    have hb := h b (by simp)
    have e : Lib.decodeL (b :: t) = (b.toNat, 1) := by
      rw [Lib.decodeL_N]
      unfold Lib.decodeN
      rw [List.getD_cons_zero, if_pos hb]
    rw [Lib.mapD_step _ _ (by simp), e]
    simp only [List.drop_succ_cons, List.drop_zero, List.map_cons]
    rw [cap_low t (fun c hc => h c (by simp [hc]))]
    unfold capI lowB
    by_cases hc : 65 ≤ b.toNat ∧ b.toNat ≤ 90
    · rw [if_pos (by omega : (65 : Int) ≤ (b.toNat : Int) ∧ (b.toNat : Int) ≤ 90), if_pos (by omega), if_pos hc]
      have := enc_low (b.toNat + 32) (by omega)
      rw [show ((b.toNat : Int) + 32) = ((b.toNat + 32 : Nat) : Int) by omega, this]
      have e3 : UInt8.ofNat (b.toNat + 32) = b + 32 := by
        rw [← UInt8.toNat_inj, UInt8.toNat_add]; simp
      rw [e3]; rfl
    · rw [if_neg (by omega : ¬ ((65 : Int) ≤ (b.toNat : Int) ∧ (b.toNat : Int) ≤ 90)), if_pos (by omega), if_neg hc, enc_low _ hb]
      simp
/-- What was mapped to bytes below 128 was of such bytes. -/
theorem cap_high : ∀ (n : Nat) (l : List UInt8), l.length ≤ n → Lib.validD l = true → (∀ b ∈ Lib.mapD capI l, b.toNat < 128) → ∀ b ∈ l, b.toNat < 128
  | 0, l, hn, _, _ => by
    have : l = [] := List.eq_nil_of_length_eq_zero (by omega)
    subst this; simp
  | n + 1, l, hn, hv, hm => by
    by_cases hne : l = []
    · subst hne; simp
    · have hd := drop_len hne
      obtain ⟨q, h1, h2, h3⟩ := mapD_cons capI_ok l hne
      rw [Lib.validD_step _ hne] at hv
      split at hv
      · cases hv
      · rename_i hb
        rw [h3] at hm
        have ih := cap_high n _ (by omega) hv (fun b hb => hm b (by simp [hb]))
        have hq : q < 128 := by
          have hx := hm ((Lib.encodeRune (q : Int)).getD 0 0) (by
            rw [List.getD_eq_getElem?_getD]
            have hl := (Lib.encodeRuneZ_length (q : Int)).1
            have hl2 : 0 < (Lib.encodeRune (q : Int)).length := by unfold Lib.encodeRune; rw [List.length_map]; omega
            rw [List.getElem?_eq_getElem hl2]
            simp)
          unfold Lib.encodeRune at hx
          by_cases k1 : q ≤ 127
          · omega
          · exfalso
            unfold runeOk at h2
            by_cases k2 : q ≤ 2047
            · rw [Lib.encodeRuneZ_two (by omega) (by omega)] at hx
              simp only [List.map_cons, List.getD_cons_zero] at hx
              rw [toU8 _ (by omega) (by omega)] at hx
              omega
            · by_cases k3 : q ≤ 65535
              · rw [Lib.encodeRuneZ_three (by omega)] at hx
                simp only [List.map_cons, List.getD_cons_zero] at hx
                rw [toU8 _ (by omega) (by omega)] at hx
                omega
              · rw [Lib.encodeRuneZ_four (by omega) (by omega)] at hx
                simp only [List.map_cons, List.getD_cons_zero] at hx
                rw [toU8 _ (by omega) (by omega)] at hx
                omega
        have hr : (Lib.decodeL l).1 < 128 := by
          unfold capI at h1
          split at h1 <;> omega
        have he := Lib.encode_decode l hne hb
        rw [enc_low _ hr] at he
        intro b hbl
        rw [← List.take_append_drop (Lib.decodeL l).2 l, List.mem_append] at hbl
        rcases hbl with hbl | hbl
        · rw [← he] at hbl
          rw [List.mem_singleton.1 hbl]
          simp; omega
        · exact ih b hbl
/-- A host's name, prepared: by the bytes. -/
def hostI (s : List UInt8) : List UInt8 × Int := if 64 < s.length then ([], 5) else if hostGo 46 (s.map lowB) then (s.map lowB, 0) else ([], 4)
theorem host_bad (s : List UInt8) (h : s = [] ∨ Lib.validD s = false) : hostGo 46 (s.map lowB) = false := by
  cases hx : hostGo 46 (s.map lowB)
  · rfl
  · exfalso
    rcases h with rfl | h
    · cases hx
    · have hl := host_low _ _ hx
      have ha : ∀ b ∈ s, b.toNat < 128 := fun b hb => (lowB_low b).1 (hl _ (List.mem_map.2 ⟨b, hb, rfl⟩))
      have := Lib.validD_ascii s.length s (by rw [List.take_length]; exact ha)
      rw [List.drop_length, Lib.validD_nil] at this
      rw [this] at h; cases h
theorem host_good (s : List UInt8) (hv : Lib.validD s = true) : hostGo 46 (Lib.mapD capI s) = hostGo 46 (s.map lowB) ∧ (hostGo 46 (s.map lowB) = true → Lib.mapD capI s = s.map lowB) := by
  by_cases ha : ∀ b ∈ s, b.toNat < 128
  · rw [cap_low s ha]; exact ⟨rfl, fun _ => rfl⟩
  · have h1 : hostGo 46 (s.map lowB) = false := by
      cases hx : hostGo 46 (s.map lowB)
      · rfl
      · exact absurd (fun b hb => (lowB_low b).1 (host_low _ _ hx _ (List.mem_map.2 ⟨b, hb, rfl⟩))) ha
    have h2 : hostGo 46 (Lib.mapD capI s) = false := by
      cases hx : hostGo 46 (Lib.mapD capI s)
      · rfl
      · exact absurd (cap_high s.length s (Nat.le_refl _) hv (host_low _ _ hx)) ha
    rw [h1, h2]; exact ⟨rfl, fun h => by cases h⟩
end Go.Proofs.YtfnlcnjflloecaaDoor
