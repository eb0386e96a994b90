/- An argument that is an api.Record, opened. -/
import Derived.Test.YtfnlcnjflloecaaDoorRow
import Derived.Test.YtfnlcnjflloecaaDoorRec
import Derived.Lib.SmallJoins
import Derived.WalkKit
import Derived.OpenShut
import Derived.ShutString
set_option maxRecDepth 100000
set_option linter.constructorNameAsVariable false
set_option linter.unusedVariables false
set_option linter.unusedSimpArgs false
namespace Go.Proofs.YtfnlcnjflloecaaDoor
open Go Go.ChangeShapes Go.WideShapes Go.ChangeAt Go.RowKit Go.Deep Go.WideElems Go.Maps Go.Joins
theorem bvs_of_all : ∀ (cs : List Value), (∀ v ∈ cs, ∃ b, v = bv b) → ∃ A, cs = bvs A
  | [], _ => ⟨[], rfl⟩
  | v :: r, h => by
    obtain ⟨b, hb⟩ := h v (by simp)
    obtain ⟨A, hA⟩ := bvs_of_all r (fun x hx => h x (by simp [hx]))
    exact ⟨b :: A, by rw [hb, hA]; rfl⟩
section
variable {H : Type} {enc : TypeId × Value → H} {w : World} {base : Nat} {spare : Nat → Bool} {held : Bool}
theorem bytes32 {m : Nat} {cs : List Value} {x : DataW H × List MemPlace} (h : DataW.trod enc Tryd.prog w base spare held m 40 cs = some x) : ∃ A, cs = bvs A ∧ A.length = 32 := by
  obtain ⟨xs, k, _, _, hl, hn, hx⟩ := DataW.trod_array Tryd.underlying40 h
  have e1 : Tryd.prog.cellsOf 40 = 32 := by kernel_rfl
  have e2 : Tryd.prog.cellsOf 5 = 1 := by kernel_rfl
  rw [e1] at hl
  obtain ⟨A, hA⟩ := bvs_of_all cs (fun v hv => by
    obtain ⟨i, hi, e⟩ := List.mem_iff_getElem.1 hv
    have h1 := hx i (by omega)
    rw [e2, Nat.mul_one, List.getElem?_eq_getElem (by omega)] at h1
    obtain ⟨n, h2, _, h3⟩ := DataW.trod_int Tryd.underlying5 h1
    have h4 := wf_u8 h3
    have h5 : (cs.drop i)[0]? = some (Value.int .u8 n) := by
      have := congrArg (fun l : List Value => l[0]?) h2
      simpa using this
    refine ⟨UInt8.ofNat n.toNat, ?_⟩
    rw [List.getElem?_drop, Nat.add_zero, List.getElem?_eq_getElem hi, e] at h5
    obtain rfl := Option.some.inj h5
    unfold bv
    congr 1
    have : (UInt8.ofNat n.toNat).toNat = n.toNat := by simp; omega
    rw [this]; omega)
  exact ⟨A, hA, by rw [hA, bvs_length] at hl; exact hl⟩
theorem open_rec {r : Reach} {b0 : Nat} {v : Value} {d : DataW H} {p : List MemPlace} (hv : Value.okWide Tryd.prog w r b0 42 v) (h : DataW.Trod enc Tryd.prog w base (fun _ => true) held 42 v d p) :
    ∃ (u : List UInt8) (vs : Value) (s : List UInt8) (n : Int) (A B : List UInt8), v = .agg (recC u vs n A B).toArray ∧ u.length ≤ 9223372036854775807 ∧ Rd w vs s ∧ vs.oneCell' = true ∧ (-9223372036854775808 ≤ n ∧ n ≤ 9223372036854775807) ∧ A.length = 32 ∧ B.length = 32 := by
  obtain ⟨cs, rfl, hsz⟩ := okWide_struct Tryd.underlying42 hv
  have e0 : Tryd.prog.cellsOf 42 = 67 := by kernel_rfl
  have e1 : Tryd.prog.cellsOf 40 = 32 := by kernel_rfl
  have e2 : Tryd.prog.cellsOf 9 = 1 := by kernel_rfl
  have e3 : Tryd.prog.cellsOf 37 = 1 := by kernel_rfl
  have e4 : Tryd.prog.cellsOf 3 = 1 := by kernel_rfl
  obtain ⟨fuel, hf⟩ := h
  obtain ⟨xs, n, _, _, hl, hlen, hx⟩ := DataW.trod_struct Tryd.underlying42 hf
  rw [e0] at hsz
  obtain ⟨cs⟩ := cs
  match xs, hlen with
  | [y0, y1, y2, y3, y4], _ =>
    have f0 : DataW.trod enc Tryd.prog w base (fun _ => true) held n 9 ((cs.drop 0).take (Tryd.prog.cellsOf 9)) = some y0 := hx 0 _ rfl
    rw [e2] at f0
    have f1 : DataW.trod enc Tryd.prog w base (fun _ => true) held n 37 ((cs.drop 1).take (Tryd.prog.cellsOf 37)) = some y1 := hx 1 _ rfl
    rw [e3] at f1
    have f2 : DataW.trod enc Tryd.prog w base (fun _ => true) held n 3 ((cs.drop 2).take (Tryd.prog.cellsOf 3)) = some y2 := hx 2 _ rfl
    rw [e4] at f2
    have f3 : DataW.trod enc Tryd.prog w base (fun _ => true) held n 40 ((cs.drop 3).take (Tryd.prog.cellsOf 40)) = some y3 := hx 3 _ rfl
    rw [e1] at f3
    have f4 : DataW.trod enc Tryd.prog w base (fun _ => true) held n 40 ((cs.drop 35).take (Tryd.prog.cellsOf 40)) = some y4 := hx 4 _ rfl
    rw [e1] at f4
    clear hx
    match cs, hsz with
    | c0 :: c1 :: c2 :: ct, hsz =>
      simp at hsz
      replace f0 : DataW.trod enc Tryd.prog w base (fun _ => true) held n 9 [c0] = some y0 := by simpa using f0
      replace f1 : DataW.trod enc Tryd.prog w base (fun _ => true) held n 37 [c1] = some y1 := by simpa using f1
      replace f2 : DataW.trod enc Tryd.prog w base (fun _ => true) held n 3 [c2] = some y2 := by simpa using f2
      replace f3 : DataW.trod enc Tryd.prog w base (fun _ => true) held n 40 (ct.take 32) = some y3 := by simpa using f3
      replace f4 : DataW.trod enc Tryd.prog w base (fun _ => true) held n 40 ((ct.drop 32).take 32) = some y4 := by simpa using f4
      obtain ⟨s0, hs0, _, hb0⟩ := DataW.trod_string Tryd.underlying9 f0
      obtain rfl : c0 = Value.string s0 := by simpa using hs0
      obtain ⟨A2, n2, cp2, zz2, rfl, ww2⟩ : ∃ A n c zs, c1 = Value.slice A n c ∧ IsRow .u8 w A n c zs := by
        rcases open_ints Tryd.underlying37 Tryd.underlying5 (by kernel_rfl) f1 with ⟨hcs, _⟩ | ⟨x, l, c, zs, hcs, _, hl, hm, hz, _, hcell, hwz⟩
        · simp at hcs
          exact ⟨none, 0, 0, [], hcs, .inl ⟨rfl, rfl, rfl, rfl⟩⟩
        · simp at hcs
          exact ⟨some x, l, c, zs, hcs, .inr ⟨_, rfl, hl, hm, by simpa using hz, hcell, hwz⟩⟩
      obtain ⟨l2, g2, _⟩ := rd_of_row ww2
      obtain ⟨m3, hs3, _, hb3⟩ := DataW.trod_int Tryd.underlying3 f2
      obtain rfl : c2 = Value.int .i64 m3 := by simpa using hs3
      obtain ⟨A, hA, hA2⟩ := bytes32 f3
      obtain ⟨B, hB, hB2⟩ := bytes32 f4
      have hct : ct = bvs A ++ bvs B := by
        rw [← hA, ← hB, List.take_of_length_le (l := ct.drop 32) (by simp; omega), List.take_append_drop]
      refine ⟨s0.data.toList, _, l2, m3, A, B, ?_, ?_, g2, rfl, wf_i64 hb3, hA2, hB2⟩
      · rw [hct]; rfl
      · unfold maxLen at hb0; simpa using hb0
end
end Go.Proofs.YtfnlcnjflloecaaDoor
