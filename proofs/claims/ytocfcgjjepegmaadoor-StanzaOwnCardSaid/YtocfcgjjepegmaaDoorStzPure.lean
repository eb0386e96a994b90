/- What layer 4 computes: which parts a kind has, Check, Write and Read, on plain data. -/
import Derived.Test.YtocfcgjjepegmaaDoorOctBackP
import Derived.Test.YtocfcgjjepegmaaDoorOct8a
import Derived.Test.YtocfcgjjepegmaaDoorOct4
set_option linter.unusedVariables false
set_option linter.unusedSimpArgs false
namespace Go.Proofs.YtocfcgjjepegmaaDoor
open Go.RowKit
structure Stz where
  kind : Int
  id : Nat
  a : List UInt8
  b : List UInt8
  t : List UInt8
  l : List (List UInt8)
  n : Int
  f : Nat
def zS : Stz := ⟨0, 0, [], [], [], [], 0, 0⟩
def partsT : List Int := [-1, 1, 4, 4, 33, 0, 21, 4, 16, 11, 1, 1, 1, 1, 1, 9, 1, 1, 1, 32, -1, -1, -1, -1, -1, -1, -1, -1, -1, -1, -1, 8, 4, 4, 16, 16, 16, 31, 17, 16, 31, 7, 1, 1, 1, 1, 16]
/-- Which parts a kind has, as a sum of bits; -1: there is no such kind. -/
def partsI (k : Int) : Int := if 0 ≤ k ∧ k < 47 then partsT.getD k.toNat (-1) else -1
theorem partsI_cases (k : Int) : partsI k = -1 ∨ (0 ≤ partsI k ∧ partsI k < 64 ∧ 0 ≤ k ∧ k < 47) := by
  unfold partsI
  by_cases h : 0 ≤ k ∧ k < 47
  · rw [if_pos h]
    have H : ∀ x : Fin 47, partsT.getD x.val (-1) = -1 ∨ (0 ≤ partsT.getD x.val (-1) ∧ partsT.getD x.val (-1) < 64) := by decide
    have := H ⟨k.toNat, by omega⟩
    simp only at this
    rcases this with h1 | h1
    · exact .inl h1
    · exact .inr ⟨h1.1, h1.2, h.1, h.2⟩
  · rw [if_neg h]; exact .inl rfl
def onB (b : Bool) (m : Nat) : Nat := if b then m else 0
/-- Which parts are there, as a sum of bits. -/
def thereI (s : Stz) : Nat := onB (!s.a.isEmpty) 1 + onB (!s.b.isEmpty) 2 + onB (!s.t.isEmpty) 4 + onB (!s.l.isEmpty) 8 + onB (s.n != 0) 16 + onB (s.f != 0) 32
theorem thereI_lt (s : Stz) : thereI s < 64 := by
  unfold thereI onB
  repeat' split
  all_goals omega
/-- Does n hold a bit that p has not? -/
def outB (n p : Nat) : Bool := (n &&& (255 - p)) != 0
def textE (s : List UInt8) : Int := if 1024 < s.length then 5 else if Lib.validD s = true then 0 else 4
def firstE : List (List UInt8) → Int
  | [] => 0
  | s :: r => if textE s = 0 then firstE r else textE s
def checkI (s : Stz) : Int :=
  if partsI s.kind < 0 then 3
  else if outB (thereI s) (partsI s.kind).toNat = true then 2
  else if firstE [s.a, s.b, s.t] ≠ 0 then firstE [s.a, s.b, s.t]
  else if 64 < s.l.length then 5
  else firstE s.l
def txtF (s : List UInt8) : List UInt8 := formU s.length ++ s
def txtsF : List (List UInt8) → List UInt8
  | [] => []
  | s :: r => txtF s ++ txtsF r
def pT (s : List UInt8) : List UInt8 := if s = [] then [] else txtF s
def pL (l : List (List UInt8)) : List UInt8 := if l = [] then [] else formU l.length ++ txtsF l
def pN (n : Int) : List UInt8 := if n = 0 then [] else formU (zig n)
def pF (f : Nat) : List UInt8 := if f = 0 then [] else beBs (bitsI f) 8
def writeL (s : Stz) : List UInt8 :=
  formU s.kind.toNat ++ (formU s.id ++ (UInt8.ofNat (thereI s) :: (pT s.a ++ (pT s.b ++ (pT s.t ++ (pL s.l ++ (pN s.n ++ pF s.f)))))))
/-- So many texts, read one behind the other. -/
def textsI : Nat → List (List UInt8) → List UInt8 → List (List UInt8) × List UInt8 × Int
  | 0, acc, b => (acc, b, 0)
  | k + 1, acc, b => if (textI b 1024).2.2 = 0 then textsI k (acc ++ [(textI b 1024).1]) (textI b 1024).2.1 else ([], [], (textI b 1024).2.2)
def listI (b : List UInt8) : List (List UInt8) × List UInt8 × Int :=
  if (uintI b).2.2 = 0 then
    if 64 < (uintI b).1 then ([], [], 5) else if (uintI b).1 = 0 then ([], [], 2) else textsI (uintI b).1 [] (uintI b).2.1
  else ([], [], (uintI b).2.2)
/-- A text that is a part. -/
def partI (b : List UInt8) : List UInt8 × List UInt8 × Int :=
  if (textI b 1024).2.2 = 0 then if (textI b 1024).1 = [] then ([], [], 2) else textI b 1024 else ([], [], (textI b 1024).2.2)
def numbI (b : List UInt8) : Int × List UInt8 × Int := if (intI b).2.2 = 0 then if (intI b).1 = 0 then (0, [], 2) else intI b else (0, [], (intI b).2.2)
def floaI (b : List UInt8) : Nat × List UInt8 × Int := if (floatI b).2.2 = 0 then if (floatI b).1 = 0 then (0, [], 2) else floatI b else (0, [], (floatI b).2.2)
/-- What is read so far: the stanza, the rest, the error's number. -/
abbrev RS := Stz × List UInt8 × Int
def stepI (k : Nat) (s : Stz) (b : List UInt8) : RS :=
  match k with
  | 0 => ({ s with a := (partI b).1 }, (partI b).2.1, (partI b).2.2)
  | 1 => ({ s with b := (partI b).1 }, (partI b).2.1, (partI b).2.2)
  | 2 => ({ s with t := (partI b).1 }, (partI b).2.1, (partI b).2.2)
  | 3 => ({ s with l := (listI b).1 }, (listI b).2.1, (listI b).2.2)
  | 4 => ({ s with n := (numbI b).1 }, (numbI b).2.1, (numbI b).2.2)
  | _ => ({ s with f := (floaI b).1 }, (floaI b).2.1, (floaI b).2.2)
def bindI (n k : Nat) (r : RS) : RS := if r.2.2 = 0 then if n / 2 ^ k % 2 = 1 then stepI k r.1 r.2.1 else r else r
def stepsI (n : Nat) : Nat → RS → RS
  | 0, r => r
  | k + 1, r => bindI n k (stepsI n k r)
def bodyI (s : Stz) (c : UInt8) (b : List UInt8) : Stz × Int :=
  if outB c.toNat (partsI s.kind).toNat = true then (zS, 2)
  else if (stepsI c.toNat 6 (s, b, 0)).2.2 = 0 then if (stepsI c.toNat 6 (s, b, 0)).2.1 = [] then ((stepsI c.toNat 6 (s, b, 0)).1, 0) else (zS, 2)
  else (zS, (stepsI c.toNat 6 (s, b, 0)).2.2)
def readI (l : List UInt8) : Stz × Int :=
  if (uintI l).2.2 = 0 then
    if 2147483648 ≤ (uintI l).1 ∨ partsI (uintI l).1 < 0 then (zS, 3)
    else if (uintI (uintI l).2.1).2.2 = 0 then
      match (uintI (uintI l).2.1).2.1 with
      | [] => (zS, 2)
      | c :: r => bodyI { zS with kind := (uintI l).1, id := (uintI (uintI l).2.1).1 } c r
    else (zS, (uintI (uintI l).2.1).2.2)
  else (zS, (uintI l).2.2)
end Go.Proofs.YtocfcgjjepegmaaDoor
