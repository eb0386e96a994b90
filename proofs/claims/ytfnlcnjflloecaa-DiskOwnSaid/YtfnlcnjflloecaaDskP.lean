/- The plain law of layer 10: files, the power, what is safe. -/
set_option linter.unusedVariables false
set_option linter.unusedSimpArgs false
namespace Go.Proofs.Ytfnlcnjflloecaa
/-- A file: its name, its bytes, how many of them are safe. -/
structure FileE where
  name : List UInt8
  b : List UInt8
  safe : Nat
/-- A disk: files, rising by name; its room; the steps done; the power; the fuse. -/
structure Dsk where
  fs : List FileE
  room : Int
  done : Int
  off : Bool
  left : Int
theorem Dsk.eta (D : Dsk) : (⟨D.fs, D.room, D.done, D.off, D.left⟩ : Dsk) = D := rfl
def lookF : List FileE → List UInt8 → Option FileE
  | [], _ => none
  | f :: r, s => if f.name = s then some f else lookF r s
def rightD (s : List UInt8) : Bool := decide (s ≠ []) && decide (s.length ≤ 64) && s.all fun c => decide ((97 ≤ c.toNat ∧ c.toNat ≤ 122) ∨ (48 ≤ c.toNat ∧ c.toNat ≤ 57) ∨ c.toNat = 46 ∨ c.toNat = 45)
def usedF : List FileE → Nat
  | [] => 0
  | f :: r => f.b.length + usedF r
def namesF (fs : List FileE) : List (List UInt8) := fs.map (·.name)
def upF (fs : List FileE) : Prop := fs.Pairwise fun x y => x.name < y.name
/-- A file in its place. -/
def putF : List FileE → FileE → List FileE
  | [], f => [f]
  | g :: r, f => if f.name < g.name then f :: g :: r else g :: putF r f
def dropF (fs : List FileE) (s : List UInt8) : List FileE := fs.filter fun f => f.name != s
def modF (fs : List FileE) (s : List UInt8) (h : FileE → FileE) : List FileE := fs.map fun f => if f.name = s then h f else f
/-- Bytes behind a file that may be new. -/
def addF (fs : List FileE) (s b : List UInt8) : List FileE := modF (match lookF fs s with | some _ => fs | none => putF fs ⟨s, [], 0⟩) s fun f => ⟨f.name, f.b ++ b, f.safe⟩
def powerD (D : Dsk) : Int × Dsk := if D.left = 0 then (13, { D with off := true }) else (0, { D with left := if 0 < D.left then D.left - 1 else D.left, done := D.done + 1 })
def firstD (D : Dsk) (s : List UInt8) (must : Bool) : Int := if D.off = true then 13 else if rightD s = false then 4 else if must = true ∧ lookF D.fs s = none then 7 else 0
def appendD (D : Dsk) (s b : List UInt8) : Int × Dsk :=
  if firstD D s false ≠ 0 then (firstD D s false, D) else if D.room - (usedF D.fs : Int) < (b.length : Int) then (8, D) else powerD { D with fs := addF D.fs s b }
def syncD (D : Dsk) (s : List UInt8) : Int × Dsk :=
  if firstD D s true ≠ 0 then (firstD D s true, D) else if (powerD D).1 ≠ 0 then powerD D else (0, { (powerD D).2 with fs := modF D.fs s fun f => ⟨f.name, f.b, f.b.length⟩ })
def renF (fs : List FileE) (s t : List UInt8) : List FileE := match lookF fs s with | some f => putF (dropF (dropF fs s) t) ⟨t, f.b, f.safe⟩ | none => fs
def renameFirst (D : Dsk) (s t : List UInt8) : Int := if D.off = true then 13 else if rightD s = false ∨ rightD t = false then 4 else if lookF D.fs s = none then 7 else 0
def renameD (D : Dsk) (s t : List UInt8) : Int × Dsk :=
  if renameFirst D s t ≠ 0 then (renameFirst D s t, D) else if (powerD D).1 ≠ 0 then powerD D else if s = t then powerD D else (0, { (powerD D).2 with fs := renF D.fs s t })
def removeD (D : Dsk) (s : List UInt8) : Int × Dsk :=
  if firstD D s true ≠ 0 then (firstD D s true, D) else if (powerD D).1 ≠ 0 then powerD D else (0, { (powerD D).2 with fs := dropF D.fs s })
def cutF (f : FileE) (n : Nat) : FileE := ⟨f.name, f.b.take n, min f.safe n⟩
def cutD (D : Dsk) (s : List UInt8) (n : Int) : Int × Dsk :=
  if firstD D s true ≠ 0 then (firstD D s true, D) else
  match lookF D.fs s with
  | none => (7, D)
  | some f => if n < 0 ∨ (f.b.length : Int) < n then (1, D) else if (powerD D).1 ≠ 0 then powerD D else (0, { (powerD D).2 with fs := modF D.fs s fun f => cutF f n.toNat })
def readD (D : Dsk) (s : List UInt8) : Int × List UInt8 := if firstD D s true ≠ 0 then (firstD D s true, []) else (0, ((lookF D.fs s).map (·.b)).getD [])
def listD (D : Dsk) : Int × List (List UInt8) := if D.off = true then (13, []) else (0, namesF D.fs)
def fuseD (D : Dsk) (n : Int) : Int × Dsk := if n < 0 then (1, D) else if D.off = true then (13, D) else (0, { D with left := n })
def keptN (x : Int) (more : Nat) : Nat := (max x 0).toNat % (more + 1)
def restF : List FileE → List Int → List FileE
  | [], _ => []
  | f :: r, keep =>
    if f.safe < f.b.length then
      ⟨f.name, f.b.take (f.safe + keptN (keep.headD 0) (f.b.length - f.safe)), f.safe + keptN (keep.headD 0) (f.b.length - f.safe)⟩ :: restF r keep.tail
    else ⟨f.name, f.b, f.b.length⟩ :: restF r keep
def restartD (D : Dsk) (keep : List Int) : Dsk := ⟨restF D.fs keep, D.room, D.done, false, -1⟩
def newD (room : Int) : Dsk := ⟨[], room, 0, false, -1⟩
/-- What always holds of a disk. -/
structure DskOk (D : Dsk) : Prop where
  up : upF D.fs
  safe : ∀ f ∈ D.fs, f.safe ≤ f.b.length
  used : (usedF D.fs : Int) ≤ D.room
  room : D.room ≤ 16777216
  left : -1 ≤ D.left ∧ D.left ≤ 9223372036854775807
  done : 0 ≤ D.done

/-! ### lists of files -/
theorem ne_of_name_lt {s t : List UInt8} (h : s < t) : s ≠ t := fun e => by subst e; exact List.lt_irrefl _ h
theorem lookF_none {fs : List FileE} {s : List UInt8} : lookF fs s = none ↔ ∀ f ∈ fs, f.name ≠ s := by
  induction fs with
  | nil => simp [lookF]
  | cons f r ih =>
    unfold lookF
    by_cases h : f.name = s
    · simp [h]
    · simp [h, ih]
theorem lookF_some {fs : List FileE} {s : List UInt8} {f : FileE} (h : lookF fs s = some f) : f ∈ fs ∧ f.name = s := by
  induction fs with
  | nil => cases h
  | cons g r ih =>
    unfold lookF at h
    by_cases hg : g.name = s
    · rw [if_pos hg] at h; cases h; exact ⟨List.mem_cons_self, hg⟩
    · rw [if_neg hg] at h; exact ⟨List.mem_cons_of_mem _ (ih h).1, (ih h).2⟩
theorem lookF_mem {fs : List FileE} (hu : upF fs) {f : FileE} (h : f ∈ fs) : lookF fs f.name = some f := by
  induction fs with
  | nil => cases h
  | cons g r ih =>
    obtain ⟨h1, h2⟩ := List.pairwise_cons.1 hu
    rcases List.mem_cons.1 h with rfl | h
    · simp [lookF]
    · unfold lookF; rw [if_neg (ne_of_name_lt (h1 f h))]; exact ih h2 h
theorem upF_cons {f : FileE} {r : List FileE} (h : upF (f :: r)) : upF r := (List.pairwise_cons.1 h).2
theorem lookF_mod (fs : List FileE) (s t : List UInt8) (h : FileE → FileE) (hn : ∀ f, (h f).name = f.name) : lookF (modF fs s h) t = if t = s then (lookF fs t).map h else lookF fs t := by
  induction fs with
  | nil => simp [modF, lookF]
  | cons f r ih =>
    have e : modF (f :: r) s h = (if f.name = s then h f else f) :: modF r s h := rfl
    rw [e]
    unfold lookF
    by_cases h1 : f.name = s
    · rw [if_pos h1, hn]
      by_cases h2 : f.name = t
      · rw [if_pos h2, if_pos h2, if_pos (h2.symm.trans h1)]; rfl
      · rw [if_neg h2, if_neg h2, ih]
    · rw [if_neg h1]
      by_cases h2 : f.name = t
      · rw [if_pos h2, if_pos h2, if_neg (fun e => h1 (h2.trans e))]
      · rw [if_neg h2, if_neg h2, ih]
theorem names_mod (fs : List FileE) (s : List UInt8) (h : FileE → FileE) (hn : ∀ f, (h f).name = f.name) : namesF (modF fs s h) = namesF fs := by
  unfold namesF modF
  rw [List.map_map]
  refine List.map_congr_left fun f _ => ?_
  simp only [Function.comp]
  split <;> simp [hn]
theorem upF_names {fs : List FileE} : upF fs ↔ (namesF fs).Pairwise (· < ·) := by
  unfold upF namesF
  rw [List.pairwise_map]
theorem up_mod {fs : List FileE} (hu : upF fs) (s : List UInt8) (h : FileE → FileE) (hn : ∀ f, (h f).name = f.name) : upF (modF fs s h) := by
  rw [upF_names, names_mod fs s h hn, ← upF_names]; exact hu
theorem mem_put {fs : List FileE} {f g : FileE} : g ∈ putF fs f ↔ g = f ∨ g ∈ fs := by
  induction fs with
  | nil => simp [putF]
  | cons a r ih =>
    unfold putF
    split
    · simp
    · simp only [List.mem_cons, ih]
      constructor
      · rintro (h | h | h)
        · exact .inr (.inl h)
        · exact .inl h
        · exact .inr (.inr h)
      · rintro (h | h | h)
        · exact .inr (.inl h)
        · exact .inl h
        · exact .inr (.inr h)
theorem name_lt_of {s t : List UInt8} (h : ¬ s < t) (hne : s ≠ t) : t < s := by
  rcases List.le_iff_lt_or_eq.1 (List.not_lt.1 h) with h1 | h1
  · exact h1
  · exact absurd h1.symm hne
theorem up_put {fs : List FileE} (hu : upF fs) {f : FileE} (hf : ∀ g ∈ fs, g.name ≠ f.name) : upF (putF fs f) := by
  induction fs with
  | nil => simp [putF, upF]
  | cons g r ih =>
    obtain ⟨h1, h2⟩ := List.pairwise_cons.1 hu
    unfold putF
    by_cases h : f.name < g.name
    · rw [if_pos h]
      refine List.pairwise_cons.2 ⟨fun x hx => ?_, hu⟩
      rcases List.mem_cons.1 hx with rfl | hx
      · exact h
      · exact List.lt_trans h (h1 x hx)
    · rw [if_neg h]
      refine List.pairwise_cons.2 ⟨fun x hx => ?_, ih h2 (fun x hx => hf x (List.mem_cons_of_mem _ hx))⟩
      rcases mem_put.1 hx with rfl | hx
      · exact name_lt_of h (fun e => hf g List.mem_cons_self e.symm)
      · exact h1 x hx
theorem lookF_put {fs : List FileE} (f : FileE) (hf : ∀ g ∈ fs, g.name ≠ f.name) (t : List UInt8) : lookF (putF fs f) t = if t = f.name then some f else lookF fs t := by
  induction fs with
  | nil =>
    unfold putF lookF
    by_cases h : f.name = t
    · rw [if_pos h, if_pos h.symm]
    · rw [if_neg h, if_neg (fun e => h e.symm)]; rfl
  | cons g r ih =>
    unfold putF
    by_cases h : f.name < g.name
    · rw [if_pos h]
      by_cases h2 : t = f.name
      · subst h2; rw [if_pos rfl]; simp [lookF]
      · rw [if_neg h2]; rw [lookF, if_neg (fun e => h2 e.symm)]
    · rw [if_neg h, lookF, lookF, ih (fun x hx => hf x (List.mem_cons_of_mem _ hx))]
      by_cases h2 : g.name = t
      · rw [if_pos h2, if_pos h2, if_neg (fun e => hf g List.mem_cons_self (h2.trans e))]
      · rw [if_neg h2, if_neg h2]
theorem used_put (fs : List FileE) (f : FileE) : usedF (putF fs f) = f.b.length + usedF fs := by
  induction fs with
  | nil => simp [putF, usedF]
  | cons g r ih =>
    unfold putF
    split
    · simp [usedF]
    · simp only [usedF, ih]; omega
theorem len_put (fs : List FileE) (f : FileE) : (putF fs f).length = fs.length + 1 := by
  induction fs with
  | nil => simp [putF]
  | cons g r ih =>
    unfold putF
    split
    · simp
    · simp [ih]
theorem up_drop {fs : List FileE} (hu : upF fs) (s : List UInt8) : upF (dropF fs s) := hu.filter _
theorem lookF_drop (fs : List FileE) (s t : List UInt8) : lookF (dropF fs s) t = if t = s then none else lookF fs t := by
  induction fs with
  | nil => simp [dropF, lookF]
  | cons f r ih =>
    unfold dropF at ih ⊢
    by_cases h : f.name = s
    · rw [List.filter_cons_of_neg (by simp [h]), ih]
      by_cases h2 : t = s
      · rw [if_pos h2, if_pos h2]
      · rw [if_neg h2, if_neg h2, lookF, if_neg (fun e => h2 (e.symm.trans h))]
    · rw [List.filter_cons_of_pos (by simp [h]), lookF, ih, lookF]
      by_cases h2 : f.name = t
      · rw [if_pos h2, if_pos h2, if_neg (fun e => h (h2.trans e))]
      · rw [if_neg h2, if_neg h2]
theorem drop_none {fs : List FileE} {s : List UInt8} (h : lookF fs s = none) : dropF fs s = fs := by
  unfold dropF
  exact List.filter_eq_self.2 fun f hf => by simpa using lookF_none.1 h f hf
theorem used_drop {fs : List FileE} (hu : upF fs) (s : List UInt8) : usedF (dropF fs s) + ((lookF fs s).map (·.b.length)).getD 0 = usedF fs := by
  induction fs with
  | nil => simp [dropF, usedF, lookF]
  | cons f r ih =>
    obtain ⟨h1, h2⟩ := List.pairwise_cons.1 hu
    have ih := ih h2
    unfold dropF at ih ⊢
    by_cases h : f.name = s
    · rw [List.filter_cons_of_neg (by simp [h]), lookF, if_pos h]
      have hn : lookF r s = none := lookF_none.2 fun g hg => by rw [← h]; exact (ne_of_name_lt (h1 g hg)).symm
      rw [hn] at ih
      simp only [Option.map_none, Option.getD_none, Option.map_some, Option.getD_some, usedF] at ih ⊢
      omega
    · rw [List.filter_cons_of_pos (by simp [h]), lookF, if_neg h]
      simp only [usedF]
      omega
theorem used_mod {fs : List FileE} (hu : upF fs) (s : List UInt8) (h : FileE → FileE) :
    usedF (modF fs s h) + ((lookF fs s).map (·.b.length)).getD 0 = usedF fs + ((lookF fs s).map fun f => (h f).b.length).getD 0 := by
  induction fs with
  | nil => simp [modF, usedF, lookF]
  | cons f r ih =>
    obtain ⟨h1, h2⟩ := List.pairwise_cons.1 hu
    have ih := ih h2
    have e : modF (f :: r) s h = (if f.name = s then h f else f) :: modF r s h := rfl
    rw [e]
    by_cases hs : f.name = s
    · rw [if_pos hs, lookF, if_pos hs]
      have hn : lookF r s = none := lookF_none.2 fun g hg => by rw [← hs]; exact (ne_of_name_lt (h1 g hg)).symm
      rw [hn] at ih
      simp only [Option.map_none, Option.getD_none, Option.map_some, Option.getD_some, usedF] at ih ⊢
      omega
    · rw [if_neg hs, lookF, if_neg hs]
      simp only [usedF]
      omega
theorem used_look {fs : List FileE} {s : List UInt8} {f : FileE} (h : lookF fs s = some f) : f.b.length ≤ usedF fs := by
  induction fs with
  | nil => cases h
  | cons g r ih =>
    unfold lookF at h
    simp only [usedF]
    by_cases hg : g.name = s
    · rw [if_pos hg] at h; cases h; omega
    · rw [if_neg hg] at h; have := ih h; omega
theorem mem_mod {fs : List FileE} {s : List UInt8} {h : FileE → FileE} {g : FileE} : g ∈ modF fs s h → (g ∈ fs ∧ g.name ≠ s) ∨ ∃ f ∈ fs, f.name = s ∧ g = h f := by
  unfold modF
  intro hg
  obtain ⟨f, hf, rfl⟩ := List.mem_map.1 hg
  by_cases e : f.name = s
  · rw [if_pos e]; exact .inr ⟨f, hf, e, rfl⟩
  · rw [if_neg e]; exact .inl ⟨hf, e⟩
theorem len_mod (fs : List FileE) (s : List UInt8) (h : FileE → FileE) : (modF fs s h).length = fs.length := by simp [modF]
theorem lookF_add {fs : List FileE} (s b t : List UInt8) : lookF (addF fs s b) t = if t = s then some (match lookF fs s with | some f => ⟨s, f.b ++ b, f.safe⟩ | none => ⟨s, b, 0⟩) else lookF fs t := by
  unfold addF
  rw [lookF_mod _ _ _ (fun f => ⟨f.name, f.b ++ b, f.safe⟩) (fun _ => rfl)]
  by_cases ht : t = s
  · subst ht
    rw [if_pos rfl, if_pos rfl]
    cases hl : lookF fs t with
    | some f => simp only []; rw [hl]; simp [(lookF_some hl).2]
    | none => simp only []; rw [lookF_put _ (lookF_none.1 hl), if_pos rfl]; rfl
  · rw [if_neg ht, if_neg ht]
    cases hl : lookF fs s with
    | some f => rfl
    | none => simp only []; rw [lookF_put _ (lookF_none.1 hl), if_neg ht]
theorem up_add {fs : List FileE} (hu : upF fs) (s b : List UInt8) : upF (addF fs s b) := by
  unfold addF
  refine up_mod ?_ _ (fun f => ⟨f.name, f.b ++ b, f.safe⟩) (fun _ => rfl)
  cases hl : lookF fs s with
  | some f => exact hu
  | none => exact up_put hu (lookF_none.1 hl)
theorem used_add {fs : List FileE} (hu : upF fs) (s b : List UInt8) : usedF (addF fs s b) = usedF fs + b.length := by
  unfold addF
  cases hl : lookF fs s with
  | some f =>
    have := used_mod hu s (fun f => ⟨f.name, f.b ++ b, f.safe⟩)
    simp only [hl, Option.map_some, Option.getD_some, List.length_append] at this
    simp only []
    omega
  | none =>
    have hp := up_put hu (f := ⟨s, [], 0⟩) (lookF_none.1 hl)
    have := used_mod hp s (fun f => ⟨f.name, f.b ++ b, f.safe⟩)
    have h2 := used_put fs ⟨s, [], 0⟩
    rw [lookF_put _ (lookF_none.1 hl), if_pos rfl] at this
    simp only [Option.map_some, Option.getD_some, List.length_append, List.length_nil] at this h2
    simp only []
    omega
theorem len_add (fs : List FileE) (s b : List UInt8) : (addF fs s b).length ≤ fs.length + 1 := by
  unfold addF
  rw [len_mod]
  cases lookF fs s with
  | some f => simp
  | none => simp [len_put]
theorem mem_add {fs : List FileE} {s b : List UInt8} {g : FileE} (h : g ∈ addF fs s b) : (g ∈ fs ∧ g.name ≠ s) ∨ (g.name = s ∧ ((∃ f ∈ fs, f.name = s ∧ g = ⟨s, f.b ++ b, f.safe⟩) ∨ g = ⟨s, b, 0⟩)) := by
  unfold addF at h
  cases hl : lookF fs s with
  | some f0 =>
    rw [hl] at h
    rcases mem_mod h with h | ⟨f, hf, hn, rfl⟩
    · exact .inl h
    · exact .inr ⟨hn, .inl ⟨f, hf, hn, by rw [hn]⟩⟩
  | none =>
    rw [hl] at h
    rcases mem_mod h with ⟨h, hn⟩ | ⟨f, hf, hn, rfl⟩
    · rcases mem_put.1 h with rfl | h
      · exact absurd rfl hn
      · exact .inl ⟨h, hn⟩
    · rcases mem_put.1 hf with rfl | hf
      · exact .inr ⟨rfl, .inr rfl⟩
      · exact absurd hn (lookF_none.1 hl f hf)
theorem names_rest : ∀ (fs : List FileE) (keep : List Int), namesF (restF fs keep) = namesF fs
  | [], _ => rfl
  | f :: r, keep => by
    unfold restF
    split
    · exact congrArg (f.name :: ·) (names_rest r keep.tail)
    · exact congrArg (f.name :: ·) (names_rest r keep)
theorem up_rest {fs : List FileE} (hu : upF fs) (keep : List Int) : upF (restF fs keep) := by
  rw [upF_names, names_rest, ← upF_names]; exact hu
theorem keptN_le (x : Int) (n : Nat) : keptN x n ≤ n := by
  unfold keptN
  have := Nat.mod_lt (max x 0).toNat (show 0 < n + 1 by omega)
  omega
theorem used_rest : ∀ (fs : List FileE) (keep : List Int), usedF (restF fs keep) ≤ usedF fs
  | [], _ => Nat.le_refl _
  | f :: r, keep => by
    unfold restF
    split
    · have h1 := used_rest r keep.tail
      have h2 := keptN_le (keep.headD 0) (f.b.length - f.safe)
      simp only [usedF, List.length_take]; omega
    · have h1 := used_rest r keep
      simp only [usedF]; omega
theorem mem_rest : ∀ {fs : List FileE} {keep : List Int} {g : FileE}, (∀ f ∈ fs, f.safe ≤ f.b.length) → g ∈ restF fs keep → ∃ f ∈ fs, g.name = f.name ∧ f.safe ≤ g.safe ∧ g.safe ≤ f.b.length ∧ g.b = f.b.take g.safe ∧ g.safe = g.b.length
  | [], _, g, _, h => by cases h
  | f :: r, keep, g, hs, h => by
    unfold restF at h
    have h0 := hs f List.mem_cons_self
    split at h
    · have h2 := keptN_le (keep.headD 0) (f.b.length - f.safe)
      rcases List.mem_cons.1 h with rfl | h
      · exact ⟨f, List.mem_cons_self, rfl, by simp only []; omega, by simp only []; omega, rfl, by simp only [List.length_take]; omega⟩
      · obtain ⟨x, hx, h3⟩ := mem_rest (fun x hx => hs x (List.mem_cons_of_mem _ hx)) h
        exact ⟨x, List.mem_cons_of_mem _ hx, h3⟩
    · rcases List.mem_cons.1 h with rfl | h
      · exact ⟨f, List.mem_cons_self, rfl, by simpa using h0, Nat.le_refl _, by simp, rfl⟩
      · obtain ⟨x, hx, h3⟩ := mem_rest (fun x hx => hs x (List.mem_cons_of_mem _ hx)) h
        exact ⟨x, List.mem_cons_of_mem _ hx, h3⟩
/-- What a restart leaves of one file. -/
theorem look_rest {fs : List FileE} (hu : upF fs) (hs : ∀ f ∈ fs, f.safe ≤ f.b.length) (keep : List Int) (s : List UInt8) :
    (lookF fs s = none ∧ lookF (restF fs keep) s = none) ∨ ∃ f g, lookF fs s = some f ∧ lookF (restF fs keep) s = some g ∧ f.safe ≤ g.safe ∧ g.safe ≤ f.b.length ∧ g.b = f.b.take g.safe ∧ g.safe = g.b.length := by
  cases hg : lookF (restF fs keep) s with
  | none =>
    refine .inl ⟨lookF_none.2 fun f hf e => ?_, rfl⟩
    have hm : s ∈ namesF (restF fs keep) := by rw [names_rest, ← e]; exact List.mem_map.2 ⟨f, hf, rfl⟩
    obtain ⟨g, hg1, hg2⟩ := List.mem_map.1 hm
    exact lookF_none.1 hg g hg1 hg2
  | some g =>
    obtain ⟨h1, h2⟩ := lookF_some hg
    obtain ⟨f, hf, e, h3⟩ := mem_rest hs h1
    exact .inr ⟨f, g, by rw [← h2, e]; exact lookF_mem hu hf, rfl, h3⟩
/-! ### what the calls keep -/
theorem DskOk.new {room : Int} (h0 : 0 ≤ room) (h1 : room ≤ 16777216) : DskOk (newD room) := ⟨List.Pairwise.nil, (fun f hf => by cases hf), (by simpa [newD, usedF] using h0), h1, ⟨by simp [newD], by simp [newD]⟩, by simp [newD]⟩
theorem DskOk.power {D : Dsk} (h : DskOk D) : DskOk (powerD D).2 := by
  obtain ⟨h1, h2, h3, h4, h5, h6⟩ := h
  unfold powerD
  split
  · exact ⟨h1, h2, h3, h4, h5, h6⟩
  · refine ⟨h1, h2, h3, h4, ?_, by simp only []; omega⟩
    simp only []
    split <;> omega
theorem DskOk.files {D : Dsk} (h : DskOk D) {fs : List FileE} (hu : upF fs) (hs : ∀ f ∈ fs, f.safe ≤ f.b.length) (hm : (usedF fs : Int) ≤ D.room) : DskOk { D with fs := fs } := ⟨hu, hs, hm, h.room, h.left, h.done⟩
theorem power_fs (D : Dsk) : (powerD D).2.fs = D.fs ∧ (powerD D).2.room = D.room := by
  unfold powerD; split <;> exact ⟨rfl, rfl⟩
theorem power_done (D : Dsk) : (powerD D).2.done ≤ D.done + 1 ∧ D.done ≤ (powerD D).2.done := by
  unfold powerD; split <;> simp only [] <;> omega
theorem DskOk.append {D : Dsk} (h : DskOk D) (s b : List UInt8) : DskOk (appendD D s b).2 := by
  unfold appendD
  split
  · exact h
  split
  · exact h
  refine DskOk.power (h.files (up_add h.up s b) ?_ ?_)
  · intro g hg
    rcases mem_add hg with ⟨h1, _⟩ | ⟨_, ⟨f, h1, _, rfl⟩ | rfl⟩
    · exact h.safe g h1
    · have := h.safe f h1; simp; omega
    · simp
  · rw [used_add h.up]; omega
theorem DskOk.sync {D : Dsk} (h : DskOk D) (s : List UInt8) : DskOk (syncD D s).2 := by
  unfold syncD
  split
  · exact h
  split
  · exact h.power
  have hp := h.power
  have e := power_fs D
  refine hp.files (up_mod h.up s _ (fun _ => rfl)) ?_ ?_
  · intro g hg
    rcases mem_mod hg with ⟨h1, _⟩ | ⟨f, h1, _, rfl⟩
    · exact h.safe g h1
    · exact Nat.le_refl _
  · have := used_mod h.up s (fun f => ⟨f.name, f.b, f.b.length⟩)
    simp only [] at this
    rw [e.2]
    have h3 := h.used
    omega
theorem used_ren {fs : List FileE} (hu : upF fs) (s t : List UInt8) (hst : s ≠ t) : usedF (renF fs s t) ≤ usedF fs := by
  unfold renF
  cases hl : lookF fs s with
  | none => exact Nat.le_refl _
  | some f =>
    simp only []
    rw [used_put]
    have h1 := used_drop hu s
    have h2 := used_drop (up_drop hu s) t
    rw [hl] at h1
    simp only [Option.map_some, Option.getD_some] at h1
    simp only []
    omega
theorem up_ren {fs : List FileE} (hu : upF fs) (s t : List UInt8) : upF (renF fs s t) := by
  unfold renF
  cases hl : lookF fs s with
  | none => exact hu
  | some f =>
    refine up_put (up_drop (up_drop hu s) t) fun g hg => ?_
    have := (List.mem_filter.1 hg).2
    simpa using this
theorem lookF_ren {fs : List FileE} (s t u : List UInt8) {f : FileE} (h : lookF fs s = some f) (hst : s ≠ t) : lookF (renF fs s t) u = if u = t then some ⟨t, f.b, f.safe⟩ else if u = s then none else lookF fs u := by
  unfold renF
  rw [h]
  simp only []
  rw [lookF_put _ (by intro g hg; have := (List.mem_filter.1 hg).2; simpa using this)]
  by_cases h1 : u = t
  · rw [if_pos h1, if_pos h1]
  · rw [if_neg h1, if_neg h1, lookF_drop, if_neg h1, lookF_drop]
theorem DskOk.rename {D : Dsk} (h : DskOk D) (s t : List UInt8) : DskOk (renameD D s t).2 := by
  unfold renameD
  split
  · exact h
  split
  · exact h.power
  split
  · exact h.power
  rename_i hst
  have hp := h.power
  have e := power_fs D
  refine hp.files (up_ren h.up s t) ?_ ?_
  · intro g hg
    unfold renF at hg
    cases hl : lookF D.fs s with
    | none => rw [hl] at hg; exact h.safe g hg
    | some f =>
      rw [hl] at hg
      rcases mem_put.1 hg with rfl | hg
      · exact h.safe f (lookF_some hl).1
      · exact h.safe g (List.mem_filter.1 (List.mem_filter.1 hg).1).1
  · have := used_ren h.up s t hst
    rw [e.2]
    have h3 := h.used
    omega
theorem DskOk.remove {D : Dsk} (h : DskOk D) (s : List UInt8) : DskOk (removeD D s).2 := by
  unfold removeD
  split
  · exact h
  split
  · exact h.power
  have hp := h.power
  have e := power_fs D
  refine hp.files (up_drop h.up s) (fun g hg => h.safe g (List.mem_filter.1 hg).1) ?_
  have := used_drop h.up s
  rw [e.2]
  have h3 := h.used
  omega
theorem DskOk.cut {D : Dsk} (h : DskOk D) (s : List UInt8) (n : Int) : DskOk (cutD D s n).2 := by
  unfold cutD
  split
  · exact h
  split
  · exact h
  rename_i f hl
  split
  · exact h
  split
  · exact h.power
  have hp := h.power
  have e := power_fs D
  refine hp.files (up_mod h.up s _ (fun _ => rfl)) ?_ ?_
  · intro g hg
    rcases mem_mod hg with ⟨h1, _⟩ | ⟨f, h1, _, rfl⟩
    · exact h.safe g h1
    · have := h.safe f h1
      simp only [cutF, List.length_take]; omega
  · have := used_mod h.up s (fun f => cutF f n.toNat)
    rw [hl] at this
    simp only [Option.map_some, Option.getD_some] at this
    have h4 : (cutF f n.toNat).b.length ≤ f.b.length := by simp only [cutF, List.length_take]; omega
    rw [e.2]
    have h3 := h.used
    omega
theorem DskOk.fuse {D : Dsk} (h : DskOk D) (n : Int) (hn : n ≤ 9223372036854775807) : DskOk (fuseD D n).2 := by
  unfold fuseD
  split
  · exact h
  split
  · exact h
  exact ⟨h.up, h.safe, h.used, h.room, ⟨by simp only []; omega, hn⟩, h.done⟩
theorem DskOk.restart {D : Dsk} (h : DskOk D) (keep : List Int) : DskOk (restartD D keep) := by
  refine ⟨up_rest h.up keep, ?_, ?_, h.room, ⟨by simp [restartD], by simp [restartD]⟩, h.done⟩
  · intro g hg
    obtain ⟨f, hf, h1, h2, h3, h4, h5⟩ := mem_rest h.safe hg
    omega
  · have := used_rest D.fs keep
    have h3 := h.used
    show ((usedF (restF D.fs keep) : Nat) : Int) ≤ D.room
    omega
end Go.Proofs.Ytfnlcnjflloecaa
