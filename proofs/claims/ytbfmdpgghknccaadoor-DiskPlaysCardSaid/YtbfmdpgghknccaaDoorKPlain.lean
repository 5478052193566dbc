/- A disk in plain words (bookref3.K), and what is done to it. No program. -/
import Derived.Test.YtbfmdpgghknccaaDoorKit
namespace Go.Proofs.YtbfmdpgghknccaaDoor
set_option linter.unusedVariables false
set_option linter.unusedSimpArgs false

abbrev Nms := List (List UInt8 × Nat)
/-- Files: their bytes, and how many are safe; names, and the safe ones. -/
structure KS where
  files : List (List Int × Nat)
  names : Nms
  safe : Nms
  steps : Nat
  stop : Int
def kFile (l : Nms) (s : List UInt8) : Option Nat := (l.find? (fun x => x.1 == s)).map (·.2)
def without (l : Nms) (s : List UInt8) : Nms := l.filter (fun x => x.1 != s)
def atV : Option Nat → Int
  | none => -1
  | some i => i
def KS.go (k : KS) : Bool := !(decide (0 ≤ k.stop) && decide (k.stop ≤ k.steps))
/-- What is wrong. -/
def KS.fault (k : KS) (kind : Int) (g : Bool) (at_ : Option Nat) (bl : Nat) : Int :=
  if k.go = false then 7
  else if kind ≠ 4 ∧ g = false then 2
  else if kind = 1 ∧ at_ ≠ none then 8
  else if kind ≠ 1 ∧ kind ≠ 4 ∧ at_ = none then 6
  else if kind = 2 ∧ 60000 < (k.files.getD (at_.getD 0) ([], 0)).1.length + bl then 4
  else 0
/-- What a crash keeps. -/
def keptF (n : Int) (f : List Int × Nat) : List Int × Nat := let b := f.1.take (f.2 + min n.toNat (f.1.length - f.2)); (b, b.length)
def KS.crash (k : KS) (n : Int) : KS :=
  let fs := k.safe.map fun x => keptF n (k.files.getD x.2 ([], 0))
  let nm := k.safe.zipIdx.map fun x => (x.1.1, k.files.length + x.2)
  { files := k.files ++ fs, names := nm, safe := nm, steps := 0, stop := -1 }
def KS.step (k : KS) (kind : Int) (s t : List UInt8) (b : List Int) (at_ : Option Nat) : KS :=
  if kind = 1 then { k with steps := k.steps + 1, files := k.files ++ [([], 0)], names := without k.names [] ++ [(s, k.files.length)] }
  else if kind = 2 then { k with steps := k.steps + 1, files := k.files.modify (at_.getD 0) fun f => (f.1 ++ b, f.2) }
  else if kind = 3 then { k with steps := k.steps + 1, files := k.files.modify (at_.getD 0) fun f => (f.1, f.1.length) }
  else if kind = 4 then { k with steps := k.steps + 1, safe := without k.names [] }
  else if kind = 5 then { k with steps := k.steps + 1, names := without (without k.names s) t ++ [(t, at_.getD 0)] }
  else if kind = 6 then { k with steps := k.steps + 1, names := without k.names s }
  else { k with steps := k.steps + 1 }

theorem kFile_without (l : Nms) (s t : List UInt8) : kFile (without l s) t = if t = s then none else kFile l t := by
  unfold kFile without
  induction l with
  | nil => simp
  | cons x l ih =>
    by_cases hx : x.1 = s
    · rw [List.filter_cons_of_neg (by simp [hx]), ih, List.find?_cons]
      by_cases ht : t = s
      · simp [ht]
      · have : (x.1 == t) = false := by rw [hx]; simpa using fun e => ht e.symm
        simp [ht, this]
    · rw [List.filter_cons_of_pos (by simp [hx]), List.find?_cons, List.find?_cons]
      by_cases h2 : x.1 = t
      · have : ¬ t = s := fun e => hx (h2.trans e)
        simp [h2, this]
      · have : (x.1 == t) = false := by simpa using h2
        simp only [this]
        exact ih
theorem kFile_snoc (l : Nms) (s t : List UInt8) (i : Nat) (h : kFile l s = none) : kFile (l ++ [(s, i)]) t = if t = s then some i else kFile l t := by
  unfold kFile at h ⊢
  rw [List.find?_append]
  by_cases ht : t = s
  · subst ht
    have h' : l.find? (fun x => x.1 == t) = none := by simpa using h
    rw [h']
    simp
  · have : (s == t) = false := by simpa using fun e => ht e.symm
    cases h2 : l.find? (fun x => x.1 == t) with
    | none => simp [this, ht]
    | some y => simp [ht]
theorem without_fst (l : Nms) (s : List UInt8) (h : (l.map (·.1)).Nodup) : ((without l s).map (·.1)).Nodup := by
  unfold without
  exact (List.filter_sublist.map _).nodup h
theorem without_sub (l : Nms) (s : List UInt8) : ∀ x ∈ without l s, x ∈ l := fun x hx => (List.mem_filter.1 hx).1
theorem without_len (l : Nms) (s : List UInt8) : (without l s).length ≤ l.length := List.length_filter_le _ _
theorem kFile_mem {l : Nms} {s : List UInt8} {i : Nat} (h : kFile l s = some i) : (s, i) ∈ l := by
  unfold kFile at h
  cases h2 : l.find? (fun x => x.1 == s) with
  | none => rw [h2] at h; cases h
  | some y =>
    rw [h2] at h
    injection h with h
    have h3 := List.find?_some h2
    have h4 := List.mem_of_find?_eq_some h2
    have : y = (s, i) := Prod.ext (by simpa using h3) h
    rw [← this]; exact h4
theorem kFile_none {l : Nms} {s : List UInt8} : kFile l s = none ↔ s ∉ l.map (·.1) := by
  unfold kFile
  rw [Option.map_eq_none_iff, List.find?_eq_none]
  constructor
  · intro h hm
    obtain ⟨x, hx, rfl⟩ := List.mem_map.1 hm
    exact h x hx (by simp)
  · intro h x hx e
    exact h (List.mem_map.2 ⟨x, hx, by simpa using e⟩)
theorem kFile_of_mem {l : Nms} (hn : (l.map (·.1)).Nodup) {x : List UInt8 × Nat} (h : x ∈ l) : kFile l x.1 = some x.2 := by
  induction l with
  | nil => cases h
  | cons y l ih =>
    rw [List.map_cons, List.nodup_cons] at hn
    unfold kFile
    rw [List.find?_cons]
    rcases List.mem_cons.1 h with e | h'
    · subst e; simp
    · have : (y.1 == x.1) = false := by
        simp only [beq_eq_false_iff_ne]
        intro e
        exact hn.1 (by rw [e]; exact List.mem_map.2 ⟨x, h', rfl⟩)
      rw [this]
      exact ih hn.2 h'
end Go.Proofs.YtbfmdpgghknccaaDoor
