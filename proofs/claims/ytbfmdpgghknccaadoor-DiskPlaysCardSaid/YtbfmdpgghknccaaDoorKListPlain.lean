/- A sort by insertion, in plain words; a list of names is the keys of a map, sorted. No program. -/
import Derived.Test.YtbfmdpgghknccaaDoorKPlain
import Derived.Sort.KeysCollected
namespace Go.Proofs.YtbfmdpgghknccaaDoor
set_option linter.unusedVariables false
set_option linter.unusedSimpArgs false

def insK (x : List UInt8) (l : List (List UInt8)) : List (List UInt8) := l.takeWhile (fun y => decide (y < x)) ++ x :: l.dropWhile (fun y => decide (y < x))
def isortK (l : List (List UInt8)) : List (List UInt8) := l.foldl (fun m x => insK x m) []
theorem isortK_snoc (l : List (List UInt8)) (x : List UInt8) : isortK (l ++ [x]) = insK x (isortK l) := by simp [isortK]
theorem insK_perm (x : List UInt8) (l : List (List UInt8)) : (insK x l).Perm (x :: l) := by
  unfold insK
  refine List.perm_middle.trans (List.Perm.cons _ ?_)
  rw [List.takeWhile_append_dropWhile]
theorem isortK_perm (l : List (List UInt8)) : (isortK l).Perm l := by
  have h : ∀ (l m : List (List UInt8)), (l.foldl (fun m x => insK x m) m).Perm (m ++ l) := by
    intro l
    induction l with
    | nil => intro m; simp
    | cons x l ih =>
      intro m
      rw [List.foldl_cons]
      refine (ih _).trans (((insK_perm x m).append_right l).trans ?_)
      show (x :: m ++ l).Perm (m ++ x :: l)
      exact List.perm_middle.symm
  exact h l []
theorem isortK_len (l : List (List UInt8)) : (isortK l).length = l.length := (isortK_perm l).length_eq
def leK (x y : List UInt8) : Bool := decide (x ≤ y)
theorem leK_trans (a b c : List UInt8) (h1 : leK a b = true) (h2 : leK b c = true) : leK a c = true := by
  unfold leK at *
  simp only [decide_eq_true_eq] at *
  exact List.le_trans h1 h2
theorem leK_total (a b : List UInt8) : (leK a b || leK b a) = true := by
  unfold leK
  simp only [Bool.or_eq_true, decide_eq_true_eq]
  exact List.le_total a b
theorem insK_sorted (x : List UInt8) (l : List (List UInt8)) (h : l.Pairwise (fun a b => leK a b = true)) : (insK x l).Pairwise (fun a b => leK a b = true) := by
  unfold insK
  induction l with
  | nil => simp
  | cons y l ih =>
    rw [List.pairwise_cons] at h
    by_cases hy : y < x
    · rw [List.takeWhile_cons_of_pos (by simpa using hy), List.dropWhile_cons_of_pos (by simpa using hy), List.cons_append, List.pairwise_cons]
      refine ⟨fun z hz => ?_, ih h.2⟩
      have hm : z ∈ x :: l := ((insK_perm x l).mem_iff).1 hz
      rcases List.mem_cons.1 hm with e | hm
      · subst e; unfold leK; simp only [decide_eq_true_eq]; exact List.le_of_lt hy
      · exact h.1 z hm
    · rw [List.takeWhile_cons_of_neg (by simpa using hy), List.dropWhile_cons_of_neg (by simpa using hy), List.nil_append, List.pairwise_cons]
      have hxy : leK x y = true := by unfold leK; simp only [decide_eq_true_eq]; exact List.not_lt.1 hy
      refine ⟨fun z hz => ?_, List.pairwise_cons.2 h⟩
      rcases List.mem_cons.1 hz with e | hz
      · subst e; exact hxy
      · exact leK_trans _ _ _ hxy (h.1 z hz)
theorem isortK_sorted (l : List (List UInt8)) : (isortK l).Pairwise (fun a b => leK a b = true) := by
  have h : ∀ (l m : List (List UInt8)), m.Pairwise (fun a b => leK a b = true) → (l.foldl (fun m x => insK x m) m).Pairwise (fun a b => leK a b = true) := by
    intro l
    induction l with
    | nil => intro m hm; exact hm
    | cons x l ih => intro m hm; exact ih _ (insK_sorted x m hm)
  exact h l [] List.Pairwise.nil
theorem isortK_eq (l m : List (List UInt8)) (h : l.Perm m) : isortK l = m.mergeSort (fun x y => decide (x ≤ y)) := by
  have h1 : (isortK l).mergeSort (fun x y => decide (x ≤ y)) = isortK l := List.mergeSort_of_pairwise (isortK_sorted l)
  rw [← h1]
  exact mergeSort_of_perm ((isortK_perm l).trans h)
end Go.Proofs.YtbfmdpgghknccaaDoor
