/- Pieces of slices; trees whose slices have room for what they hold; what put makes. -/
import Derived.Test.YtbfmdpgghknccaaDoorAppend
import Derived.Test.YtbfmdpgghknccaaDoorBare
import Derived.Test.YtbfmdpgghknccaaDoorRefIndex
namespace Go.Proofs.YtbfmdpgghknccaaDoor
open Go.RowKit
set_option linter.unusedVariables false
set_option linter.unusedSimpArgs false

theorem SlAt.take {w : World} {A : Option Addr} {cells : List Value} (h : SlAt w A cells) (m : Nat) : SlAt w A (cells.take m) := by
  rcases h with h | ⟨b, off, hA, hc⟩
  · exact .inl (by rw [h]; simp)
  · refine .inr ⟨b, off, hA, fun j u hu => hc j u ?_⟩
    rw [List.getElem?_take] at hu
    split at hu
    · exact hu
    · cases hu
/-- What a slice from a place on reads as; cc: the capacity, r: the place, in elements of sz cells. -/
theorem SlAt.from_ {w : World} {A : Option Addr} {cells : List Value} (h : SlAt w A cells) (cc r sz n : Nat) (hn : cells.length = n * sz) (hc : n ≤ cc) :
    SlAt w (if cc = r then A else Option.map (fun x => x.add (r * sz)) A) (cells.drop (r * sz)) := by
  by_cases e : cc = r
  · rw [if_pos e, List.drop_eq_nil_of_le (by rw [hn]; exact Nat.mul_le_mul_right _ (by omega))]
    exact .inl rfl
  · rw [if_neg e]
    rcases h with h | ⟨b, off, hA, hc⟩
    · exact .inl (by rw [h]; simp)
    · refine .inr ⟨b, off + r * sz, by rw [hA]; simp [Addr.add_lit], fun j u hu => ?_⟩
      rw [Nat.add_assoc]
      exact hc _ u (by rw [List.getElem?_drop] at hu; exact hu)
theorem cellsL_take (l : List PT) : ∀ k, (PT.cellsL l).take (k * 7) = PT.cellsL (l.take k) := by
  induction l with
  | nil => intro k; simp [PT.cellsL]
  | cons T l ih =>
    intro k
    cases k with
    | zero => simp [PT.cellsL]
    | succ k =>
      have h7 := PT.cells_length T
      show (T.cells ++ PT.cellsL l).take ((k + 1) * 7) = T.cells ++ PT.cellsL (l.take k)
      rw [List.take_append, ← ih k, List.take_of_length_le (by omega), h7, show (k + 1) * 7 - 7 = k * 7 from by omega]
theorem cellsL_drop (l : List PT) : ∀ k, (PT.cellsL l).drop (k * 7) = PT.cellsL (l.drop k) := by
  induction l with
  | nil => intro k; simp [PT.cellsL]
  | cons T l ih =>
    intro k
    cases k with
    | zero => simp [PT.cellsL]
    | succ k =>
      have h7 := PT.cells_length T
      show (T.cells ++ PT.cellsL l).drop ((k + 1) * 7) = PT.cellsL (l.drop k)
      rw [List.drop_append, ← ih k, List.drop_eq_nil_of_le (by omega), h7, show (k + 1) * 7 - 7 = k * 7 from by omega, List.nil_append]
theorem owns_cap {w : World} {base : Nat} {e : TypeId} {size n c : Nat} {A : Option Addr} {xs : List Value} (h : w.ownsRow base e size (.slice A n c) n xs) : n ≤ c := by
  rcases h.2 with ⟨hv, h0⟩ | ⟨g', cap, cur, hv, _, _, hnc, _⟩
  · omega
  · injection hv with _ _ h; omega

mutual
/-- Each slice of the tree has room for what it holds. -/
def PT.Caps : PT → Prop
  | .node _ _ kc ks _ cc l => ks.length ≤ kc ∧ l.length ≤ cc ∧ PT.CapsL l
def PT.CapsL : List PT → Prop
  | [] => True
  | k :: l => PT.Caps k ∧ PT.CapsL l
end
theorem PT.capsL_iff (l : List PT) : PT.CapsL l ↔ ∀ k ∈ l, k.Caps := by
  induction l with
  | nil => simp [PT.CapsL]
  | cons x l ih => simp [PT.CapsL, ih]
theorem PT.caps_iff (T : PT) : T.Caps ↔ T.keys.length ≤ T.kc ∧ T.kids.length ≤ T.cc ∧ ∀ k ∈ T.kids, k.Caps := by
  cases T
  simp only [PT.Caps, PT.capsL_iff, PT.keys, PT.kids, PT.kc, PT.cc]
end Go.Proofs.YtbfmdpgghknccaaDoor
