/- What put makes, in the words of JT.pat. -/
import Derived.Test.YtbfmdpgghknccaaDoorRefPut
import Derived.Test.YtbfmdpgghknccaaDoorRefIndex
namespace Go.Proofs.YtbfmdpgghknccaaDoor
set_option linter.unusedVariables false
set_option linter.unusedSimpArgs false

theorem set_take {α : Type} (l : List α) (k : Nat) (x : α) (h : k < l.length) : l.take k ++ [x] ++ l.drop (k + 1) = l.set k x := by
  rw [List.set_eq_take_append_cons_drop, if_pos h, List.append_assoc]; rfl
theorem same_take {α : Type} (l : List α) (k : Nat) (x : α) (h : l[k]? = some x) : l.take k ++ [x] ++ l.drop (k + 1) = l := by
  obtain ⟨hk, h⟩ := List.getElem?_eq_some_iff.1 h
  rw [set_take l k x hk, ← h, List.set_getElem_self]
theorem JT.top_of {t : JT} (h : t.formed = true) : t.top = true := ((JT.formed_iff _).1 h).1
theorem JT.map_len {t : JT} (h : t.formed = true) (h5 : t.val.k = 5) : t.keys.length = t.kids.length := by
  have := JT.top_of h
  unfold JT.top at this
  rw [if_pos h5] at this
  simp only [Bool.and_eq_true, beq_iff_eq] at this
  exact this.2.1
theorem JT.no_keys {t : JT} (h : t.formed = true) (h5 : ¬ t.val.k = 5) : t.keys = [] := by
  have := JT.top_of h
  unfold JT.top at this
  rw [if_neg h5] at this
  split at this <;> simp at this <;> first | exact this.2 | exact this.2.1
/-- In place. -/
theorem JT.putT_set {t : JT} (h : t.formed = true) {k : Nat} (x : JT) (key : ByteArray) (hk : k < t.kids.length) (hy : t.val.k = 5 → t.keys[k]? = some key) : t.putT k x false false key = t.setKid k x := by
  unfold JT.putT JT.setKid
  simp only [Bool.false_eq_true, if_false]
  rw [set_take _ _ _ hk]
  split
  · rename_i h5; rw [same_take _ _ _ (hy h5)]
  · rename_i h5; rw [JT.no_keys h h5]
theorem JT.putT_ins_map {t : JT} {k : Nat} (x : JT) (key : ByteArray) (h5 : t.val.k = 5) : t.putT k x true false key = .node t.val (insAt t.keys k key) (insAt t.kids k x) := by
  unfold JT.putT insAt
  simp [h5]
theorem JT.putT_ins {t : JT} (h : t.formed = true) {k : Nat} (x : JT) (key : ByteArray) (h5 : ¬ t.val.k = 5) : t.putT k x true false key = .node t.val t.keys (insAt t.kids k x) := by
  unfold JT.putT insAt
  rw [JT.no_keys h h5]
  simp [h5]
theorem JT.putT_del_map {t : JT} {k : Nat} (x : JT) (key : ByteArray) (h5 : t.val.k = 5) : t.putT k x false true key = .node t.val (delAt t.keys k) (delAt t.kids k) := by
  unfold JT.putT delAt
  simp [h5]
theorem JT.putT_del {t : JT} (h : t.formed = true) {k : Nat} (x : JT) (key : ByteArray) (h5 : ¬ t.val.k = 5) : t.putT k x false true key = .node t.val t.keys (delAt t.kids k) := by
  unfold JT.putT delAt
  rw [JT.no_keys h h5]
  simp [h5]
end Go.Proofs.YtbfmdpgghknccaaDoor
