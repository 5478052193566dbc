/- Cells stored one behind the other; clear; the row behind a Delete of one element. -/
import Derived.Test.YtdenaejhfgmihaaRow
import Derived.Deep.RegionLaw
import Derived.Lib.SliceRun
import Derived.Lib.Hide
import Derived.Outline
namespace Go.Proofs.Ytdenaejhfgmihaa
open Go.RowKit
set_option linter.unusedVariables false
set_option linter.unusedSimpArgs false

def setL (cs : Array Value) : Nat → List Value → Array Value
  | _, [] => cs
  | o, v :: vs => setL (cs.setIfInBounds o v) (o + 1) vs
theorem setL_size : ∀ (vs : List Value) (cs : Array Value) (o : Nat), (setL cs o vs).size = cs.size
  | [], _, _ => rfl
  | v :: vs, cs, o => by rw [setL, setL_size vs]; simp
theorem setL_get : ∀ (vs : List Value) (cs : Array Value) (o k : Nat), o + vs.length ≤ cs.size → (setL cs o vs)[k]? = if o ≤ k ∧ k < o + vs.length then vs[k - o]? else cs[k]?
  | [], cs, o, k, _ => by rw [setL, if_neg (by rintro ⟨h1, h2⟩; simp at h2; omega)]
  | v :: vs, cs, o, k, h => by
    simp only [List.length_cons] at h
    rw [setL, setL_get vs _ _ _ (by simp; omega)]
    simp only [List.length_cons]
    by_cases h1 : o + 1 ≤ k ∧ k < o + 1 + vs.length
    · rw [if_pos h1, if_pos (by omega)]
      obtain ⟨j, rfl⟩ : ∃ j, k = o + 1 + j := ⟨k - (o + 1), by omega⟩
      rw [show o + 1 + j - (o + 1) = j by omega, show o + 1 + j - o = j + 1 by omega, List.getElem?_cons_succ]
    · rw [if_neg h1]
      by_cases h2 : k = o
      · subst h2
        rw [if_pos (by omega), Nat.sub_self, List.getElem?_cons_zero, Array.getElem?_setIfInBounds_self_of_lt (by omega)]
      · rw [if_neg (by omega), Array.getElem?_setIfInBounds_ne (by omega)]
theorem Blk.setCells_ {g : Nat} {t : TypeId} : ∀ (vs : List Value) (w : World) (o : Nat) (cs : Array Value), Blk w g t cs → Blk (w.setCells g o vs) g t (setL cs o vs) ∧ Only (· = g) w (w.setCells g o vs)
  | [], w, o, cs, h => ⟨h, Only.refl _ _⟩
  | v :: vs, w, o, cs, h => by
    have h1 := h.set_ o v
    have h2 := Blk.setCells_ vs (w.setCell ⟨g, o, none⟩ v) (o + 1) _ h1
    exact ⟨h2.1, ((Only.refl (· = g) w).setCell (p := ⟨g, o, none⟩) rfl v).trans h2.2⟩

theorem run_clear_one {P : Program} (w : World) (t e ty : TypeId) (z : Value) (ht : P.underlying t = some (.slice e)) (hv : ∀ w, (zeroValue e).run P w = .ok z w) (b o c : Nat) (h1 : ∀ u ∈ z.cells.toList, u.oneCell' = true)
    (hc : ∀ j, j < z.cells.size → (w.cell? ⟨b, o + j, none⟩).isSome = true) (hf : ∀ j, j < z.cells.size → w.frozen? ⟨b, o + j, none⟩ = false) :
    (Builtin.clear_ #[t] ty #[.slice (some ⟨b, o, none⟩) 1 c]).run P w = .ok (.tuple #[]) (w.setCells b o z.cells.toList) := by
  have hzc : (Builtin.zeroCells z.cells 1).toList = z.cells.toList := by
    apply List.ext_getElem
    · simp [Builtin.zeroCells]
    · intro i h1 h2
      simp [Builtin.zeroCells] at h1 h2 ⊢
      rw [Nat.mod_eq_of_lt h2]
      exact getElem!_pos z.cells i h2
  have hst := run_storeCells_cells (P := P) b o z.cells.toList 0 w (by simpa using hc) (by simpa using hf) h1
  simp only [Nat.add_zero] at hst
  simp [Builtin.clear_, run_underlying ht, hv, hzc, hst]

/-- 'clear' where its run is known. -/
theorem wp_clear_run {P : Program} (w : World) {o : Oper} {a : Act} {K : Act → World → Prop} {Q : Exit → Act → World → Prop} (d : Operand) (t : TypeId)
    (ho : o.op = .call { callee := .builtin .clear, args := #[d], argTypes := #[t] }) (v : Value) (hd : a.eval d = v) {v' : Value} {w' : World}
    (hr : (Builtin.clear_ #[t] o.type #[v]).run P w = .ok v' w') (h : K (a.put o.dst v') w') : o.wp P a w K Q := by
  unfold Oper.wp execOp
  simp only [ho, resolve, invoke, builtin, Sem.run_bind, Sem.run_pure, Result.andThen_ok, List.map_toArray, List.map_cons, List.map_nil, hd, hr]
  exact h
theorem wpList_clear_run {P : Program} (w : World) {ops : Array Oper} {rest : List Oper} {o : Oper} {a : Act} {Q : Exit → Act → World → Prop} (hgd : o.guard = none) (d : Operand) (t : TypeId)
    (ho : o.op = .call { callee := .builtin .clear, args := #[d], argTypes := #[t] }) (v : Value) (hd : a.eval d = v) {v' : Value} {w' : World}
    (hr : (Builtin.clear_ #[t] o.type #[v]).run P w = .ok v' w') (h : wpList P ops Q rest (a.put o.dst v') w') : wpList P ops Q (o :: rest) a w :=
  wpList_plain hgd fun _ hK => wp_clear_run w d t ho v hd hr (hK _ _ h)

/-- What the row holds. -/
theorem del_row {cur : Array Value} {xs zs : List Value} {c n i sz : Nat} (hcs : cur.size = c * sz) (htk : cur.toList.take (n * sz) = xs) (hnc : n ≤ c) (hi : i < n) (hz : zs.length = sz) (hsz : 0 < sz) :
    (setL (setL cur (i * sz) (xs.drop ((i + 1) * sz))) ((n - 1) * sz) zs).toList.take ((n - 1) * sz) = xs.take (i * sz) ++ xs.drop ((i + 1) * sz) := by
  have e1 : (i + 1) * sz = i * sz + sz := by rw [Nat.add_mul, Nat.one_mul]
  have e2 : (n - 1) * sz + sz = n * sz := by
    rw [← Nat.succ_mul]
    congr 1
    omega
  have e3 : (i + 1) * sz ≤ n * sz := Nat.mul_le_mul_right _ hi
  have e4 : n * sz ≤ c * sz := Nat.mul_le_mul_right _ hnc
  have hxl : xs.length = n * sz := by rw [← htk, List.length_take, Array.length_toList]; omega
  have hdl : (xs.drop ((i + 1) * sz)).length = n * sz - (i + 1) * sz := by rw [List.length_drop, hxl]
  apply List.ext_getElem?
  intro k
  rw [List.getElem?_take]
  by_cases hk : k < (n - 1) * sz
  · rw [if_pos hk, Array.getElem?_toList, setL_get _ _ _ _ (by rw [setL_size, hz]; omega), if_neg (by omega), setL_get _ _ _ _ (by rw [hdl]; omega), hdl]
    by_cases hk2 : k < i * sz
    · rw [if_neg (by omega), List.getElem?_append_left (by rw [List.length_take]; omega), List.getElem?_take, if_pos hk2, ← htk, List.getElem?_take, if_pos (by omega), Array.getElem?_toList]
    · rw [if_pos (by omega), List.getElem?_append_right (by rw [List.length_take]; omega), List.length_take, Nat.min_eq_left (by omega)]
  · rw [if_neg hk, List.getElem?_eq_none (by rw [List.length_append, List.length_take, hdl]; omega)]
end Go.Proofs.Ytdenaejhfgmihaa
