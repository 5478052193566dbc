/- PatchNode Delete PatchGone PatchIns PatchAny PatLaw ApplyAny: merged by tools/merge.py. -/
import Derived.Test.YtbfmdpgghknccaaDoorPatchEnd
import Derived.Test.YtbfmdpgghknccaaDoorInsert
import Derived.Deep.RegionLaw
import Derived.Lib.SliceRun
import Derived.Lib.Hide
import Derived.Outline
import Derived.Test.YtbfmdpgghknccaaDoorPatchSet
import Derived.Deep.DeepCutAuto
import Derived.Test.YtbfmdpgghknccaaDoorJsonLaw
import Derived.Test.YtbfmdpgghknccaaDoorGetHead
namespace Go.Proofs.YtbfmdpgghknccaaDoor
open Go.RowKit
set_option linter.unusedVariables false
set_option linter.unusedSimpArgs false

theorem node_end {TS TT : TypeId} {W W5 : World} {b0 : Nat} {T X : PT} {q is} {s : St} {b o : Nat} {kind : Int} {x : JT} (hO : OwnedT TS TT W b0 T) (hL : Lead T q is X) (ha : T.addr ⟨b0, 0, none⟩ is = ⟨b, o, none⟩) (hP : AtP W b o X)
    {A' C' : Option Addr} {ac cc : Nat} {keys' : List ByteArray} {kids' : List PT}
    (hk : W5.ownsRow 0 TS 1 (.slice A' keys'.length ac) keys'.length (keys'.map Value.string)) (hc : W5.ownsRow 0 TT 7 (.slice C' kids'.length cc) kids'.length (PT.cellsL kids'))
    (hkeys : ∀ y ∈ keys', y.size ≤ maxLen) (hkids : ∀ y ∈ kids', y ∈ X.kids ∨ ∃ v : JV, v.Fit ∧ y = PT.bare v) (hsubL : (PT.ownL kids').Sublist (PT.ownL X.kids))
    (hA : ∀ r ∈ blkOf A', r ∈ blkOf X.kA ∨ W.heap.size ≤ r) (hC : ∀ r ∈ blkOf C', r ∈ blkOf X.cA ∨ W.heap.size ≤ r) (hAC : ∀ r ∈ blkOf A', r ∉ blkOf C')
    (ho : Only (fun r => r ∈ blkOf X.kA ∨ r ∈ blkOf X.cA ∨ r = b) W W5) {cur cur5 : Array Value} (hB : Blk W b TT cur) (hB5 : Blk W5 b TT cur5) (hcur : cur5 = (cur.setIfInBounds (o + 5) (.slice A' keys'.length ac)).setIfInBounds (o + 6) (.slice C' kids'.length cc))
    (hpat : JT.pat kind x X.tree [s] = some (.node X.val keys' (kids'.map PT.tree))) :
    ∃ T' : PT, OwnedT TS TT W5 b0 T' ∧ (∀ r ∈ T'.own, r ∈ T.own ∨ W.heap.size ≤ r) ∧ JT.pat kind x T.tree (q ++ [s]) = some T'.tree ∧ Only (· ∈ b0 :: T.own) W W5 := by
  have hsX := hL.sub
  obtain ⟨_, hnot, hsub, hXo, hXn, hin⟩ := hO.place hsX ha
  obtain ⟨X', hX'⟩ : ∃ X', PT.node X.val A' ac keys' C' cc kids' = X' := ⟨_, rfl⟩
  have hXeq := PT.own_eq X
  have hXlt := hXo.lt
  have hX'own : X'.own = blkOf A' ++ (blkOf C' ++ PT.ownL kids') := by
    rw [← hX']
    exact PT.own_eq _
  have hkidown : ∀ r ∈ PT.ownL X.kids, r < W.heap.size ∧ r ∉ blkOf X.kA ∧ r ∉ blkOf X.cA ∧ r ≠ b := by
    intro r hr
    have h1 : r ∈ X.own := by rw [hXeq]; exact List.mem_append_right _ (List.mem_append_right _ hr)
    rw [hXeq, List.nodup_append] at hXn
    obtain ⟨_, n2, n3⟩ := hXn
    rw [List.nodup_append] at n2
    refine ⟨hXlt r h1, fun hm => n3 r hm r (List.mem_append_right _ hr) rfl, fun hm => n2.2.2 r hm r hr rfl, fun e => hnot (by rw [← e]; exact h1)⟩
  have hown5 : OwnJ TS TT W5 X' := by
    rw [← hX']
    refine OwnJ.mk_ ⟨hXo.slot.fit, hk, hc, hkeys⟩ ?_
    intro k hkm
    have hkm : k ∈ kids' := hkm
    rcases hkids k hkm with hkm | ⟨v, hv, rfl⟩
    · refine (hXo.kids k hkm).keep fun r hr hlt => ?_
      obtain ⟨_, h2, h3, h4⟩ := hkidown r (PT.ownL_mem hkm hr)
      exact ho.block r hlt (fun h => by rcases h with h | h | h; exact h2 h; exact h3 h; exact h4 h)
    · exact PT.bare_own W5 hv
  have hnd' : X'.own.Nodup := by
    rw [hX'own]
    rw [hXeq] at hXn
    have n1 : (PT.ownL kids').Nodup := hsubL.nodup (List.nodup_append.1 (List.nodup_append.1 hXn).2.1).2.1
    have nA : (blkOf A').Nodup := by cases A' <;> simp [blkOf]
    have nC : (blkOf C').Nodup := by cases C' <;> simp [blkOf]
    refine List.nodup_append.2 ⟨nA, List.nodup_append.2 ⟨nC, n1, ?_⟩, ?_⟩
    · intro a haC r hr e
      obtain ⟨h1, h2, h3, _⟩ := hkidown r (hsubL.subset hr)
      rcases hC a haC with h | h
      · exact h3 (by rw [← e]; exact h)
      · omega
    · intro a haA r hr e
      rcases List.mem_append.1 hr with hr | hr
      · exact hAC a haA (by rw [e]; exact hr)
      · obtain ⟨h1, h2, h3, _⟩ := hkidown r (hsubL.subset hr)
        rcases hA a haA with h | h
        · exact h2 (by rw [← e]; exact h)
        · omega
  have hsub' : ∀ r ∈ X'.own, r ∈ X.own ∨ W.heap.size ≤ r := by
    intro r hr
    rw [hX'own] at hr
    rw [hXeq]
    simp only [List.mem_append] at hr ⊢
    rcases hr with hr | hr | hr
    · rcases hA r hr with h | h
      · exact .inl (.inl h)
      · exact .inr h
    · rcases hC r hr with h | h
      · exact .inl (.inr (.inl h))
      · exact .inr h
    · exact .inl (.inr (.inr (hsubL.subset hr)))
  have hX'c : X'.cells = [.int .i64 X.val.k, .int .i64 X.val.n, .string X.val.s, .int .i64 X.val.o, .int .i64 X.val.p, .slice A' keys'.length ac, .slice C' kids'.length cc] := by
    rw [← hX']
    rfl
  have hsz : o + 7 ≤ cur.size := by
    have := hP 6 (by omega)
    rw [hB.cell] at this
    have h2 : X.cells[6]? = some (.slice X.cA X.kids.length X.cc) := rfl
    rw [h2] at this
    have := (Array.getElem?_eq_some_iff.1 this).1
    omega
  have hT : Turned W W5 ⟨b, o, none⟩ X.own X'.cells := by
    refine ⟨ho.size, fun r hr hne hn => ho.block r hr (fun h => ?_), ⟨cur, cur5, TT, hB, hB5, ?_⟩⟩
    · rcases h with h | h | h
      · exact hn (by rw [hXeq]; exact List.mem_append_left _ h)
      · exact hn (by rw [hXeq]; exact List.mem_append_right _ (List.mem_append_left _ h))
      · exact hne h
    · rw [hX'c, hcur]
      refine ⟨by simp, fun j hj => ?_⟩
      have hcell : ∀ t, t < 7 → cur[o + t]? = X.cells[t]? := fun t ht => by rw [← hB.cell]; exact hP t ht
      simp only [Array.getElem?_setIfInBounds, Array.size_setIfInBounds, List.length_cons, List.length_nil]
      by_cases hc7 : o ≤ j ∧ j < o + 7
      · have : j = o + 0 ∨ j = o + 1 ∨ j = o + 2 ∨ j = o + 3 ∨ j = o + 4 ∨ j = o + 5 ∨ j = o + 6 := by omega
        have g5 : o + 5 < cur.size := by omega
        have g6 : o + 6 < cur.size := by omega
        rcases this with rfl | rfl | rfl | rfl | rfl | rfl | rfl
        · have h0 := hcell 0 (by omega)
          rw [Nat.add_zero] at h0
          rw [if_neg (by omega), if_neg (by omega), if_pos (by omega), h0]; simp [PT.cells, JV.cells]
        · rw [if_neg (by omega), if_neg (by omega), if_pos (by omega), hcell 1 (by omega)]; simp [PT.cells, JV.cells]
        · rw [if_neg (by omega), if_neg (by omega), if_pos (by omega), hcell 2 (by omega)]; simp [PT.cells, JV.cells]
        · rw [if_neg (by omega), if_neg (by omega), if_pos (by omega), hcell 3 (by omega)]; simp [PT.cells, JV.cells]
        · rw [if_neg (by omega), if_neg (by omega), if_pos (by omega), hcell 4 (by omega)]; simp [PT.cells, JV.cells]
        · simp [g5]
        · simp [g6]
      · rw [if_neg (by omega), if_neg (by omega), if_neg (by omega)]
  obtain ⟨r1, r2⟩ := hO.turn hsX ha hT hown5 hnd' hsub'
  refine ⟨_, r1, r2, ?_, ho.mono (fun r _ h => ?_)⟩
  · have hp : JT.pat kind x X.tree [s] = some X'.tree := by
      rw [hpat, ← hX']
      rw [PT.tree_eq (.node X.val A' ac keys' C' cc kids')]
      rfl
    exact (Lead.pat kind x hL).2 _ hp
  · rcases h with h | h | h
    · exact List.mem_cons_of_mem _ (hsub r (by rw [hXeq]; exact List.mem_append_left _ h))
    · exact List.mem_cons_of_mem _ (hsub r (by rw [hXeq]; exact List.mem_append_right _ (List.mem_append_left _ h)))
    · rcases hin with e | e
      · rw [h, e]; exact List.mem_cons_self
      · rw [h]; exact List.mem_cons_of_mem _ e

theorem PT.ownL_del (l : List PT) (i : Nat) : (PT.ownL (delAt l i)).Sublist (PT.ownL l) := by
  have h : ∀ (a b : List PT), a.Sublist b → (PT.ownL a).Sublist (PT.ownL b) := by
    intro a b hab
    induction hab with
    | slnil => exact List.Sublist.refl _
    | cons x _ ih =>
      rw [PT.ownL]
      exact ih.trans (List.sublist_append_right _ _)
    | cons_cons x _ ih =>
      rw [PT.ownL, PT.ownL]
      exact List.Sublist.append (List.Sublist.refl _) ih
  refine h _ _ ?_
  unfold delAt
  conv => rhs; rw [← List.take_append_drop i l]
  refine List.Sublist.append (List.Sublist.refl _) ?_
  rw [← List.drop_drop]
  exact List.drop_sublist _ _
theorem PT.ownL_ins (l : List PT) (i : Nat) (v : JV) : PT.ownL (insAt l i (PT.bare v)) = PT.ownL l := by
  rw [insAt, PT.ownL_append, PT.ownL]
  conv => rhs; rw [← List.take_append_drop i l, PT.ownL_append]
  simp [PT.bare, PT.own, blkOf, PT.ownL]
theorem delAt_mem {α : Type} {l : List α} {i : Nat} {x : α} (h : x ∈ delAt l i) : x ∈ l := by
  unfold delAt at h
  rcases List.mem_append.1 h with h | h
  · exact List.mem_of_mem_take h
  · exact List.mem_of_mem_drop h
theorem delAt_len {α : Type} {l : List α} {i : Nat} (h : i < l.length) : (delAt l i).length = l.length - 1 := by
  unfold delAt
  rw [List.length_append, List.length_take, List.length_drop]
  omega
theorem cellsL_del (l : List PT) (i : Nat) : (PT.cellsL l).take (i * 7) ++ (PT.cellsL l).drop ((i + 1) * 7) = PT.cellsL (delAt l i) := by
  have ht : ∀ (l : List PT) (k : Nat), (PT.cellsL l).take (k * 7) = PT.cellsL (l.take k) := by
    intro l
    induction l with
    | nil => intro k; simp [PT.cellsL]
    | cons T l ih =>
      intro k
      cases k with
      | zero => simp [PT.cellsL]
      | succ k =>
        have h7 := PT.cells_length T
        show (T.cells ++ PT.cellsL l).take ((k + 1) * 7) = T.cells ++ PT.cellsL (l.take k)
        rw [List.take_append, ← ih k, List.take_of_length_le (by omega), h7, show (k + 1) * 7 - 7 = k * 7 from by omega]
  have hd : ∀ (l : List PT) (k : Nat), (PT.cellsL l).drop (k * 7) = PT.cellsL (l.drop k) := by
    intro l
    induction l with
    | nil => intro k; simp [PT.cellsL]
    | cons T l ih =>
      intro k
      cases k with
      | zero => simp [PT.cellsL]
      | succ k =>
        have h7 := PT.cells_length T
        show (T.cells ++ PT.cellsL l).drop ((k + 1) * 7) = PT.cellsL (l.drop k)
        rw [List.drop_append, ← ih k, List.drop_eq_nil_of_le (by omega), h7, show (k + 1) * 7 - 7 = k * 7 from by omega, List.nil_append]
  rw [ht, hd, delAt, PT.cellsL_append]
end Go.Proofs.YtbfmdpgghknccaaDoor
namespace Go.Proofs.YtbfmdpgghknccaaDoor
open Go.RowKit
set_option linter.unusedVariables false
set_option linter.unusedSimpArgs false

def setL (cs : Array Value) : Nat → List Value → Array Value
  | _, [] => cs
  | o, v :: vs => setL (cs.setIfInBounds o v) (o + 1) vs
theorem setL_size : ∀ (vs : List Value) (cs : Array Value) (o : Nat), (setL cs o vs).size = cs.size
  | [], _, _ => rfl
  | v :: vs, cs, o => by rw [setL, setL_size vs]; simp
theorem setL_get : ∀ (vs : List Value) (cs : Array Value) (o k : Nat), o + vs.length ≤ cs.size → (setL cs o vs)[k]? = if o ≤ k ∧ k < o + vs.length then vs[k - o]? else cs[k]?
  | [], cs, o, k, _ => by rw [setL, if_neg (by rintro ⟨h1, h2⟩; simp at h2; omega)]
  | v :: vs, cs, o, k, h => by
    simp only [List.length_cons] at h
    rw [setL, setL_get vs _ _ _ (by simp; omega)]
    simp only [List.length_cons]
    by_cases h1 : o + 1 ≤ k ∧ k < o + 1 + vs.length
    · rw [if_pos h1, if_pos (by omega)]
      obtain ⟨j, rfl⟩ : ∃ j, k = o + 1 + j := ⟨k - (o + 1), by omega⟩
      rw [show o + 1 + j - (o + 1) = j by omega, show o + 1 + j - o = j + 1 by omega, List.getElem?_cons_succ]
    · rw [if_neg h1]
      by_cases h2 : k = o
      · subst h2
        rw [if_pos (by omega), Nat.sub_self, List.getElem?_cons_zero, Array.getElem?_setIfInBounds_self_of_lt (by omega)]
      · rw [if_neg (by omega), Array.getElem?_setIfInBounds_ne (by omega)]
theorem Blk.setCells_ {g : Nat} {t : TypeId} : ∀ (vs : List Value) (w : World) (o : Nat) (cs : Array Value), Blk w g t cs → Blk (w.setCells g o vs) g t (setL cs o vs) ∧ Only (· = g) w (w.setCells g o vs)
  | [], w, o, cs, h => ⟨h, Only.refl _ _⟩
  | v :: vs, w, o, cs, h => by
    have h1 := h.set_ o v
    have h2 := Blk.setCells_ vs (w.setCell ⟨g, o, none⟩ v) (o + 1) _ h1
    exact ⟨h2.1, ((Only.refl (· = g) w).setCell (p := ⟨g, o, none⟩) rfl v).trans h2.2⟩

theorem run_clear_one {P : Program} (w : World) (t e ty : TypeId) (z : Value) (ht : P.underlying t = some (.slice e)) (hv : ∀ w, (zeroValue e).run P w = .ok z w) (b o c : Nat) (h1 : ∀ u ∈ z.cells.toList, u.oneCell' = true)
    (hc : ∀ j, j < z.cells.size → (w.cell? ⟨b, o + j, none⟩).isSome = true) (hf : ∀ j, j < z.cells.size → w.frozen? ⟨b, o + j, none⟩ = false) :
    (Builtin.clear_ #[t] ty #[.slice (some ⟨b, o, none⟩) 1 c]).run P w = .ok (.tuple #[]) (w.setCells b o z.cells.toList) := by
  have hzc : (Builtin.zeroCells z.cells 1).toList = z.cells.toList := by
    apply List.ext_getElem
    · simp [Builtin.zeroCells]
    · intro i h1 h2
      simp [Builtin.zeroCells] at h1 h2 ⊢
      rw [Nat.mod_eq_of_lt h2]
      exact getElem!_pos z.cells i h2
  have hst := run_storeCells_cells (P := P) b o z.cells.toList 0 w (by simpa using hc) (by simpa using hf) h1
  simp only [Nat.add_zero] at hst
  simp [Builtin.clear_, run_underlying ht, hv, hzc, hst]

/-- 'clear' where its run is known. -/
theorem wp_clear_run {P : Program} (w : World) {o : Oper} {a : Act} {K : Act → World → Prop} {Q : Exit → Act → World → Prop} (d : Operand) (t : TypeId)
    (ho : o.op = .call { callee := .builtin .clear, args := #[d], argTypes := #[t] }) (v : Value) (hd : a.eval d = v) {v' : Value} {w' : World}
    (hr : (Builtin.clear_ #[t] o.type #[v]).run P w = .ok v' w') (h : K (a.put o.dst v') w') : o.wp P a w K Q := by
  unfold Oper.wp execOp
  simp only [ho, resolve, invoke, builtin, Sem.run_bind, Sem.run_pure, Result.andThen_ok, List.map_toArray, List.map_cons, List.map_nil, hd, hr]
  exact h
theorem wpList_clear_run {P : Program} (w : World) {ops : Array Oper} {rest : List Oper} {o : Oper} {a : Act} {Q : Exit → Act → World → Prop} (hgd : o.guard = none) (d : Operand) (t : TypeId)
    (ho : o.op = .call { callee := .builtin .clear, args := #[d], argTypes := #[t] }) (v : Value) (hd : a.eval d = v) {v' : Value} {w' : World}
    (hr : (Builtin.clear_ #[t] o.type #[v]).run P w = .ok v' w') (h : wpList P ops Q rest (a.put o.dst v') w') : wpList P ops Q (o :: rest) a w :=
  wpList_plain hgd fun _ hK => wp_clear_run w d t ho v hd hr (hK _ _ h)

def DelQ (E : TypeId) (sz : Nat) (w : World) (A : Option Addr) (n c i : Nat) (xs : List Value) (e : Ending) (w' : World) : Prop :=
  e = .returned (.slice A (n - 1) c) ∧ w'.ownsRow 0 E sz (.slice A (n - 1) c) (n - 1) (xs.take (i * sz) ++ xs.drop ((i + 1) * sz)) ∧ Only (· ∈ blkOf A) w w'

/-- What the row holds. -/
theorem del_row {cur : Array Value} {xs zs : List Value} {c n i sz : Nat} (hcs : cur.size = c * sz) (htk : cur.toList.take (n * sz) = xs) (hnc : n ≤ c) (hi : i < n) (hz : zs.length = sz) (hsz : 0 < sz) :
    (setL (setL cur (i * sz) (xs.drop ((i + 1) * sz))) ((n - 1) * sz) zs).toList.take ((n - 1) * sz) = xs.take (i * sz) ++ xs.drop ((i + 1) * sz) := by
  have e1 : (i + 1) * sz = i * sz + sz := by rw [Nat.add_mul, Nat.one_mul]
  have e2 : (n - 1) * sz + sz = n * sz := by
    rw [← Nat.succ_mul]
    congr 1
    omega
  have e3 : (i + 1) * sz ≤ n * sz := Nat.mul_le_mul_right _ hi
  have e4 : n * sz ≤ c * sz := Nat.mul_le_mul_right _ hnc
  have hxl : xs.length = n * sz := by rw [← htk, List.length_take, Array.length_toList]; omega
  have hdl : (xs.drop ((i + 1) * sz)).length = n * sz - (i + 1) * sz := by rw [List.length_drop, hxl]
  apply List.ext_getElem?
  intro k
  rw [List.getElem?_take]
  by_cases hk : k < (n - 1) * sz
  · rw [if_pos hk, Array.getElem?_toList, setL_get _ _ _ _ (by rw [setL_size, hz]; omega), if_neg (by omega), setL_get _ _ _ _ (by rw [hdl]; omega), hdl]
    by_cases hk2 : k < i * sz
    · rw [if_neg (by omega), List.getElem?_append_left (by rw [List.length_take]; omega), List.getElem?_take, if_pos hk2, ← htk, List.getElem?_take, if_pos (by omega), Array.getElem?_toList]
    · rw [if_pos (by omega), List.getElem?_append_right (by rw [List.length_take]; omega), List.length_take, Nat.min_eq_left (by omega)]
  · rw [if_neg hk, List.getElem?_eq_none (by rw [List.length_append, List.length_take, hdl]; omega)]

set_option maxRecDepth 100000 in
set_option maxHeartbeats 2000000 in
theorem deleteStr_any (A : Option Addr) (n c i : Nat) (xs : List Value) (w : World) (hown : w.ownsRow 0 9 1 (.slice A n c) n xs) (hn : n ≤ 1000) (hi : i < n) (h2 : ∀ u ∈ xs, u.oneCell' = true) :
    Calls Tryd.prog 56 #[.slice A n c, .int .i64 i, .int .i64 ((i : Int) + 1)] w (DelQ 9 1 w A n c i xs) := by
  rcases hown.2 with ⟨hv, h0⟩ | ⟨g, cap, cur, hv, hb0, hg, hnc, hcm, hcs, htk⟩
  · omega
  injection hv with hA _ hc
  subst hA hc
  have hxl : xs.length = n * 1 := hown.1
  obtain ⟨inf, hi1, hz1, hs1, hb1⟩ := info_parts (P := Tryd.prog) (e := 9) infoStr
  have hg' : Blk w g 9 cur := hg
  have hnews : (xs.drop ((i + 1) * 1)).length = (n - (i + 1)) * 1 := by rw [List.length_drop, hxl]; omega
  have hsrcv : ∀ j u, (xs.drop ((i + 1) * 1))[j]? = some u → w.drew.cell? ⟨g, (i + 1) * 1 + j, none⟩ = some u := by
    intro j u hu
    rw [List.getElem?_drop, ← htk, List.getElem?_take] at hu
    split at hu
    · rw [Array.getElem?_toList] at hu
      exact (hg'.cell _).trans hu
    · cases hu
  obtain ⟨n1, hn1⟩ : ∃ n1, n1 = n - 1 := ⟨_, rfl⟩
  obtain ⟨S, hS, hsrc⟩ : ∃ S : Addr, (if c = i + 1 then (some ⟨g, 0, none⟩ : Option Addr) else some ⟨g, (i + 1), none⟩) = some S ∧ Hid (∀ j u, (xs.drop ((i + 1) * 1))[j]? = some u → w.drew.cell? (S.add j) = some u) := by
    by_cases h : c = i + 1
    · refine ⟨⟨g, 0, none⟩, by rw [if_pos h], fun j u hu => ?_⟩
      have h0 : n - (i + 1) = 0 := by omega
      rw [h0, Nat.zero_mul] at hnews
      rw [List.length_eq_zero_iff.1 hnews] at hu
      simp at hu
    · exact ⟨⟨g, (i + 1), none⟩, by rw [if_neg h], fun j u hu => by rw [Addr.add_lit]; have := hsrcv j u hu; simpa only [Nat.mul_one] using this⟩
  obtain ⟨W1, hW1⟩ : ∃ W1, W1 = w.drew.setCells g (0 + i * 1) (xs.drop ((i + 1) * 1)) := ⟨_, rfl⟩
  obtain ⟨hB1, hO1⟩ := Blk.setCells_ (xs.drop ((i + 1) * 1)) w.drew (0 + i * 1) cur hg'
  rw [← hW1] at hB1 hO1
  have s1 := Lib.hid hnews
  have s2 : Hid (∀ u ∈ xs.drop ((i + 1) * 1), u.oneCell' = true) := Lib.hid (fun u hu => h2 u (List.mem_of_mem_drop hu))
  have s3 : Hid (∀ t, t < (xs.drop ((i + 1) * 1)).length → (w.drew.cell? ⟨g, 0 + i * 1 + t, none⟩).isSome = true ∧ w.drew.frozen? ⟨g, 0 + i * 1 + t, none⟩ = false) := Lib.hid (fun t ht => by
    rw [hnews] at ht
    refine ⟨?_, (show Blk w.drew g _ cur from hg').frozen _⟩
    show (w.cell? _).isSome = true
    rw [hg'.cell, Array.getElem?_eq_getElem (by omega)]
    rfl)
  have hzs : (.string ⟨#[]⟩ : Value).cells.size = 1 := by decide
  obtain ⟨W2, hW2⟩ : ∃ W2, W2 = W1.setCells g (n1) (.string ⟨#[]⟩ : Value).cells.toList := ⟨_, rfl⟩
  have hcl : ∀ ty, (Builtin.clear_ #[26] ty #[.slice (some ⟨g, n1, none⟩) 1 (c - n1)]).run Tryd.prog W1 = .ok (.tuple #[]) W2 := fun ty => by
    rw [hW2]
    exact run_clear_one W1 _ _ ty _ Tryd.underlying26 (by intro w; kernel_rfl) g (n1) _ (by decide) (fun j hj => by
      rw [hzs] at hj
      rw [hB1.cell, Array.getElem?_eq_getElem (by rw [setL_size]; omega)]
      rfl) (fun j _ => hB1.frozen _)
  obtain ⟨hB2, hO2⟩ := Blk.setCells_ (.string ⟨#[]⟩ : Value).cells.toList W1 (n1) _ hB1
  have HFIN := Lib.hid (show DelQ 9 1 w (some ⟨g, 0, none⟩) n c i xs (.returned (.slice (some ⟨g, 0, none⟩) (n - 1) c)) W2 from by
    rw [hW2]
    subst hn1
    have hd := del_row (zs := (.string ⟨#[]⟩ : Value).cells.toList) hcs htk hnc hi (by simpa using hzs) (by decide)
    try rw [Nat.mul_one (n - 1)] at hd
    have hone : Only (· ∈ blkOf (some ⟨g, 0, none⟩)) w W1 := ((Only.refl (· = g) w).drew.trans hO1).mono (fun k _ h => by subst h; simp [blkOf])
    refine ⟨rfl, ⟨?_, .inr ⟨g, c, _, rfl, hb0, hB2, by omega, hcm, ?_, ?_⟩⟩, hone.trans (hO2.mono (fun k _ h => by subst h; simp [blkOf]))⟩
    · rw [List.length_append, List.length_take, List.length_drop, hxl]; omega
    · rw [setL_size, setL_size]; exact hcs
    · rw [Nat.zero_add]; simpa only [Nat.mul_one] using hd)
  have hW := Lib.hid hW1
  have hni : (n : Int) ≤ 1000 := by omega
  have hii : (i : Int) + 1 ≤ (n : Int) := by omega
  have HNN := Lib.hid (show i + (n - (i + 1)) = n1 by omega)
  have HN1 := Lib.hid hn1
  have hcn : (c : Int) ≤ 9223372036854775807 := by unfold maxLen at hcm; omega
  have hn1c : n1 < n := by omega
  have hs : ∀ w, (Go.sizeOf 9).run Tryd.prog w = .ok 1 w := by intro w; kernel_rfl
  have he : Tryd.prog.elem 26 = 9 := by simp [Program.elem, Tryd.underlying26]
  have hsl1 : ∀ W, (Instr.slice 26 (.slice (some ⟨g, 0, none⟩) n c) none (some (.int .i64 (i : Int))) none).run Tryd.prog W = .ok (.slice (some ⟨g, 0, none⟩) i c) W := fun W => by
    rw [run_slice_h W 26 _ n c (by rw [he]; exact Tryd.underlying26) .i64 i (by omega) (by omega), he, hs]
    simp [Result.andThen, sliced, Addr.add]
  have hsl2 : ∀ W, (Instr.slice 26 (.slice (some ⟨g, 0, none⟩) n c) (some (.int .i64 ((i : Int) + 1))) none none).run Tryd.prog W = .ok (.slice (some S) (n - (i + 1)) (c - (i + 1))) W := fun W => by
    have ht : ((i : Int) + 1).toNat = i + 1 := by omega
    rw [run_slice_l W 26 _ n c (by rw [he]; exact Tryd.underlying26) .i64 ((i : Int) + 1) (by omega) (by omega), he, hs]
    simp only [Result.andThen, sliced, ht]
    rw [← hS]
    simp [Addr.add_lit]
  have hsl3 : ∀ W, (Instr.slice 26 (.slice (some ⟨g, 0, none⟩) n1 c) (some (.int .i64 (n1 : Int))) (some (.int .i64 (n : Int))) none).run Tryd.prog W = .ok (.slice (some ⟨g, n1, none⟩) 1 (c - n1)) W := fun W => by
    rw [run_slice_lh W 26 _ n1 c (by rw [he]; exact Tryd.underlying26) .i64 .i64 n1 n (by omega) (by omega) (by omega), he, hs]
    simp only [Result.andThen, sliced, Int.toNat_natCast]
    rw [if_neg (by omega), show n - n1 = 1 by omega]
    simp [Addr.add_lit]
  have hne : ((i : Int) == (i : Int) + 1) = false := by
    simp only [beq_eq_false_iff_ne]
    omega
  have HCL := Lib.hid hcl
  clear hcl hW2 hW1 hB1 hO1 hB2 hO2 hg hg' hnews hsrcv hxl htk hcs hown hzs hb0 hS hn1 hs he
  go_enter Tryd.func56, Tryd.ntmps56
  go_wp2_with fail
  go_region_law (refine step_append_room rfl (.tmp 22) (.tmp 25) 26 rfl 9 inf 1 Tryd.underlying26 hi1 hs1 g 0 i c (by simp [Act.eval, Act.put]) S (n - (i + 1)) (c - (i + 1)) (xs.drop ((i + 1) * 1)) (by simp [Act.eval, Act.put]) s1.out hsrc.out s2.out (by omega) s3.out ?_; rw [← hW.out, HNN.out])
  all_goals go_wp2_with (first | ((with_reducible refine wpList_clear_run (o := ⟨none, _, _, _, _, _⟩) _ ?g1 (.tmp 31) 26 ?g2 (.slice (some ⟨g, n1, none⟩) 1 (c - n1)) ?g3 (HCL.out _) ?_); (case g1 => rfl); (case g2 => rfl); (case g3 => rfl)) | fail)
  all_goals
    go_ret
    rw [← HN1.out] at HFIN
    exact HFIN.out

set_option maxRecDepth 100000 in
set_option maxHeartbeats 2000000 in
theorem deleteTree_any (A : Option Addr) (n c i : Nat) (xs : List Value) (w : World) (hown : w.ownsRow 0 29 7 (.slice A n c) n xs) (hn : n ≤ 1000) (hi : i < n) (h2 : ∀ u ∈ xs, u.oneCell' = true) :
    Calls Tryd.prog 55 #[.slice A n c, .int .i64 i, .int .i64 ((i : Int) + 1)] w (DelQ 29 7 w A n c i xs) := by
  rcases hown.2 with ⟨hv, h0⟩ | ⟨g, cap, cur, hv, hb0, hg, hnc, hcm, hcs, htk⟩
  · omega
  injection hv with hA _ hc
  subst hA hc
  have hxl : xs.length = n * 7 := hown.1
  obtain ⟨inf, hi1, hz1, hs1, hb1⟩ := info_parts (P := Tryd.prog) (e := 29) infoTree
  have hg' : Blk w g 29 cur := hg
  have hnews : (xs.drop ((i + 1) * 7)).length = (n - (i + 1)) * 7 := by rw [List.length_drop, hxl]; omega
  have hsrcv : ∀ j u, (xs.drop ((i + 1) * 7))[j]? = some u → w.drew.cell? ⟨g, (i + 1) * 7 + j, none⟩ = some u := by
    intro j u hu
    rw [List.getElem?_drop, ← htk, List.getElem?_take] at hu
    split at hu
    · rw [Array.getElem?_toList] at hu
      exact (hg'.cell _).trans hu
    · cases hu
  obtain ⟨n1, hn1⟩ : ∃ n1, n1 = n - 1 := ⟨_, rfl⟩
  obtain ⟨S, hS, hsrc⟩ : ∃ S : Addr, (if c = i + 1 then (some ⟨g, 0, none⟩ : Option Addr) else some ⟨g, (i + 1) * 7, none⟩) = some S ∧ Hid (∀ j u, (xs.drop ((i + 1) * 7))[j]? = some u → w.drew.cell? (S.add j) = some u) := by
    by_cases h : c = i + 1
    · refine ⟨⟨g, 0, none⟩, by rw [if_pos h], fun j u hu => ?_⟩
      have h0 : n - (i + 1) = 0 := by omega
      rw [h0, Nat.zero_mul] at hnews
      rw [List.length_eq_zero_iff.1 hnews] at hu
      simp at hu
    · exact ⟨⟨g, (i + 1) * 7, none⟩, by rw [if_neg h], fun j u hu => by rw [Addr.add_lit]; have := hsrcv j u hu; simpa only [Nat.mul_one] using this⟩
  obtain ⟨W1, hW1⟩ : ∃ W1, W1 = w.drew.setCells g (0 + i * 7) (xs.drop ((i + 1) * 7)) := ⟨_, rfl⟩
  obtain ⟨hB1, hO1⟩ := Blk.setCells_ (xs.drop ((i + 1) * 7)) w.drew (0 + i * 7) cur hg'
  rw [← hW1] at hB1 hO1
  have s1 := Lib.hid hnews
  have s2 : Hid (∀ u ∈ xs.drop ((i + 1) * 7), u.oneCell' = true) := Lib.hid (fun u hu => h2 u (List.mem_of_mem_drop hu))
  have s3 : Hid (∀ t, t < (xs.drop ((i + 1) * 7)).length → (w.drew.cell? ⟨g, 0 + i * 7 + t, none⟩).isSome = true ∧ w.drew.frozen? ⟨g, 0 + i * 7 + t, none⟩ = false) := Lib.hid (fun t ht => by
    rw [hnews] at ht
    refine ⟨?_, (show Blk w.drew g _ cur from hg').frozen _⟩
    show (w.cell? _).isSome = true
    rw [hg'.cell, Array.getElem?_eq_getElem (by omega)]
    rfl)
  have hzs : (zTree : Value).cells.size = 7 := by decide
  obtain ⟨W2, hW2⟩ : ∃ W2, W2 = W1.setCells g (n1 * 7) (zTree : Value).cells.toList := ⟨_, rfl⟩
  have hcl : ∀ ty, (Builtin.clear_ #[27] ty #[.slice (some ⟨g, n1 * 7, none⟩) 1 (c - n1)]).run Tryd.prog W1 = .ok (.tuple #[]) W2 := fun ty => by
    rw [hW2]
    exact run_clear_one W1 _ _ ty _ Tryd.underlying27 (by intro w; kernel_rfl) g (n1 * 7) _ (by decide) (fun j hj => by
      rw [hzs] at hj
      rw [hB1.cell, Array.getElem?_eq_getElem (by rw [setL_size]; omega)]
      rfl) (fun j _ => hB1.frozen _)
  obtain ⟨hB2, hO2⟩ := Blk.setCells_ (zTree : Value).cells.toList W1 (n1 * 7) _ hB1
  have HFIN := Lib.hid (show DelQ 29 7 w (some ⟨g, 0, none⟩) n c i xs (.returned (.slice (some ⟨g, 0, none⟩) (n - 1) c)) W2 from by
    rw [hW2]
    subst hn1
    have hd := del_row (zs := (zTree : Value).cells.toList) hcs htk hnc hi (by simpa using hzs) (by decide)
    try rw [Nat.mul_one (n - 1)] at hd
    have hone : Only (· ∈ blkOf (some ⟨g, 0, none⟩)) w W1 := ((Only.refl (· = g) w).drew.trans hO1).mono (fun k _ h => by subst h; simp [blkOf])
    refine ⟨rfl, ⟨?_, .inr ⟨g, c, _, rfl, hb0, hB2, by omega, hcm, ?_, ?_⟩⟩, hone.trans (hO2.mono (fun k _ h => by subst h; simp [blkOf]))⟩
    · rw [List.length_append, List.length_take, List.length_drop, hxl]; omega
    · rw [setL_size, setL_size]; exact hcs
    · rw [Nat.zero_add]; simpa only [Nat.mul_one] using hd)
  have hW := Lib.hid hW1
  have hni : (n : Int) ≤ 1000 := by omega
  have hii : (i : Int) + 1 ≤ (n : Int) := by omega
  have HNN := Lib.hid (show i + (n - (i + 1)) = n1 by omega)
  have HN1 := Lib.hid hn1
  have hcn : (c : Int) ≤ 9223372036854775807 := by unfold maxLen at hcm; omega
  have hn1c : n1 < n := by omega
  have hs : ∀ w, (Go.sizeOf 29).run Tryd.prog w = .ok 7 w := by intro w; kernel_rfl
  have he : Tryd.prog.elem 27 = 29 := by simp [Program.elem, Tryd.underlying27]
  have hsl1 : ∀ W, (Instr.slice 27 (.slice (some ⟨g, 0, none⟩) n c) none (some (.int .i64 (i : Int))) none).run Tryd.prog W = .ok (.slice (some ⟨g, 0, none⟩) i c) W := fun W => by
    rw [run_slice_h W 27 _ n c (by rw [he]; exact Tryd.underlying27) .i64 i (by omega) (by omega), he, hs]
    simp [Result.andThen, sliced, Addr.add]
  have hsl2 : ∀ W, (Instr.slice 27 (.slice (some ⟨g, 0, none⟩) n c) (some (.int .i64 ((i : Int) + 1))) none none).run Tryd.prog W = .ok (.slice (some S) (n - (i + 1)) (c - (i + 1))) W := fun W => by
    have ht : ((i : Int) + 1).toNat = i + 1 := by omega
    rw [run_slice_l W 27 _ n c (by rw [he]; exact Tryd.underlying27) .i64 ((i : Int) + 1) (by omega) (by omega), he, hs]
    simp only [Result.andThen, sliced, ht]
    rw [← hS]
    simp [Addr.add_lit]
  have hsl3 : ∀ W, (Instr.slice 27 (.slice (some ⟨g, 0, none⟩) n1 c) (some (.int .i64 (n1 : Int))) (some (.int .i64 (n : Int))) none).run Tryd.prog W = .ok (.slice (some ⟨g, n1 * 7, none⟩) 1 (c - n1)) W := fun W => by
    rw [run_slice_lh W 27 _ n1 c (by rw [he]; exact Tryd.underlying27) .i64 .i64 n1 n (by omega) (by omega) (by omega), he, hs]
    simp only [Result.andThen, sliced, Int.toNat_natCast]
    rw [if_neg (by omega), show n - n1 = 1 by omega]
    simp [Addr.add_lit]
  have hne : ((i : Int) == (i : Int) + 1) = false := by
    simp only [beq_eq_false_iff_ne]
    omega
  have HCL := Lib.hid hcl
  clear hcl hW2 hW1 hB1 hO1 hB2 hO2 hg hg' hnews hsrcv hxl htk hcs hown hzs hb0 hS hn1 hs he
  go_enter Tryd.func55, Tryd.ntmps55
  go_wp2_with fail
  go_region_law (refine step_append_room rfl (.tmp 22) (.tmp 25) 27 rfl 29 inf 7 Tryd.underlying27 hi1 hs1 g 0 i c (by simp [Act.eval, Act.put]) S (n - (i + 1)) (c - (i + 1)) (xs.drop ((i + 1) * 7)) (by simp [Act.eval, Act.put]) s1.out hsrc.out s2.out (by omega) s3.out ?_; rw [← hW.out, HNN.out])
  all_goals go_wp2_with (first | ((with_reducible refine wpList_clear_run (o := ⟨none, _, _, _, _, _⟩) _ ?g1 (.tmp 31) 27 ?g2 (.slice (some ⟨g, n1 * 7, none⟩) 1 (c - n1)) ?g3 (HCL.out _) ?_); (case g1 => rfl); (case g2 => rfl); (case g3 => rfl)) | fail)
  all_goals
    go_ret
    rw [← HN1.out] at HFIN
    exact HFIN.out
end Go.Proofs.YtbfmdpgghknccaaDoor
namespace Go.Proofs.YtbfmdpgghknccaaDoor
open Go.RowKit
set_option linter.unusedVariables false
set_option linter.unusedSimpArgs false

theorem Blk.same_type_ {w : World} {g : Nat} {t t' : TypeId} {cs cs' : Array Value} (h : Blk w g t cs) (h' : Blk w g t' cs') : t = t' := by
  unfold Blk at h h'
  rw [h] at h'
  injection h' with h'
  injection h' with h1 h2 _
theorem Only.trans' {S : Nat → Prop} {a b c : World} (h : Only S a b) (k : Only S b c) : Only S a c := h.trans k
theorem kids_row_ {TS TT : TypeId} {w : World} {X : PT} (h : OwnJ TS TT w X) {r : Nat} (hr : r ∈ blkOf X.cA) : ∃ g cur, g = r ∧ Blk w g TT cur ∧ True := by
  cases hA : X.cA with
  | none => rw [hA] at hr; simp [blkOf] at hr
  | some a =>
    rw [hA] at hr
    have e : r = a.block := by simpa [blkOf] using hr
    rcases h.slot.kids.2 with ⟨hv, _⟩ | ⟨g, cap, cur, hv, _, hg, _⟩
    · injection hv with h1 _ _; rw [hA] at h1; cases h1
    · injection hv with h1 _ _
      rw [hA] at h1
      injection h1 with h1
      subst h1
      exact ⟨g, cur, e.symm, hg, trivial⟩
theorem set_same {cs : Array Value} {i : Nat} {u : Value} {j : Nat} {x : Value} (h : cs[i]? = some u) : (cs.setIfInBounds i u).setIfInBounds j x = cs.setIfInBounds j x := by
  congr 1
  apply Array.ext_getElem?
  intro k
  rw [Array.getElem?_setIfInBounds]
  by_cases h1 : i = k
  · subst h1
    rw [if_pos rfl, if_pos (Array.getElem?_eq_some_iff.1 h).1]
    exact h.symm
  · rw [if_neg h1]
theorem set_swap (cs : Array Value) (i j : Nat) (u x : Value) (h : i ≠ j) : (cs.setIfInBounds j x).setIfInBounds i u = (cs.setIfInBounds i u).setIfInBounds j x := by
  apply Array.ext_getElem?
  intro k
  simp only [Array.getElem?_setIfInBounds, Array.size_setIfInBounds]
  by_cases h1 : i = k
  · subst h1
    have h2 : ¬ j = i := fun e => h e.symm
    simp [h2]
  · by_cases h2 : j = k <;> simp [h1, h2]

set_option maxRecDepth 100000 in
set_option maxHeartbeats 40000000 in
theorem patch_gone (b0 : Nat) (T : PT) (A : Option Addr) (c : Nat) (v : JV) (hv : v.Fit) (p : List St) (w : World) (hO : OwnedT 9 29 w b0 T) (hf : T.tree.formed = true) (hs : T.tree.size ≤ 400) (hA : SlAt w A (stCells p)) (hl : p.length ≤ maxLen) (hcap : p.length ≤ c) (hvf : (JT.leaf v).formed = true) (hpl : p.any longB = false) :
    Calls Tryd.prog 24 #[.pointer (some ⟨b0, 0, none⟩), patchV 2 A p.length c v] w (PatchQ w T b0 (patR 2 v T.tree p)) := by
  have hfm : ∀ w1, Calls Tryd.prog 46 #[(PT.bare v).value] w1 (BoolIs w1 true) := fun w1 => by
    have := form_any _ w1 (PT.bare_in w1 hv) w1 (Below.refl _ _)
    rwa [PT.bare_tree, hvf] at this
  have HF := Lib.hid hfm
  have HA := Lib.hid (fun w1 (h1 : Below w.heap.size w w1) => (show Calls Tryd.prog 49 #[.slice A p.length c, (.func (.func 50) #[] #[])] w1 (BoolIs w1 false) from by rw [← hpl]; exact any_steps A c p w1 (hA.below h1) hl))
  have hml : p.length ≤ 9223372036854775807 := Nat.le_trans hl (by decide)
  have HH := Lib.hid (And.intro hO (And.intro hf (And.intro hs (And.intro hA (And.intro hl (And.intro hvf hpl))))))
  clear hfm hO hf hs hA hl hvf hpl
  unfold patchV
  by_cases hp : p = []
  · subst hp
    have HE := Lib.hid (show patR 2 v T.tree [] = .error 6 from by
      unfold patR
      rw [if_neg (by rw [HH.out.2.2.2.2.2.1]; simp), if_pos rfl])
    go_enter Tryd.func24, Tryd.ntmps24
    go_wp2_with fail
    refine (HF.out _).mono ?_
    rintro e w1 ⟨rfl, hb1⟩
    have hB1 := (Blk.new w _ _).below hb1 (by simp)
    have hb2 : Below w.heap.size w w1 := ((Below.refl _ _).alloc (Nat.le_refl _) _).trans (hb1.mono (by simp))
    have c1 : w1.cell? ⟨w.heap.size, 1, none⟩ = some (.slice A 0 c) := hB1.cell 1
    have HB := Lib.hid (And.intro hb2 hB1)
    clear hB1 hb1 hb2
    go_wp2_with fail
    refine (HA.out _ HB.out.1).mono ?_
    rintro e w2 ⟨rfl, hb2⟩
    have c2 : w2.cell? ⟨w.heap.size, 1, none⟩ = some (.slice A 0 c) := (HB.out.2.below hb2 HB.out.2.lt).cell 1
    have HC := Lib.hid (HB.out.1.trans (hb2.mono HB.out.1.size))
    clear hb2 c1
    go_wp2_with fail
    go_ret
    exact ⟨Only.of_below HC.out, by rw [HE.out]; rfl⟩
  · obtain ⟨q, s, rfl⟩ : ∃ q s, p = q ++ [s] := ⟨_, _, (List.dropLast_concat_getLast hp).symm⟩
    clear hp
    have hql : (q ++ [s]).length = q.length + 1 := by simp
    rw [hql] at HA hml hcap ⊢
    clear hql
    have hcap' : q.length ≤ c := by omega
    go_enter Tryd.func24, Tryd.ntmps24
    go_wp2_with fail
    refine (HF.out _).mono ?_
    rintro e w1 ⟨rfl, hb1⟩
    have hB1 := (Blk.new w _ _).below hb1 (by simp)
    have hb2 : Below w.heap.size w w1 := ((Below.refl _ _).alloc (Nat.le_refl _) _).trans (hb1.mono (by simp))
    have c1 : w1.cell? ⟨w.heap.size, 1, none⟩ = some (.slice A (q.length + 1) c) := hB1.cell 1
    have HB := Lib.hid (And.intro hb2 hB1)
    clear hB1 hb1 hb2
    go_wp2_with fail
    refine (HA.out _ HB.out.1).mono ?_
    rintro e w2 ⟨rfl, hb2⟩
    have hB2 := HB.out.2.below hb2 HB.out.2.lt
    have c2 : w2.cell? ⟨w.heap.size, 1, none⟩ = some (.slice A (q.length + 1) c) := hB2.cell 1
    have HC := Lib.hid (And.intro (HB.out.1.trans (hb2.mono HB.out.1.size)) hB2)
    clear hb2 c1 hB2
    go_wp2_with fail
    have HO2 := Lib.hid (And.intro ((AtP.of_blk HH.out.1.root).below HC.out.1) (And.intro (HH.out.1.own.inJ.below HC.out.1) (HH.out.2.2.2.1.below HC.out.1)))
    refine (find_any T b0 A c q w2 HO2.out.1 HO2.out.2.1 HH.out.2.1 HH.out.2.2.1 (by have := HO2.out.2.2.stTake q.length; rwa [List.take_left] at this) (by have := HH.out.2.2.2.2.1; simp at this; omega)).mono ?_
    rintro e w3 ⟨hb3, hr⟩
    have hB3 := HC.out.2.below hb3 HC.out.2.lt
    have hb4 := HC.out.1.trans (hb3.mono HC.out.1.size)
    have HD := Lib.hid (And.intro hb4 hB3)
    clear hb3 hB3 hb4 c2
    have c3 : w3.cell? ⟨w.heap.size, 1, none⟩ = some (.slice A (q.length + 1) c) := HD.out.2.cell 1
    rcases hr with ⟨is, X, b, o, rfl, hL, had, hP⟩ | ⟨rfl, _, hn⟩
    · obtain ⟨ba, oa, rfl, g0, g1⟩ := (HH.out.2.2.2.1.below HD.out.1).step (k := q.length) (s := s) (by simp)
      have d0 : w3.cell? ⟨w.heap.size, 0, none⟩ = some (.int .i64 2) := HD.out.2.cell 0
      have d2 : w3.cell? ⟨w.heap.size, 2, none⟩ = some (.int .i64 v.k) := HD.out.2.cell 2
      have d3 : w3.cell? ⟨w.heap.size, 3, none⟩ = some (.int .i64 v.n) := HD.out.2.cell 3
      have d4 : w3.cell? ⟨w.heap.size, 4, none⟩ = some (.string v.s) := HD.out.2.cell 4
      have d5 : w3.cell? ⟨w.heap.size, 5, none⟩ = some (.int .i64 v.o) := HD.out.2.cell 5
      have d6 : w3.cell? ⟨w.heap.size, 6, none⟩ = some (.int .i64 v.p) := HD.out.2.cell 6
      have HX := Lib.hid (And.intro hL (And.intro had hP))
      clear hL had hP
      have hqq : (q.length : Int) < (q.length : Int) + 1 := by omega
      have hXi : InJ w3 X := (HX.out.1.inJ HH.out.1.own.inJ).below HD.out.1
      have hXf : X.tree.formed = true := HX.out.1.formed HH.out.2.1
      have hXk : X.keys.length ≤ 400 ∧ X.kids.length ≤ 400 := by
        have h1 := JT.keys_le hXf
        rw [PT.tree_keys] at h1
        have h2 := HX.out.1.size
        have h3 := HH.out.2.2.1
        have h4 := JT.length_le_sizeL X.tree.kids
        rw [PT.tree_kids, List.length_map] at h4
        have h5 := JT.size_eq X.tree
        rw [PT.tree_kids] at h5
        omega
      have hba : Below w3.heap.size w3 (w3.alloc (.cells #[.string s.key, .int .i64 s.at_] 69)) := (Below.refl _ _).alloc (Nat.le_refl _) _
      have HI := Lib.hid (index_any X b o s.key s.at_ (w3.alloc (.cells #[.string s.key, .int .i64 s.at_] 69)) (HX.out.2.2.below hba) (hXi.below hba) hXf hXk.1)
      have HXX := Lib.hid (And.intro hXi (And.intro hXf (And.intro hXk hba)))
      clear hXi hXf hXk hba
      go_wp2_with fail
      refine HI.out.mono ?_
      rintro e w4 ⟨rfl, hb4⟩
      have hS4 := (Blk.new w3 _ _).below hb4 (by simp)
      have hb34 := HXX.out.2.2.2.trans (hb4.mono (by simp))
      have hB4 := HD.out.2.below hb34 HD.out.2.lt
      have H4 := Lib.hid (And.intro hb34 (And.intro hB4 hS4))
      clear hb4 hS4 hb34 hB4 c3 g0 g1 d0 d2 d3 d4 d5 d6
      have d0 : w4.cell? ⟨w.heap.size, 0, none⟩ = some (.int .i64 2) := H4.out.2.1.cell 0
      have d2 : w4.cell? ⟨w.heap.size, 2, none⟩ = some (.int .i64 v.k) := H4.out.2.1.cell 2
      have d3 : w4.cell? ⟨w.heap.size, 3, none⟩ = some (.int .i64 v.n) := H4.out.2.1.cell 3
      have d4 : w4.cell? ⟨w.heap.size, 4, none⟩ = some (.string v.s) := H4.out.2.1.cell 4
      have d5 : w4.cell? ⟨w.heap.size, 5, none⟩ = some (.int .i64 v.o) := H4.out.2.1.cell 5
      have d6 : w4.cell? ⟨w.heap.size, 6, none⟩ = some (.int .i64 v.p) := H4.out.2.1.cell 6
      have s0 : w4.cell? ⟨w3.heap.size, 0, none⟩ = some (.string s.key) := H4.out.2.2.cell 0
      have hbpw : w.heap.size < w4.heap.size := H4.out.2.1.lt
      have hbsw : w3.heap.size < w4.heap.size := H4.out.2.2.lt
      obtain ⟨ia, hia⟩ : ∃ a, idxAt X.val X.keys X.kids.length ⟨s.key, s.at_⟩ = a := ⟨_, rfl⟩
      obtain ⟨ih, hih⟩ : ∃ a, idxHas X.val X.keys X.kids.length ⟨s.key, s.at_⟩ = a := ⟨_, rfl⟩
      obtain ⟨im, him⟩ : ∃ a, idxMay X.val X.kids.length ⟨s.key, s.at_⟩ = a := ⟨_, rfl⟩
      rw [hia, hih, him]
      have HR := Lib.hid (And.intro hia (And.intro hih him))
      clear hia hih him
      cases ih with
      | true =>
        obtain ⟨i, hi, hie⟩ := idx_has HR.out.2.1
        rw [HR.out.1] at hie
        subst hie
        have hi' : X.tree.idx s = some i := by
          unfold JT.idx
          rw [PT.tree_val, PT.tree_keys, PT.tree_kids, List.length_map]; exact hi
        have hil := JT.idx_lt hi' ((JT.formed_iff _).1 HXX.out.2.1).1
        rw [PT.tree_kids, List.length_map] at hil
        have hb04 : Below w.heap.size w w4 := HD.out.1.trans (H4.out.1.mono HD.out.1.size)
        have hO4 := HH.out.1.below hb04
        obtain ⟨⟨cur, hBb⟩, hnb, hsubX, hXo, hXn, hinb⟩ := hO4.place HX.out.1.sub HX.out.2.1
        have hP4 := HX.out.2.2.below H4.out.1
        obtain ⟨hpk, hpc⟩ := own_parts hXo hXn
        have hbk : b ∉ blkOf X.kA := fun h => hnb (by rw [PT.own_eq]; exact List.mem_append_left _ h)
        have hbc : b ∉ blkOf X.cA := fun h => hnb (by rw [PT.own_eq]; exact List.mem_append_right _ (List.mem_append_left _ h))
        have x6 : w4.cell? ⟨b, o + 6, none⟩ = some (.slice X.cA X.kids.length X.cc) := hP4 6 (by omega)
        have hbb : b < w4.heap.size := hBb.lt
        have hbs : ¬ w3.heap.size = b := fun e => absurd ((e ▸ H4.out.2.2 : Blk w4 b 69 _).same_type_ hBb) (by decide)
        have hi400 : (i : Int) ≤ 400 := by have := HXX.out.2.2.1.2; omega
        have HIM := Lib.hid (And.intro hi' (And.intro hil (And.intro hb04 (And.intro hO4 (And.intro hBb (And.intro hnb (And.intro hXo (And.intro hXn (And.intro hP4 (And.intro hpk (And.intro hpc (And.intro hbk hbc))))))))))))
        clear hi hi' hil hb04 hO4 hBb hnb hXo hXn hP4 hpk hpc hbk hbc hsubX hinb
        go_wp2_with fail
        have hWA : Below w4.heap.size w4 (w4.alloc (.cells #[.int .i64 v.k, .int .i64 v.n, .string v.s, .int .i64 v.o, .int .i64 v.p, .slice none 0 0, .slice none 0 0] 29)) := (Below.refl _ _).alloc (Nat.le_refl _) _
        refine (deleteTree_any X.cA X.kids.length X.cc i (PT.cellsL X.kids) _ (owns_below HIM.out.2.2.2.2.2.2.1.slot.kids hWA) (by have := HXX.out.2.2.1.2; omega) HIM.out.2.1 (one_ptL _)).mono ?_
        rintro e W2 ⟨rfl, hrow, ho⟩
        obtain ⟨hi', hil, hb04, hO4, hBb, hnb, hXo, hXn, hP4, hpk, hpc, hbk, hbc⟩ := HIM.out
        have hb2 : Blk W2 b 29 cur := (hBb.below hWA hBb.lt).only ho hbc
        have y6 : W2.cell? ⟨b, o + 6, none⟩ = some (.slice X.cA X.kids.length X.cc) := by rw [hb2.cell, ← hBb.cell]; exact x6
        have z6 : W2.frozen? ⟨b, o + 6, none⟩ = false := hb2.frozen _
        have hsA : w3.heap.size ∉ blkOf X.cA := fun h => by
          have hst := H4.out.2.2
          obtain ⟨g, cur', hgA, hgB, _⟩ := kids_row_ hXo h
          exact absurd (hst.same_type_ (hgA ▸ hgB)) (by decide)
        have hS2 : Blk W2 w3.heap.size 69 #[.string s.key, .int .i64 s.at_] := (H4.out.2.2.below hWA H4.out.2.2.lt).only ho hsA
        have o2 : Only (· ∈ blkOf X.cA) w4 W2 := (Only.of_below hWA).trans' ho
        have oS := (Only.refl (· = b) W2).setCell (p := ⟨b, o + 6, none⟩) rfl (.slice X.cA (X.kids.length - 1) X.cc)
        rw [cellsL_del] at hrow
        have hst3 : Only (fun r => r ∈ blkOf X.cA ∨ r = b) w4 (W2.setCell ⟨b, o + 6, none⟩ (.slice X.cA (X.kids.length - 1) X.cc)) ∧ Blk (W2.setCell ⟨b, o + 6, none⟩ (.slice X.cA (X.kids.length - 1) X.cc)) b 29 (cur.setIfInBounds (o + 6) (.slice X.cA (X.kids.length - 1) X.cc)) ∧ (W2.setCell ⟨b, o + 6, none⟩ (.slice X.cA (X.kids.length - 1) X.cc)).ownsRow 0 29 7 (.slice X.cA (X.kids.length - 1) X.cc) (X.kids.length - 1) (PT.cellsL (delAt X.kids i)) ∧ Blk (W2.setCell ⟨b, o + 6, none⟩ (.slice X.cA (X.kids.length - 1) X.cc)) w3.heap.size 69 #[.string s.key, .int .i64 s.at_] :=
          ⟨(o2.mono fun r _ h => .inl h).trans (oS.mono fun r _ h => .inr h), hb2.set_ (o + 6) _, own_keep hrow fun r hr hlt => oS.block r hlt (fun e => hbc (by rw [← e]; exact hr)), hS2.only oS hbs⟩
        have HST := Lib.hid hst3
        clear hst3 hrow ho hb2 hS2 o2 oS hi' hil hb04 hO4 hBb hnb hXo hXn hP4 hpk hpc hbk hbc hsA hWA d0 d2 d3 d4 d5 d6 s0 x6
        go_upto_region 20 with (fail)
        refine wp_at (fun W3 => Only (fun r => r ∈ blkOf X.cA ∨ r = b) w4 W3 ∧ Blk W3 b 29 (cur.setIfInBounds (o + 6) (.slice X.cA (X.kids.length - 1) X.cc)) ∧ W3.ownsRow 0 29 7 (.slice X.cA (X.kids.length - 1) X.cc) (X.kids.length - 1) (PT.cellsL (delAt X.kids i)) ∧ Blk W3 w3.heap.size 69 #[.string s.key, .int .i64 s.at_]) HST.out ?_
        clear y6 z6 HST
        rintro W3 ⟨h31, h32, h33, h34⟩
        have H3 := Lib.hid (And.intro h31 (And.intro h32 (And.intro h33 h34)))
        have s0 : W3.cell? ⟨w3.heap.size, 0, none⟩ = some (.string s.key) := h34.cell 0
        have y5 : W3.cell? ⟨b, o + 5, none⟩ = some (.slice X.kA X.keys.length X.kc) := by
          rw [h32.cell, Array.getElem?_setIfInBounds_ne (by omega), ← HIM.out.2.2.2.2.1.cell]
          exact HIM.out.2.2.2.2.2.2.2.2.1 5 (by omega)
        have z5 : W3.frozen? ⟨b, o + 5, none⟩ = false := h32.frozen _
        have hkrow : W3.ownsRow 0 9 1 (.slice X.kA X.keys.length X.kc) X.keys.length (X.keys.map Value.string) := own_keep HIM.out.2.2.2.2.2.2.1.slot.keys fun r hr hlt => h31.block r hlt (fun h => by
          rcases h with h | h
          · exact (HIM.out.2.2.2.2.2.2.2.2.2.1 r hr).2 h
          · exact HIM.out.2.2.2.2.2.2.2.2.2.2.2.1 (by rw [← h]; exact hr))
        have HKR := Lib.hid hkrow
        have hklen : ¬ s.key.toList = [] → X.keys[i]? = some s.key := by
          intro hne
          have h := HIM.out.1
          unfold JT.idx idxO at h
          rw [PT.tree_val, PT.tree_keys, PT.tree_kids, List.length_map] at h
          split at h
          · split at h
            · rename_i hk
              injection h with h
              rw [h] at hk
              exact hk
            · cases h
          · split at h
            · rename_i hl
              unfold isListStep at hl
              simp at hl
              exact absurd hl.1.1.2 hne
            · cases h
        have HKL := Lib.hid hklen
        clear h31 h32 h33 h34 hkrow hklen
        have hpat2 : JT.pat 2 (JT.leaf v) X.tree [s] = some (.node X.val (if s.key.toList.isEmpty then X.keys else delAt X.keys i) ((delAt X.kids i).map PT.tree)) := by
          simp only [JT.pat]
          unfold JT.pat1
          rw [if_neg (by decide), if_pos rfl, HIM.out.1, PT.tree_val, PT.tree_keys, PT.tree_kids]
          simp [delAt, List.map_take, List.map_drop]
        have HPT := Lib.hid hpat2
        clear hpat2
        have hlc : (delAt X.kids i).length = X.kids.length - 1 := delAt_len HIM.out.2.1
        have HLC := Lib.hid hlc
        clear hlc
        by_cases hke : s.key.toList = []
        case' pos =>
          have hkb : (s.key.toList == []) = true := by simp [hke]
          have HFW : Hid ((fun W5 => ∃ T' : PT, OwnedT 9 29 W5 b0 T' ∧ (∀ r ∈ T'.own, r ∈ T.own ∨ w.heap.size ≤ r) ∧ JT.pat 2 (JT.leaf v) T.tree (q ++ [s]) = some T'.tree ∧ Only (· ∈ b0 :: T.own) w W5) W3) := Lib.hid (by
            obtain ⟨h31, h32, h33, h34⟩ := H3.out
            obtain ⟨hi', hil, hb04, hO4, hBb, hnb, hXo, hXn, hP4, hpk, hpc, hbk, hbc⟩ := HIM.out
            have hpt := HPT.out
            rw [if_pos (by simp [hke])] at hpt
            have hcell5 : cur[o + 5]? = some (.slice X.kA X.keys.length X.kc) := by rw [← hBb.cell]; exact hP4 5 (by omega)
            obtain ⟨T', r1, r2, r3, r4⟩ := node_end (kind := 2) (x := JT.leaf v) (s := s) hO4 HX.out.1 HX.out.2.1 hP4 (A' := X.kA) (C' := X.cA) (ac := X.kc) (cc := X.cc) (keys' := X.keys) (kids' := delAt X.kids i) HKR.out (by rw [HLC.out]; exact h33) hXo.slot.each (fun y hy => .inl (delAt_mem hy)) (PT.ownL_del _ _) (fun r hr => .inl hr) (fun r hr => .inl hr) (fun r hr => (hpk r hr).2) (h31.mono fun r _ h => .inr h) hBb h32 (by rw [HLC.out, set_same hcell5]) hpt
            refine ⟨T', r1, fun r hr => ?_, r3, (Only.of_below hb04).trans r4⟩
            rcases r2 r hr with h | h
            · exact .inl h
            · have := hb04.size; exact .inr (by omega))
          clear y5 z5
          go_upto_region 24 with (fail)
          refine wp_at (fun W5 => ∃ T' : PT, OwnedT 9 29 W5 b0 T' ∧ (∀ r ∈ T'.own, r ∈ T.own ∨ w.heap.size ≤ r) ∧ JT.pat 2 (JT.leaf v) T.tree (q ++ [s]) = some T'.tree ∧ Only (· ∈ b0 :: T.own) w W5) HFW.out ?_
        case' neg =>
          have hkb : (s.key.toList == []) = false := by simpa using hke
          have hik : i < X.keys.length := (List.getElem?_eq_some_iff.1 (HKL.out hke)).1
          have hbw3 : b < W3.heap.size := cell_lt y5
          go_wp2_with fail
          refine (deleteStr_any X.kA X.keys.length X.kc i (X.keys.map Value.string) _ HKR.out (by have := HXX.out.2.2.1.1; omega) hik (by intro u hu; obtain ⟨x, _, rfl⟩ := List.mem_map.1 hu; rfl)).mono ?_
          rintro e W4 ⟨rfl, hrow, ho⟩
          have hb4 : Blk W4 b 29 (cur.setIfInBounds (o + 6) (.slice X.cA (X.kids.length - 1) X.cc)) := H3.out.2.1.only ho HIM.out.2.2.2.2.2.2.2.2.2.2.2.1
          have y5' : W4.cell? ⟨b, o + 5, none⟩ = some (.slice X.kA X.keys.length X.kc) := by rw [hb4.cell, ← H3.out.2.1.cell]; exact y5
          have z5' : W4.frozen? ⟨b, o + 5, none⟩ = false := hb4.frozen _
          have HFW : Hid ((fun W5 => ∃ T' : PT, OwnedT 9 29 W5 b0 T' ∧ (∀ r ∈ T'.own, r ∈ T.own ∨ w.heap.size ≤ r) ∧ JT.pat 2 (JT.leaf v) T.tree (q ++ [s]) = some T'.tree ∧ Only (· ∈ b0 :: T.own) w W5) (W4.setCell ⟨b, o + 5, none⟩ (.slice X.kA (X.keys.length - 1) X.kc))) := Lib.hid (by
            obtain ⟨h31, h32, h33, h34⟩ := H3.out
            obtain ⟨hi', hil, hb04, hO4, hBb, hnb, hXo, hXn, hP4, hpk, hpc, hbk, hbc⟩ := HIM.out
            have hpt := HPT.out
            rw [if_neg (by simp [hke])] at hpt
            have oS := (Only.refl (· = b) W4).setCell (p := ⟨b, o + 5, none⟩) rfl (.slice X.kA (X.keys.length - 1) X.kc)
            have hlk : (delAt X.keys i).length = X.keys.length - 1 := delAt_len hik
            have hkd : (X.keys.map Value.string).take (i * 1) ++ (X.keys.map Value.string).drop ((i + 1) * 1) = (delAt X.keys i).map Value.string := by simp [delAt, List.map_take, List.map_drop]
            rw [hkd] at hrow
            have o45 : Only (fun r => r ∈ blkOf X.kA ∨ r = b) W3 (W4.setCell ⟨b, o + 5, none⟩ (.slice X.kA (X.keys.length - 1) X.kc)) := (ho.mono fun r _ h => .inl h).trans (oS.mono fun r _ h => .inr h)
            obtain ⟨T', r1, r2, r3, r4⟩ := node_end (kind := 2) (x := JT.leaf v) (s := s) hO4 HX.out.1 HX.out.2.1 hP4 (A' := X.kA) (C' := X.cA) (ac := X.kc) (cc := X.cc) (keys' := delAt X.keys i) (kids' := delAt X.kids i) (by rw [hlk]; exact own_keep hrow fun r hr hlt => oS.block r hlt (fun e => hbk (by rw [← e]; exact hr))) (by rw [HLC.out]; exact own_keep h33 fun r hr hlt => o45.block r hlt (fun h => by
              rcases h with h | h
              · exact (hpc r hr).2 h
              · exact hbc (by rw [← h]; exact hr))) (fun y hy => hXo.slot.each y (delAt_mem hy)) (fun y hy => .inl (delAt_mem hy)) (PT.ownL_del _ _) (fun r hr => .inl hr) (fun r hr => .inl hr) (fun r hr => (hpk r hr).2) ((h31.mono fun r _ h => .inr h).trans' (o45.mono fun r _ h => h.imp id .inr)) hBb (hb4.set_ (o + 5) _) (by rw [HLC.out, hlk]; exact set_swap _ _ _ _ _ (by omega)) hpt
            refine ⟨T', r1, fun r hr => ?_, r3, (Only.of_below hb04).trans r4⟩
            rcases r2 r hr with h | h
            · exact .inl h
            · have := hb04.size; exact .inr (by omega))
          clear hrow ho hb4 y5 z5
          go_upto_region 24 with (fail)
          refine wp_at (fun W5 => ∃ T' : PT, OwnedT 9 29 W5 b0 T' ∧ (∀ r ∈ T'.own, r ∈ T.own ∨ w.heap.size ≤ r) ∧ JT.pat 2 (JT.leaf v) T.tree (q ++ [s]) = some T'.tree ∧ Only (· ∈ b0 :: T.own) w W5) HFW.out ?_
        all_goals
          rintro W5 ⟨T', hO5, hown5, hpat5, ho5⟩
          have HT := Lib.hid (And.intro hO5 (And.intro hown5 (And.intro hpat5 ho5)))
          have t0 : W5.cell? ⟨b0, 0, none⟩ = some (.int .i64 T'.val.k) := hO5.root.cell 0
          have t1 : W5.cell? ⟨b0, 1, none⟩ = some (.int .i64 T'.val.n) := hO5.root.cell 1
          have t2 : W5.cell? ⟨b0, 2, none⟩ = some (.string T'.val.s) := hO5.root.cell 2
          have t3 : W5.cell? ⟨b0, 3, none⟩ = some (.int .i64 T'.val.o) := hO5.root.cell 3
          have t4 : W5.cell? ⟨b0, 4, none⟩ = some (.int .i64 T'.val.p) := hO5.root.cell 4
          have t5 : W5.cell? ⟨b0, 5, none⟩ = some (.slice T'.kA T'.keys.length T'.kc) := hO5.root.cell 5
          have t6 : W5.cell? ⟨b0, 6, none⟩ = some (.slice T'.cA T'.kids.length T'.cc) := hO5.root.cell 6
          have hb05 : b0 < W5.heap.size := hO5.root.lt
          clear hO5 hown5 hpat5 ho5
          go_wp2_with fail
          clear t0 t1 t2 t3 t4 t5 t6
          have ha5 : Below W5.heap.size W5 (W5.alloc (.cells #[.int .i64 400] 3)) := (Below.refl _ _).alloc (Nat.le_refl _) _
          refine (count_any W5.heap.size T' W5 HT.out.1.own.inJ (Nat.le_refl _) 400 _ ha5 (Blk.new _ _ _) (by decide) (by decide)).mono ?_
          have HA5 := Lib.hid ha5
          clear ha5
          rintro e W6 ⟨r, rfl, ho6, hr⟩
          have hlow : ∀ x ∈ b0 :: T'.own, x ≠ W5.heap.size := fun x hx e => by
            rcases List.mem_cons.1 hx with h | h
            · omega
            · have := HT.out.1.own.lt x h; omega
          have o56 : Only (· = W5.heap.size) W5 W6 := (Only.of_below HA5.out).trans ho6
          have hO6 : OwnedT 9 29 W6 b0 T' := ⟨HT.out.1.root.only o56 (fun e => hlow b0 (by simp) e), HT.out.1.own.only o56 (fun x hx e => hlow x (by simp [hx]) e), HT.out.1.nd⟩
          have o06 : Only (· ∈ b0 :: T.own) w W6 := by
            refine ⟨o56.os.trans HT.out.2.2.2.os, o56.tape.trans HT.out.2.2.2.tape, o56.output.trans HT.out.2.2.2.output, Nat.le_trans HT.out.2.2.2.size o56.size, fun k hk hn => ?_⟩
            have h5 := HT.out.2.2.2.size
            rw [o56.block k (by omega) (by omega)]
            exact HT.out.2.2.2.block k hk hn
          have hpr : patR 2 v T.tree (q ++ [s]) = if T'.tree.size ≤ 400 then .ok T'.tree else .error 4 := by
            unfold patR
            rw [if_neg (by rw [HH.out.2.2.2.2.2.1, HH.out.2.2.2.2.2.2]; simp), if_neg (by simp), HT.out.2.2.1]
          rcases hr with ⟨rfl, hle, _⟩ | ⟨rfl, hle⟩
          · have HE := Lib.hid (And.intro (show patR 2 v T.tree (q ++ [s]) = .ok T'.tree from by rw [hpr, if_pos (by omega)]) (And.intro hO6 o06))
            clear hle hpr hO6 o06 o56 ho6 hlow
            go_wp2_with fail
            go_ret
            exact ⟨HE.out.2.2, by rw [HE.out.1]; exact ⟨T', rfl, rfl, HE.out.2.1, HT.out.2.1⟩⟩
          · have HE := Lib.hid (And.intro (show patR 2 v T.tree (q ++ [s]) = .error 4 from by rw [hpr, if_neg (by omega)]) o06)
            clear hle hpr hO6 o06 o56 ho6 hlow
            go_wp2_with fail
            go_ret
            exact ⟨HE.out.2, by rw [HE.out.1]; rfl⟩
      | false =>
        have hn : X.tree.idx s = none := by
          unfold JT.idx
          rw [PT.tree_val, PT.tree_keys, PT.tree_kids, List.length_map]; exact idx_hasnt HR.out.2.1
        have hb04 : Below w.heap.size w w4 := HD.out.1.trans (H4.out.1.mono HD.out.1.size)
        have HE := Lib.hid (And.intro (show patR 2 v T.tree (q ++ [s]) = .error 6 from by
          have hp : JT.pat 2 (JT.leaf v) X.tree [s] = none := by
            simp only [JT.pat]
            unfold JT.pat1
            rw [if_neg (by decide), if_pos rfl, hn]
          unfold patR
          rw [if_neg (by rw [HH.out.2.2.2.2.2.1, HH.out.2.2.2.2.2.2]; simp), if_neg (by simp), (Lead.pat 2 (JT.leaf v) HX.out.1).1 hp]) hb04)
        clear hn hb04
        go_wp2_with fail
        go_ret
        exact ⟨(Only.of_below HE.out.2).trans (Only.of_below ((Below.refl _ _).alloc (Nat.le_refl _) _)), by rw [HE.out.1]; rfl⟩
    · have HE := Lib.hid (show patR 2 v T.tree (q ++ [s]) = .error 6 from by
        unfold patR
        rw [if_neg (by rw [HH.out.2.2.2.2.2.1, HH.out.2.2.2.2.2.2]; simp), if_neg (by simp), hn 2 (JT.leaf v) [s] (by simp)])
      clear hn
      go_wp2_with fail
      go_ret
      exact ⟨Only.of_below HD.out.1, by rw [HE.out]; rfl⟩
end Go.Proofs.YtbfmdpgghknccaaDoor
namespace Go.Proofs.YtbfmdpgghknccaaDoor
open Go.RowKit
set_option linter.unusedVariables false
set_option linter.unusedSimpArgs false

theorem cellsL_ins (l : List PT) (i : Nat) (hic : i ≤ l.length) (v : JV) : (PT.cellsL l).take (i * 7) ++ (PT.bare v).cells ++ (PT.cellsL l).drop (i * 7) = PT.cellsL (insAt l i (PT.bare v)) := by
  have hl : (PT.cellsL (l.take i)).length = i * 7 := by rw [PT.cellsL_length, List.length_take]; omega
  have hall : PT.cellsL l = PT.cellsL (l.take i) ++ PT.cellsL (l.drop i) := by rw [← PT.cellsL_append, List.take_append_drop]
  rw [hall, ← hl, List.take_left, List.drop_left, insAt, PT.cellsL_append]
  simp [PT.cellsL, List.append_assoc]
theorem insAt_len {α : Type} {l : List α} {i : Nat} (h : i ≤ l.length) (x : α) : (insAt l i x).length = l.length + 1 := by
  unfold insAt
  rw [List.length_append, List.length_take, List.length_cons, List.length_drop]
  omega

theorem ins3_mk {TS TT : TypeId} {w4 W1 W4 : World} {b0 : Nat} {T X : PT} {q is} {s : St} {b o i : Nat} {v : JV} (hv : v.Fit) (hO : OwnedT TS TT w4 b0 T) (hL : Lead T q is X) (ha : T.addr ⟨b0, 0, none⟩ is = ⟨b, o, none⟩) (hP : AtP w4 b o X)
    (hm : isListStep X.val s X.kids.length = true) (hii : s.at_ = i) (hic : i ≤ X.kids.length) {cur : Array Value} (hBb : Blk w4 b TT cur) {C' : Option Addr} {cc : Nat}
    (hW1 : Below w4.heap.size w4 W1) (hrow : W4.ownsRow 0 TT 7 (.slice C' (X.kids.length + 1) cc) (X.kids.length + 1) ((PT.cellsL X.kids).take (i * 7) ++ (PT.bare v).cells ++ (PT.cellsL X.kids).drop (i * 7)))
    (ho : Only (· ∈ blkOf X.cA) W1 W4) (hC : ∀ r ∈ blkOf C', r ∈ blkOf X.cA ∨ W1.heap.size ≤ r) :
    ∃ T' : PT, OwnedT TS TT (W4.setCell ⟨b, o + 6, none⟩ (.slice C' (X.kids.length + 1) cc)) b0 T' ∧ (∀ r ∈ T'.own, r ∈ T.own ∨ w4.heap.size ≤ r) ∧ JT.pat 3 (JT.leaf v) T.tree (q ++ [s]) = some T'.tree ∧ Only (· ∈ b0 :: T.own) w4 (W4.setCell ⟨b, o + 6, none⟩ (.slice C' (X.kids.length + 1) cc)) := by
  obtain ⟨_, hnb, hsub, hXo, hXn, hin⟩ := hO.place hL.sub ha
  obtain ⟨pk, pc⟩ := own_parts hXo hXn
  have hbk : b ∉ blkOf X.kA := fun h => hnb (by rw [PT.own_eq]; exact List.mem_append_left _ h)
  have hbc : b ∉ blkOf X.cA := fun h => hnb (by rw [PT.own_eq]; exact List.mem_append_right _ (List.mem_append_left _ h))
  have hbl := hBb.lt
  have s1 := hW1.size
  have oS := (Only.refl (· = b) W4).setCell (p := ⟨b, o + 6, none⟩) rfl (.slice C' (X.kids.length + 1) cc)
  have o44 : Only (fun r => r ∈ blkOf X.cA ∨ r = b) w4 (W4.setCell ⟨b, o + 6, none⟩ (.slice C' (X.kids.length + 1) cc)) := ((Only.of_below hW1).trans (ho.mono fun r _ h => .inl h)).trans (oS.mono fun r _ h => .inr h)
  rw [cellsL_ins _ _ hic] at hrow
  have hlc := insAt_len hic (PT.bare v)
  have hcell5 : cur[o + 5]? = some (.slice X.kA X.keys.length X.kc) := by rw [← hBb.cell]; exact hP 5 (by omega)
  have hC4 : ∀ r ∈ blkOf C', r ∈ blkOf X.cA ∨ w4.heap.size ≤ r := fun r hr => (hC r hr).imp id (fun h => by omega)
  have hkrow : (W4.setCell ⟨b, o + 6, none⟩ (.slice C' (X.kids.length + 1) cc)).ownsRow 0 TT 7 (.slice C' (X.kids.length + 1) cc) (X.kids.length + 1) (PT.cellsL (insAt X.kids i (PT.bare v))) := own_keep hrow fun r hr hlt => oS.block r hlt (fun h => by
    rcases hC r hr with h2 | h2
    · exact hbc (by rw [← h]; exact h2)
    · have : r = b := h
      omega)
  refine node_end (kind := 3) (x := JT.leaf v) (s := s) hO hL ha hP (A' := X.kA) (C' := C') (ac := X.kc) (cc := cc) (keys' := X.keys) (kids' := insAt X.kids i (PT.bare v))
    (own_keep hXo.slot.keys fun r hr hlt => o44.block r hlt (fun h => ?_)) (by rw [hlc]; exact hkrow) hXo.slot.each (fun y hy => ?_) (by rw [PT.ownL_ins]; exact List.Sublist.refl _) (fun r hr => .inl hr) hC4 (fun r hr hc => ?_) (o44.mono fun r _ h => .inr h) hBb (((hBb.below hW1 hbl).only ho hbc).set_ (o + 6) _) (by rw [hlc, set_same hcell5]) ?_
  · rcases h with h | h
    · exact (pk r hr).2 h
    · exact hbk (by rw [← h]; exact hr)
  · rcases insAt_mem hy with h | h
    · exact .inr ⟨v, hv, h⟩
    · exact .inl h
  · rcases hC4 r hc with h | h
    · exact (pk r hr).2 h
    · have := (pk r hr).1; omega
  · simp only [JT.pat]
    unfold JT.pat1
    rw [if_neg (by decide), if_neg (by decide), if_pos rfl, PT.tree_val, PT.tree_keys, PT.tree_kids, List.length_map, if_pos hm, hii]
    simp [insAt, List.map_take, List.map_drop, PT.bare_tree]

set_option maxRecDepth 100000 in
set_option maxHeartbeats 40000000 in
theorem patch_insert (b0 : Nat) (T : PT) (A : Option Addr) (c : Nat) (v : JV) (hv : v.Fit) (p : List St) (w : World) (hO : OwnedT 9 29 w b0 T) (hf : T.tree.formed = true) (hs : T.tree.size ≤ 400) (hA : SlAt w A (stCells p)) (hl : p.length ≤ maxLen) (hcap : p.length ≤ c) (hvf : (JT.leaf v).formed = true) (hpl : p.any longB = false) :
    Calls Tryd.prog 24 #[.pointer (some ⟨b0, 0, none⟩), patchV 3 A p.length c v] w (PatchQ w T b0 (patR 3 v T.tree p)) := by
  have hfm : ∀ w1, Calls Tryd.prog 46 #[(PT.bare v).value] w1 (BoolIs w1 true) := fun w1 => by
    have := form_any _ w1 (PT.bare_in w1 hv) w1 (Below.refl _ _)
    rwa [PT.bare_tree, hvf] at this
  have HF := Lib.hid hfm
  have HA := Lib.hid (fun w1 (h1 : Below w.heap.size w w1) => (show Calls Tryd.prog 49 #[.slice A p.length c, (.func (.func 50) #[] #[])] w1 (BoolIs w1 false) from by rw [← hpl]; exact any_steps A c p w1 (hA.below h1) hl))
  have hml : p.length ≤ 9223372036854775807 := Nat.le_trans hl (by decide)
  have HH := Lib.hid (And.intro hO (And.intro hf (And.intro hs (And.intro hA (And.intro hl (And.intro hvf hpl))))))
  clear hfm hO hf hs hA hl hvf hpl
  unfold patchV
  by_cases hp : p = []
  · subst hp
    have HE := Lib.hid (show patR 3 v T.tree [] = .error 6 from by
      unfold patR
      rw [if_neg (by rw [HH.out.2.2.2.2.2.1]; simp), if_pos rfl])
    go_enter Tryd.func24, Tryd.ntmps24
    go_wp2_with fail
    refine (HF.out _).mono ?_
    rintro e w1 ⟨rfl, hb1⟩
    have hB1 := (Blk.new w _ _).below hb1 (by simp)
    have hb2 : Below w.heap.size w w1 := ((Below.refl _ _).alloc (Nat.le_refl _) _).trans (hb1.mono (by simp))
    have c1 : w1.cell? ⟨w.heap.size, 1, none⟩ = some (.slice A 0 c) := hB1.cell 1
    have HB := Lib.hid (And.intro hb2 hB1)
    clear hB1 hb1 hb2
    go_wp2_with fail
    refine (HA.out _ HB.out.1).mono ?_
    rintro e w2 ⟨rfl, hb2⟩
    have c2 : w2.cell? ⟨w.heap.size, 1, none⟩ = some (.slice A 0 c) := (HB.out.2.below hb2 HB.out.2.lt).cell 1
    have HC := Lib.hid (HB.out.1.trans (hb2.mono HB.out.1.size))
    clear hb2 c1
    go_wp2_with fail
    go_ret
    exact ⟨Only.of_below HC.out, by rw [HE.out]; rfl⟩
  · obtain ⟨q, s, rfl⟩ : ∃ q s, p = q ++ [s] := ⟨_, _, (List.dropLast_concat_getLast hp).symm⟩
    clear hp
    have hql : (q ++ [s]).length = q.length + 1 := by simp
    rw [hql] at HA hml hcap ⊢
    clear hql
    have hcap' : q.length ≤ c := by omega
    go_enter Tryd.func24, Tryd.ntmps24
    go_wp2_with fail
    refine (HF.out _).mono ?_
    rintro e w1 ⟨rfl, hb1⟩
    have hB1 := (Blk.new w _ _).below hb1 (by simp)
    have hb2 : Below w.heap.size w w1 := ((Below.refl _ _).alloc (Nat.le_refl _) _).trans (hb1.mono (by simp))
    have c1 : w1.cell? ⟨w.heap.size, 1, none⟩ = some (.slice A (q.length + 1) c) := hB1.cell 1
    have HB := Lib.hid (And.intro hb2 hB1)
    clear hB1 hb1 hb2
    go_wp2_with fail
    refine (HA.out _ HB.out.1).mono ?_
    rintro e w2 ⟨rfl, hb2⟩
    have hB2 := HB.out.2.below hb2 HB.out.2.lt
    have c2 : w2.cell? ⟨w.heap.size, 1, none⟩ = some (.slice A (q.length + 1) c) := hB2.cell 1
    have HC := Lib.hid (And.intro (HB.out.1.trans (hb2.mono HB.out.1.size)) hB2)
    clear hb2 c1 hB2
    go_wp2_with fail
    have HO2 := Lib.hid (And.intro ((AtP.of_blk HH.out.1.root).below HC.out.1) (And.intro (HH.out.1.own.inJ.below HC.out.1) (HH.out.2.2.2.1.below HC.out.1)))
    refine (find_any T b0 A c q w2 HO2.out.1 HO2.out.2.1 HH.out.2.1 HH.out.2.2.1 (by have := HO2.out.2.2.stTake q.length; rwa [List.take_left] at this) (by have := HH.out.2.2.2.2.1; simp at this; omega)).mono ?_
    rintro e w3 ⟨hb3, hr⟩
    have hB3 := HC.out.2.below hb3 HC.out.2.lt
    have hb4 := HC.out.1.trans (hb3.mono HC.out.1.size)
    have HD := Lib.hid (And.intro hb4 hB3)
    clear hb3 hB3 hb4 c2
    have c3 : w3.cell? ⟨w.heap.size, 1, none⟩ = some (.slice A (q.length + 1) c) := HD.out.2.cell 1
    rcases hr with ⟨is, X, b, o, rfl, hL, had, hP⟩ | ⟨rfl, _, hn⟩
    · obtain ⟨ba, oa, rfl, g0, g1⟩ := (HH.out.2.2.2.1.below HD.out.1).step (k := q.length) (s := s) (by simp)
      have d0 : w3.cell? ⟨w.heap.size, 0, none⟩ = some (.int .i64 3) := HD.out.2.cell 0
      have d2 : w3.cell? ⟨w.heap.size, 2, none⟩ = some (.int .i64 v.k) := HD.out.2.cell 2
      have d3 : w3.cell? ⟨w.heap.size, 3, none⟩ = some (.int .i64 v.n) := HD.out.2.cell 3
      have d4 : w3.cell? ⟨w.heap.size, 4, none⟩ = some (.string v.s) := HD.out.2.cell 4
      have d5 : w3.cell? ⟨w.heap.size, 5, none⟩ = some (.int .i64 v.o) := HD.out.2.cell 5
      have d6 : w3.cell? ⟨w.heap.size, 6, none⟩ = some (.int .i64 v.p) := HD.out.2.cell 6
      have HX := Lib.hid (And.intro hL (And.intro had hP))
      clear hL had hP
      have hqq : (q.length : Int) < (q.length : Int) + 1 := by omega
      have hXi : InJ w3 X := (HX.out.1.inJ HH.out.1.own.inJ).below HD.out.1
      have hXf : X.tree.formed = true := HX.out.1.formed HH.out.2.1
      have hXk : X.keys.length ≤ 400 ∧ X.kids.length ≤ 400 := by
        have h1 := JT.keys_le hXf
        rw [PT.tree_keys] at h1
        have h2 := HX.out.1.size
        have h3 := HH.out.2.2.1
        have h4 := JT.length_le_sizeL X.tree.kids
        rw [PT.tree_kids, List.length_map] at h4
        have h5 := JT.size_eq X.tree
        rw [PT.tree_kids] at h5
        omega
      have hba : Below w3.heap.size w3 (w3.alloc (.cells #[.string s.key, .int .i64 s.at_] 69)) := (Below.refl _ _).alloc (Nat.le_refl _) _
      have HI := Lib.hid (index_any X b o s.key s.at_ (w3.alloc (.cells #[.string s.key, .int .i64 s.at_] 69)) (HX.out.2.2.below hba) (hXi.below hba) hXf hXk.1)
      have HXX := Lib.hid (And.intro hXi (And.intro hXf (And.intro hXk hba)))
      clear hXi hXf hXk hba
      go_wp2_with fail
      refine HI.out.mono ?_
      rintro e w4 ⟨rfl, hb4⟩
      have hS4 := (Blk.new w3 _ _).below hb4 (by simp)
      have hb34 := HXX.out.2.2.2.trans (hb4.mono (by simp))
      have hB4 := HD.out.2.below hb34 HD.out.2.lt
      have H4 := Lib.hid (And.intro hb34 (And.intro hB4 hS4))
      clear hb4 hS4 hb34 hB4 c3 g0 g1 d0 d2 d3 d4 d5 d6
      have d0 : w4.cell? ⟨w.heap.size, 0, none⟩ = some (.int .i64 3) := H4.out.2.1.cell 0
      have d2 : w4.cell? ⟨w.heap.size, 2, none⟩ = some (.int .i64 v.k) := H4.out.2.1.cell 2
      have d3 : w4.cell? ⟨w.heap.size, 3, none⟩ = some (.int .i64 v.n) := H4.out.2.1.cell 3
      have d4 : w4.cell? ⟨w.heap.size, 4, none⟩ = some (.string v.s) := H4.out.2.1.cell 4
      have d5 : w4.cell? ⟨w.heap.size, 5, none⟩ = some (.int .i64 v.o) := H4.out.2.1.cell 5
      have d6 : w4.cell? ⟨w.heap.size, 6, none⟩ = some (.int .i64 v.p) := H4.out.2.1.cell 6
      have s0 : w4.cell? ⟨w3.heap.size, 0, none⟩ = some (.string s.key) := H4.out.2.2.cell 0
      have hbpw : w.heap.size < w4.heap.size := H4.out.2.1.lt
      have hbsw : w3.heap.size < w4.heap.size := H4.out.2.2.lt
      obtain ⟨ia, hia⟩ : ∃ a, idxAt X.val X.keys X.kids.length ⟨s.key, s.at_⟩ = a := ⟨_, rfl⟩
      obtain ⟨ih, hih⟩ : ∃ a, idxHas X.val X.keys X.kids.length ⟨s.key, s.at_⟩ = a := ⟨_, rfl⟩
      obtain ⟨im, him⟩ : ∃ a, idxMay X.val X.kids.length ⟨s.key, s.at_⟩ = a := ⟨_, rfl⟩
      rw [hia, hih, him]
      have HR := Lib.hid (And.intro hia (And.intro hih him))
      clear hia hih him
      have hb04 : Below w.heap.size w w4 := HD.out.1.trans (H4.out.1.mono HD.out.1.size)
      cases hm : isListStep X.val s X.kids.length with
      | false =>
        have HE := Lib.hid (And.intro (show patR 3 v T.tree (q ++ [s]) = .error 6 from by
          have hp : JT.pat 3 (JT.leaf v) X.tree [s] = none := by
            simp only [JT.pat]
            unfold JT.pat1
            rw [if_neg (by decide), if_neg (by decide), if_pos rfl, PT.tree_val, PT.tree_kids, List.length_map, hm]
            rfl
          unfold patR
          rw [if_neg (by rw [HH.out.2.2.2.2.2.1, HH.out.2.2.2.2.2.2]; simp), if_neg (by simp), (Lead.pat 3 (JT.leaf v) HX.out.1).1 hp]) hb04)
        have hsk : im = false ∨ (im = true ∧ (s.key.toList == []) = false) := by
          rw [← HR.out.2.2]
          unfold idxMay
          cases hl : isMapStep X.val ⟨s.key, s.at_⟩ with
          | false =>
            rw [show isListStep X.val ⟨s.key, s.at_⟩ X.kids.length = false from hm]
            exact .inl rfl
          | true =>
            unfold isMapStep at hl
            simp at hl
            exact .inr ⟨rfl, by simpa using hl.1.2⟩
        clear hb04 hm
        rcases hsk with rfl | ⟨rfl, hke⟩
        all_goals
          go_wp2_with fail
          go_ret
          exact ⟨(Only.of_below HE.out.2).trans (Only.of_below ((Below.refl _ _).alloc (Nat.le_refl _) _)), by rw [HE.out.1]; rfl⟩
      | true =>
        have hm' := hm
        unfold isListStep at hm'
        simp at hm'
        have hke : (s.key.toList == []) = true := by simp [hm'.1.1.2]
        have hmap : isMapStep X.val ⟨s.key, s.at_⟩ = false := by
          unfold isMapStep
          simp [hm'.1.1.2]
        obtain rfl : im = true := by
          rw [← HR.out.2.2]; unfold idxMay
          rw [hmap, show isListStep X.val ⟨s.key, s.at_⟩ X.kids.length = true from hm]; rfl
        obtain ⟨i, hii⟩ : ∃ i : Nat, s.at_ = i := ⟨s.at_.toNat, by omega⟩
        have hie : ia = (i : Int) := by
          rw [← HR.out.1]; unfold idxAt
          rw [hmap, show isListStep X.val ⟨s.key, s.at_⟩ X.kids.length = true from hm, ← hii]; rfl
        subst hie
        have hic : i ≤ X.kids.length := by omega
        have hO4 := HH.out.1.below hb04
        obtain ⟨⟨cur, hBb⟩, hnb, hsubX, hXo, hXn, hinb⟩ := hO4.place HX.out.1.sub HX.out.2.1
        have hP4 := HX.out.2.2.below H4.out.1
        have hIM := Lib.hid (And.intro hm (And.intro hii (And.intro hic (And.intro hO4 (And.intro hBb (And.intro hnb (And.intro hsubX (And.intro hXo (And.intro hXn (And.intro hP4 hb04))))))))))
        have hbb : b < w4.heap.size := hBb.lt
        clear hm' hmap hm hii hic hO4 hBb hnb hsubX hXo hXn hP4 hb04
        go_wp2_with fail
        refine wp_at (fun W => Below w4.heap.size w4 W ∧ Blk W w4.heap.size 29 #[.int .i64 v.k, .int .i64 v.n, .string v.s, .int .i64 v.o, .int .i64 v.p, .slice none 0 0, .slice none 0 0]) ⟨(Below.refl _ _).alloc (Nat.le_refl _) _, Blk.new _ _ _⟩ ?_
        rintro W ⟨hbW, hkW⟩
        clear d0 d2 d3 d4 d5 d6 s0
        have y6 : W.cell? ⟨b, o + 6, none⟩ = some (.slice X.cA X.kids.length X.cc) := (hIM.out.2.2.2.2.2.2.2.2.2.1.below hbW) 6 (by omega)
        have k0 : W.cell? ⟨w4.heap.size, 0, none⟩ = some (.int .i64 v.k) := hkW.cell 0
        have k1 : W.cell? ⟨w4.heap.size, 1, none⟩ = some (.int .i64 v.n) := hkW.cell 1
        have k2 : W.cell? ⟨w4.heap.size, 2, none⟩ = some (.string v.s) := hkW.cell 2
        have k3 : W.cell? ⟨w4.heap.size, 3, none⟩ = some (.int .i64 v.o) := hkW.cell 3
        have k4 : W.cell? ⟨w4.heap.size, 4, none⟩ = some (.int .i64 v.p) := hkW.cell 4
        have k5 : W.cell? ⟨w4.heap.size, 5, none⟩ = some (.slice none 0 0) := hkW.cell 5
        have k6 : W.cell? ⟨w4.heap.size, 6, none⟩ = some (.slice none 0 0) := hkW.cell 6
        have hbw3 : b < W.heap.size := Nat.lt_of_lt_of_le hbb hbW.size
        have hkw3 : w4.heap.size < W.heap.size := hkW.lt
        have HW := Lib.hid (And.intro hbW hkW)
        clear hbW hkW
        have HWB := Lib.hid (((Below.refl W.heap.size W).alloc (Nat.le_refl _) (.cells #[.int .i64 v.k, .int .i64 v.n, .string v.s, .int .i64 v.o, .int .i64 v.p, .slice none 0 0, .slice none 0 0] 29)).drew)
        have HVC := Lib.hid (show Blk (W.alloc (.cells #[.int .i64 v.k, .int .i64 v.n, .string v.s, .int .i64 v.o, .int .i64 v.p, .slice none 0 0, .slice none 0 0] 29)).drew W.heap.size 29 (PT.bare v).cells.toArray from Blk.new W 29 _)
        have hcA : ∀ r ∈ blkOf X.cA, r < w4.heap.size ∧ r ∉ blkOf X.kA := (own_parts hIM.out.2.2.2.2.2.2.2.1 hIM.out.2.2.2.2.2.2.2.2.1).2
        have hbc : b ∉ blkOf X.cA := fun h => hIM.out.2.2.2.2.2.1 (by rw [PT.own_eq]; exact List.mem_append_right _ (List.mem_append_left _ h))
        have HNC := Lib.hid (show W.heap.size ∉ blkOf X.cA from fun h => by have := (hcA _ h).1; omega)
        have HBW := Lib.hid (HW.out.1.trans (HWB.out.mono HW.out.1.size))
        have HIT := Lib.hid (insertTree_any X.cA X.kids.length X.cc i (PT.cellsL X.kids) W.heap.size (PT.bare v).cells (W.alloc (.cells #[.int .i64 v.k, .int .i64 v.n, .string v.s, .int .i64 v.o, .int .i64 v.p, .slice none 0 0, .slice none 0 0] 29)).drew (owns_below hIM.out.2.2.2.2.2.2.2.1.slot.kids HBW.out) (by have := HXX.out.2.2.1.2; omega) hIM.out.2.2.1 HVC.out (PT.cells_length _) (one_pt _) (one_ptL _) HNC.out)
        have HP6 := Lib.hid (fun (W1 W4 : World) (h1 : Below w4.heap.size w4 W1) (ho : Only (· ∈ blkOf X.cA) W1 W4) => (hIM.out.2.2.2.2.1.below h1 hbb).only ho hbc)
        have HY6 := Lib.hid (show cur[o + 6]? = some (.slice X.cA X.kids.length X.cc) from by rw [← hIM.out.2.2.2.2.1.cell]; exact hIM.out.2.2.2.2.2.2.2.2.2.1 6 (by omega))
        clear hcA hbc
        go_region_with (go_at_call 54; refine HIT.out.mono ?_; rintro e W4 ⟨C', cc', rfl, hrow4, ho4, hC4⟩; have hbl4 := HP6.out _ _ HBW.out ho4; have y6' : W4.cell? ⟨b, o + 6, none⟩ = some (.slice X.cA X.kids.length X.cc) := (by rw [hbl4.cell]; exact HY6.out); have z6' : W4.frozen? ⟨b, o + 6, none⟩ = false := hbl4.frozen _; clear hbl4)
        all_goals
          refine q_at (fun W5 => ∃ T' : PT, OwnedT 9 29 W5 b0 T' ∧ (∀ r ∈ T'.own, r ∈ T.own ∨ w.heap.size ≤ r) ∧ JT.pat 3 (JT.leaf v) T.tree (q ++ [s]) = some T'.tree ∧ Only (· ∈ b0 :: T.own) w W5) ?_ ?_
          · obtain ⟨T', r1, r2, r3, r4⟩ := ins3_mk hv hIM.out.2.2.2.1 HX.out.1 HX.out.2.1 hIM.out.2.2.2.2.2.2.2.2.2.1 hIM.out.1 hIM.out.2.1 hIM.out.2.2.1 hIM.out.2.2.2.2.1 HBW.out hrow4 ho4 hC4
            have h04 := hIM.out.2.2.2.2.2.2.2.2.2.2
            refine ⟨T', r1, fun r hr => ?_, r3, (Only.of_below h04).trans r4⟩
            rcases r2 r hr with h | h
            · exact .inl h
            · have := h04.size; exact .inr (by omega)
          clear hrow4 ho4 hC4 y6' z6' y6 k0 k1 k2 k3 k4 k5 k6 hbw3 hkw3
          rintro W5 ⟨T', hO5, hown5, hpat5, ho5⟩
          have HT := Lib.hid (And.intro hO5 (And.intro hown5 (And.intro hpat5 ho5)))
          have t0 : W5.cell? ⟨b0, 0, none⟩ = some (.int .i64 T'.val.k) := hO5.root.cell 0
          have t1 : W5.cell? ⟨b0, 1, none⟩ = some (.int .i64 T'.val.n) := hO5.root.cell 1
          have t2 : W5.cell? ⟨b0, 2, none⟩ = some (.string T'.val.s) := hO5.root.cell 2
          have t3 : W5.cell? ⟨b0, 3, none⟩ = some (.int .i64 T'.val.o) := hO5.root.cell 3
          have t4 : W5.cell? ⟨b0, 4, none⟩ = some (.int .i64 T'.val.p) := hO5.root.cell 4
          have t5 : W5.cell? ⟨b0, 5, none⟩ = some (.slice T'.kA T'.keys.length T'.kc) := hO5.root.cell 5
          have t6 : W5.cell? ⟨b0, 6, none⟩ = some (.slice T'.cA T'.kids.length T'.cc) := hO5.root.cell 6
          have hb05 : b0 < W5.heap.size := hO5.root.lt
          clear hO5 hown5 hpat5 ho5
          go_wp2_with fail
          clear t0 t1 t2 t3 t4 t5 t6
          have ha5 : Below W5.heap.size W5 (W5.alloc (.cells #[.int .i64 400] 3)) := (Below.refl _ _).alloc (Nat.le_refl _) _
          refine (count_any W5.heap.size T' W5 HT.out.1.own.inJ (Nat.le_refl _) 400 _ ha5 (Blk.new _ _ _) (by decide) (by decide)).mono ?_
          have HA5 := Lib.hid ha5
          clear ha5
          rintro e W6 ⟨r, rfl, ho6, hr⟩
          have hlow : ∀ x ∈ b0 :: T'.own, x ≠ W5.heap.size := fun x hx e => by
            rcases List.mem_cons.1 hx with h | h
            · omega
            · have := HT.out.1.own.lt x h; omega
          have o56 : Only (· = W5.heap.size) W5 W6 := (Only.of_below HA5.out).trans ho6
          have hO6 : OwnedT 9 29 W6 b0 T' := ⟨HT.out.1.root.only o56 (fun e => hlow b0 (by simp) e), HT.out.1.own.only o56 (fun x hx e => hlow x (by simp [hx]) e), HT.out.1.nd⟩
          have o06 : Only (· ∈ b0 :: T.own) w W6 := by
            refine ⟨o56.os.trans HT.out.2.2.2.os, o56.tape.trans HT.out.2.2.2.tape, o56.output.trans HT.out.2.2.2.output, Nat.le_trans HT.out.2.2.2.size o56.size, fun k hk hn => ?_⟩
            have h5 := HT.out.2.2.2.size
            rw [o56.block k (by omega) (by omega)]
            exact HT.out.2.2.2.block k hk hn
          have hpr : patR 3 v T.tree (q ++ [s]) = if T'.tree.size ≤ 400 then .ok T'.tree else .error 4 := by
            unfold patR
            rw [if_neg (by rw [HH.out.2.2.2.2.2.1, HH.out.2.2.2.2.2.2]; simp), if_neg (by simp), HT.out.2.2.1]
          rcases hr with ⟨rfl, hle, _⟩ | ⟨rfl, hle⟩
          · have HE := Lib.hid (And.intro (show patR 3 v T.tree (q ++ [s]) = .ok T'.tree from by rw [hpr, if_pos (by omega)]) (And.intro hO6 o06))
            clear hle hpr hO6 o06 o56 ho6 hlow
            go_wp2_with fail
            go_ret
            exact ⟨HE.out.2.2, by rw [HE.out.1]; exact ⟨T', rfl, rfl, HE.out.2.1, HT.out.2.1⟩⟩
          · have HE := Lib.hid (And.intro (show patR 3 v T.tree (q ++ [s]) = .error 4 from by rw [hpr, if_neg (by omega)]) o06)
            clear hle hpr hO6 o06 o56 ho6 hlow
            go_wp2_with fail
            go_ret
            exact ⟨HE.out.2, by rw [HE.out.1]; rfl⟩
    · have HE := Lib.hid (show patR 3 v T.tree (q ++ [s]) = .error 6 from by
        unfold patR
        rw [if_neg (by rw [HH.out.2.2.2.2.2.1, HH.out.2.2.2.2.2.2]; simp), if_neg (by simp), hn 3 (JT.leaf v) [s] (by simp)])
      clear hn
      go_wp2_with fail
      go_ret
      exact ⟨Only.of_below HD.out.1, by rw [HE.out]; rfl⟩
end Go.Proofs.YtbfmdpgghknccaaDoor
namespace Go.Proofs.YtbfmdpgghknccaaDoor
open Go.RowKit
set_option linter.unusedVariables false
set_option linter.unusedSimpArgs false

set_option maxRecDepth 100000 in
set_option maxHeartbeats 2000000 in
/-- A patch that may not be. -/
theorem patch_bad (b0 : Nat) (A : Option Addr) (n c : Nat) (kind : Int) (v : JV) (hv : v.Fit) (p : List St) (hn : p.length = n) (w : World) (hA : SlAt w A (stCells p)) (hl : p.length ≤ maxLen) (h : kind < 1 ∨ 3 < kind ∨ (JT.leaf v).formed = false ∨ p.any longB = true) :
    Calls Tryd.prog 24 #[.pointer (some ⟨b0, 0, none⟩), patchV kind A n c v] w fun e w' => e = .returned (errV 1) ∧ Below w.heap.size w w' := by
  subst hn
  have hfm : ∀ w1, Calls Tryd.prog 46 #[(PT.bare v).value] w1 (BoolIs w1 (JT.leaf v).formed) := fun w1 => by
    rw [← PT.bare_tree]
    exact form_any _ w1 (PT.bare_in w1 hv) w1 (Below.refl _ _)
  have HF := Lib.hid hfm
  have HA := Lib.hid (fun w1 (h1 : Below w.heap.size w w1) => any_steps A c p w1 (hA.below h1) hl)
  obtain ⟨r1, hr1⟩ : ∃ r, (JT.leaf v).formed = r := ⟨_, rfl⟩
  obtain ⟨r2, hr2⟩ : ∃ r, p.any longB = r := ⟨_, rfl⟩
  rw [hr1] at HF h
  rw [hr2] at HA h
  clear hfm hA hl hr1 hr2
  unfold patchV
  by_cases k1 : kind < 1
  · clear h
    go_enter Tryd.func24, Tryd.ntmps24
    go_wp2_with fail
    go_ret
    exact ⟨rfl, (Below.refl _ _).alloc (Nat.le_refl _) _⟩
  by_cases k3 : 3 < kind
  · clear h
    go_enter Tryd.func24, Tryd.ntmps24
    go_wp2_with fail
    go_ret
    exact ⟨rfl, (Below.refl _ _).alloc (Nat.le_refl _) _⟩
  cases r1
  · clear h
    go_enter Tryd.func24, Tryd.ntmps24
    go_wp2_with fail
    refine (HF.out _).mono ?_
    rintro e w1 ⟨rfl, hb1⟩
    go_wp2_with fail
    go_ret
    exact ⟨rfl, ((Below.refl _ _).alloc (Nat.le_refl _) _).trans (hb1.mono (by simp))⟩
  · obtain rfl : r2 = true := by
      rcases h with h | h | h | h
      · exact absurd h k1
      · exact absurd h k3
      · cases h
      · exact h
    go_enter Tryd.func24, Tryd.ntmps24
    go_wp2_with fail
    refine (HF.out _).mono ?_
    rintro e w1 ⟨rfl, hb1⟩
    have hB1 := (Blk.new w _ _).below hb1 (by simp)
    have hb2 : Below w.heap.size w w1 := ((Below.refl _ _).alloc (Nat.le_refl _) _).trans (hb1.mono (by simp))
    have c1 : w1.cell? ⟨w.heap.size, 1, none⟩ = some (.slice A p.length c) := hB1.cell 1
    have HB := Lib.hid hb2
    clear hB1 hb1 hb2
    go_wp2_with fail
    refine (HA.out _ HB.out).mono ?_
    rintro e w2 ⟨rfl, hb2⟩
    go_wp2_with fail
    go_ret
    exact ⟨rfl, HB.out.trans (hb2.mono HB.out.size)⟩

theorem patch_any (b0 : Nat) (T : PT) (A : Option Addr) (c : Nat) (kind : Int) (v : JV) (hv : v.Fit) (p : List St) (w : World) (hO : OwnedT 9 29 w b0 T) (hf : T.tree.formed = true) (hs : T.tree.size ≤ 400) (hA : SlAt w A (stCells p)) (hl : p.length ≤ maxLen) (hcap : p.length ≤ c) :
    Calls Tryd.prog 24 #[.pointer (some ⟨b0, 0, none⟩), patchV kind A p.length c v] w (PatchQ w T b0 (patR kind v T.tree p)) := by
  by_cases h : kind < 1 ∨ 3 < kind ∨ (JT.leaf v).formed = false ∨ p.any longB = true
  · refine (patch_bad b0 A p.length c kind v hv p rfl w hA hl h).mono ?_
    rintro e w' ⟨rfl, hb⟩
    refine ⟨Only.of_below hb, ?_⟩
    have : patR kind v T.tree p = .error 1 := by
      unfold patR
      rw [if_pos h]
    rw [this]
  · have h1 : (JT.leaf v).formed = true := by
      cases hx : (JT.leaf v).formed with
      | true => rfl
      | false => exact absurd (.inr (.inr (.inl hx))) h
    have h2 : p.any longB = false := by
      cases hx : p.any longB with
      | false => rfl
      | true => exact absurd (.inr (.inr (.inr hx))) h
    have hk3 : kind = 1 ∨ kind = 2 ∨ kind = 3 := by
      by_cases a : kind < 1
      · exact absurd (.inl a) h
      · by_cases b : 3 < kind
        · exact absurd (.inr (.inl b)) h
        · omega
    rcases hk3 with rfl | rfl | rfl
    · exact patch_set b0 T A c v hv p w hO hf hs hA hl hcap h1 h2
    · exact patch_gone b0 T A c v hv p w hO hf hs hA hl hcap h1 h2
    · exact patch_insert b0 T A c v hv p w hO hf hs hA hl hcap h1 h2
end Go.Proofs.YtbfmdpgghknccaaDoor
namespace Go.Proofs.YtbfmdpgghknccaaDoor
set_option linter.unusedVariables false
set_option linter.unusedSimpArgs false

theorem delAt_sub {α : Type} (l : List α) (i : Nat) : (delAt l i).Sublist l := by
  unfold delAt
  conv => rhs; rw [← List.take_append_drop i l]
  refine List.Sublist.append (List.Sublist.refl _) ?_
  rw [← List.drop_drop]
  exact List.drop_sublist _ _
theorem delAt_len' {α : Type} {l : List α} {i : Nat} (h : i < l.length) : (delAt l i).length = l.length - 1 := by
  unfold delAt
  rw [List.length_append, List.length_take, List.length_drop]
  omega
theorem JT.formed_del {t : JT} {s : St} {i : Nat} (h : t.formed = true) (hi : t.idx s = some i) : (JT.node t.val (if s.key.toList.isEmpty then t.keys else delAt t.keys i) (delAt t.kids i)).formed = true := by
  have htop := ((JT.formed_iff t).1 h).1
  have hlt := JT.idx_lt hi htop
  rw [JT.formed_iff] at h ⊢
  obtain ⟨h1, h2⟩ := h
  refine ⟨?_, fun k hk => h2 k ((delAt_sub t.kids i).subset hk)⟩
  unfold JT.idx idxO at hi
  rw [JT.top_node]
  unfold JT.top at h1
  split at hi
  · rename_i hm
    have hm' := hm
    unfold isMapStep at hm'
    simp at hm'
    have h5 := hm'.1.1
    have hne : s.key.toList.isEmpty = false := by simpa using hm'.1.2
    rw [if_pos h5] at h1
    rw [if_pos h5, hne]
    simp only [Bool.and_eq_true, beq_iff_eq] at h1 ⊢
    obtain ⟨g1, g2, g3⟩ := h1
    obtain ⟨k1, k2⟩ := (keysOk_iff _).1 g3
    refine ⟨g1, ?_, (keysOk_iff _).2 ⟨fun k hk => k1 k ((delAt_sub t.keys i).subset hk), k2.sublist (delAt_sub t.keys i)⟩⟩
    rw [if_neg (by decide), delAt_len' hlt, delAt_len' (by omega), g2]
  · split at hi
    · rename_i hm
      have hm' := hm
      unfold isListStep at hm'
      simp at hm'
      have h6 : t.val.k = 6 := hm'.1.1.1
      have he : s.key.toList.isEmpty = true := by simp [hm'.1.1.2]
      have h5 : ¬ t.val.k = 5 := by rw [h6]; decide
      rw [if_neg h5, if_pos h6] at h1
      rw [if_neg h5, if_pos h6, he]
      exact h1
    · cases hi
theorem JT.formed_insl {t x : JT} {s : St} (h : t.formed = true) (hx : x.formed = true) (hm : isListStep t.val s t.kids.length = true) : (JT.node t.val t.keys (insAt t.kids s.at_.toNat x)).formed = true := by
  rw [JT.formed_iff] at h ⊢
  obtain ⟨h1, h2⟩ := h
  have hm' := hm
  unfold isListStep at hm'
  simp at hm'
  have h6 : t.val.k = 6 := hm'.1.1.1
  have h5 : ¬ t.val.k = 5 := by rw [h6]; decide
  refine ⟨?_, fun k hk => ?_⟩
  · rw [JT.top_node]
    unfold JT.top at h1
    rw [if_neg h5, if_pos h6] at h1
    rw [if_neg h5, if_pos h6]
    exact h1
  · rcases insAt_mem hk with rfl | hk
    · exact hx
    · exact h2 k hk

theorem JT.pat_formed {kind : Int} {x : JT} (hx : x.formed = true) : ∀ (p : List St) (t u : JT), t.formed = true → (∀ s ∈ p, s.key.size ≤ 20) → JT.pat kind x t p = some u → u.formed = true := by
  intro p
  induction p with
  | nil => intro t u _ _ h; simp [JT.pat] at h
  | cons s p ih =>
    intro t u hf hs h
    cases p with
    | nil =>
      by_cases k1 : kind = 1
      · subst k1
        exact (JT.pat_set hx [s] t u hf hs h).1
      simp only [JT.pat] at h
      unfold JT.pat1 at h
      rw [if_neg k1] at h
      split at h
      · cases hi : t.idx s with
        | some i =>
          rw [hi] at h
          simp only at h
          injection h with h
          subst h
          exact JT.formed_del hf hi
        | none => rw [hi] at h; cases h
      · split at h
        · split at h
          · rename_i hm
            injection h with h
            subst h
            exact JT.formed_insl hf hx hm
          · cases h
        · cases h
    | cons r p =>
      simp only [JT.pat] at h
      have hkids := ((JT.formed_iff t).1 hf).2
      cases hi : t.idx s with
      | none => rw [hi] at h; cases h
      | some i =>
        rw [hi] at h
        simp only at h
        cases hk : t.kids[i]? with
        | none => rw [hk] at h; cases h
        | some k =>
          rw [hk] at h
          simp only at h
          cases hk' : JT.pat kind x k (r :: p) with
          | none => rw [hk'] at h; cases h
          | some k' =>
            rw [hk'] at h
            simp only at h
            injection h with h
            subst h
            exact JT.formed_setKid hf (ih k k' (hkids k (List.mem_of_getElem? hk)) (fun q hq => hs q (List.mem_cons_of_mem _ hq)) hk')
end Go.Proofs.YtbfmdpgghknccaaDoor
namespace Go.Proofs.YtbfmdpgghknccaaDoor
open Go.RowKit
set_option linter.unusedVariables false
set_option linter.unusedSimpArgs false

/-- A patch, as it lies. -/
structure Pa where
  kind : Int
  v : JV
  p : List St
  A : Option Addr
  c : Nat
/-- The cells of a patch. -/
def Pa.cells (x : Pa) : List Value := [.int .i64 x.kind, .slice x.A x.p.length x.c, .int .i64 x.v.k, .int .i64 x.v.n, .string x.v.s, .int .i64 x.v.o, .int .i64 x.v.p]
def paCells (l : List Pa) : List Value := l.flatMap Pa.cells
structure Pa.Ok (w : World) (x : Pa) : Prop where
  fit : x.v.Fit
  path : SlAt w x.A (stCells x.p)
  len : x.p.length ≤ maxLen
  cap : x.p.length ≤ x.c
theorem Pa.Ok.below {w w' : World} {x : Pa} (h : x.Ok w) (hb : Below w.heap.size w w') : x.Ok w' := ⟨h.fit, h.path.below hb, h.len, h.cap⟩
theorem paCells_at (l : List Pa) : ∀ (k : Nat) (x : Pa), l[k]? = some x → ∀ j, j < 7 → (paCells l)[k * 7 + j]? = x.cells[j]? := by
  induction l with
  | nil => intro k x h; simp at h
  | cons y l ih =>
    intro k x h j hj
    have hy : y.cells.length = 7 := rfl
    show (y.cells ++ paCells l)[k * 7 + j]? = _
    cases k with
    | zero =>
      simp at h
      subst h
      rw [List.getElem?_append_left (by omega)]
      congr 1
      omega
    | succ k =>
      rw [List.getElem?_append_right (by omega), ← ih k x (by simpa using h) j hj]
      congr 1
      omega
/-- What patches make of a tree, one after the other: or the first fault. -/
def appR (t : JT) : List Pa → Except Int JT
  | [] => .ok t
  | x :: l => match patR x.kind x.v t x.p with
    | .error n => .error n
    | .ok u => appR u l
theorem appR_snoc (l : List Pa) (x : Pa) : ∀ (t u : JT), appR t l = .ok u → appR t (l ++ [x]) = patR x.kind x.v u x.p := by
  induction l with
  | nil =>
    intro t u h
    injection h with h
    subst h
    show appR t [x] = _
    unfold appR
    cases patR x.kind x.v t x.p <;> rfl
  | cons y l ih =>
    intro t u h
    show appR t (y :: (l ++ [x])) = _
    unfold appR at h ⊢
    cases hy : patR y.kind y.v t y.p with
    | error n => rw [hy] at h; cases h
    | ok u' =>
      rw [hy] at h
      simp only at h ⊢
      exact ih u' u h
theorem appR_err (l m : List Pa) {n : Int} : ∀ (t : JT), appR t l = .error n → appR t (l ++ m) = .error n := by
  induction l with
  | nil => intro t h; cases h
  | cons y l ih =>
    intro t h
    show appR t (y :: (l ++ m)) = _
    unfold appR at h ⊢
    cases hy : patR y.kind y.v t y.p with
    | error k => rw [hy] at h; exact h
    | ok u' =>
      rw [hy] at h
      simp only at h ⊢
      exact ih u' h
theorem patR_ok {kind : Int} {v : JV} {t u : JT} {p : List St} (hf : t.formed = true) (h : patR kind v t p = .ok u) : u.formed = true ∧ u.size ≤ 400 := by
  unfold patR at h
  split at h
  · cases h
  · rename_i hc
    split at h
    · cases h
    · split at h
      · cases h
      · rename_i u' hp
        split at h
        · rename_i hs
          injection h with h
          subst h
          refine ⟨JT.pat_formed (x := JT.leaf v) ?_ p t u' hf ?_ hp, hs⟩
          · cases hx : (JT.leaf v).formed with
            | true => rfl
            | false => exact absurd (.inr (.inr (.inl hx))) hc
          · intro s hs
            have hl : p.any longB = false := by
              cases hx : p.any longB with
              | false => rfl
              | true => exact absurd (.inr (.inr (.inr hx))) hc
            have := List.any_eq_false.1 hl s hs
            unfold longB at this
            simp at this
            omega
        · cases h
theorem appR_ok (l : List Pa) : ∀ (t u : JT), t.formed = true → t.size ≤ 400 → appR t l = .ok u → u.formed = true ∧ u.size ≤ 400 := by
  induction l with
  | nil =>
    intro t u hf hs h
    injection h with h
    subst h
    exact ⟨hf, hs⟩
  | cons y l ih =>
    intro t u hf hs h
    unfold appR at h
    cases hy : patR y.kind y.v t y.p with
    | error k => rw [hy] at h; cases h
    | ok u' =>
      rw [hy] at h
      obtain ⟨g1, g2⟩ := patR_ok hf hy
      exact ih u' u g1 g2 h

/-- What Apply's loop holds. -/
structure ApplyInv (w : World) (T : PT) (l : List Pa) (k : Nat) (S : PT) (wr : World) : Prop where
  le : k ≤ l.length
  own : OwnedT 9 29 wr w.heap.size S
  low : ∀ r ∈ S.own, w.heap.size + 2 ≤ r
  res : Blk wr (w.heap.size + 1) 29 #[.int .i64 0, .int .i64 0, .string ⟨#[]⟩, .int .i64 0, .int .i64 0, .slice none 0 0, .slice none 0 0]
  bel : Below w.heap.size w wr
  done : appR T.tree (l.take k) = .ok S.tree
/-- What Apply gives. -/
def ApplyQ (w : World) (T : PT) (r : Except Int JT) (e : Ending) (w' : World) : Prop :=
  Below w.heap.size w w' ∧ ((checkV T.tree ≠ .nilIface ∧ e = .returned (.tuple #[zTree, checkV T.tree])) ∨
    (checkV T.tree = .nilIface ∧ match r with
      | .error n => e = .returned (.tuple #[zTree, errV n])
      | .ok u => ∃ T' : PT, T'.tree = u ∧ e = .returned (.tuple #[T'.value, .nilIface]) ∧ OwnJ 9 29 w' T' ∧ T'.own.Nodup ∧ ∀ b ∈ T'.own, w.heap.size ≤ b))

set_option maxRecDepth 100000 in
set_option maxHeartbeats 4000000 in
theorem apply_any (T : PT) (B : Option Addr) (d : Nat) (l : List Pa) (w : World) (hT : InJ w T) (hB : SlAt w B (paCells l)) (hok : ∀ x ∈ l, x.Ok w) (hll : l.length ≤ maxLen) :
    Calls Tryd.prog 6 #[T.value, .slice B l.length d] w (ApplyQ w T (appR T.tree l)) := by
  have HC := Lib.hid (fun (w1 : World) (h1 : Below w.heap.size w w1) => check_any T w w1 hT h1)
  have HCL := Lib.hid (fun (w1 : World) (h1 : Below w.heap.size w w1) (h2 : T.tree.formed = true) (h3 : T.tree.size ≤ 400) => clone_any T w hT h2 h3 w1 h1)
  have HH := Lib.hid (And.intro hT (And.intro hB hok))
  have hl9 : l.length ≤ 9223372036854775807 := Nat.le_trans hll (by decide)
  clear hT hB hok hll
  unfold PT.value PT.cells JV.cells
  go_enter Tryd.func6, Tryd.ntmps6
  go_wp2_with fail
  have hA1 := ((Below.refl w.heap.size w).alloc (Nat.le_refl _) (.cells T.cells.toArray 29)).alloc (by simp) (.cells #[.int .i64 0, .int .i64 0, .string ⟨#[]⟩, .int .i64 0, .int .i64 0, .slice none 0 0, .slice none 0 0] 29)
  refine (HC.out _ hA1).mono ?_
  clear hA1
  rintro e w1 ⟨rfl, hb1⟩
  obtain ⟨hb, hB, hR, hs⟩ := boxes2 hb1
  have H1 := Lib.hid (And.intro hb (And.intro hB hR))
  clear hb1 hb hB hR HC
  have hcv := checkV_cases T.tree
  obtain ⟨cv, hcv'⟩ : ∃ cv, checkV T.tree = cv := ⟨_, rfl⟩
  rw [hcv'] at hcv ⊢
  have HV := Lib.hid hcv'
  clear hcv'
  rcases hcv with rfl | ⟨n, rfl⟩
  · have q0 : w1.cell? ⟨w.heap.size, 0, none⟩ = some (.int .i64 T.val.k) := H1.out.2.1.cell 0
    have q1 : w1.cell? ⟨w.heap.size, 1, none⟩ = some (.int .i64 T.val.n) := H1.out.2.1.cell 1
    have q2 : w1.cell? ⟨w.heap.size, 2, none⟩ = some (.string T.val.s) := H1.out.2.1.cell 2
    have q3 : w1.cell? ⟨w.heap.size, 3, none⟩ = some (.int .i64 T.val.o) := H1.out.2.1.cell 3
    have q4 : w1.cell? ⟨w.heap.size, 4, none⟩ = some (.int .i64 T.val.p) := H1.out.2.1.cell 4
    have q5 : w1.cell? ⟨w.heap.size, 5, none⟩ = some (.slice T.kA T.keys.length T.kc) := H1.out.2.1.cell 5
    have q6 : w1.cell? ⟨w.heap.size, 6, none⟩ = some (.slice T.cA T.kids.length T.cc) := H1.out.2.1.cell 6
    go_wp2_with fail
    obtain ⟨hfm, hsz⟩ := checkV_ok HV.out
    have HFS := Lib.hid (And.intro hfm hsz)
    refine (HCL.out _ H1.out.1 hfm hsz).mono ?_
    clear hfm hsz q0 q1 q2 q3 q4 q5 q6
    rintro e w2 ⟨T1, rfl, hb2, ho2, hn2, hl2, ht2⟩
    have hB2 := H1.out.2.1.below hb2 H1.out.2.1.lt
    have hR2 := H1.out.2.2.below hb2 H1.out.2.2.lt
    have hbb := H1.out.1.trans (hb2.mono H1.out.1.size)
    have hl2' : ∀ b ∈ T1.own, w.heap.size + 2 ≤ b := fun b hb => Nat.le_trans hs (hl2 b hb)
    have H2 := Lib.hid (And.intro hB2 (And.intro hR2 (And.intro hbb (And.intro ho2 (And.intro hn2 (And.intro hl2' ht2))))))
    have zb := hB2.frozen
    have q0 : w2.cell? ⟨w.heap.size, 0, none⟩ = some (.int .i64 T.val.k) := hB2.cell 0
    have q1 : w2.cell? ⟨w.heap.size, 1, none⟩ = some (.int .i64 T.val.n) := hB2.cell 1
    have q2 : w2.cell? ⟨w.heap.size, 2, none⟩ = some (.string T.val.s) := hB2.cell 2
    have q3 : w2.cell? ⟨w.heap.size, 3, none⟩ = some (.int .i64 T.val.o) := hB2.cell 3
    have q4 : w2.cell? ⟨w.heap.size, 4, none⟩ = some (.int .i64 T.val.p) := hB2.cell 4
    have q5 : w2.cell? ⟨w.heap.size, 5, none⟩ = some (.slice T.kA T.keys.length T.kc) := hB2.cell 5
    have q6 : w2.cell? ⟨w.heap.size, 6, none⟩ = some (.slice T.cA T.kids.length T.cc) := hB2.cell 6
    clear hB2 hR2 hbb ho2 hn2 hl2 hl2' ht2 hb2
    rw [PT.value_eq]
    go_wp2_with fail
    clear q0 q1 q2 q3 q4 q5 q6 zb
    go_loopw [20] (fun iv wr => ∃ (k : Nat) (S : PT), iv = .int .i64 k ∧ ApplyInv w T l k S wr) (fun iv _ => l.length - (intOf iv).toNat)
    case atStart =>
      have ho := only7 w2 w.heap.size (.int .i64 T1.val.k) (.int .i64 T1.val.n) (.string T1.val.s) (.int .i64 T1.val.o) (.int .i64 T1.val.p) (.slice T1.kA T1.keys.length T1.kc) (.slice T1.cA T1.kids.length T1.cc) 0 1 2 3 4 5 6
      refine ⟨0, T1, rfl, Nat.zero_le _, ⟨blk7 _ _ _ _ _ _ _ H2.out.1, H2.out.2.2.2.1.only ho ?_, List.nodup_cons.2 ⟨?_, H2.out.2.2.2.2.1⟩⟩, H2.out.2.2.2.2.2.1, H2.out.2.1.only ho (by show w.heap.size + 1 ≠ w.heap.size; omega), H2.out.2.2.1.trans (ho.below H2.out.2.2.1.size (fun q hq e => by omega)), by rw [H2.out.2.2.2.2.2.2]; rfl⟩
      · intro r hr e
        have := H2.out.2.2.2.2.2.1 r hr
        omega
      · intro hm
        have := H2.out.2.2.2.2.2.1 _ hm
        omega
    case round =>
      obtain ⟨k, S, rfl, hI⟩ := hrel
      have HI := Lib.hid hI
      by_cases hk : k < l.length
      · have hki : (k : Int) < (l.length : Int) := by omega
        obtain ⟨x, hx⟩ : ∃ x, l[k]? = some x := ⟨_, List.getElem?_eq_getElem hk⟩
        have hxm := List.mem_of_getElem? hx
        have hxo := (HH.out.2.2 x hxm).below hI.bel
        obtain ⟨bb, ob, hBe, hBc⟩ : ∃ b o, B = some ⟨b, o, none⟩ ∧ ∀ j u, (paCells l)[j]? = some u → w.cell? ⟨b, o + j, none⟩ = some u := by
          rcases HH.out.2.1 with h | h
          · have := paCells_at l k x hx 0 (by omega)
            rw [h] at this
            cases this
          · exact h
        have hbe : ∀ j u, j < 7 → x.cells[j]? = some u → wr.cell? ⟨bb, ob + (k * 7 + j), none⟩ = some u := fun j u hj hu => cell_below (hI.bel) (hBc _ u (by rw [paCells_at l k x hx j hj]; exact hu))
        have e0 : wr.cell? ⟨bb, ob + k * 7, none⟩ = some (.int .i64 x.kind) := hbe 0 _ (by omega) rfl
        have e1 : wr.cell? ⟨bb, ob + k * 7 + 1, none⟩ = some (.slice x.A x.p.length x.c) := hbe 1 _ (by omega) rfl
        have e2 : wr.cell? ⟨bb, ob + k * 7 + 2, none⟩ = some (.int .i64 x.v.k) := hbe 2 _ (by omega) rfl
        have e3 : wr.cell? ⟨bb, ob + k * 7 + 3, none⟩ = some (.int .i64 x.v.n) := hbe 3 _ (by omega) rfl
        have e4 : wr.cell? ⟨bb, ob + k * 7 + 4, none⟩ = some (.string x.v.s) := hbe 4 _ (by omega) rfl
        have e5 : wr.cell? ⟨bb, ob + k * 7 + 5, none⟩ = some (.int .i64 x.v.o) := hbe 5 _ (by omega) rfl
        have e6 : wr.cell? ⟨bb, ob + k * 7 + 6, none⟩ = some (.int .i64 x.v.p) := hbe 6 _ (by omega) rfl
        obtain ⟨hSf, hSs⟩ := appR_ok (l.take k) T.tree S.tree HFS.out.1 HFS.out.2 hI.done
        have hba : Below wr.heap.size wr (wr.alloc (.cells x.cells.toArray 67)) := (Below.refl _ _).alloc (Nat.le_refl _) _
        have HP := Lib.hid (patch_any w.heap.size S x.A x.c x.kind x.v hxo.fit x.p (wr.alloc (.cells x.cells.toArray 67)) (hI.own.below hba) hSf hSs (hxo.path.below hba) hxo.len hxo.cap)
        have HBA := Lib.hid (And.intro hba (And.intro hx (And.intro hk hBe)))
        subst hBe
        clear hI hbe hba hSf hSs hxm hxo hx hBc
        go_wp2_with fail
        refine HP.out.mono ?_
        rintro e w4 ⟨ho4, hq⟩
        have hs4 := HBA.out.1.size
        have hrs := HI.out.res
        have o4 : Only (· ∈ w.heap.size :: S.own) wr w4 := (Only.of_below HBA.out.1).trans ho4
        have hres4 : Blk w4 (w.heap.size + 1) 29 #[.int .i64 0, .int .i64 0, .string ⟨#[]⟩, .int .i64 0, .int .i64 0, .slice none 0 0, .slice none 0 0] := HI.out.res.only o4 (fun h => by
          rcases List.mem_cons.1 h with h | h
          · omega
          · have := HI.out.low _ h; omega)
        have hb4 : Below w.heap.size w w4 := HI.out.bel.trans (o4.below HI.out.bel.size (fun q hq h => by
          rcases List.mem_cons.1 h with h | h
          · omega
          · have := HI.out.low _ h; omega))
        have H4 := Lib.hid (And.intro hres4 hb4)
        clear o4 ho4 hres4 hb4 hrs e0 e1 e2 e3 e4 e5 e6
        have hsn : appR T.tree (l.take (k + 1)) = patR x.kind x.v S.tree x.p := by
          rw [List.take_add_one, HBA.out.2.1]
          exact appR_snoc _ _ _ _ HI.out.done
        cases hr : patR x.kind x.v S.tree x.p with
        | error n =>
          rw [hr] at hq
          simp only at hq
          subst hq
          have HE := Lib.hid (show appR T.tree l = .error n from by rw [← List.take_append_drop (k + 1) l]; exact appR_err _ _ _ (hsn.trans hr))
          clear hr hsn
          have r0 : w4.cell? ⟨w.heap.size + 1, 0, none⟩ = some (.int .i64 0) := H4.out.1.cell 0
          have r1 : w4.cell? ⟨w.heap.size + 1, 1, none⟩ = some (.int .i64 0) := H4.out.1.cell 1
          have r2 : w4.cell? ⟨w.heap.size + 1, 2, none⟩ = some (.string ⟨#[]⟩) := H4.out.1.cell 2
          have r3 : w4.cell? ⟨w.heap.size + 1, 3, none⟩ = some (.int .i64 0) := H4.out.1.cell 3
          have r4 : w4.cell? ⟨w.heap.size + 1, 4, none⟩ = some (.int .i64 0) := H4.out.1.cell 4
          have r5 : w4.cell? ⟨w.heap.size + 1, 5, none⟩ = some (.slice none 0 0) := H4.out.1.cell 5
          have r6 : w4.cell? ⟨w.heap.size + 1, 6, none⟩ = some (.slice none 0 0) := H4.out.1.cell 6
          have zr := H4.out.1.frozen
          unfold errV
          go_wp2_with fail
          clear r0 r1 r2 r3 r4 r5 r6
          refine bodyPost_ret (results_row_tmp Tryd.results6 _ _ (w.heap.size + 1) _ _ _ rfl (blk7 _ _ _ _ _ _ _ H4.out.1) Tryd.underlying29 rfl (by kernel_rfl)) rfl ?_
          refine ⟨H4.out.2.trans ((only7 w4 (w.heap.size + 1) _ _ _ _ _ _ _ _ _ _ _ _ _ _).below H4.out.2.size (fun q hq e => by omega)), .inr ⟨HV.out, by rw [HE.out]; rfl⟩⟩
        | ok u =>
          rw [hr] at hq
          simp only at hq
          obtain ⟨S', rfl, hS', hO', hlow'⟩ := hq
          have HE := Lib.hid (And.intro (show appR T.tree (l.take (k + 1)) = .ok S'.tree from by rw [hsn, hr, hS']) (And.intro hS' (And.intro hO' hlow')))
          clear hr hS' hO' hlow' hsn
          go_wp2_with fail
          go_roundw
          case rel =>
            refine ⟨k + 1, S', by go_num, HBA.out.2.2.1, HE.out.2.2.1, fun r hr => ?_, H4.out.1, H4.out.2, HE.out.1⟩
            rcases HE.out.2.2.2 r hr with h | h
            · exact HI.out.low r h
            · have h1 := hs4
              have h2 := HI.out.res.lt
              omega
          case measure => simp [intOf] <;> omega
      · have hki : ¬ (k : Int) < (l.length : Int) := by omega
        have hk1 : k = l.length := by have := hI.le; omega
        have HK1 := Lib.hid hk1
        clear hI hk1
        have q0 : wr.cell? ⟨w.heap.size, 0, none⟩ = some (.int .i64 S.val.k) := HI.out.own.root.cell 0
        have q1 : wr.cell? ⟨w.heap.size, 1, none⟩ = some (.int .i64 S.val.n) := HI.out.own.root.cell 1
        have q2 : wr.cell? ⟨w.heap.size, 2, none⟩ = some (.string S.val.s) := HI.out.own.root.cell 2
        have q3 : wr.cell? ⟨w.heap.size, 3, none⟩ = some (.int .i64 S.val.o) := HI.out.own.root.cell 3
        have q4 : wr.cell? ⟨w.heap.size, 4, none⟩ = some (.int .i64 S.val.p) := HI.out.own.root.cell 4
        have q5 : wr.cell? ⟨w.heap.size, 5, none⟩ = some (.slice S.kA S.keys.length S.kc) := HI.out.own.root.cell 5
        have q6 : wr.cell? ⟨w.heap.size, 6, none⟩ = some (.slice S.cA S.kids.length S.cc) := HI.out.own.root.cell 6
        have r0 : wr.cell? ⟨w.heap.size + 1, 0, none⟩ = some (.int .i64 0) := HI.out.res.cell 0
        have r1 : wr.cell? ⟨w.heap.size + 1, 1, none⟩ = some (.int .i64 0) := HI.out.res.cell 1
        have r2 : wr.cell? ⟨w.heap.size + 1, 2, none⟩ = some (.string ⟨#[]⟩) := HI.out.res.cell 2
        have r3 : wr.cell? ⟨w.heap.size + 1, 3, none⟩ = some (.int .i64 0) := HI.out.res.cell 3
        have r4 : wr.cell? ⟨w.heap.size + 1, 4, none⟩ = some (.int .i64 0) := HI.out.res.cell 4
        have r5 : wr.cell? ⟨w.heap.size + 1, 5, none⟩ = some (.slice none 0 0) := HI.out.res.cell 5
        have r6 : wr.cell? ⟨w.heap.size + 1, 6, none⟩ = some (.slice none 0 0) := HI.out.res.cell 6
        have zr := HI.out.res.frozen
        go_wp2_with fail
        clear q0 q1 q2 q3 q4 q5 q6 r0 r1 r2 r3 r4 r5 r6
        refine bodyPost_ret (results_row_tmp Tryd.results6 _ _ (w.heap.size + 1) _ _ _ rfl (blk7 _ _ _ _ _ _ _ HI.out.res) Tryd.underlying29 rfl (by kernel_rfl)) rfl ?_
        have ho := only7 wr (w.heap.size + 1) (.int .i64 S.val.k) (.int .i64 S.val.n) (.string S.val.s) (.int .i64 S.val.o) (.int .i64 S.val.p) (.slice S.kA S.keys.length S.kc) (.slice S.cA S.kids.length S.cc) 0 1 2 3 4 5 6
        refine ⟨HI.out.bel.trans (ho.below HI.out.bel.size (fun q hq e => by omega)), .inr ⟨HV.out, ?_⟩⟩
        have hdn := HI.out.done
        rw [HK1.out, List.take_of_length_le (Nat.le_refl _)] at hdn
        rw [hdn]
        refine ⟨S, rfl, rfl, HI.out.own.own.only ho ?_, (List.nodup_cons.1 HI.out.own.nd).2, ?_⟩
        · intro r hr e
          have := HI.out.low r hr
          omega
        · intro r hr
          have := HI.out.low r hr
          omega
  · have r0 : w1.cell? ⟨w.heap.size + 1, 0, none⟩ = some (.int .i64 0) := H1.out.2.2.cell 0
    have r1 : w1.cell? ⟨w.heap.size + 1, 1, none⟩ = some (.int .i64 0) := H1.out.2.2.cell 1
    have r2 : w1.cell? ⟨w.heap.size + 1, 2, none⟩ = some (.string ⟨#[]⟩) := H1.out.2.2.cell 2
    have r3 : w1.cell? ⟨w.heap.size + 1, 3, none⟩ = some (.int .i64 0) := H1.out.2.2.cell 3
    have r4 : w1.cell? ⟨w.heap.size + 1, 4, none⟩ = some (.int .i64 0) := H1.out.2.2.cell 4
    have r5 : w1.cell? ⟨w.heap.size + 1, 5, none⟩ = some (.slice none 0 0) := H1.out.2.2.cell 5
    have r6 : w1.cell? ⟨w.heap.size + 1, 6, none⟩ = some (.slice none 0 0) := H1.out.2.2.cell 6
    have zr := H1.out.2.2.frozen
    go_wp2_with fail
    clear r0 r1 r2 r3 r4 r5 r6
    refine bodyPost_ret (results_row_tmp Tryd.results6 _ _ (w.heap.size + 1) _ _ _ rfl (blk7 _ _ _ _ _ _ _ H1.out.2.2) Tryd.underlying29 rfl (by kernel_rfl)) rfl ?_
    refine ⟨H1.out.1.trans ((only7 w1 (w.heap.size + 1) _ _ _ _ _ _ _ _ _ _ _ _ _ _).below H1.out.1.size (fun q hq e => by omega)), .inl ⟨by rw [HV.out]; simp, by rw [HV.out]; rfl⟩⟩
end Go.Proofs.YtbfmdpgghknccaaDoor
