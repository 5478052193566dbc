/- Changes, with addresses and without; what is wrong with one. Over no program (but the errors' type). -/
import Derived.Test.YtdenaejhfgmihaaJsonPlain
import Derived.Test.YtdenaejhfgmihaaMapR
import Derived.Test.YtdenaejhfgmihaaProg
namespace Go.Proofs.Ytdenaejhfgmihaa
open Go.RowKit
set_option linter.unusedVariables false
set_option linter.unusedSimpArgs false

/-- An op. -/
structure OpV where
  kind : Int
  obj : Int × Int
  key : ByteArray
  elem : Int × Int
  ins : Bool
  val : JV
  preds : List (Int × Int)
/-- A change. -/
structure Ch where
  actor : Int
  seq : Int
  start : Int
  deps : List (Int × Int)
  ops : List OpV
/-- An op in memory: where its preds stand. -/
structure POp where
  op : OpV
  pA : Option Addr
  pc : Nat
def POp.cells (o : POp) : List Value :=
  [.int .i64 o.op.kind, .int .i64 o.op.obj.1, .int .i64 o.op.obj.2, .string o.op.key, .int .i64 o.op.elem.1, .int .i64 o.op.elem.2, .bool o.op.ins, .int .i64 o.op.val.k, .int .i64 o.op.val.n, .string o.op.val.s, .int .i64 o.op.val.o, .int .i64 o.op.val.p, .slice o.pA o.op.preds.length o.pc]
theorem POp.cells_len (o : POp) : o.cells.length = 13 := rfl
def POp.value (o : POp) : Value := .agg o.cells.toArray
/-- A change in memory. -/
structure PCh where
  actor : Int
  seq : Int
  start : Int
  dA : Option Addr
  dc : Nat
  deps : List (Int × Int)
  oA : Option Addr
  oc : Nat
  ops : List POp
def PCh.ref (c : PCh) : Int × Int := (c.actor, c.seq)
def PCh.ch (c : PCh) : Ch := ⟨c.actor, c.seq, c.start, c.deps, c.ops.map POp.op⟩
def PCh.cells (c : PCh) : List Value := [.int .i64 c.actor, .int .i64 c.seq, .int .i64 c.start, .slice c.dA c.deps.length c.dc, .slice c.oA c.ops.length c.oc]
def PCh.value (c : PCh) : Value := .agg #[.int .i64 c.actor, .int .i64 c.seq, .int .i64 c.start, .slice c.dA c.deps.length c.dc, .slice c.oA c.ops.length c.oc]
def opsCells (l : List POp) : List Value := l.flatMap POp.cells

structure OpV.Fit (o : OpV) : Prop where
  kind : I64 o.kind
  obj : I2 o.obj
  key : o.key.size ≤ maxLen
  elem : I2 o.elem
  val : o.val.Fit
  preds : ∀ p ∈ o.preds, I2 p
  len : o.preds.length ≤ maxLen
/-- A change that stands in memory. -/
structure InC (w : World) (c : PCh) : Prop where
  deps : SlAt w c.dA (refs c.deps)
  ops : SlAt w c.oA (opsCells c.ops)
  preds : ∀ o ∈ c.ops, SlAt w o.pA (refs o.op.preds)
  actor : I64 c.actor
  seq : I64 c.seq
  start : I64 c.start
  dep : ∀ d ∈ c.deps, I2 d
  dlen : c.deps.length ≤ maxLen
  op : ∀ o ∈ c.ops, o.op.Fit
  olen : c.ops.length ≤ maxLen
theorem InC.below {w w' : World} {c : PCh} (h : InC w c) (hb : Below w.heap.size w w') : InC w' c :=
  ⟨h.deps.below hb, h.ops.below hb, fun o ho => (h.preds o ho).below hb, h.actor, h.seq, h.start, h.dep, h.dlen, h.op, h.olen⟩
/-- A map. -/
def IsMapB (w : World) (i : Nat) : Prop := ∃ es ck, w.heap[i]? = some (.map es ck)
theorem cell_noMap {w : World} {b o : Nat} {u : Value} (h : w.cell? ⟨b, o, none⟩ = some u) : ¬ IsMapB w b := by
  rintro ⟨es, ck, hb⟩
  simp [World.cell?, hb] at h
theorem SlAt.maps {w w' : World} {A : Option Addr} {cells : List Value} {S : Nat → Prop} (h : SlAt w A cells) (ho : Only S w w') (hS : ∀ i, S i → IsMapB w i) : SlAt w' A cells := by
  by_cases hc : cells = []
  · exact .inl hc
  · refine h.only ho (fun b off s hA hs => ?_)
    rcases h with h | ⟨b', off', hA', hcell⟩
    · exact hc h
    · rw [hA'] at hA
      injection hA with hA
      injection hA with h1 _ _
      subst h1
      obtain ⟨u, us, rfl⟩ := List.exists_cons_of_ne_nil hc
      exact cell_noMap (hcell 0 u rfl) (hS _ hs)
theorem InC.maps {w w' : World} {c : PCh} {S : Nat → Prop} (h : InC w c) (ho : Only S w w') (hS : ∀ i, S i → IsMapB w i) : InC w' c :=
  ⟨h.deps.maps ho hS, h.ops.maps ho hS, fun o hm => (h.preds o hm).maps ho hS, h.actor, h.seq, h.start, h.dep, h.dlen, h.op, h.olen⟩

theorem opsCells_len (l : List POp) : (opsCells l).length = l.length * 13 := by
  induction l with
  | nil => rfl
  | cons x l ih => simp only [opsCells, List.flatMap_cons, List.length_append, POp.cells_len, List.length_cons] at *; omega
theorem opsCells_append (a b : List POp) : opsCells (a ++ b) = opsCells a ++ opsCells b := by simp [opsCells]
theorem opsCells_at : ∀ (l : List POp) (i : Nat) (o : POp), l[i]? = some o → ∀ j, j < 13 → (opsCells l)[i * 13 + j]? = o.cells[j]?
  | [], i, o, h, _, _ => by simp at h
  | x :: l, 0, o, h, j, hj => by
    simp at h
    subst h
    simp only [opsCells, List.flatMap_cons, Nat.zero_mul, Nat.zero_add]
    rw [List.getElem?_append_left (by rw [POp.cells_len]; exact hj)]
  | x :: l, i + 1, o, h, j, hj => by
    have ih := opsCells_at l i o (by simpa using h) j hj
    simp only [opsCells, List.flatMap_cons]
    rw [List.getElem?_append_right (by rw [POp.cells_len]; omega), POp.cells_len, show (i + 1) * 13 + j - 13 = i * 13 + j by omega]
    exact ih
/-- The cells of the op at i. -/
theorem SlAt.op {w : World} {A : Option Addr} {l : List POp} (h : SlAt w A (opsCells l)) {i : Nat} {o : POp} (ho : l[i]? = some o) :
    ∃ b off, A = some ⟨b, off, none⟩ ∧ ∀ j u, o.cells[j]? = some u → w.cell? ⟨b, off + i * 13 + j, none⟩ = some u := by
  have hi : i < l.length := (List.getElem?_eq_some_iff.1 ho).1
  rcases h with h | ⟨b, off, hA, hc⟩
  · have := opsCells_len l; rw [h] at this; simp at this; omega
  · refine ⟨b, off, hA, fun j u hu => ?_⟩
    have hj : j < 13 := by have := (List.getElem?_eq_some_iff.1 hu).1; rw [POp.cells_len] at this; exact this
    rw [Nat.add_assoc]
    exact hc _ _ (by rw [opsCells_at l i o ho j hj]; exact hu)

/-! What is wrong. -/
def errC (n : Int) : Value := if n = 0 then .nilIface else .iface 47 (.int .i64 n)
theorem errC_zero : errC 0 = .nilIface := rfl
theorem errC_ne {n : Int} (h : n ≠ 0) : errC n = .iface 47 (.int .i64 n) := if_neg h
def refOk (r : Int × Int) : Bool := (decide (1 ≤ r.1) && decide (r.1 ≤ 99)) && (decide (1 ≤ r.2) && decide (r.2 ≤ 1000000))
theorem refOk_i2 {r : Int × Int} (h : refOk r = true) : I2 r := by
  simp [refOk] at h
  exact ⟨⟨by omega, by omega⟩, ⟨by omega, by omega⟩⟩
/-- The first that is not 0. -/
def firstF : List Int → Int
  | [] => 0
  | x :: l => if x = 0 then firstF l else x
theorem firstF_zero {l : List Int} {k : Nat} {x : Int} (h : l[k]? = some x) (h0 : x = 0) : firstF (l.drop k) = firstF (l.drop (k + 1)) := by
  obtain ⟨hk, e⟩ := List.getElem?_eq_some_iff.1 h
  rw [List.drop_eq_getElem_cons hk, firstF, e, if_pos h0]
theorem firstF_hit {l : List Int} {k : Nat} {x : Int} (h : l[k]? = some x) (h0 : x ≠ 0) : firstF (l.drop k) = x := by
  obtain ⟨hk, e⟩ := List.getElem?_eq_some_iff.1 h
  rw [List.drop_eq_getElem_cons hk, firstF, e, if_neg h0]
theorem firstF_all {l : List Int} (h : firstF l = 0) : ∀ x ∈ l, x = 0 := by
  induction l with
  | nil => simp
  | cons y l ih =>
    unfold firstF at h
    split at h
    · rename_i h0
      intro x hx
      rcases List.mem_cons.1 hx with rfl | hx
      · exact h0
      · exact ih h x hx
    · rename_i h0; exact absurd h h0
def lessId (a b : Int × Int) : Bool := decide (a.1 < b.1) || (a.1 == b.1 && decide (a.2 < b.2))
def refF (l : List (Int × Int)) (i : Nat) : Int :=
  if refOk (l.getD i (0, 0)) = false then 1 else if 0 < i ∧ (l.getD i (0, 0)).1 ≤ (l.getD (i - 1) (0, 0)).1 then 5 else 0
def refsF (l : List (Int × Int)) : List Int := (List.range l.length).map (refF l)
def refsE (l : List (Int × Int)) : Int := firstF (refsF l)
def idF (l : List (Int × Int)) (i : Nat) : Int := if 0 < i ∧ lessId (l.getD (i - 1) (0, 0)) (l.getD i (0, 0)) = false then 5 else 0
def idsF (l : List (Int × Int)) : List Int := (List.range l.length).map (idF l)
def idsE (l : List (Int × Int)) : Int := if 12 < l.length then 4 else firstF (idsF l)
theorem range_at {α : Type} (f : Nat → α) (n k : Nat) (h : k < n) : ((List.range n).map f)[k]? = some (f k) := by simp [h]
def realF (p : Int × Int) : Int := if idReal p.1 p.2 then 0 else 1
def valOk (kind : Int) (v : JV) : Bool :=
  if kind = 1 then !(v.k == 5 || v.k == 6) else if kind = 2 then (v.k == 5 || v.k == 6) && (v.o == 0 && v.p == 0) else if kind = 3 then v.k == 0 else if kind = 4 then v.k == 2 else true
def freshB (o : OpV) : Bool := o.kind == 1 || o.kind == 2
def listedB (o : OpV) : Bool := !(o.elem.1 == 0 && o.elem.2 == 0) || o.ins
def opE1 (o : OpV) : Int := if o.kind < 1 ∨ 4 < o.kind ∨ idOk o.obj.1 o.obj.2 = false ∨ idOk o.elem.1 o.elem.2 = false then 1 else 0
def opE2 (o : OpV) : Int := firstF (o.preds.map realF)
def opE3 (o : OpV) : Int := if 20 < o.key.size then 4 else idsE o.preds
def opE4 (o : OpV) : Int := if ((!o.key.toList.isEmpty) == listedB o) = true ∨ (o.ins = true ∧ (freshB o = false ∨ 0 < o.preds.length)) then 3 else if o.val.ok = false then 1 else 0
def opE5 (o : OpV) : Int := if valOk o.kind o.val = false then 1 else if freshB o = false ∧ o.preds.length = 0 then 3 else 0
def opE (o : OpV) : Int := firstF [opE1 o, opE2 o, opE3 o, opE4 o, opE5 o]
def chE1 (c : Ch) : Int := if refOk (c.actor, c.seq) = false ∨ c.start < 1 ∨ 1000000 < c.start then 1 else if 12 < c.deps.length then 4 else refsE c.deps
def chE2 (c : Ch) : Int := if 40 < c.ops.length then 4 else if 1000000 < c.start + c.ops.length - 1 then 1 else firstF (c.ops.map opE)
def chE (c : Ch) : Int := if chE1 c = 0 then chE2 c else chE1 c
end Go.Proofs.Ytdenaejhfgmihaa
