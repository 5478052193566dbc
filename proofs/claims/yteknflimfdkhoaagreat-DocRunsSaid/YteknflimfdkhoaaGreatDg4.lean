/- Changes, with addresses and without; what is wrong with one. Over no program (but the errors' type). What hangs on what, and whether a change fits: plain, over no program. -/
import Derived.Test.YteknflimfdkhoaaGreatDg2
import Derived.Test.YteknflimfdkhoaaGreatDg3
import Derived.Test.YteknflimfdkhoaaGreatProg
namespace Go.Proofs.YteknflimfdkhoaaGreat
open Go.RowKit
set_option linter.unusedVariables false
set_option linter.unusedSimpArgs false

/-- An op. -/
structure OpV where
  kind : Int
  obj : Int × Int
  key : ByteArray
  elem : Int × Int
  ins : Bool
  val : JV
  preds : List (Int × Int)
/-- A change. -/
structure Ch where
  actor : Int
  seq : Int
  start : Int
  deps : List (Int × Int)
  ops : List OpV
/-- An op in memory: where its preds stand. -/
structure POp where
  op : OpV
  pA : Option Addr
  pc : Nat
def POp.cells (o : POp) : List Value :=
  [.int .i64 o.op.kind, .int .i64 o.op.obj.1, .int .i64 o.op.obj.2, .string o.op.key, .int .i64 o.op.elem.1, .int .i64 o.op.elem.2, .bool o.op.ins, .int .i64 o.op.val.k, .int .i64 o.op.val.n, .string o.op.val.s, .int .i64 o.op.val.o, .int .i64 o.op.val.p, .slice o.pA o.op.preds.length o.pc]
theorem POp.cells_len (o : POp) : o.cells.length = 13 := rfl
def POp.value (o : POp) : Value := .agg o.cells.toArray
/-- A change in memory. -/
structure PCh where
  actor : Int
  seq : Int
  start : Int
  dA : Option Addr
  dc : Nat
  deps : List (Int × Int)
  oA : Option Addr
  oc : Nat
  ops : List POp
def PCh.ref (c : PCh) : Int × Int := (c.actor, c.seq)
def PCh.ch (c : PCh) : Ch := ⟨c.actor, c.seq, c.start, c.deps, c.ops.map POp.op⟩
def PCh.cells (c : PCh) : List Value := [.int .i64 c.actor, .int .i64 c.seq, .int .i64 c.start, .slice c.dA c.deps.length c.dc, .slice c.oA c.ops.length c.oc]
def PCh.value (c : PCh) : Value := .agg #[.int .i64 c.actor, .int .i64 c.seq, .int .i64 c.start, .slice c.dA c.deps.length c.dc, .slice c.oA c.ops.length c.oc]
def opsCells (l : List POp) : List Value := l.flatMap POp.cells

structure OpV.Fit (o : OpV) : Prop where
  kind : I64 o.kind
  obj : I2 o.obj
  key : o.key.size ≤ maxLen
  elem : I2 o.elem
  val : o.val.Fit
  preds : ∀ p ∈ o.preds, I2 p
  len : o.preds.length ≤ maxLen
/-- A change that stands in memory. -/
structure InC (w : World) (c : PCh) : Prop where
  deps : SlAt w c.dA (refs c.deps)
  ops : SlAt w c.oA (opsCells c.ops)
  preds : ∀ o ∈ c.ops, SlAt w o.pA (refs o.op.preds)
  actor : I64 c.actor
  seq : I64 c.seq
  start : I64 c.start
  dep : ∀ d ∈ c.deps, I2 d
  dlen : c.deps.length ≤ maxLen
  op : ∀ o ∈ c.ops, o.op.Fit
  olen : c.ops.length ≤ maxLen
theorem InC.below {w w' : World} {c : PCh} (h : InC w c) (hb : Below w.heap.size w w') : InC w' c :=
  ⟨h.deps.below hb, h.ops.below hb, fun o ho => (h.preds o ho).below hb, h.actor, h.seq, h.start, h.dep, h.dlen, h.op, h.olen⟩
/-- A map. -/
def IsMapB (w : World) (i : Nat) : Prop := ∃ es ck, w.heap[i]? = some (.map es ck)
theorem cell_noMap {w : World} {b o : Nat} {u : Value} (h : w.cell? ⟨b, o, none⟩ = some u) : ¬ IsMapB w b := by
  rintro ⟨es, ck, hb⟩
  simp [World.cell?, hb] at h
theorem SlAt.maps {w w' : World} {A : Option Addr} {cells : List Value} {S : Nat → Prop} (h : SlAt w A cells) (ho : Only S w w') (hS : ∀ i, S i → IsMapB w i) : SlAt w' A cells := by
  by_cases hc : cells = []
  · exact .inl hc
  · refine h.only ho (fun b off s hA hs => ?_)
    rcases h with h | ⟨b', off', hA', hcell⟩
    · exact hc h
    · rw [hA'] at hA
      injection hA with hA
      injection hA with h1 _ _
      subst h1
      obtain ⟨u, us, rfl⟩ := List.exists_cons_of_ne_nil hc
      exact cell_noMap (hcell 0 u rfl) (hS _ hs)
theorem InC.maps {w w' : World} {c : PCh} {S : Nat → Prop} (h : InC w c) (ho : Only S w w') (hS : ∀ i, S i → IsMapB w i) : InC w' c :=
  ⟨h.deps.maps ho hS, h.ops.maps ho hS, fun o hm => (h.preds o hm).maps ho hS, h.actor, h.seq, h.start, h.dep, h.dlen, h.op, h.olen⟩

theorem opsCells_len (l : List POp) : (opsCells l).length = l.length * 13 := by
  induction l with
  | nil => rfl
  | cons x l ih => simp only [opsCells, List.flatMap_cons, List.length_append, POp.cells_len, List.length_cons] at *; omega
theorem opsCells_append (a b : List POp) : opsCells (a ++ b) = opsCells a ++ opsCells b := by simp [opsCells]
theorem opsCells_at : ∀ (l : List POp) (i : Nat) (o : POp), l[i]? = some o → ∀ j, j < 13 → (opsCells l)[i * 13 + j]? = o.cells[j]?
  | [], i, o, h, _, _ => by simp at h
  | x :: l, 0, o, h, j, hj => by
    simp at h
    subst h
    simp only [opsCells, List.flatMap_cons, Nat.zero_mul, Nat.zero_add]
    rw [List.getElem?_append_left (by rw [POp.cells_len]; exact hj)]
  | x :: l, i + 1, o, h, j, hj => by
    have ih := opsCells_at l i o (by simpa using h) j hj
    simp only [opsCells, List.flatMap_cons]
    rw [List.getElem?_append_right (by rw [POp.cells_len]; omega), POp.cells_len, show (i + 1) * 13 + j - 13 = i * 13 + j by omega]
    exact ih
/-- The cells of the op at i. -/
theorem SlAt.op {w : World} {A : Option Addr} {l : List POp} (h : SlAt w A (opsCells l)) {i : Nat} {o : POp} (ho : l[i]? = some o) :
    ∃ b off, A = some ⟨b, off, none⟩ ∧ ∀ j u, o.cells[j]? = some u → w.cell? ⟨b, off + i * 13 + j, none⟩ = some u := by
  have hi : i < l.length := (List.getElem?_eq_some_iff.1 ho).1
  rcases h with h | ⟨b, off, hA, hc⟩
  · have := opsCells_len l; rw [h] at this; simp at this; omega
  · refine ⟨b, off, hA, fun j u hu => ?_⟩
    have hj : j < 13 := by have := (List.getElem?_eq_some_iff.1 hu).1; rw [POp.cells_len] at this; exact this
    rw [Nat.add_assoc]
    exact hc _ _ (by rw [opsCells_at l i o ho j hj]; exact hu)

/-! What is wrong. -/
def errC (n : Int) : Value := if n = 0 then .nilIface else .iface 59 (.int .i64 n)
theorem errC_zero : errC 0 = .nilIface := rfl
theorem errC_ne {n : Int} (h : n ≠ 0) : errC n = .iface 59 (.int .i64 n) := if_neg h
def refOk (r : Int × Int) : Bool := (decide (1 ≤ r.1) && decide (r.1 ≤ 99)) && (decide (1 ≤ r.2) && decide (r.2 ≤ 1000000))
theorem refOk_i2 {r : Int × Int} (h : refOk r = true) : I2 r := by
  simp [refOk] at h
  exact ⟨⟨by omega, by omega⟩, ⟨by omega, by omega⟩⟩
/-- The first that is not 0. -/
def firstF : List Int → Int
  | [] => 0
  | x :: l => if x = 0 then firstF l else x
theorem firstF_zero {l : List Int} {k : Nat} {x : Int} (h : l[k]? = some x) (h0 : x = 0) : firstF (l.drop k) = firstF (l.drop (k + 1)) := by
  obtain ⟨hk, e⟩ := List.getElem?_eq_some_iff.1 h
  rw [List.drop_eq_getElem_cons hk, firstF, e, if_pos h0]
theorem firstF_hit {l : List Int} {k : Nat} {x : Int} (h : l[k]? = some x) (h0 : x ≠ 0) : firstF (l.drop k) = x := by
  obtain ⟨hk, e⟩ := List.getElem?_eq_some_iff.1 h
  rw [List.drop_eq_getElem_cons hk, firstF, e, if_neg h0]
theorem firstF_all {l : List Int} (h : firstF l = 0) : ∀ x ∈ l, x = 0 := by
  induction l with
  | nil => simp
  | cons y l ih =>
    unfold firstF at h
    split at h
    · rename_i h0
      intro x hx
      rcases List.mem_cons.1 hx with rfl | hx
      · exact h0
      · exact ih h x hx
    · rename_i h0; exact absurd h h0
def lessId (a b : Int × Int) : Bool := decide (a.1 < b.1) || (a.1 == b.1 && decide (a.2 < b.2))
def refF (l : List (Int × Int)) (i : Nat) : Int :=
  if refOk (l.getD i (0, 0)) = false then 1 else if 0 < i ∧ (l.getD i (0, 0)).1 ≤ (l.getD (i - 1) (0, 0)).1 then 5 else 0
def refsF (l : List (Int × Int)) : List Int := (List.range l.length).map (refF l)
def refsE (l : List (Int × Int)) : Int := firstF (refsF l)
def idF (l : List (Int × Int)) (i : Nat) : Int := if 0 < i ∧ lessId (l.getD (i - 1) (0, 0)) (l.getD i (0, 0)) = false then 5 else 0
def idsF (l : List (Int × Int)) : List Int := (List.range l.length).map (idF l)
def idsE (l : List (Int × Int)) : Int := if 12 < l.length then 4 else firstF (idsF l)
theorem range_at {α : Type} (f : Nat → α) (n k : Nat) (h : k < n) : ((List.range n).map f)[k]? = some (f k) := by simp [h]
def realF (p : Int × Int) : Int := if idReal p.1 p.2 then 0 else 1
def valOk (kind : Int) (v : JV) : Bool :=
  if kind = 1 then !(v.k == 5 || v.k == 6) else if kind = 2 then (v.k == 5 || v.k == 6) && (v.o == 0 && v.p == 0) else if kind = 3 then v.k == 0 else if kind = 4 then v.k == 2 else true
def freshB (o : OpV) : Bool := o.kind == 1 || o.kind == 2
def listedB (o : OpV) : Bool := !(o.elem.1 == 0 && o.elem.2 == 0) || o.ins
def opE1 (o : OpV) : Int := if o.kind < 1 ∨ 4 < o.kind ∨ idOk o.obj.1 o.obj.2 = false ∨ idOk o.elem.1 o.elem.2 = false then 1 else 0
def opE2 (o : OpV) : Int := firstF (o.preds.map realF)
def opE3 (o : OpV) : Int := if 20 < o.key.size then 4 else idsE o.preds
def opE4 (o : OpV) : Int := if ((!o.key.toList.isEmpty) == listedB o) = true ∨ (o.ins = true ∧ (freshB o = false ∨ 0 < o.preds.length)) then 3 else if o.val.ok = false then 1 else 0
def opE5 (o : OpV) : Int := if valOk o.kind o.val = false then 1 else if freshB o = false ∧ o.preds.length = 0 then 3 else 0
def opE (o : OpV) : Int := firstF [opE1 o, opE2 o, opE3 o, opE4 o, opE5 o]
def chE1 (c : Ch) : Int := if refOk (c.actor, c.seq) = false ∨ c.start < 1 ∨ 1000000 < c.start then 1 else if 12 < c.deps.length then 4 else refsE c.deps
def chE2 (c : Ch) : Int := if 40 < c.ops.length then 4 else if 1000000 < c.start + c.ops.length - 1 then 1 else firstF (c.ops.map opE)
def chE (c : Ch) : Int := if chE1 c = 0 then chE2 c else chE1 c
end Go.Proofs.YteknflimfdkhoaaGreat
namespace Go.Proofs.YteknflimfdkhoaaGreat
open Go.RowKit
set_option linter.unusedVariables false
set_option linter.unusedSimpArgs false

theorem nodup_inj {α β : Type} {f : α → β} : ∀ {l : List α}, (l.map f).Nodup → ∀ {a b : α}, a ∈ l → b ∈ l → f a = f b → a = b
  | [], _, _, _, h, _, _ => by cases h
  | x :: l, hn, a, b, ha, hb, h => by
    rw [List.map_cons, List.nodup_cons] at hn
    rcases List.mem_cons.1 ha with e1 | ha1
    · rcases List.mem_cons.1 hb with e2 | hb1
      · rw [e1, e2]
      · exact absurd (by rw [← e1, h]; exact List.mem_map_of_mem hb1) hn.1
    · rcases List.mem_cons.1 hb with e2 | hb1
      · exact absurd (by rw [← e2, ← h]; exact List.mem_map_of_mem ha1) hn.1
      · exact nodup_inj hn.2 ha1 hb1 h
def Ch.ref (c : Ch) : Int × Int := (c.actor, c.seq)
theorem PCh.ch_ref (c : PCh) : c.ch.ref = c.ref := rfl
theorem map_ch_ref (L : List PCh) : (L.map PCh.ch).map Ch.ref = L.map PCh.ref := by rw [List.map_map]; rfl
/-- What a change of a list hangs on, and it: the list's last one first. -/
def behR : List Ch → Int × Int → List (Int × Int)
  | [], _ => []
  | c :: l, r => if r = c.ref then c.ref :: c.deps.flatMap (behR l) else behR l r
def behL (L : List Ch) : Int × Int → List (Int × Int) := behR L.reverse
theorem behL_nil (r : Int × Int) : behL [] r = [] := rfl
theorem behL_snoc (L : List Ch) (c : Ch) (r : Int × Int) : behL (L ++ [c]) r = if r = c.ref then c.ref :: c.deps.flatMap (behL L) else behL L r := by
  show behR (L ++ [c]).reverse r = _
  rw [List.reverse_append]
  rfl
/-- The op of a change that has an id. -/
def opAt (c : Ch) (n : Int × Int) : Option OpV := if n.2 = c.actor ∧ c.start ≤ n.1 then c.ops[(n.1 - c.start).toNat]? else none
theorem opAt_some {c : Ch} {n : Int × Int} {o : OpV} (h : opAt c n = some o) : n.2 = c.actor ∧ c.start ≤ n.1 ∧ n.1 < c.start + c.ops.length ∧ c.ops[(n.1 - c.start).toNat]? = some o := by
  unfold opAt at h
  split at h
  · rename_i hc
    have := (List.getElem?_eq_some_iff.1 h).1
    exact ⟨hc.1, hc.2, by omega, h⟩
  · cases h
theorem opAt_at {c : Ch} {i : Nat} {o : OpV} (h : c.ops[i]? = some o) : opAt c (c.start + i, c.actor) = some o := by
  unfold opAt
  rw [if_pos ⟨rfl, by show c.start ≤ c.start + i; omega⟩]
  show c.ops[(c.start + (i : Int) - c.start).toNat]? = some o
  rw [show (c.start + (i : Int) - c.start).toNat = i by omega]
  exact h
/-- The ops of some changes of a list, by their ids. -/
def knownF (L : List Ch) (B : List (Int × Int)) (n : Int × Int) : Option OpV := (L.filter (fun c => decide (c.ref ∈ B))).findSome? (fun c => opAt c n)
/-- The place of an op. -/
def placeOf (o : OpV) (n : Int × Int) : (Int × Int) × ByteArray × (Int × Int) := (o.obj, o.key, if o.ins then n else o.elem)
def zId (p : Int × Int) : Bool := p.1 == 0 && p.2 == 0
theorem zId_iff {p : Int × Int} : zId p = true ↔ p = (0, 0) := by
  obtain ⟨a, b⟩ := p
  simp [zId]
def kindIn (f : Int × Int → Option OpV) (obj : Int × Int) : Option Int := if zId obj then some 5 else (f obj).bind fun m => if m.kind = 2 then some m.val.k else none
def predOk (f : Int × Int → Option OpV) (o : OpV) (n p : Int × Int) : Bool :=
  match f p with
  | none => false
  | some x => (x.kind == 1 || x.kind == 2) && decide (placeOf x p = placeOf o n) && (o.kind != 4 || (x.kind == 1 && x.val.k == 4))
def elemOk (f : Int × Int → Option OpV) (o : OpV) : Bool :=
  if zId o.elem then true else match f o.elem with
    | none => false
    | some e => e.ins && decide (e.obj = o.obj)
/-- May an op be, others being known? -/
def mayF (f : Int × Int → Option OpV) (o : OpV) (n : Int × Int) : Bool :=
  match kindIn f o.obj with
  | none => false
  | some k => (k == 5) == !o.key.toList.isEmpty && elemOk f o && o.preds.all (predOk f o n)
theorem mayF_kind {f : Int × Int → Option OpV} {o : OpV} {n : Int × Int} (h : kindIn f o.obj = none) : mayF f o n = false := by unfold mayF; rw [h]
theorem mayF_some {f : Int × Int → Option OpV} {o : OpV} {n : Int × Int} {k : Int} (h : kindIn f o.obj = some k) : mayF f o n = ((k == 5) == !o.key.toList.isEmpty && elemOk f o && o.preds.all (predOk f o n)) := by unfold mayF; rw [h]
theorem mayF_elem {f : Int × Int → Option OpV} {o : OpV} {n : Int × Int} (h : elemOk f o = false) : mayF f o n = false := by
  unfold mayF
  split
  · rfl
  · rw [h]; simp
theorem mayF_pred {f : Int × Int → Option OpV} {o : OpV} {n p : Int × Int} (hp : p ∈ o.preds) (h : predOk f o n p = false) : mayF f o n = false := by
  have : o.preds.all (predOk f o n) = false := by rw [List.all_eq_false]; exact ⟨p, hp, by rw [h]; simp⟩
  unfold mayF
  split
  · rfl
  · rw [this]; simp
def updF (f : Int × Int → Option OpV) (n : Int × Int) (o : OpV) : Int × Int → Option OpV := fun r => if r = n then some o else f r
def mayAll (f : Int × Int → Option OpV) (actor : Int) : Int → List OpV → Bool
  | _, [] => true
  | st, o :: l => mayF f o (st, actor) && mayAll (updF f (st, actor) o) actor (st + 1) l
def behAll (L : List Ch) (deps : List (Int × Int)) : List (Int × Int) := deps.flatMap (behL L)
/-- Does a change fit? -/
def fitsB (L : List Ch) (c : Ch) : Bool :=
  (behAll L c.deps).all (fun r => !(r.1 == c.actor && decide (c.seq ≤ r.2))) &&
  L.all (fun x => !decide (x.ref ∈ behAll L c.deps) || x.ops.isEmpty || decide (x.start + x.ops.length ≤ c.start)) &&
  (decide (c.seq ≤ 1) || decide ((c.actor, c.seq - 1) ∈ behAll L c.deps)) &&
  mayAll (knownF L (behAll L c.deps)) c.actor c.start c.ops
theorem fitsB_iff {L : List Ch} {c : Ch} : fitsB L c = true ↔ (∀ r ∈ behAll L c.deps, r.1 = c.actor → r.2 < c.seq) ∧ (∀ x ∈ L, x.ref ∈ behAll L c.deps → ∀ (i : Nat) o, x.ops[i]? = some o → x.start + i < c.start) ∧
    (1 < c.seq → (c.actor, c.seq - 1) ∈ behAll L c.deps) ∧ mayAll (knownF L (behAll L c.deps)) c.actor c.start c.ops = true := by
  unfold fitsB
  rw [Bool.and_eq_true, Bool.and_eq_true, Bool.and_eq_true, List.all_eq_true, List.all_eq_true, and_assoc, and_assoc]
  refine and_congr ?_ (and_congr ?_ (and_congr ?_ Iff.rfl))
  · refine forall_congr' fun r => imp_congr_right fun hr => ?_
    simp only [Bool.not_eq_true', Bool.and_eq_false_iff, beq_eq_false_iff_ne, decide_eq_false_iff_not, ne_eq]
    constructor
    · rintro (h | h) e
      · exact absurd e h
      · omega
    · intro h
      by_cases e : r.1 = c.actor
      · exact .inr (by have := h e; omega)
      · exact .inl e
  · refine forall_congr' fun x => imp_congr_right fun hx => ?_
    simp only [Bool.or_eq_true, Bool.not_eq_true', decide_eq_false_iff_not, decide_eq_true_eq, List.isEmpty_iff]
    constructor
    · rintro ((h | h) | h) hm i o hi
      · exact absurd hm h
      · rw [h] at hi; simp at hi
      · have := (List.getElem?_eq_some_iff.1 hi).1; omega
    · intro h
      by_cases hm : x.ref ∈ behAll L c.deps
      · by_cases he : x.ops = []
        · exact .inl (.inr he)
        · have hl := List.length_pos_iff.2 he
          have := h hm (x.ops.length - 1) _ (List.getElem?_eq_getElem (by omega))
          exact .inr (by omega)
      · exact .inl (.inl hm)
  · simp only [Bool.or_eq_true, decide_eq_true_eq]
    constructor
    · rintro (h | h) k
      · omega
      · exact h
    · intro h
      by_cases k : c.seq ≤ 1
      · exact .inl k
      · exact .inr (h (by omega))
/-- A list in which each change fits behind those ahead of it. -/
structure Fine (L : List Ch) : Prop where
  nd : (L.map Ch.ref).Nodup
  shut : ∀ L1 c L2, L = L1 ++ c :: L2 → ∀ d ∈ c.deps, d ∈ L1.map Ch.ref
  fit : ∀ L1 c L2, L = L1 ++ c :: L2 → fitsB L1 c = true
  seq : ∀ c ∈ L, 1 ≤ c.seq
theorem Fine.nil : Fine [] := ⟨by simp, fun L1 c L2 h => by simp at h, fun L1 c L2 h => by simp at h, by simp⟩
theorem snoc_split {α : Type} {L L1 L2 : List α} {c x : α} (h : L ++ [c] = L1 ++ x :: L2) : (L1 = L ∧ x = c ∧ L2 = []) ∨ ∃ L3, L2 = L3 ++ [c] ∧ L = L1 ++ x :: L3 := by
  rcases List.eq_nil_or_concat L2 with rfl | ⟨L3, y, rfl⟩
  · have := List.append_inj' h rfl
    have h2 := this.2
    injection h2 with h2 _
    exact .inl ⟨this.1.symm, h2.symm, rfl⟩
  · rw [show L1 ++ x :: (L3.concat y) = (L1 ++ x :: L3) ++ [y] by simp] at h
    have := List.append_inj' h rfl
    have h2 := this.2
    injection h2 with h2 _
    subst h2
    exact .inr ⟨L3, by simp, this.1⟩
theorem Fine.snoc {L : List Ch} {c : Ch} (h : Fine L) (hn : c.ref ∉ L.map Ch.ref) (hd : ∀ d ∈ c.deps, d ∈ L.map Ch.ref) (hf : fitsB L c = true) (hs : 1 ≤ c.seq) : Fine (L ++ [c]) := by
  refine ⟨?_, ?_, ?_, ?_⟩
  · rw [List.map_append, List.nodup_append]
    refine ⟨h.nd, by simp, fun a ha b hb e => ?_⟩
    simp at hb
    subst hb
    exact hn (e ▸ ha)
  · intro L1 x L2 e
    rcases snoc_split e with ⟨rfl, rfl, rfl⟩ | ⟨L3, rfl, e2⟩
    · exact hd
    · exact h.shut _ _ _ e2
  · intro L1 x L2 e
    rcases snoc_split e with ⟨rfl, rfl, rfl⟩ | ⟨L3, rfl, e2⟩
    · exact hf
    · exact h.fit _ _ _ e2
  · intro x hx
    rcases List.mem_append.1 hx with hx | hx
    · exact h.seq x hx
    · rw [List.mem_singleton] at hx
      rw [hx]; exact hs
theorem Fine.init {L : List Ch} {c : Ch} (h : Fine (L ++ [c])) : Fine L ∧ c.ref ∉ L.map Ch.ref ∧ (∀ d ∈ c.deps, d ∈ L.map Ch.ref) ∧ fitsB L c = true ∧ 1 ≤ c.seq := by
  have hn := h.nd
  rw [List.map_append, List.nodup_append] at hn
  refine ⟨⟨hn.1, fun L1 x L2 e => h.shut L1 x (L2 ++ [c]) (by rw [e]; simp), fun L1 x L2 e => h.fit L1 x (L2 ++ [c]) (by rw [e]; simp), fun x hx => h.seq x (List.mem_append_left _ hx)⟩, fun hm => hn.2.2 _ hm c.ref (by simp) rfl, h.shut L c [] rfl, h.fit L c [] rfl, h.seq c (by simp)⟩
/-- Induction over a list's end. -/
theorem snocInd {α : Type} {P : List α → Prop} (h0 : P []) (h1 : ∀ L c, P L → P (L ++ [c])) (L : List α) : P L := by
  have : ∀ n (L : List α), L.length = n → P L := by
    intro n
    induction n with
    | zero => intro L h; rw [List.length_eq_zero_iff.1 h]; exact h0
    | succ n ih =>
      intro L h
      rcases List.eq_nil_or_concat L with rfl | ⟨L3, y, rfl⟩
      · exact h0
      · rw [List.concat_eq_append] at *
        exact h1 _ _ (ih L3 (by simp at h; omega))
  exact this _ L rfl
/-- What is behind is there. -/
theorem behL_mem (L : List Ch) : ∀ (r s : Int × Int), s ∈ behL L r → s ∈ L.map Ch.ref := by
  refine snocInd (P := fun L => ∀ (r s : Int × Int), s ∈ behL L r → s ∈ L.map Ch.ref) (fun r s h => by rw [behL_nil] at h; cases h) (fun L c ih r s h => ?_) L
  rw [behL_snoc] at h
  rw [List.map_append]
  split at h
  · rcases List.mem_cons.1 h with rfl | h
    · exact List.mem_append_right _ (by simp)
    · obtain ⟨d, _, h⟩ := List.mem_flatMap.1 h
      exact List.mem_append_left _ (ih d s h)
  · exact List.mem_append_left _ (ih r s h)
theorem behL_none (L : List Ch) (r : Int × Int) (h : r ∉ L.map Ch.ref) : behL L r = [] := by
  revert h
  refine snocInd (P := fun L => r ∉ L.map Ch.ref → behL L r = []) (fun _ => rfl) (fun L c ih h => ?_) L
  rw [behL_snoc]
  rw [List.map_append, List.mem_append] at h
  rw [if_neg (fun e => h (.inr (by simp [e])))]
  exact ih (fun e => h (.inl e))
theorem behL_self (L : List Ch) (r : Int × Int) (h : r ∈ L.map Ch.ref) : r ∈ behL L r := by
  revert h
  refine snocInd (P := fun L => r ∈ L.map Ch.ref → r ∈ behL L r) (fun h => by cases h) (fun L c ih h => ?_) L
  rw [behL_snoc]
  split
  · rename_i e
    rw [← e]
    exact List.mem_cons_self
  · rename_i e
    rw [List.map_append, List.mem_append] at h
    refine ih (h.resolve_right (fun h => e (by simpa using h)))
/-- What is behind one that is behind another one is behind that. -/
theorem behL_trans {L : List Ch} (hF : Fine L) : ∀ (r s t : Int × Int), s ∈ behL L r → t ∈ behL L s → t ∈ behL L r := by
  revert hF
  refine snocInd (P := fun L => Fine L → ∀ (r s t : Int × Int), s ∈ behL L r → t ∈ behL L s → t ∈ behL L r) (fun _ r s t h => by rw [behL_nil] at h; cases h) (fun L c ih hF r s t h1 h2 => ?_) L
  obtain ⟨hF1, hn, hd, _, _⟩ := hF.init
  have ih := ih hF1
  rw [behL_snoc] at h1 ⊢
  split
  · rename_i e
    rw [if_pos e] at h1
    rcases List.mem_cons.1 h1 with rfl | h1
    · rw [behL_snoc, if_pos rfl] at h2
      exact h2
    · obtain ⟨d, hdd, h1⟩ := List.mem_flatMap.1 h1
      have hs : s ≠ c.ref := fun e => hn (e ▸ behL_mem L d s h1)
      rw [behL_snoc, if_neg hs] at h2
      exact List.mem_cons_of_mem _ (List.mem_flatMap.2 ⟨d, hdd, ih d s t h1 h2⟩)
  · rename_i e
    rw [if_neg e] at h1
    have hs : s ≠ c.ref := fun e => hn (e ▸ behL_mem L r s h1)
    rw [behL_snoc, if_neg hs] at h2
    exact ih r s t h1 h2
theorem behAll_shut {L : List Ch} (hF : Fine L) {deps : List (Int × Int)} {s t : Int × Int} (h1 : s ∈ behAll L deps) (h2 : t ∈ behL L s) : t ∈ behAll L deps := by
  obtain ⟨d, hd, h1⟩ := List.mem_flatMap.1 h1
  exact List.mem_flatMap.2 ⟨d, hd, behL_trans hF d s t h1 h2⟩
/-- An actor's changes are in a row: behind each stand all ahead of it. -/
theorem chain {L : List Ch} (hF : Fine L) : ∀ c ∈ L, ∀ k : Int, 1 ≤ k → k ≤ c.seq → (c.actor, k) ∈ behL L c.ref := by
  revert hF
  refine snocInd (P := fun L => Fine L → ∀ c ∈ L, ∀ k : Int, 1 ≤ k → k ≤ c.seq → (c.actor, k) ∈ behL L c.ref) (fun _ c h => by cases h) (fun L c ih hF x hx k h1 h2 => ?_) L
  obtain ⟨hF1, hn, hd, hf, hs⟩ := hF.init
  have ih := ih hF1
  rcases List.mem_append.1 hx with hx | hx
  · have hne : ¬ x.ref = c.ref := fun e => hn (by rw [← e]; exact List.mem_map_of_mem hx)
    rw [behL_snoc, if_neg hne]
    exact ih x hx k h1 h2
  · rw [List.mem_singleton] at hx
    subst hx
    rw [behL_snoc, if_pos rfl]
    by_cases hk : k = x.seq
    · subst hk
      exact List.mem_cons_self
    · have hp := (fitsB_iff.1 hf).2.2.1 (by omega)
      refine List.mem_cons_of_mem _ ?_
      obtain ⟨y, hy, hyr⟩ := List.mem_map.1 (show (x.actor, x.seq - 1) ∈ L.map Ch.ref from by
        obtain ⟨d, _, h⟩ := List.mem_flatMap.1 hp
        exact behL_mem L d _ h)
      have ha : y.actor = x.actor := congrArg Prod.fst hyr
      have hq : y.seq = x.seq - 1 := congrArg Prod.snd hyr
      have := ih y hy k h1 (by omega)
      rw [ha, hyr] at this
      exact behAll_shut hF1 hp this
/-- No two changes have an op's id. -/
theorem opUniq {L : List Ch} (hF : Fine L) : ∀ c ∈ L, ∀ x ∈ L, ∀ n o p, opAt c n = some o → opAt x n = some p → c = x := by
  revert hF
  refine snocInd (P := fun L => Fine L → ∀ c ∈ L, ∀ x ∈ L, ∀ n o p, opAt c n = some o → opAt x n = some p → c = x) (fun _ c h => by cases h) (fun L c ih hF => ?_) L
  have hFs := hF
  obtain ⟨hF1, hn, hd, hf, hs⟩ := hF.init
  have ih := ih hF1
  -- the last one against another one
  have key : ∀ x ∈ L, ∀ n o p, opAt c n = some o → opAt x n = some p → False := by
    intro x hx n o p h1 h2
    obtain ⟨a1, a2, a3, a4⟩ := opAt_some h1
    obtain ⟨b1, b2, b3, b4⟩ := opAt_some h2
    have hax : x.actor = c.actor := b1.symm.trans a1
    have hsx := hF1.seq x hx
    rcases Int.lt_trichotomy x.seq c.seq with h | h | h
    · have hm := chain hFs c (by simp) x.seq hsx (by omega)
      rw [behL_snoc, if_pos rfl] at hm
      rcases List.mem_cons.1 hm with hm | hm
      · have : x.seq = c.seq := congrArg Prod.snd hm
        omega
      · have := (fitsB_iff.1 hf).2.1 x hx (by rw [show x.ref = (c.actor, x.seq) from by unfold Ch.ref; rw [hax]]; exact hm) _ _ b4
        omega
    · exact hn (List.mem_map.2 ⟨x, hx, by unfold Ch.ref; rw [hax, h]⟩)
    · have hm := chain hF1 x hx c.seq hs (by omega)
      rw [hax] at hm
      exact hn (behL_mem L _ _ hm)
  intro a ha x hx n o p h1 h2
  rcases List.mem_append.1 ha with ha1 | ha1
  · rcases List.mem_append.1 hx with hx1 | hx1
    · exact ih a ha1 x hx1 n o p h1 h2
    · rw [List.mem_singleton] at hx1
      subst hx1
      exact (key a ha1 n p o h2 h1).elim
  · rw [List.mem_singleton] at ha1
    subst ha1
    rcases List.mem_append.1 hx with hx | hx
    · exact (key x hx n o p h1 h2).elim
    · rw [List.mem_singleton] at hx
      exact hx.symm
theorem knownF_some {L : List Ch} {B : List (Int × Int)} {n : Int × Int} {o : OpV} (h : knownF L B n = some o) : ∃ c ∈ L, c.ref ∈ B ∧ opAt c n = some o := by
  unfold knownF at h
  obtain ⟨c, hc, ho⟩ := List.exists_of_findSome?_eq_some h
  rw [List.mem_filter] at hc
  exact ⟨c, hc.1, by simpa using hc.2, ho⟩
theorem knownF_of {L : List Ch} (hF : Fine L) {B : List (Int × Int)} {n : Int × Int} {o : OpV} {c : Ch} (hc : c ∈ L) (hB : c.ref ∈ B) (ho : opAt c n = some o) : knownF L B n = some o := by
  cases h : knownF L B n with
  | none =>
    unfold knownF at h
    rw [List.findSome?_eq_none_iff] at h
    have := h c (List.mem_filter.2 ⟨hc, by simpa using hB⟩)
    rw [ho] at this
    cases this
  | some p =>
    obtain ⟨x, hx, _, hp⟩ := knownF_some h
    have := opUniq hF c hc x hx n o p ho hp
    subst this
    rw [hp] at ho
    exact ho
theorem knownF_none {L : List Ch} {B : List (Int × Int)} {n : Int × Int} (h : ∀ c ∈ L, c.ref ∈ B → opAt c n = none) : knownF L B n = none := by
  unfold knownF
  rw [List.findSome?_eq_none_iff]
  intro c hc
  rw [List.mem_filter] at hc
  exact h c hc.1 (by simpa using hc.2)
end Go.Proofs.YteknflimfdkhoaaGreat
