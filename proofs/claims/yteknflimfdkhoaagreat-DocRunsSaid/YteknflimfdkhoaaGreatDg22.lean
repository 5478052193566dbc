/- What dag.Book.All gives: plain. A hand at a book: plain. -/
import Derived.Test.YteknflimfdkhoaaGreatDg21
import Derived.Test.YteknflimfdkhoaaGreatDg20
namespace Go.Proofs.YteknflimfdkhoaaGreat
open Go.RowKit Go.Maps
set_option linter.unusedVariables false
set_option linter.unusedSimpArgs false

theorem PCh.cells_len (c : PCh) : c.cells.length = 5 := rfl
def chsCells (l : List PCh) : List Value := l.flatMap PCh.cells
theorem chsCells_len (l : List PCh) : (chsCells l).length = l.length * 5 := by
  induction l with
  | nil => rfl
  | cons x l ih => simp only [chsCells, List.flatMap_cons, List.length_append, PCh.cells_len, List.length_cons] at *; omega
theorem chsCells_append (a b : List PCh) : chsCells (a ++ b) = chsCells a ++ chsCells b := by simp [chsCells]
theorem chsCells_one (l : List PCh) : ∀ u ∈ chsCells l, u.oneCell' = true := by
  intro u hu
  obtain ⟨c, _, hc⟩ := List.mem_flatMap.1 hu
  simp [PCh.cells] at hc
  rcases hc with rfl | rfl | rfl | rfl | rfl <;> rfl
theorem chsCells_at : ∀ (l : List PCh) (i : Nat) (c : PCh), l[i]? = some c → ∀ j, j < 5 → (chsCells l)[i * 5 + j]? = c.cells[j]?
  | [], i, o, h, _, _ => by simp at h
  | x :: l, 0, o, h, j, hj => by
    simp at h
    subst h
    simp only [chsCells, List.flatMap_cons, Nat.zero_mul, Nat.zero_add]
    rw [List.getElem?_append_left (by rw [PCh.cells_len]; exact hj)]
  | x :: l, i + 1, o, h, j, hj => by
    have ih := chsCells_at l i o (by simpa using h) j hj
    simp only [chsCells, List.flatMap_cons]
    rw [List.getElem?_append_right (by rw [PCh.cells_len]; omega), PCh.cells_len, show (i + 1) * 5 + j - 5 = i * 5 + j by omega]
    exact ih
/-- The cells of the change at i. -/
theorem SlAt.chg {w : World} {A : Option Addr} {l : List PCh} (h : SlAt w A (chsCells l)) {i : Nat} {c : PCh} (hc : l[i]? = some c) :
    ∃ b off, A = some ⟨b, off, none⟩ ∧ ∀ j u, c.cells[j]? = some u → w.cell? ⟨b, off + i * 5 + j, none⟩ = some u := by
  have hi : i < l.length := (List.getElem?_eq_some_iff.1 hc).1
  rcases h with h | ⟨b, off, hA, hcl⟩
  · have := chsCells_len l; rw [h] at this; simp at this; omega
  · refine ⟨b, off, hA, fun j u hu => ?_⟩
    have hj : j < 5 := by have := (List.getElem?_eq_some_iff.1 hu).1; rw [PCh.cells_len] at this; exact this
    rw [Nat.add_assoc]
    exact hcl _ _ (by rw [chsCells_at l i c hc j hj]; exact hu)

/-- The order in which All goes through the refs. -/
def rowF (L : List PCh) : Nat → List (Int × Int) → List (Int × Int) → List (Int × Int)
  | 0, _, _ => []
  | n + 1, left, done => match left.findIdx? (okIn L done) with
    | none => []
    | some i => left.getD i (0, 0) :: rowF L n (left.eraseIdx i) (left.getD i (0, 0) :: done)

theorem first_split {α : Type} (p : α → Prop) [DecidablePred p] : ∀ (L : List α), (∃ x ∈ L, p x) → ∃ L1 c L2, L = L1 ++ c :: L2 ∧ p c ∧ ∀ x ∈ L1, ¬ p x
  | [], h => by obtain ⟨x, hx, _⟩ := h; cases hx
  | y :: L, h => by
    by_cases hy : p y
    · exact ⟨[], y, L, rfl, hy, fun x hx => (by cases hx)⟩
    · obtain ⟨x, hx, hp⟩ := h
      rcases List.mem_cons.1 hx with rfl | hx
      · exact absurd hp hy
      · obtain ⟨L1, c, L2, e, h1, h2⟩ := first_split p L ⟨x, hx, hp⟩
        exact ⟨y :: L1, c, L2, by rw [e]; rfl, h1, fun z hz => by
          rcases List.mem_cons.1 hz with rfl | hz
          · exact hy
          · exact h2 z hz⟩

/-- There is always one that may come next. -/
theorem ready_one {L : List PCh} (hn : (L.map PCh.ref).Nodup) (hs : ∀ L1 c L2, L = L1 ++ c :: L2 → ∀ d ∈ c.deps, d ∈ L1.map PCh.ref) {left done : List (Int × Int)} (hne : left ≠ [])
    (h1 : ∀ r ∈ left, r ∈ L.map PCh.ref) (h2 : ∀ r ∈ L.map PCh.ref, r ∈ left ∨ r ∈ done) : ∃ r ∈ left, okIn L done r = true := by
  obtain ⟨r0, hr0⟩ := List.exists_mem_of_ne_nil _ hne
  obtain ⟨c0, hc0, hcr⟩ := List.mem_map.1 (h1 r0 hr0)
  obtain ⟨L1, c, L2, e, hc, hL1⟩ := first_split (fun c : PCh => c.ref ∈ left) L ⟨c0, hc0, by rw [hcr]; exact hr0⟩
  refine ⟨c.ref, hc, ?_⟩
  have hd : depsL L c.ref = c.deps := by unfold depsL; rw [findC_of hn (by rw [e]; simp)]; rfl
  unfold okIn
  rw [hd]
  simp only [Bool.not_eq_true', List.any_eq_false]
  intro d hdm
  have hdl := hs L1 c L2 e d hdm
  obtain ⟨x, hx, rfl⟩ := List.mem_map.1 hdl
  have hxl : x.ref ∈ L.map PCh.ref := by rw [e]; exact List.mem_map_of_mem (by simp [hx])
  rcases h2 _ hxl with h | h
  · exact absurd h (hL1 x hx)
  · simp [h]

/-- How far All has come. -/
structure AllP (L : List PCh) (keys : List (Int × Int)) (al : List PCh) (left : List (Int × Int)) : Prop where
  row : al.map PCh.ref ++ rowF L left.length left (al.map PCh.ref).reverse = rowF L keys.length keys []
  perm : (al.map PCh.ref ++ left).Perm keys
  src : ∀ x ∈ al, ∃ y ∈ L, y.ref = x.ref ∧ x.ch = y.ch
  ord : ∀ k x, al[k]? = some x → ∀ d ∈ x.deps, d ∈ (al.take k).map PCh.ref
theorem AllP.start (L : List PCh) (keys : List (Int × Int)) : AllP L keys [] keys := ⟨rfl, List.Perm.refl _, fun x hx => (by cases hx), fun k x h => (by simp at h)⟩
theorem AllP.idx {L : List PCh} {keys : List (Int × Int)} {al : List PCh} {left : List (Int × Int)} (h : AllP L keys al left) (hn : (L.map PCh.ref).Nodup) (hs : ∀ L1 c L2, L = L1 ++ c :: L2 → ∀ d ∈ c.deps, d ∈ L1.map PCh.ref)
    (hk : keys.Perm (L.map PCh.ref)) (hne : left ≠ []) : ∃ i y, left.findIdx? (okIn L (al.map PCh.ref).reverse) = some i ∧ idxOf (okIn L (al.map PCh.ref).reverse) left = i ∧ i < left.length ∧ y ∈ L ∧ findC L (left.getD i (0, 0)) = some y ∧ y.ref = left.getD i (0, 0) ∧ left[i]? = some y.ref ∧
      ∀ d ∈ y.deps, d ∈ al.map PCh.ref := by
  have hp := h.perm.trans hk
  have h1 : ∀ r ∈ left, r ∈ L.map PCh.ref := fun r hr => hp.mem_iff.1 (List.mem_append.2 (.inr hr))
  have h2 : ∀ r ∈ L.map PCh.ref, r ∈ left ∨ r ∈ (al.map PCh.ref).reverse := fun r hr => by
    rcases List.mem_append.1 (hp.mem_iff.2 hr) with h | h
    · exact .inr (List.mem_reverse.2 h)
    · exact .inl h
  obtain ⟨r, hr, hok⟩ := ready_one hn hs hne h1 h2
  cases hf : left.findIdx? (okIn L (al.map PCh.ref).reverse) with
  | none =>
    rw [List.findIdx?_eq_none_iff] at hf
    rw [hf r hr] at hok
    cases hok
  | some i =>
    obtain ⟨hi, hoki, _⟩ := List.findIdx?_eq_some_iff_getElem.1 hf
    have hg : left.getD i (0, 0) = left[i] := by simp [List.getD_eq_getElem?_getD, hi]
    have hm : left[i] ∈ L.map PCh.ref := h1 _ (List.getElem_mem hi)
    obtain ⟨y, hy, hyr⟩ := List.mem_map.1 hm
    have hfy : findC L (left.getD i (0, 0)) = some y := by rw [hg, ← hyr]; exact findC_of hn hy
    refine ⟨i, y, rfl, by unfold idxOf; rw [hf], hi, hy, hfy, by rw [hg]; exact hyr, by rw [hyr]; exact List.getElem?_eq_getElem hi, fun d hd => ?_⟩
    have hdl : depsL L left[i] = y.deps := by unfold depsL; rw [← hg, hfy]; rfl
    unfold okIn at hoki
    rw [hdl] at hoki
    simp only [Bool.not_eq_true', List.any_eq_false] at hoki
    have := hoki d hd
    simpa using this
theorem AllP.step {L : List PCh} {keys : List (Int × Int)} {al : List PCh} {left : List (Int × Int)} (h : AllP L keys al left) {i : Nat} {x y : PCh} (hf : left.findIdx? (okIn L (al.map PCh.ref).reverse) = some i) (hi : i < left.length)
    (hy : y ∈ L) (hyr : y.ref = left.getD i (0, 0)) (hd : ∀ d ∈ y.deps, d ∈ al.map PCh.ref) (hxr : x.ref = y.ref) (hxc : x.ch = y.ch) : AllP L keys (al ++ [x]) (left.eraseIdx i) := by
  have hg : left.getD i (0, 0) = left[i] := by simp [List.getD_eq_getElem?_getD, hi]
  refine ⟨?_, ?_, ?_, ?_⟩
  · rw [← h.row]
    have hl : left.length = (left.eraseIdx i).length + 1 := by rw [List.length_eraseIdx, if_pos hi]; omega
    rw [hl]
    show _ = _ ++ rowF L (_ + 1) left _
    rw [rowF, hf]
    simp only [List.map_append, List.map_cons, List.map_nil, List.append_assoc, List.singleton_append, List.reverse_append, List.reverse_cons, List.reverse_nil, List.nil_append]
    rw [hxr, hyr]
  · refine List.Perm.trans ?_ h.perm
    rw [List.map_append, List.append_assoc]
    refine List.Perm.append_left _ ?_
    rw [List.map_cons, List.map_nil, List.singleton_append, hxr, hyr, hg]
    rw [List.eraseIdx_eq_take_drop_succ]
    have e : left = left.take i ++ left[i] :: left.drop (i + 1) := by rw [← List.drop_eq_getElem_cons hi, List.take_append_drop]
    exact (List.perm_middle.symm).trans (by rw [← e])
  · intro z hz
    rcases List.mem_append.1 hz with hz | hz
    · exact h.src z hz
    · rw [List.mem_singleton] at hz
      subst hz
      exact ⟨y, hy, hxr.symm, hxc⟩
  · intro k z hz d hdz
    by_cases hk : k < al.length
    · rw [List.getElem?_append_left hk] at hz
      rw [List.take_append_of_le_length (Nat.le_of_lt hk)]
      exact h.ord k z hz d hdz
    · have hkl : k = al.length := by
        have := (List.getElem?_eq_some_iff.1 hz).1
        simp at this
        omega
      subst hkl
      rw [List.getElem?_append_right (Nat.le_refl _), Nat.sub_self] at hz
      have : x = z := by simpa using hz
      subst this
      rw [List.take_append_of_le_length (Nat.le_refl _), List.take_length]
      have : x.deps = y.deps := congrArg Ch.deps hxc
      rw [this] at hdz
      exact hd d hdz

/-- What All gives. -/
structure AllOf (L al : List PCh) : Prop where
  row : al.map PCh.ref = rowF L L.length (sortR (L.map PCh.ref)) []
  len : al.length = L.length
  ndp : (al.map PCh.ref).Nodup
  src : ∀ x ∈ al, ∃ y ∈ L, y.ref = x.ref ∧ x.ch = y.ch
  ord : ∀ k x, al[k]? = some x → ∀ d ∈ x.deps, d ∈ (al.take k).map PCh.ref
theorem sortR_sorted (l : List (Int × Int)) : (sortR l).Pairwise (fun x y => (!(ltOf cmpId) y x) = true) := by
  unfold sortR
  refine List.pairwise_mergeSort (fun a b c h1 h2 => ?_) (fun a b => ?_) l
  · simp only [Bool.not_eq_true'] at *
    cases hca : ltOf cmpId c a with
    | false => rfl
    | true =>
      exfalso
      cases hab : ltOf cmpId a b with
      | true => have := swo_refs.trans _ _ _ hca hab; rw [h2] at this; cases this
      | false =>
        have := tot_refs a b hab h1
        subst this
        rw [h2] at hca
        cases hca
  · cases h1 : ltOf cmpId b a <;> cases h2 : ltOf cmpId a b <;> try rfl
    have := swo_refs.trans _ _ _ h1 h2
    rw [swo_refs.irrefl] at this
    cases this
/-- Two rows of the same refs are sorted alike. -/
theorem sortR_eq {a b : List (Int × Int)} (h : a.Perm b) : sortR a = sortR b := by
  have hp : (sortR a).Perm (sortR b) := (sortR_perm a).trans (h.trans (sortR_perm b).symm)
  refine List.Perm.eq_of_pairwise (le := fun x y => (!(ltOf cmpId) y x) = true) ?_ ?_ ?_ hp
  · intro x y _ _ h1 h2
    exact tot_refs x y (by simpa using h2) (by simpa using h1)
  · exact sortR_sorted a
  · exact sortR_sorted b
theorem AllP.fin {L : List PCh} {l : List (Int × Int)} {al : List PCh} (h : AllP L (sortR l) al []) (hk : l.Perm (L.map PCh.ref)) (hn : (L.map PCh.ref).Nodup) : AllOf L al := by
  have hp : (al.map PCh.ref).Perm (L.map PCh.ref) := by
    have := h.perm
    rw [List.append_nil] at this
    exact this.trans ((sortR_perm l).trans hk)
  have hlen : l.length = L.length := by simpa using hk.length_eq
  refine ⟨?_, by simpa using hp.length_eq, hp.nodup_iff.2 hn, h.src, h.ord⟩
  have := h.row
  rw [List.length_nil, rowF, List.append_nil, sortR_len, hlen, sortR_eq hk] at this
  exact this
theorem KeysAre.perm {w : World} {bk h wt bh : Nat} {Dh Dw Db : DataW Value} {L : List PCh} {l : List (Int × Int)} (hk : KeysAre Dh l) (H : Dag w bk h wt bh Dh Dw Db L) : l.Perm (L.map PCh.ref) := by
  refine (List.perm_ext_iff_of_nodup hk.nodup H.ndp).2 (fun r => ?_)
  constructor
  · intro hr
    exact (H.hasB_mem (hk.i2 r hr)).1 ((hk.mem r (hk.i2 r hr)).1 hr)
  · intro hr
    obtain ⟨c, hc, rfl⟩ := List.mem_map.1 hr
    have hi := (chE_good (H.good c hc).2).i2
    exact (hk.mem _ hi).2 ((H.hasB_mem hi).2 hr)
/-- Two answers are alike. -/
theorem AllOf.same {L a b : List PCh} (hn : (L.map PCh.ref).Nodup) (ha : AllOf L a) (hb : AllOf L b) : a.map PCh.ch = b.map PCh.ch := by
  have hr : a.map PCh.ref = b.map PCh.ref := ha.row.trans hb.row.symm
  have hlen : a.length = b.length := by rw [ha.len, hb.len]
  apply List.ext_getElem
  · simpa using hlen
  · intro i h1 h2
    simp only [List.length_map] at h1 h2
    simp only [List.getElem_map]
    have hri : a[i].ref = b[i].ref := by
      have := List.getElem_of_eq hr (i := i) (by simpa using h1)
      simpa using this
    obtain ⟨y, hy, e1, e2⟩ := ha.src _ (List.getElem_mem h1)
    obtain ⟨z, hz, f1, f2⟩ := hb.src _ (List.getElem_mem h2)
    have : y = z := by
      have g1 := findC_of hn hy
      have g2 := findC_of hn hz
      rw [e1, hri, ← f1, g2] at g1
      exact (Option.some.inj g1).symm
    subst this
    rw [e2, f2]
end Go.Proofs.YteknflimfdkhoaaGreat
namespace Go.Proofs.YteknflimfdkhoaaGreat
open Go.RowKit Go.Sort
set_option linter.unusedVariables false
set_option linter.unusedSimpArgs false

/-- The changes of a book in the order in which All gives them. -/
def depsR (L : List Ch) (r : Int × Int) : List (Int × Int) := ((findR L r).map Ch.deps).getD []
def okR (L : List Ch) (done : List (Int × Int)) (r : Int × Int) : Bool := !((depsR L r).any fun d => !decide (d ∈ done))
def rowR (L : List Ch) : Nat → List (Int × Int) → List (Int × Int) → List (Int × Int)
  | 0, _, _ => []
  | n + 1, left, done => match left.findIdx? (okR L done) with
    | none => []
    | some i => left.getD i (0, 0) :: rowR L n (left.eraseIdx i) (left.getD i (0, 0) :: done)
def allV (L : List Ch) : List Ch := (rowR L L.length (sortR (L.map Ch.ref)) []).filterMap (findR L)
theorem depsR_map (L : List PCh) (r : Int × Int) : depsR (L.map PCh.ch) r = depsL L r := by
  unfold depsR depsL
  rw [findR_map, Option.map_map]
  rfl
theorem rowR_map (L : List PCh) : ∀ (n : Nat) (left done : List (Int × Int)), rowR (L.map PCh.ch) n left done = rowF L n left done
  | 0, _, _ => rfl
  | n + 1, left, done => by
    have h : okR (L.map PCh.ch) done = okIn L done := by
      funext r
      unfold okR okIn
      rw [depsR_map]
    rw [rowR, rowF, h]
    cases left.findIdx? (okIn L done) with
    | none => rfl
    | some i => exact congrArg _ (rowR_map L n _ _)
theorem AllOf.eq {L al : List PCh} (h : AllOf L al) (hn : (L.map PCh.ref).Nodup) : al.map PCh.ch = allV (L.map PCh.ch) := by
  unfold allV
  rw [List.length_map, map_ch_ref, rowR_map, ← h.row, List.filterMap_map]
  have key : ∀ l : List PCh, (∀ x ∈ l, ∃ y ∈ L, y.ref = x.ref ∧ x.ch = y.ch) → l.map PCh.ch = l.filterMap (findR (L.map PCh.ch) ∘ PCh.ref) := by
    intro l
    induction l with
    | nil => intro _; rfl
    | cons x l ih =>
      intro hl
      obtain ⟨y, hy, h1, h2⟩ := hl x List.mem_cons_self
      rw [List.map_cons, List.filterMap_cons]
      have e : (findR (L.map PCh.ch) ∘ PCh.ref) x = some x.ch := by
        show findR (L.map PCh.ch) x.ref = _
        rw [findR_map, ← h1, findC_of hn hy, h2]
        rfl
      rw [e, ih (fun z hz => hl z (List.mem_cons_of_mem _ hz))]
  exact key al h.src
theorem AllOf.mem {L al : List PCh} (h : AllOf L al) {x : PCh} (hx : x ∈ al) : x.ch ∈ L.map PCh.ch := by
  obtain ⟨y, hy, _, e⟩ := h.src x hx
  rw [e]
  exact List.mem_map_of_mem hy

/-- A hand: who, the book, what waits, what is pending. -/
structure DocV where
  actor : Int
  L : List Ch
  W : List Ch
  pend : List OpV
def DocV.all (D : DocV) : List Ch := allV D.L
/-- The number of the first pending op, and of the change. -/
def startF (actor : Int) (p : Int × Int) (c : Ch) : Int × Int := (max p.1 (c.start + c.ops.length), if c.actor = actor then max p.2 (c.seq + 1) else p.2)
def startV (actor : Int) (l : List Ch) : Int × Int := l.foldl (startF actor) (1, 1)
def DocV.start (D : DocV) : Int × Int := startV D.actor D.all
def DocV.state (D : DocV) : Sta := doOps (doChs stNew D.all) D.actor D.start.1 D.pend
/-- What is wrong with a key. -/
def kindE (k : Option Int) (key : ByteArray) : Int :=
  match k with
  | none => 6
  | some k => if k = 5 then (if key.toList.isEmpty = true then 1 else if 20 < key.size then 4 else 0) else 10
def keyedE (s : Sta) (obj : Int × Int) (key : ByteArray) : Int := kindE (s.kinds obj) key
theorem kindE_key {k : Int} {key : ByteArray} (h5 : k = 5) (h : key.toList.isEmpty = true) : kindE (some k) key = 1 := by
  unfold kindE
  dsimp only
  rw [if_pos h5, if_pos h]
theorem kindE_long {k : Int} {key : ByteArray} (h5 : k = 5) (h : ¬ key.toList.isEmpty = true) (hl : 20 < key.size) : kindE (some k) key = 4 := by
  unfold kindE
  dsimp only
  rw [if_pos h5, if_neg h, if_pos hl]
theorem kindE_ok {k : Int} {key : ByteArray} (h5 : k = 5) (h : ¬ key.toList.isEmpty = true) (hl : ¬ 20 < key.size) : kindE (some k) key = 0 := by
  unfold kindE
  dsimp only
  rw [if_pos h5, if_neg h, if_neg hl]
theorem kindE_kind {k : Int} {key : ByteArray} (h5 : ¬ k = 5) : kindE (some k) key = 10 := by
  unfold kindE
  dsimp only
  rw [if_neg h5]
/-- What an op overwrites. -/
def predsV (o : OpV) (f : Vm) (ids : List (Int × Int)) : List (Int × Int) := ids.filter fun n => decide (o.kind ≠ 4) || (((f n).getD zJV).k == 4)
/-- What add does: the error, the id, what is pending then. -/
def addV (D : DocV) (o : OpV) (f : Vm) (ids : List (Int × Int)) : Int × (Int × Int) × List OpV :=
  let ps := predsV o f ids
  if o.kind = 3 ∧ ps = [] then (6, (0, 0), D.pend)
  else if o.kind = 4 ∧ ps = [] then (10, (0, 0), D.pend)
  else if 40 ≤ D.pend.length ∨ 12 < ids.length ∨ 1000000 < D.start.1 + D.pend.length ∨ 120 ≤ D.L.length + D.W.length then (4, (0, 0), D.pend)
  else (0, (D.start.1 + D.pend.length, D.actor), D.pend ++ [{ o with preds := sortC cmpId ps }])
/-- What onKey does. -/
def onKeyV (D : DocV) (o : OpV) (ok : Int) (ids : List (Int × Int)) : Int × (Int × Int) × List OpV :=
  if keyedE D.state o.obj o.key ≠ 0 then (keyedE D.state o.obj o.key, (0, 0), D.pend)
  else if ok ≠ 0 then (ok, (0, 0), D.pend)
  else addV D o (D.state.mv (o.obj, o.key, (0, 0))) ids
/-- No op comes in. -/
structure DocV.noIns (D : DocV) : Prop where
  book : ∀ c ∈ D.L, ∀ o ∈ c.ops, o.ins = false
  pend : ∀ o ∈ D.pend, o.ins = false
theorem startV_snoc (actor : Int) (l : List Ch) (c : Ch) : startV actor (l ++ [c]) = startF actor (startV actor l) c := by
  unfold startV
  rw [List.foldl_append]
  rfl
/-- The numbers are not too great. -/
theorem startV_le (actor : Int) (l : List Ch) (h : ∀ c ∈ l, c.start ≤ 1000000 ∧ c.ops.length ≤ 40 ∧ c.seq ≤ 1000000) : 1 ≤ (startV actor l).1 ∧ (startV actor l).1 ≤ 1000040 ∧ 1 ≤ (startV actor l).2 ∧ (startV actor l).2 ≤ 1000001 := by
  revert h
  refine snocInd (P := fun l => (∀ c ∈ l, c.start ≤ 1000000 ∧ c.ops.length ≤ 40 ∧ c.seq ≤ 1000000) → 1 ≤ (startV actor l).1 ∧ (startV actor l).1 ≤ 1000040 ∧ 1 ≤ (startV actor l).2 ∧ (startV actor l).2 ≤ 1000001) (fun _ => ⟨by show (1 : Int) ≤ 1; decide, by show (1 : Int) ≤ 1000040; decide, by show (1 : Int) ≤ 1; decide, by show (1 : Int) ≤ 1000001; decide⟩) (fun l c ih h => ?_) l
  obtain ⟨h1, h2, h3, h4⟩ := ih (fun x hx => h x (List.mem_append_left _ hx))
  obtain ⟨c1, c2, c3⟩ := h c (by simp)
  rw [startV_snoc]
  unfold startF
  dsimp only
  refine ⟨Int.le_trans h1 (Int.le_max_left _ _), Int.max_le.2 ⟨h2, by omega⟩, ?_, ?_⟩
  · split
    · exact Int.le_trans h3 (Int.le_max_left _ _)
    · exact h3
  · split
    · exact Int.max_le.2 ⟨h4, by omega⟩
    · exact h4
end Go.Proofs.YteknflimfdkhoaaGreat
