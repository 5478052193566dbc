/- Arguments opened: slices of numbers, of pairs of numbers. Over any program. JSON trees without addresses: how many, whether one is formed, places, patches; and what holds of them. Over no program. -/
import Derived.Test.YteknflimfdkhoaaGreatDg1
import Derived.ProofKit
import Derived.Deep.SlicePairs
import Derived.Sort.Walk0
namespace Go.Proofs.YteknflimfdkhoaaGreat
open Go.RowKit Go.ChangeShapes Go.WideShapes Go.Deep
set_option linter.unusedVariables false

def I64 (x : Int) : Prop := -9223372036854775808 ≤ x ∧ x ≤ 9223372036854775807
theorem i64_of_wf {x : Int} (h : (Lit.int .i64 x).wf = true) : I64 x := by
  simp only [Lit.wf, Bool.and_eq_true, decide_eq_true_eq] at h
  exact h

theorem addr_none {w : World} {a : Addr} {u : Value} (h : w.cell? (a.add 0) = some u) : a = ⟨a.block, a.off, none⟩ := by
  obtain ⟨b, off, spot⟩ := a
  have hs := World.cell?_spot h
  have : spot = none := by simpa [Addr.add] using hs
  subst this
  rfl
theorem add_eq {a : Addr} (h : a = ⟨a.block, a.off, none⟩) (k : Nat) : a.add k = ⟨a.block, a.off + k, none⟩ := by
  obtain ⟨b, off, spot⟩ := a
  injection h with _ _ h
  subst h
  unfold Addr.add
  split
  · rename_i hk; subst hk; rfl
  · rfl

section
variable {H : Type} {enc : TypeId × Value → H} {P : Program} {w : World} {base : Nat} {spare : Nat → Bool} {held : Bool}

theorem trod_refs {t e : TypeId} {f0 f1 : Field} {fuel : Nat} {cs : List Value} {x : DataW H × List MemPlace} (ht : P.underlying t = some (.slice e)) (he : P.underlying e = some (.struct #[f0, f1]))
    (ce : P.cellsOf e = 2) (o0 : f0.offset = 0) (o1 : f1.offset = 1) (c0 : P.cellsOf f0.type = 1) (c1 : P.cellsOf f1.type = 1) (t0 : P.underlying f0.type = some (.int .i64)) (t1 : P.underlying f1.type = some (.int .i64))
    (h : DataW.trod enc P w base spare held fuel t cs = some x) :
    ∃ A c l, cs = [.slice A l.length c] ∧ SlAt w A (refs l) ∧ (∀ r ∈ l, I64 r.1 ∧ I64 r.2) ∧ l.length ≤ maxLen := by
  rcases open_slice_pairs ht he ce o0 o1 c0 c1 h with ⟨rfl, _⟩ | ⟨a, len, cap, m, n, V0, V1, D0, D1, P0, P1, rfl, _, hl, hm, hmm, _, hx⟩
  · exact ⟨none, 0, [], rfl, .inl rfl, by simp, by simp⟩
  · have hlm : len ≤ m := by rw [hmm]; split <;> omega
    have each : ∀ i, i < len → ∃ q : Int × Int, w.cell? (a.add (i * 2)) = some (.int .i64 q.1) ∧ w.cell? (a.add (i * 2 + 1)) = some (.int .i64 q.2) ∧ I64 q.1 ∧ I64 q.2 := by
      intro i hi
      obtain ⟨g0, g1, d0, d1⟩ := hx i (by omega)
      obtain ⟨n0, e0, _, w0⟩ := DataW.trod_int t0 d0
      obtain ⟨n1, e1, _, w1⟩ := DataW.trod_int t1 d1
      simp only [List.cons.injEq, and_true] at e0 e1
      exact ⟨(n0, n1), by rw [g0, e0], by rw [g1, e1], i64_of_wf w0, i64_of_wf w1⟩
    obtain ⟨q, hq⟩ := choose_lt each
    have hlen : ((List.range len).map q).length = len := by simp
    refine ⟨some a, cap, (List.range len).map q, by rw [hlen], ?_, ?_, by rw [hlen]; omega⟩
    · by_cases h0 : len = 0
      · subst h0; exact .inl rfl
      · obtain ⟨c0, _⟩ := hq 0 (by omega)
        have ha := addr_none (by simpa using c0)
        refine .inr ⟨a.block, a.off, by rw [← ha], fun j u hu => ?_⟩
        have hj : j < len * 2 := by
          have := (List.getElem?_eq_some_iff.1 hu).1
          rw [refs_length, hlen] at this; exact this
        obtain ⟨g0, g1, _⟩ := hq (j / 2) (by omega)
        have hr := refs_at ((List.range len).map q) (j / 2) (q (j / 2)) (by rw [List.getElem?_map, List.getElem?_range (by omega)]; rfl)
        have hadd := add_eq ha
        rcases Nat.mod_two_eq_zero_or_one j with e | e
        · have ej : j / 2 * 2 = j := by omega
          rw [ej] at g0 hr
          rw [hr.1] at hu
          injection hu with hu
          rw [← hadd, g0, hu]
        · have ej : j / 2 * 2 + 1 = j := by omega
          rw [ej] at g1 hr
          rw [hr.2] at hu
          injection hu with hu
          rw [← hadd, g1, hu]
    · intro r hr
      obtain ⟨i, hi, rfl⟩ := List.mem_map.1 hr
      exact (hq i (by simpa using hi)).2.2
end
end Go.Proofs.YteknflimfdkhoaaGreat
namespace Go.Proofs.YteknflimfdkhoaaGreat
open Go.RowKit
set_option linter.unusedVariables false

/-- A value: kind, number, text, object (number, actor). -/
structure JV where
  k : Int
  n : Int
  s : ByteArray
  o : Int
  p : Int

def JV.cells (v : JV) : List Value := [.int .i64 v.k, .int .i64 v.n, .string v.s, .int .i64 v.o, .int .i64 v.p]
structure JV.Fit (v : JV) : Prop where
  k : I64 v.k
  n : I64 v.n
  s : v.s.size ≤ maxLen
  o : I64 v.o
  p : I64 v.p

/-- A tree: its value, its keys, its kids. -/
inductive JT where
  | node (v : JV) (keys : List ByteArray) (kids : List JT)
def JT.val : JT → JV | .node v .. => v
def JT.keys : JT → List ByteArray | .node _ ks _ => ks
def JT.kids : JT → List JT | .node _ _ l => l
theorem JT.ind {P : JT → Prop} (h : ∀ v keys kids, (∀ k ∈ kids, P k) → P (.node v keys kids)) : ∀ T, P T :=
  fun T => JT.rec (motive_1 := P) (motive_2 := fun l => ∀ k ∈ l, P k) (fun v keys kids ih => h v keys kids ih) (by simp) (fun k l hk hl => by intro x hx; rcases List.mem_cons.1 hx with rfl | hx; exact hk; exact hl x hx) T

/-! How many. -/
mutual
def JT.size : JT → Nat
  | .node _ _ l => 1 + JT.sizeL l
def JT.sizeL : List JT → Nat
  | [] => 0
  | k :: l => k.size + JT.sizeL l
end
theorem JT.size_eq (T : JT) : T.size = 1 + JT.sizeL T.kids := by cases T; simp [JT.size, JT.kids]
theorem JT.size_pos (T : JT) : 1 ≤ T.size := by cases T; simp [JT.size]
theorem JT.sizeL_append (a b : List JT) : JT.sizeL (a ++ b) = JT.sizeL a + JT.sizeL b := by
  induction a with
  | nil => simp [JT.sizeL]
  | cons x a ih => simp [JT.sizeL, ih]; omega
theorem JT.sizeL_take_succ {l : List JT} {i : Nat} {k : JT} (h : l[i]? = some k) : JT.sizeL (l.take (i + 1)) = JT.sizeL (l.take i) + k.size := by
  rw [List.take_add_one, h, JT.sizeL_append]; simp [JT.sizeL]
theorem JT.length_le_sizeL (l : List JT) : l.length ≤ JT.sizeL l := by
  induction l with
  | nil => simp [JT.sizeL]
  | cons x l ih => have := x.size_pos; simp [JT.sizeL]; omega
theorem JT.sizeL_take_le (l : List JT) (i : Nat) : JT.sizeL (l.take i) ≤ JT.sizeL l := by
  conv => rhs; rw [← List.take_append_drop i l, JT.sizeL_append]
  omega

/-! Formed. -/
def JV.bare (v : JV) : Bool := v.s.toList.isEmpty && (v.o == 0 && v.p == 0)
def idReal (o p : Int) : Bool := (decide (1 ≤ o) && decide (o ≤ 1000000)) && (decide (1 ≤ p) && decide (p ≤ 99))
def idOk (o p : Int) : Bool := (o == 0 && p == 0) || idReal o p
/-- A value that may be said. -/
def JV.ok (v : JV) : Bool :=
  if v.k = 0 then v.bare && v.n == 0
  else if v.k = 1 then v.bare && (v.n == 0 || v.n == 1)
  else if v.k = 2 then v.bare
  else if v.k = 3 then v.n == 0 && (v.o == 0 && v.p == 0) && decide ((v.s.size : Int) ≤ 60)
  else if v.k = 4 then v.bare
  else if v.k = 5 then v.n == 0 && v.s.toList.isEmpty && idOk v.o v.p
  else if v.k = 6 then v.n == 0 && v.s.toList.isEmpty && idOk v.o v.p
  else false
def bl (a b : ByteArray) : Bool := Op.bytesLess a.toList b.toList
def keyOk (s : ByteArray) : Bool := !s.toList.isEmpty && decide ((s.size : Int) ≤ 20)
/-- Keys that rise, each one that may be; behind a key that was. -/
def keysFrom : Option ByteArray → List ByteArray → Bool
  | _, [] => true
  | o, k :: l => keyOk k && (match o with | none => true | some x => bl x k) && keysFrom (some k) l
def keysOk (l : List ByteArray) : Bool := keysFrom none l
/-- A value that a tree may have. -/
def JV.head (v : JV) : Bool := v.ok && v.k != 4 && (v.o == 0 && v.p == 0)
def JT.top (T : JT) : Bool :=
  T.val.head && (if T.val.k = 5 then (T.keys.length == T.kids.length) && keysOk T.keys else if T.val.k = 6 then T.keys.length == 0 else T.keys.length == 0 && T.kids.length == 0)
mutual
def JT.formed : JT → Bool
  | .node v keys kids => (JT.node v keys kids).top && JT.formedL kids
def JT.formedL : List JT → Bool
  | [] => true
  | k :: l => k.formed && JT.formedL l
end
theorem JT.formed_eq (T : JT) : T.formed = (T.top && JT.formedL T.kids) := by cases T; simp [JT.formed, JT.kids]
theorem JT.formedL_iff (l : List JT) : JT.formedL l = true ↔ ∀ k ∈ l, k.formed = true := by
  induction l with
  | nil => simp [JT.formedL]
  | cons x a ih => simp [JT.formedL, ih]
theorem JT.formedL_false {l : List JT} {i : Nat} {k : JT} (h : l[i]? = some k) (hk : k.formed = false) : JT.formedL l = false := by
  cases hl : JT.formedL l with
  | false => rfl
  | true => rw [(JT.formedL_iff l).1 hl k (List.mem_of_getElem? h)] at hk; cases hk
theorem JT.formed_iff (T : JT) : T.formed = true ↔ T.top = true ∧ ∀ k ∈ T.kids, k.formed = true := by
  rw [JT.formed_eq, Bool.and_eq_true, JT.formedL_iff]

/-! The order of keys. -/
theorem bl_eq (a b : ByteArray) : bl a b = decide (a.data.toList < b.data.toList) := by
  unfold bl
  rw [bytesLess_eq, ByteArray.toList_eq, ByteArray.toList_eq]
theorem bl_irrefl (a : ByteArray) : bl a a = false := by
  rw [bl_eq]; simp [List.lt_irrefl]
theorem bl_trans {a b c : ByteArray} (h1 : bl a b = true) (h2 : bl b c = true) : bl a c = true := by
  rw [bl_eq] at *
  simp only [decide_eq_true_eq] at *
  exact List.lt_trans h1 h2
theorem bl_total {a b : ByteArray} (h : a ≠ b) (h1 : bl a b = false) : bl b a = true := by
  rw [bl_eq] at *
  simp only [decide_eq_true_eq, decide_eq_false_iff_not] at *
  rcases Std.lt_trichotomy a.data.toList b.data.toList with g | g | g
  · exact absurd g h1
  · exact absurd (Go.WideShapes.bytes_inj g) h
  · exact g
def Rise (l : List ByteArray) : Prop := l.Pairwise fun a b => bl a b = true
theorem keysFrom_iff : ∀ (l : List ByteArray) (o : Option ByteArray), keysFrom o l = true ↔ (∀ k ∈ l, keyOk k = true) ∧ Rise l ∧ (∀ x, o = some x → ∀ k ∈ l, bl x k = true) := by
  intro l
  induction l with
  | nil => intro o; simp [keysFrom, Rise]
  | cons k l ih =>
    intro o
    simp only [keysFrom, Bool.and_eq_true, ih, Rise, List.pairwise_cons, List.mem_cons, forall_eq_or_imp]
    constructor
    · rintro ⟨⟨h1, h2⟩, h3, h4, h5⟩
      refine ⟨⟨h1, h3⟩, ⟨h5 k rfl, h4⟩, ?_⟩
      intro x hx
      subst hx
      exact ⟨h2, fun y hy => bl_trans h2 (h5 k rfl y hy)⟩
    · rintro ⟨⟨h1, h3⟩, ⟨h5, h4⟩, h6⟩
      refine ⟨⟨h1, ?_⟩, h3, h4, ?_⟩
      · cases o with
        | none => rfl
        | some x => exact (h6 x rfl).1
      · rintro x hx
        cases hx
        exact h5
theorem keysOk_iff (l : List ByteArray) : keysOk l = true ↔ (∀ k ∈ l, keyOk k = true) ∧ Rise l := by
  rw [keysOk, keysFrom_iff]
  simp

/-- How many keys are ahead of one. -/
def plc (l : List ByteArray) (x : ByteArray) : Nat := (l.takeWhile fun k => bl k x).length
theorem plc_le (l : List ByteArray) (x : ByteArray) : plc l x ≤ l.length := (List.takeWhile_sublist _).length_le
theorem plc_lt {l : List ByteArray} {x : ByteArray} {t : Nat} (h : t < plc l x) {k : ByteArray} (hk : l[t]? = some k) : bl k x = true := by
  induction l generalizing t with
  | nil => simp at hk
  | cons y l ih =>
    unfold plc at h
    rw [List.takeWhile_cons] at h
    split at h
    · rename_i hy
      cases t with
      | zero => simp at hk; subst hk; exact hy
      | succ t => exact ih (t := t) (by simp at h; exact h) (by simpa using hk)
    · simp at h
theorem plc_at {l : List ByteArray} {x : ByteArray} {k : ByteArray} (hk : l[plc l x]? = some k) : bl k x = false := by
  induction l with
  | nil => simp at hk
  | cons y l ih =>
    unfold plc at hk
    rw [List.takeWhile_cons] at hk
    split at hk
    · exact ih (by simpa [plc] using hk)
    · rename_i hy
      simp at hk
      subst hk
      simpa using hy
theorem plc_ge {l : List ByteArray} (hs : Rise l) {x : ByteArray} {t : Nat} (h : plc l x ≤ t) {k : ByteArray} (hk : l[t]? = some k) : bl k x = false := by
  have hlt := (List.getElem?_eq_some_iff.1 hk).1
  have hp : l[plc l x]? = some l[plc l x] := List.getElem?_eq_getElem (by omega)
  have h0 := plc_at hp
  by_cases e : plc l x = t
  · subst e; rw [hp] at hk; rw [← Option.some.inj hk]; exact h0
  · have h1 : bl l[plc l x] l[t] = true := List.pairwise_iff_getElem.1 hs _ _ (by omega) hlt (by omega)
    rw [List.getElem?_eq_getElem hlt] at hk
    have := Option.some.inj hk
    subst this
    cases hb : bl l[t] x with
    | false => rfl
    | true => rw [bl_trans h1 hb] at h0; cases h0
/-- A key that is there stands at its place. -/
theorem plc_of {l : List ByteArray} (hs : Rise l) {x : ByteArray} {i : Nat} (h : l[i]? = some x) : plc l x = i := by
  have hlt := (List.getElem?_eq_some_iff.1 h).1
  have hle := plc_le l x
  rcases Nat.lt_trichotomy (plc l x) i with g | g | g
  · have h0 : l[plc l x]? = some l[plc l x] := List.getElem?_eq_getElem (by omega)
    have h1 : bl l[plc l x] l[i] = true := List.pairwise_iff_getElem.1 hs _ _ (by omega) hlt (by omega)
    rw [List.getElem?_eq_getElem hlt] at h
    rw [Option.some.inj h, plc_at h0] at h1
    cases h1
  · exact g
  · have := plc_lt g h
    rw [bl_irrefl] at this
    cases this
/-- A key that comes in stands where it came in. -/
theorem plc_ins (l : List ByteArray) (x : ByteArray) : plc (l.take (plc l x) ++ x :: l.drop (plc l x)) x = plc l x := by
  induction l with
  | nil => simp [plc, bl_irrefl]
  | cons y l ih =>
    by_cases hy : bl y x = true
    · have e : plc (y :: l) x = plc l x + 1 := by simp [plc, hy]
      rw [e, List.take_succ_cons, List.drop_succ_cons]
      show plc (y :: (l.take (plc l x) ++ x :: l.drop (plc l x))) x = _
      have e2 : plc (y :: (l.take (plc l x) ++ x :: l.drop (plc l x))) x = plc (l.take (plc l x) ++ x :: l.drop (plc l x)) x + 1 := by simp [plc, hy]
      rw [e2, ih]
    · have e : plc (y :: l) x = 0 := by simp [plc, hy]
      rw [e]
      simp [plc, bl_irrefl]
theorem rise_ins {l : List ByteArray} (hs : Rise l) {x : ByteArray} (h : l[plc l x]? ≠ some x) : Rise (l.take (plc l x) ++ x :: l.drop (plc l x)) := by
  unfold Rise at *
  have hx : ∀ t k, plc l x ≤ t → l[t]? = some k → bl x k = true := by
    intro t k ht hk
    have h1 := plc_ge hs ht hk
    refine bl_total ?_ h1
    rintro rfl
    have := plc_of hs hk
    rw [this] at h
    exact h hk
  rw [List.pairwise_append, List.pairwise_cons]
  refine ⟨hs.sublist (List.take_sublist _ _), ⟨?_, hs.sublist (List.drop_sublist _ _)⟩, ?_⟩
  · intro k hk
    obtain ⟨t, ht⟩ := List.mem_iff_getElem?.1 hk
    rw [List.getElem?_drop] at ht
    exact hx _ k (by omega) ht
  · intro a ha b hb
    obtain ⟨t, ht⟩ := List.mem_iff_getElem?.1 ha
    rw [List.getElem?_take] at ht
    split at ht
    · rename_i htp
      have hax := plc_lt htp ht
      rcases List.mem_cons.1 hb with rfl | hb
      · exact hax
      · obtain ⟨u, hu⟩ := List.mem_iff_getElem?.1 hb
        rw [List.getElem?_drop] at hu
        exact bl_trans hax (hx _ b (by omega) hu)
    · cases ht

/-! Places. -/
structure St where
  key : ByteArray
  at_ : Int
def St.cells (s : St) : List Value := [.string s.key, .int .i64 s.at_]
/-- Is this a step into a map, into a list? -/
def isMapStep (v : JV) (s : St) : Bool := v.k == 5 && !s.key.toList.isEmpty && s.at_ == 0
def isListStep (v : JV) (s : St) (n : Nat) : Bool := v.k == 6 && s.key.toList.isEmpty && decide (0 ≤ s.at_) && decide (s.at_ ≤ (n : Int))
def idxO (v : JV) (keys : List ByteArray) (n : Nat) (s : St) : Option Nat :=
  if isMapStep v s then (if keys[plc keys s.key]? = some s.key then some (plc keys s.key) else none)
  else if isListStep v s n then (if s.at_.toNat < n then some s.at_.toNat else none)
  else none
def JT.idx (t : JT) (s : St) : Option Nat := idxO t.val t.keys t.kids.length s
def JT.get : JT → List St → Option JT
  | t, [] => some t
  | t, s :: p => match t.idx s with
    | none => none
    | some i => match t.kids[i]? with
      | none => none
      | some k => k.get p
def JT.setKid (t : JT) (i : Nat) (k : JT) : JT := .node t.val t.keys (t.kids.set i k)
def insAt {α : Type} (l : List α) (i : Nat) (x : α) : List α := l.take i ++ x :: l.drop i
def delAt {α : Type} (l : List α) (i : Nat) : List α := l.take i ++ l.drop (i + 1)
/-- One patch at the last step. -/
def JT.pat1 (kind : Int) (x : JT) (t : JT) (s : St) : Option JT :=
  if kind = 1 then
    match t.idx s with
    | some i => some (t.setKid i x)
    | none => if isMapStep t.val s then some (.node t.val (insAt t.keys (plc t.keys s.key) s.key) (insAt t.kids (plc t.keys s.key) x)) else none
  else if kind = 2 then
    match t.idx s with
    | some i => some (.node t.val (if s.key.toList.isEmpty then t.keys else delAt t.keys i) (delAt t.kids i))
    | none => none
  else if kind = 3 then (if isListStep t.val s t.kids.length then some (.node t.val t.keys (insAt t.kids s.at_.toNat x)) else none)
  else none
def JT.pat (kind : Int) (x : JT) : JT → List St → Option JT
  | _, [] => none
  | t, [s] => JT.pat1 kind x t s
  | t, s :: r :: p => match t.idx s with
    | none => none
    | some i => match t.kids[i]? with
      | none => none
      | some k => match JT.pat kind x k (r :: p) with
        | none => none
        | some k' => some (t.setKid i k')
def JT.leaf (v : JV) : JT := .node v [] []
end Go.Proofs.YteknflimfdkhoaaGreat
