/- JsonOwn, TrHead. -/
import Derived.Test.YtpeckpiidgkgoaaGreatDoorPg12
import Derived.Test.YtpeckpiidgkgoaaGreatDoorPg4
import Derived.Laws.ResultCell
import Derived.Outline
/- JSON trees that a function owns: each row of keys and of kids is a block of its own. Over no program (TS: the type of strings, TT: of trees). -/
namespace Go.Proofs.YtpeckpiidgkgoaaGreatDoor
open Go.RowKit
set_option linter.unusedVariables false
set_option linter.unusedSimpArgs false

def blkOf (A : Option Addr) : List Nat := match A with | none => [] | some a => [a.block]

theorem own_keep {w w' : World} {e : TypeId} {sz n c : Nat} {A : Option Addr} {xs : List Value} (h : w.ownsRow 0 e sz (.slice A n c) n xs) (hk : ∀ b ∈ blkOf A, b < w.heap.size → w'.heap[b]? = w.heap[b]?) : w'.ownsRow 0 e sz (.slice A n c) n xs := by
  refine ⟨h.1, ?_⟩
  rcases h.2 with hn | ⟨g, cap, cur, hv, hb, hg, rest⟩
  · exact .inl hn
  · refine .inr ⟨g, cap, cur, hv, hb, ?_, rest⟩
    injection hv with hA _ _
    subst hA
    rw [hk g (by simp [blkOf]) (Array.getElem?_eq_some_iff.1 hg).1]
    exact hg
theorem own_lt {w : World} {e : TypeId} {sz n c : Nat} {A : Option Addr} {xs : List Value} (h : w.ownsRow 0 e sz (.slice A n c) n xs) : ∀ b ∈ blkOf A, b < w.heap.size := by
  intro b hb
  cases A with
  | none => simp [blkOf] at hb
  | some a =>
    simp [blkOf] at hb
    subst hb
    exact (h.lt a.block rfl).2

/-- A row's array, turned at some cells. -/
def Upd (cur cur' : Array Value) (o : Nat) (cs : List Value) : Prop :=
  cur'.size = cur.size ∧ ∀ j, j < cur.size → cur'[j]? = if o ≤ j ∧ j < o + cs.length then cs[j - o]? else cur[j]?
theorem cellsL_set {l : List PT} {i : Nat} {K' : PT} (hi : i < l.length) (j : Nat) (hj : j < l.length * 7) :
    (PT.cellsL (l.set i K'))[j]? = if i * 7 ≤ j ∧ j < i * 7 + 7 then K'.cells[j - i * 7]? else (PT.cellsL l)[j]? := by
  have hlen : (PT.cellsL (l.set i K')).length = l.length * 7 := by rw [PT.cellsL_length]; simp
  have h1 : (PT.cellsL (l.set i K'))[j / 7 * 7 + j % 7]? = ((l.set i K')[j / 7]'(by simp; omega)).cells[j % 7]? := PT.cellsL_at _ (j / 7) _ (List.getElem?_eq_getElem (by simp; omega)) (j % 7) (by omega)
  have h2 : (PT.cellsL l)[j / 7 * 7 + j % 7]? = (l[j / 7]'(by omega)).cells[j % 7]? := PT.cellsL_at _ (j / 7) _ (List.getElem?_eq_getElem (by omega)) (j % 7) (by omega)
  rw [show j / 7 * 7 + j % 7 = j from by omega] at h1 h2
  rw [h1, h2]
  by_cases hc : i = j / 7
  · rw [if_pos (by omega)]
    have : (l.set i K')[j / 7]'(by simp; omega) = K' := by subst hc; simp
    rw [this, show j - i * 7 = j % 7 from by omega]
  · rw [if_neg (by omega)]
    have : (l.set i K')[j / 7]'(by simp; omega) = l[j / 7]'(by omega) := by rw [List.getElem_set_ne hc]
    rw [this]
theorem own_upd {w w' : World} {e : TypeId} {n c : Nat} {g o : Nat} {l : List PT} (h : w.ownsRow 0 e 7 (.slice (some ⟨g, o, none⟩) n c) n (PT.cellsL l)) {i : Nat} {K' : PT} (hi : i < l.length) {cur cur' : Array Value} {e' : TypeId}
    (h1 : w.heap[g]? = some (.cells cur e' (0, 0))) (h2 : w'.heap[g]? = some (.cells cur' e' (0, 0))) (hu : Upd cur cur' (i * 7) K'.cells) : w'.ownsRow 0 e 7 (.slice (some ⟨g, o, none⟩) n c) n (PT.cellsL (l.set i K')) := by
  have hl := h.1
  refine ⟨by rw [PT.cellsL_length] at hl ⊢; simp; omega, ?_⟩
  rcases h.2 with ⟨hn, _⟩ | ⟨g', cap, cur0, hv, hb, hg, hc1, hc2, hc3, hc4⟩
  · cases hn
  · injection hv with hA hc5 hc6
    injection hA with hA
    injection hA with hA1 hA2 _
    subst hA1 hA2
    rw [h1] at hg
    injection hg with hg
    injection hg with hg1 hg2 _
    subst hg1 hg2
    refine .inr ⟨g, cap, cur', by rw [hc6], hb, h2, hc1, hc2, by rw [hu.1]; exact hc3, ?_⟩
    apply List.ext_getElem?
    intro j
    rw [PT.cellsL_length] at hl
    have hk7 := K'.cells_length
    have hsz : n * 7 ≤ cur.size := by rw [hc3]; exact Nat.mul_le_mul_right _ hc1
    by_cases hj : j < n * 7
    · rw [cellsL_set hi j (by omega), List.getElem?_take, if_pos hj, Array.getElem?_toList, hu.2 j (by omega), ← hc4]
      rw [hk7, List.getElem?_take, if_pos hj]
      simp only [Array.getElem?_toList]
    · rw [List.getElem?_eq_none (by simp; omega), List.getElem?_eq_none (by rw [PT.cellsL_length]; simp; omega)]

mutual
def PT.own : PT → List Nat
  | .node _ kA _ _ cA _ l => blkOf kA ++ (blkOf cA ++ PT.ownL l)
def PT.ownL : List PT → List Nat
  | [] => []
  | k :: l => k.own ++ PT.ownL l
end
theorem PT.own_eq (T : PT) : T.own = blkOf T.kA ++ (blkOf T.cA ++ PT.ownL T.kids) := by cases T; simp [PT.own, PT.kA, PT.cA, PT.kids]
theorem PT.ownL_append (a b : List PT) : PT.ownL (a ++ b) = PT.ownL a ++ PT.ownL b := by
  induction a with
  | nil => rfl
  | cons x a ih => simp [PT.ownL, ih]
theorem PT.ownL_mem {l : List PT} {k : PT} (hk : k ∈ l) {b : Nat} (hb : b ∈ k.own) : b ∈ PT.ownL l := by
  induction l with
  | nil => simp at hk
  | cons x l ih =>
    rw [PT.ownL]
    rcases List.mem_cons.1 hk with rfl | hk
    · exact List.mem_append_left _ hb
    · exact List.mem_append_right _ (ih hk)

/-- What an owned node holds. -/
structure PT.OSlot (TS TT : TypeId) (w : World) (T : PT) : Prop where
  fit : T.val.Fit
  keys : w.ownsRow 0 TS 1 (.slice T.kA T.keys.length T.kc) T.keys.length (T.keys.map Value.string)
  kids : w.ownsRow 0 TT 7 (.slice T.cA T.kids.length T.cc) T.kids.length (PT.cellsL T.kids)
  each : ∀ s ∈ T.keys, s.size ≤ maxLen
mutual
def OwnJ (TS TT : TypeId) (w : World) : PT → Prop
  | .node v kA kc keys cA cc kids => PT.OSlot TS TT w (.node v kA kc keys cA cc kids) ∧ OwnL TS TT w kids
def OwnL (TS TT : TypeId) (w : World) : List PT → Prop
  | [] => True
  | k :: l => OwnJ TS TT w k ∧ OwnL TS TT w l
end
section
variable {TS TT : TypeId} {w w' : World}
theorem OwnL_iff (l : List PT) : OwnL TS TT w l ↔ ∀ k ∈ l, OwnJ TS TT w k := by
  induction l with
  | nil => simp [OwnL]
  | cons x l ih => simp [OwnL, ih]
theorem OwnJ.slot {T : PT} (h : OwnJ TS TT w T) : T.OSlot TS TT w := by cases T; exact h.1
theorem OwnJ.kids {T : PT} (h : OwnJ TS TT w T) : ∀ k ∈ T.kids, OwnJ TS TT w k := by
  cases T
  exact (OwnL_iff _).1 h.2
theorem OwnJ.mk_ {T : PT} (hs : T.OSlot TS TT w) (hk : ∀ k ∈ T.kids, OwnJ TS TT w k) : OwnJ TS TT w T := by
  cases T
  exact ⟨hs, (OwnL_iff _).2 hk⟩
theorem own_len {e : TypeId} {sz n c : Nat} {A : Option Addr} {xs : List Value} (h : w.ownsRow 0 e sz (.slice A n c) n xs) : n ≤ maxLen := by
  rcases h.2 with ⟨_, rfl⟩ | ⟨g, cap, cur, _, _, _, h1, h2, _⟩
  · exact Nat.zero_le _
  · omega
theorem PT.OSlot.slot {T : PT} (h : T.OSlot TS TT w) : T.Slot w := ⟨h.fit, SlAt.of_owns h.keys, SlAt.of_owns h.kids, own_len h.keys, own_len h.kids, h.each⟩
theorem OwnJ.inJ {T : PT} : OwnJ TS TT w T → InJ w T := by
  refine PT.ind (P := fun T => OwnJ TS TT w T → InJ w T) ?_ T
  intro v kA kc keys cA cc kids ih h
  exact InJ.mk_ h.slot.slot fun k hk => ih k hk (h.kids k hk)
theorem PT.OSlot.keep {T : PT} (h : T.OSlot TS TT w) (hk : ∀ b, b ∈ blkOf T.kA ∨ b ∈ blkOf T.cA → b < w.heap.size → w'.heap[b]? = w.heap[b]?) : T.OSlot TS TT w' :=
  ⟨h.fit, own_keep h.keys fun b hb => hk b (.inl hb), own_keep h.kids fun b hb => hk b (.inr hb), h.each⟩
theorem OwnJ.keep {T : PT} : OwnJ TS TT w T → (∀ b ∈ T.own, b < w.heap.size → w'.heap[b]? = w.heap[b]?) → OwnJ TS TT w' T := by
  refine PT.ind (P := fun T => OwnJ TS TT w T → (∀ b ∈ T.own, b < w.heap.size → w'.heap[b]? = w.heap[b]?) → OwnJ TS TT w' T) ?_ T
  intro v kA kc keys cA cc kids ih h hk
  refine OwnJ.mk_ (h.slot.keep fun b hb => hk b ?_) fun k hkm => ih k hkm (h.kids k hkm) fun b hb => hk b ?_
  · rw [PT.own_eq]
    rcases hb with hb | hb
    · exact List.mem_append_left _ hb
    · exact List.mem_append_right _ (List.mem_append_left _ hb)
  · rw [PT.own_eq]
    exact List.mem_append_right _ (List.mem_append_right _ (PT.ownL_mem hkm hb))
theorem OwnJ.only {T : PT} (h : OwnJ TS TT w T) {S : Nat → Prop} (ho : Only S w w') (hn : ∀ b ∈ T.own, ¬ S b) : OwnJ TS TT w' T :=
  h.keep fun b hb hlt => ho.block b hlt (hn b hb)
theorem OwnJ.lt {T : PT} : OwnJ TS TT w T → ∀ b ∈ T.own, b < w.heap.size := by
  refine PT.ind (P := fun T => OwnJ TS TT w T → ∀ b ∈ T.own, b < w.heap.size) ?_ T
  intro v kA kc keys cA cc kids ih h b hb
  have h0 := h.slot
  rw [PT.own_eq] at hb
  rcases List.mem_append.1 hb with hb | hb
  · exact own_lt h0.keys b hb
  · rcases List.mem_append.1 hb with hb | hb
    · exact own_lt h0.kids b hb
    · have : ∀ l : List PT, (∀ k ∈ l, k ∈ kids) → b ∈ PT.ownL l → b < w.heap.size := by
        intro l
        induction l with
        | nil => intro _ hb; simp [PT.ownL] at hb
        | cons x l ihl =>
          intro hl hb
          rw [PT.ownL] at hb
          rcases List.mem_append.1 hb with hb | hb
          · exact ih x (hl x (by simp)) (h.kids x (hl x (by simp))) b hb
          · exact ihl (fun k hk => hl k (List.mem_cons_of_mem _ hk)) hb
      exact this kids (fun _ h => h) hb
end

/-! A place in a tree. -/
def PT.setKid : PT → Nat → PT → PT
  | .node v kA kc keys cA cc kids, i, K => .node v kA kc keys cA cc (kids.set i K)
def PT.sub : PT → List Nat → Option PT
  | T, [] => some T
  | T, i :: is => match T.kids[i]? with
    | none => none
    | some K => K.sub is
def slotOf (A : Option Addr) (i : Nat) : Addr := match A with | some c => ⟨c.block, c.off + i * 7, none⟩ | none => ⟨0, 0, none⟩
def PT.addr : PT → Addr → List Nat → Addr
  | _, a, [] => a
  | T, a, i :: is => match T.kids[i]? with
    | some K => K.addr (slotOf T.cA i) is
    | none => a
def PT.repl (X' : PT) : PT → List Nat → PT
  | _, [] => X'
  | T, i :: is => match T.kids[i]? with
    | none => T
    | some K => T.setKid i (PT.repl X' K is)
theorem PT.setKid_cells (T : PT) (i : Nat) (K : PT) : (T.setKid i K).cells = T.cells := by
  cases T
  simp [PT.setKid, PT.cells, PT.val, PT.keys, PT.kids, PT.kA, PT.kc, PT.cA, PT.cc]
theorem PT.setKid_tree (T : PT) (i : Nat) (K : PT) : (T.setKid i K).tree = T.tree.setKid i K.tree := by
  cases T
  simp [PT.setKid, PT.tree_eq, PT.val, PT.keys, PT.kids, JT.setKid, JT.val, JT.keys, JT.kids, List.map_set]
theorem PT.sub_snoc {K : PT} {i : Nat} : ∀ {is : List Nat} {T X : PT}, T.sub is = some X → X.kids[i]? = some K → T.sub (is ++ [i]) = some K := by
  intro is
  induction is with
  | nil => intro T X h hk; simp only [PT.sub] at h; injection h with h; subst h; simp [PT.sub, hk]
  | cons j is ih =>
    intro T X h hk
    rw [List.cons_append, PT.sub]
    rw [PT.sub] at h
    cases hj : T.kids[j]? with
    | none => rw [hj] at h; cases h
    | some L =>
      rw [hj] at h
      exact ih h hk
theorem PT.addr_snoc {K : PT} {i : Nat} : ∀ {is : List Nat} {T X : PT} {a : Addr}, T.sub is = some X → X.kids[i]? = some K → T.addr a (is ++ [i]) = slotOf X.cA i := by
  intro is
  induction is with
  | nil => intro T X a h hk; simp only [PT.sub] at h; injection h with h; subst h; simp [PT.addr, hk]
  | cons j is ih =>
    intro T X a h hk
    rw [List.cons_append, PT.addr]
    rw [PT.sub] at h
    cases hj : T.kids[j]? with
    | none => rw [hj] at h; cases h
    | some L =>
      rw [hj] at h
      exact ih h hk

theorem split_at {α : Type} {l : List α} {i : Nat} {x : α} (h : l[i]? = some x) : ∃ A B, l = A ++ x :: B ∧ A.length = i ∧ ∀ y, l.set i y = A ++ y :: B := by
  have hlt := (List.getElem?_eq_some_iff.1 h)
  refine ⟨l.take i, l.drop (i + 1), ?_, by have := hlt.1; simp; omega, fun y => ?_⟩
  · rw [← hlt.2, ← List.drop_eq_getElem_cons hlt.1, List.take_append_drop]
  · exact List.set_eq_take_append_cons_drop ▸ (by rw [if_pos hlt.1])

/-- What has turned between two worlds: the cells of one tree (at ax), its rows, and new blocks. -/
structure Turned (w w' : World) (ax : Addr) (own : List Nat) (cs : List Value) : Prop where
  size : w.heap.size ≤ w'.heap.size
  block : ∀ b, b < w.heap.size → b ≠ ax.block → b ∉ own → w'.heap[b]? = w.heap[b]?
  row : ∃ cur cur' e, w.heap[ax.block]? = some (.cells cur e (0, 0)) ∧ w'.heap[ax.block]? = some (.cells cur' e (0, 0)) ∧ Upd cur cur' ax.off cs

theorem nd_mid {A B C D K : List Nat} (h : (A ++ (B ++ (C ++ (K ++ D)))).Nodup) {K' : List Nat} {n : Nat} (hk : K'.Nodup) (hA : ∀ b ∈ A ++ (B ++ (C ++ (K ++ D))), b < n) (hK : ∀ b ∈ K', b ∈ K ∨ n ≤ b) : (A ++ (B ++ (C ++ (K' ++ D)))).Nodup := by
  rw [List.nodup_iff_count] at *
  intro b
  have h1 := h b
  have h2 := hk b
  simp only [List.count_append] at *
  by_cases hb : b ∈ K'
  · rcases hK b hb with g | g
    · have := List.count_pos_iff.2 g
      have := List.count_pos_iff.2 hb
      omega
    · have z : ∀ L : List Nat, (∀ x ∈ L, x ∈ A ++ (B ++ (C ++ (K ++ D)))) → List.count b L = 0 := fun L hL => List.count_eq_zero.2 fun hm => by have := hA b (hL b hm); omega
      have a1 := z A (fun x hx => by simp only [List.mem_append]; exact .inl hx)
      have a2 := z B (fun x hx => by simp only [List.mem_append]; exact .inr (.inl hx))
      have a3 := z C (fun x hx => by simp only [List.mem_append]; exact .inr (.inr (.inl hx)))
      have a4 := z D (fun x hx => by simp only [List.mem_append]; exact .inr (.inr (.inr (.inr hx))))
      omega
  · have := List.count_eq_zero.2 hb
    omega

theorem nd_apart {A B C D K : List Nat} (h : (A ++ (B ++ (C ++ (K ++ D)))).Nodup) {b : Nat} (hb : b ∈ K) : b ∉ A ∧ b ∉ B ∧ b ∉ C ∧ b ∉ D := by
  rw [List.nodup_iff_count] at h
  have h1 := h b
  have := List.count_pos_iff.2 hb
  simp only [List.count_append] at h1
  refine ⟨fun hm => ?_, fun hm => ?_, fun hm => ?_, fun hm => ?_⟩ <;> · have := List.count_pos_iff.2 hm; omega
theorem nd_apartB {A B C D K : List Nat} (h : (A ++ (B ++ (C ++ (K ++ D)))).Nodup) {b : Nat} (hb : b ∈ B) : b ∉ A ∧ b ∉ K ∧ b ∉ C ∧ b ∉ D := by
  rw [List.nodup_iff_count] at h
  have h1 := h b
  have := List.count_pos_iff.2 hb
  simp only [List.count_append] at h1
  refine ⟨fun hm => ?_, fun hm => ?_, fun hm => ?_, fun hm => ?_⟩ <;> · have := List.count_pos_iff.2 hm; omega

theorem sub_addr_mem : ∀ (is : List Nat) (T X : PT) (a : Addr) {TS TT : TypeId} {w : World}, OwnJ TS TT w T → is ≠ [] → T.sub is = some X → (T.addr a is).block ∈ T.own ∧ ∀ b ∈ X.own, b ∈ T.own := by
  intro is
  induction is with
  | nil => intro T X a _ _ _ _ h; exact absurd rfl h
  | cons i is ih =>
    intro T X a TS TT w h _ hs
    rw [PT.sub] at hs
    rw [PT.addr]
    cases hi : T.kids[i]? with
    | none => rw [hi] at hs; cases hs
    | some K =>
      rw [hi] at hs
      simp only at hs ⊢
      have hm := List.mem_of_getElem? hi
      have hK : ∀ b ∈ K.own, b ∈ T.own := fun b hb => by
        rw [PT.own_eq]
        exact List.mem_append_right _ (List.mem_append_right _ (PT.ownL_mem hm hb))
      by_cases he : is = []
      · subst he
        simp only [PT.sub] at hs
        injection hs with hs
        subst hs
        refine ⟨?_, hK⟩
        simp only [PT.addr]
        rcases h.slot.kids.2 with ⟨_, hn⟩ | ⟨g, cap, cur, hv, _⟩
        · rw [List.length_eq_zero_iff.1 hn] at hi; simp at hi
        · injection hv with hA _ _
          rw [hA, PT.own_eq, hA]
          simp [slotOf, blkOf]
      · obtain ⟨g1, g2⟩ := ih K X (slotOf T.cA i) (h.kids K hm) he hs
        exact ⟨hK _ g1, fun b hb => hK _ (g2 b hb)⟩

theorem repl_cells {X' : PT} : ∀ (is : List Nat) (T : PT), is ≠ [] → (PT.repl X' T is).cells = T.cells := by
  intro is T h
  cases is with
  | nil => exact absurd rfl h
  | cons i is =>
    rw [PT.repl]
    cases T.kids[i]? with
    | none => rfl
    | some K => exact PT.setKid_cells _ _ _

theorem own_setKid {T K K' : PT} {i : Nat} (h : T.kids[i]? = some K) : ∃ A B, T.own = blkOf T.kA ++ (blkOf T.cA ++ (PT.ownL A ++ (K.own ++ PT.ownL B))) ∧ (T.setKid i K').own = blkOf T.kA ++ (blkOf T.cA ++ (PT.ownL A ++ (K'.own ++ PT.ownL B))) ∧ T.kids = A ++ K :: B ∧ (T.setKid i K').kids = A ++ K' :: B := by
  obtain ⟨A, B, h1, h2, h3⟩ := split_at h
  have hk : (T.setKid i K').kids = A ++ K' :: B := by
    obtain ⟨v, kA, kc, keys, cA, cc, kids⟩ := T
    exact h3 K'
  have hA : (T.setKid i K').kA = T.kA := by cases T; rfl
  have hc : (T.setKid i K').cA = T.cA := by cases T; rfl
  refine ⟨A, B, ?_, ?_, h1, hk⟩
  · rw [PT.own_eq, h1, PT.ownL_append, PT.ownL]
  · rw [PT.own_eq, hk, hA, hc, PT.ownL_append, PT.ownL]

theorem repl_own {TS TT : TypeId} {X X' : PT} {w w' : World} {ax : Addr} (hT : Turned w w' ax X.own X'.cells) (hX' : OwnJ TS TT w' X') (hnX : X'.own.Nodup) (hXo : ∀ b ∈ X'.own, b ∈ X.own ∨ w.heap.size ≤ b) :
    ∀ (is : List Nat) (T : PT) (a : Addr), is ≠ [] → T.sub is = some X → T.addr a is = ax → OwnJ TS TT w T → T.own.Nodup →
      OwnJ TS TT w' (PT.repl X' T is) ∧ (PT.repl X' T is).own.Nodup ∧ ∀ b ∈ (PT.repl X' T is).own, b ∈ T.own ∨ w.heap.size ≤ b := by
  intro is
  induction is with
  | nil => intro T a h; exact absurd rfl h
  | cons i is ih =>
    intro T a _ hs ha ho hnd
    rw [PT.sub] at hs
    rw [PT.addr] at ha
    rw [PT.repl]
    cases hi : T.kids[i]? with
    | none => rw [hi] at hs; cases hs
    | some K =>
      rw [hi] at hs ha
      simp only at hs ha ⊢
      have hm := List.mem_of_getElem? hi
      have hlt := (List.getElem?_eq_some_iff.1 hi).1
      obtain ⟨K', hK'⟩ : ∃ K', PT.repl X' K is = K' := ⟨_, rfl⟩
      rw [hK']
      obtain ⟨A, B, o1, o2, o3, o4⟩ := own_setKid (K' := K') hi
      have hltT := ho.lt
      rw [o1] at hnd hltT
      -- the kid's side
      have key : OwnJ TS TT w' K' ∧ K'.own.Nodup ∧ (∀ b ∈ K'.own, b ∈ K.own ∨ w.heap.size ≤ b) ∧ (∀ b, b < w.heap.size → b ∈ X.own → b ∈ K.own) ∧ ((is = [] ∧ ax = slotOf T.cA i ∧ K' = X' ∧ K = X) ∨ (is ≠ [] ∧ ax.block ∈ K.own ∧ K'.cells = K.cells)) := by
        by_cases he : is = []
        · subst he
          simp only [PT.sub] at hs
          injection hs with hs
          subst hs
          simp only [PT.repl] at hK'
          subst hK'
          exact ⟨hX', hnX, hXo, fun _ _ h => h, .inl ⟨rfl, ha.symm, rfl, rfl⟩⟩
        · have hKnd : K.own.Nodup := (List.nodup_append.1 (List.nodup_append.1 (List.nodup_append.1 (List.nodup_append.1 hnd).2.1).2.1).2.1).1
          obtain ⟨g1, g2, g3⟩ := ih K _ he hs ha (ho.kids K hm) hKnd
          rw [hK'] at g1 g2 g3
          obtain ⟨f1, f2⟩ := sub_addr_mem is K X (slotOf T.cA i) (ho.kids K hm) he hs
          rw [ha] at f1
          exact ⟨g1, g2, g3, fun b _ hb => f2 b hb, .inr ⟨he, f1, by rw [← hK']; exact repl_cells is K he⟩⟩
      obtain ⟨k1, k2, k3, k4, k5⟩ := key
      -- a block of the tree, not the kid's, not its slot's row: as it was
      have still : ∀ b, b < w.heap.size → b ∉ K.own → (is = [] → b ∉ blkOf T.cA) → w'.heap[b]? = w.heap[b]? := by
        intro b hb hn hc
        refine hT.block b hb ?_ (fun hx => hn (k4 b hb hx))
        rintro rfl
        rcases k5 with ⟨he, hax, _, _⟩ | ⟨_, hax, _⟩
        · refine hc he ?_
          rw [hax]
          rcases ho.slot.kids.2 with ⟨_, hn0⟩ | ⟨g, cap, cur, hv, _⟩
          · rw [List.length_eq_zero_iff.1 hn0] at hi; simp at hi
          · injection hv with hA _ _
            rw [hA]
            simp [slotOf, blkOf]
        · exact hn hax
      have hv' : (T.setKid i K').val = T.val := by cases T; rfl
      have hks' : (T.setKid i K').keys = T.keys := by cases T; rfl
      have hkA' : (T.setKid i K').kA = T.kA := by cases T; rfl
      have hkc' : (T.setKid i K').kc = T.kc := by cases T; rfl
      have hcA' : (T.setKid i K').cA = T.cA := by cases T; rfl
      have hcc' : (T.setKid i K').cc = T.cc := by cases T; rfl
      have hkids' : (T.setKid i K').kids = T.kids.set i K' := by cases T; rfl
      have hlen' : (T.setKid i K').kids.length = T.kids.length := by rw [hkids', List.length_set]
      refine ⟨OwnJ.mk_ ⟨by rw [hv']; exact ho.slot.fit, ?_, ?_, by rw [hks']; exact ho.slot.each⟩ ?_, ?_, ?_⟩
      · rw [hkA', hkc', hks']
        refine own_keep ho.slot.keys fun b hb hlt => still b hlt ?_ ?_
        · intro hk; exact (nd_apart hnd hk).1 hb
        · intro _ hc; exact (nd_apartB hnd hc).1 hb
      · rw [hcA', hcc', hlen', hkids']
        rcases k5 with ⟨he, hax, hkx, hkk⟩ | ⟨hne, hax, hcl⟩
        · obtain ⟨cur, cur', e, r1, r2, r3⟩ := hT.row
          rcases ho.slot.kids.2 with ⟨_, hn0⟩ | ⟨g, cap, cur0, hv, _⟩
          · rw [List.length_eq_zero_iff.1 hn0] at hi; simp at hi
          · injection hv with hA _ _
            rw [hA] at hax
            simp only [slotOf, Nat.zero_add] at hax
            have hkids := ho.slot.kids
            rw [hA] at hkids ⊢
            rw [hax] at r1 r2 r3
            subst hkx
            exact own_upd hkids hlt r1 r2 r3
        · have : PT.cellsL (T.kids.set i K') = PT.cellsL T.kids := by
            apply List.ext_getElem?
            intro j
            by_cases hj : j < T.kids.length * 7
            · rw [cellsL_set hlt j hj, hcl]
              split
              · rename_i hc
                have := PT.cellsL_at T.kids i K hi (j - i * 7) (by omega)
                rw [show i * 7 + (j - i * 7) = j from by omega] at this
                exact this.symm
              · rfl
            · rw [List.getElem?_eq_none (by rw [PT.cellsL_length]; simp; omega), List.getElem?_eq_none (by rw [PT.cellsL_length]; omega)]
          rw [this]
          refine own_keep ho.slot.kids fun b hb hlt => still b hlt ?_ ?_
          · intro hk; exact (nd_apart hnd hk).2.1 hb
          · intro he; exact absurd he hne
      · intro k hk
        rw [o4] at hk
        rcases List.mem_append.1 hk with hk | hk
        · have hkT : k ∈ T.kids := by rw [o3]; exact List.mem_append_left _ hk
          refine (ho.kids k hkT).keep fun b hb hlt => still b hlt ?_ ?_
          · intro hK; exact (nd_apart hnd hK).2.2.1 (PT.ownL_mem hk hb)
          · intro _ hc; exact (nd_apartB hnd hc).2.2.1 (PT.ownL_mem hk hb)
        · rcases List.mem_cons.1 hk with rfl | hk
          · exact k1
          · have hkT : k ∈ T.kids := by rw [o3]; exact List.mem_append_right _ (List.mem_cons_of_mem _ hk)
            refine (ho.kids k hkT).keep fun b hb hlt => still b hlt ?_ ?_
            · intro hK; exact (nd_apart hnd hK).2.2.2 (PT.ownL_mem hk hb)
            · intro _ hc; exact (nd_apartB hnd hc).2.2.2 (PT.ownL_mem hk hb)
      · rw [o2]
        exact nd_mid hnd k2 hltT k3
      · rw [o2, o1]
        intro b hb
        simp only [List.mem_append] at hb ⊢
        rcases hb with hb | hb | hb | hb | hb
        · exact .inl (.inl hb)
        · exact .inl (.inr (.inl hb))
        · exact .inl (.inr (.inr (.inl hb)))
        · rcases k3 b hb with hb | hb
          · exact .inl (.inr (.inr (.inr (.inl hb))))
          · exact .inr hb
        · exact .inl (.inr (.inr (.inr (.inr hb))))

theorem repl_tree {X' : PT} : ∀ (is : List Nat) (T X : PT), T.sub is = some X → X'.tree.val = X.tree.val → True := fun _ _ _ _ _ => trivial
end Go.Proofs.YtpeckpiidgkgoaaGreatDoor
/- What the walks over trees share, of no function of the program. -/
namespace Go.Proofs.YtpeckpiidgkgoaaGreatDoor
open Go.RowKit
set_option linter.unusedVariables false
set_option linter.unusedSimpArgs false

/-- A struct and one more result. -/
theorem results_row_tmp {P : Program} {fn : Func} {p u : Tmp} {ty : TypeId} (h : fn.results = #[.cell p ty, .tmp u]) (tmps : Array Value) (w : World) (g : Nat) (t : TypeId) (cs : Array Value) (d : TypeDesc)
    (hp : tmps.getD p undef = .pointer (some ⟨g, 0, none⟩)) (hg : Blk w g t cs)
    (hu : P.underlying ty = some d) (hd : (match d with | .struct _ | .array _ _ => true | _ => false) = true) (hi : (P.info? ty).map (·.size) = some cs.size) :
    (results fn tmps).run P w = .ok (.tuple #[.agg cs, tmps.getD u undef]) w := by
  have hp' : tmps[p]?.getD undef = .pointer (some ⟨g, 0, none⟩) := by simpa using hp
  simp [results, h, hp', asAddr, run_loadVar_row w g t ty cs (0, 0) d hg hu hd hi]
theorem calls_at {P : Program} {f : FuncId} {args : Array Value} {Q : Ending → World → Prop} {w : World} (F : World → Prop) (hF : F w) (h : ∀ w1, F w1 → Calls P f args w1 Q) : Calls P f args w Q := h w hF
theorem SlAt.of_blk {w : World} {g : Nat} {t : TypeId} {cs : Array Value} (h : Blk w g t cs) : SlAt w (some ⟨g, 0, none⟩) cs.toList :=
  .inr ⟨g, 0, rfl, fun j u hu => by rw [Nat.zero_add, h.cell]; simpa using hu⟩
theorem PT.value_eq (T : PT) : T.value = .agg #[.int .i64 T.val.k, .int .i64 T.val.n, .string T.val.s, .int .i64 T.val.o, .int .i64 T.val.p, .slice T.kA T.keys.length T.kc, .slice T.cA T.kids.length T.cc] := rfl
theorem blk7 {w : World} {g : Nat} {t : TypeId} {a0 a1 a2 a3 a4 a5 a6 : Value} (c0 c1 c2 c3 c4 c5 c6 : Value) (h : Blk w g t #[a0, a1, a2, a3, a4, a5, a6]) :
    Blk (((((((w.setCell ⟨g, 0, none⟩ c0).setCell ⟨g, 1, none⟩ c1).setCell ⟨g, 2, none⟩ c2).setCell ⟨g, 3, none⟩ c3).setCell ⟨g, 4, none⟩ c4).setCell ⟨g, 5, none⟩ c5).setCell ⟨g, 6, none⟩ c6) g t #[c0, c1, c2, c3, c4, c5, c6] := by
  have := ((((((h.set_ 0 c0).set_ 1 c1).set_ 2 c2).set_ 3 c3).set_ 4 c4).set_ 5 c5).set_ 6 c6
  simpa using this
theorem only7 (w : World) (g : Nat) (c0 c1 c2 c3 c4 c5 c6 : Value) (o0 o1 o2 o3 o4 o5 o6 : Nat) :
    Only (· = g) w (((((((w.setCell ⟨g, o0, none⟩ c0).setCell ⟨g, o1, none⟩ c1).setCell ⟨g, o2, none⟩ c2).setCell ⟨g, o3, none⟩ c3).setCell ⟨g, o4, none⟩ c4).setCell ⟨g, o5, none⟩ c5).setCell ⟨g, o6, none⟩ c6) :=
  (((((((Only.refl (· = g) w).setCell (p := ⟨g, o0, none⟩) rfl c0).setCell (p := ⟨g, o1, none⟩) rfl c1).setCell (p := ⟨g, o2, none⟩) rfl c2).setCell (p := ⟨g, o3, none⟩) rfl c3).setCell (p := ⟨g, o4, none⟩) rfl c4).setCell (p := ⟨g, o5, none⟩) rfl c5).setCell (p := ⟨g, o6, none⟩) rfl c6
theorem infoStr : (Tryz.prog.info? 9).map (fun i => (i.zero, i.size, i.bytes)) = some (some (.string ⟨#[]⟩), 1, 16) := by kernel_rfl
def zTree : Value := .agg #[.int .i64 0, .int .i64 0, .string ⟨#[]⟩, .int .i64 0, .int .i64 0, .slice none 0 0, .slice none 0 0]
theorem infoTree : (Tryz.prog.info? 29).map (fun i => (i.zero, i.size, i.bytes)) = some (some zTree, 7, 96) := by kernel_rfl
end Go.Proofs.YtpeckpiidgkgoaaGreatDoor
