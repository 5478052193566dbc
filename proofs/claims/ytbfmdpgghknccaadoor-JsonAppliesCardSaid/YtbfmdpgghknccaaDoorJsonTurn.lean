/- An owned tree, turned at one place. Over no program. -/
import Derived.Test.YtbfmdpgghknccaaDoorJsonLead
namespace Go.Proofs.YtbfmdpgghknccaaDoor
open Go.RowKit
set_option linter.unusedVariables false
set_option linter.unusedSimpArgs false

/-- The cells of a tree stand at an address. -/
def AtP (w : World) (b o : Nat) (T : PT) : Prop := ∀ j, j < 7 → w.cell? ⟨b, o + j, none⟩ = T.cells[j]?
/-- What is known of the tree that a function owns. -/
structure OwnedT (TS TT : TypeId) (w : World) (b0 : Nat) (T : PT) : Prop where
  root : Blk w b0 TT T.cells.toArray
  own : OwnJ TS TT w T
  nd : (b0 :: T.own).Nodup
section
variable {TS TT : TypeId} {w w' : World} {b0 : Nat} {T : PT}
theorem OwnedT.below (h : OwnedT TS TT w b0 T) (hb : Below w.heap.size w w') : OwnedT TS TT w' b0 T :=
  ⟨h.root.below hb h.root.lt, h.own.keep fun b _ hlt => hb.block b hlt, h.nd⟩

theorem kids_row {w : World} {T K : PT} {i : Nat} (h : OwnJ TS TT w T) (hi : T.kids[i]? = some K) : ∃ g cur, T.cA = some ⟨g, 0, none⟩ ∧ Blk w g TT cur ∧ T.kids.length * 7 ≤ cur.size ∧ g ∈ T.own := by
  rcases h.slot.kids.2 with ⟨_, hn⟩ | ⟨g, cap, cur, hv, _, hg, h1, _, h2, _⟩
  · rw [List.length_eq_zero_iff.1 hn] at hi; simp at hi
  · injection hv with hA _ _
    refine ⟨g, cur, hA, hg, by rw [h2]; exact Nat.mul_le_mul_right _ h1, ?_⟩
    rw [PT.own_eq, hA]
    simp [blkOf]

theorem addr_blk : ∀ (is : List Nat) (T X : PT) (a : Addr) {w : World}, OwnJ TS TT w T → is ≠ [] → T.sub is = some X → ∃ cur, Blk w (T.addr a is).block TT cur := by
  intro is
  induction is with
  | nil => intro T X a w _ h; exact absurd rfl h
  | cons i is ih =>
    intro T X a w h _ hs
    rw [PT.sub] at hs
    rw [PT.addr]
    cases hi : T.kids[i]? with
    | none => rw [hi] at hs; cases hs
    | some K =>
      rw [hi] at hs
      simp only at hs ⊢
      by_cases he : is = []
      · subst he
        obtain ⟨g, cur, hA, hB, _⟩ := kids_row h hi
        rw [hA]
        exact ⟨cur, hB⟩
      · exact ih K X _ (h.kids K (List.mem_of_getElem? hi)) he hs

theorem addr_apart : ∀ (is : List Nat) (T X : PT) (a : Addr) {w : World}, OwnJ TS TT w T → T.own.Nodup → is ≠ [] → T.sub is = some X → (T.addr a is).block ∉ X.own := by
  intro is
  induction is with
  | nil => intro T X a w _ _ h; exact absurd rfl h
  | cons i is ih =>
    intro T X a w h hnd _ hs
    rw [PT.sub] at hs
    rw [PT.addr]
    cases hi : T.kids[i]? with
    | none => rw [hi] at hs; cases hs
    | some K =>
      rw [hi] at hs
      simp only at hs ⊢
      obtain ⟨A, B, o1, _, _, _⟩ := own_setKid (K' := K) hi
      rw [o1] at hnd
      by_cases he : is = []
      · subst he
        simp only [PT.sub] at hs
        injection hs with hs
        subst hs
        obtain ⟨g, cur, hA, hB, _⟩ := kids_row h hi
        rw [hA] at hnd ⊢
        intro hm
        have := (nd_apart hnd hm).2.1
        simp [slotOf, blkOf, PT.addr] at this
      · have hKnd : K.own.Nodup := (List.nodup_append.1 (List.nodup_append.1 (List.nodup_append.1 (List.nodup_append.1 hnd).2.1).2.1).2.1).1
        exact ih K X _ (h.kids K (List.mem_of_getElem? hi)) hKnd he hs

/-- The place of a tree in an owned one: its block, and that it is none of its own. -/
theorem OwnedT.place {is : List Nat} {X : PT} {b o : Nat} (h : OwnedT TS TT w b0 T) (hs : T.sub is = some X) (ha : T.addr ⟨b0, 0, none⟩ is = ⟨b, o, none⟩) : (∃ cur, Blk w b TT cur) ∧ b ∉ X.own ∧ (∀ q ∈ X.own, q ∈ T.own) ∧ OwnJ TS TT w X ∧ X.own.Nodup ∧ (b = b0 ∨ b ∈ T.own) := by
  have hx : ∀ (is : List Nat) (T : PT), OwnJ TS TT w T → T.own.Nodup → T.sub is = some X → OwnJ TS TT w X ∧ X.own.Nodup := by
    intro is
    induction is with
    | nil => intro T h1 h2 hs; simp only [PT.sub] at hs; injection hs with hs; subst hs; exact ⟨h1, h2⟩
    | cons i is ih =>
      intro T h1 h2 hs
      rw [PT.sub] at hs
      cases hi : T.kids[i]? with
      | none => rw [hi] at hs; cases hs
      | some K =>
        rw [hi] at hs
        obtain ⟨A, B, o1, _, _, _⟩ := own_setKid (K' := K) hi
        rw [o1] at h2
        exact ih K (h1.kids K (List.mem_of_getElem? hi)) (List.nodup_append.1 (List.nodup_append.1 (List.nodup_append.1 (List.nodup_append.1 h2).2.1).2.1).2.1).1 hs
  obtain ⟨x1, x2⟩ := hx is T h.own (List.nodup_cons.1 h.nd).2 hs
  by_cases he : is = []
  · subst he
    simp only [PT.sub] at hs
    injection hs with hs
    subst hs
    simp only [PT.addr] at ha
    injection ha with h1 h2
    subst h1 h2
    exact ⟨⟨_, h.root⟩, (List.nodup_cons.1 h.nd).1, fun q hq => hq, x1, x2, .inl rfl⟩
  · have h1 := addr_blk is T X ⟨b0, 0, none⟩ h.own he hs
    have h2 := addr_apart is T X ⟨b0, 0, none⟩ h.own (List.nodup_cons.1 h.nd).2 he hs
    have h3 := sub_addr_mem is T X ⟨b0, 0, none⟩ h.own he hs
    rw [ha] at h1 h2 h3
    exact ⟨h1, h2, h3.2, x1, x2, .inr h3.1⟩

theorem OwnedT.turn {is : List Nat} {X X' : PT} {b o : Nat} (h : OwnedT TS TT w b0 T) (hs : T.sub is = some X) (ha : T.addr ⟨b0, 0, none⟩ is = ⟨b, o, none⟩) (hT : Turned w w' ⟨b, o, none⟩ X.own X'.cells) (hX' : OwnJ TS TT w' X') (hn : X'.own.Nodup) (hX : ∀ q ∈ X'.own, q ∈ X.own ∨ w.heap.size ≤ q) :
    OwnedT TS TT w' b0 (PT.repl X' T is) ∧ ∀ q ∈ (PT.repl X' T is).own, q ∈ T.own ∨ w.heap.size ≤ q := by
  have hb0 := List.nodup_cons.1 h.nd
  have hlt := h.root.lt
  by_cases he : is = []
  · subst he
    simp only [PT.sub] at hs
    injection hs with hs
    subst hs
    simp only [PT.addr] at ha
    injection ha with h1 h2
    subst h1 h2
    simp only [PT.repl]
    refine ⟨⟨?_, hX', List.nodup_cons.2 ⟨fun hm => ?_, hn⟩⟩, hX⟩
    · obtain ⟨cur, cur', e, r1, r2, r3⟩ := hT.row
      have hr := h.root
      unfold Blk at hr ⊢
      rw [r1] at hr
      injection hr with hr
      injection hr with q1 q2
      subst q1 q2
      rw [r2]
      congr 2
      have l7 := X'.cells_length
      have l7' := T.cells_length
      apply Array.ext_getElem?
      intro j
      have hsz : cur'.size = 7 := by rw [r3.1]; simpa using l7'
      by_cases hj : j < 7
      · rw [r3.2 j (by simpa [l7'] using hj), l7, if_pos (by simp; exact hj)]
        simp
      · rw [Array.getElem?_eq_none (by omega), Array.getElem?_eq_none (by simp [l7]; omega)]
    · rcases hX b0 hm with g | g
      · exact hb0.1 g
      · omega
  · obtain ⟨r1, r2, r3⟩ := repl_own hT hX' hn hX is T ⟨b0, 0, none⟩ he hs ha h.own hb0.2
    have hm := sub_addr_mem is T X ⟨b0, 0, none⟩ h.own he hs
    rw [ha] at hm
    refine ⟨⟨?_, r1, List.nodup_cons.2 ⟨fun hq => ?_, r2⟩⟩, r3⟩
    · rw [repl_cells is T he]
      have : w'.heap[b0]? = w.heap[b0]? := hT.block b0 hlt (fun e => hb0.1 (by rw [e]; exact hm.1)) (fun hx => hb0.1 (hm.2 b0 hx))
      unfold Blk
      rw [this]
      exact h.root
    · rcases r3 b0 hq with g | g
      · exact hb0.1 g
      · omega
end
theorem repl_snoc {K' : PT} {i : Nat} : ∀ (is : List Nat) (T X : PT), T.sub is = some X → X.kids[i]? ≠ none → PT.repl (X.setKid i K') T is = PT.repl K' T (is ++ [i]) := by
  intro is
  induction is with
  | nil =>
    intro T X h hk
    simp only [PT.sub] at h
    injection h with h
    subst h
    cases hq : T.kids[i]? with
    | none => exact absurd hq hk
    | some K => simp [PT.repl, hq]
  | cons j is ih =>
    intro T X h hk
    rw [PT.sub] at h
    rw [List.cons_append, PT.repl, PT.repl]
    cases hj : T.kids[j]? with
    | none => rfl
    | some L =>
      rw [hj] at h
      simp only
      rw [ih L X h hk]
end Go.Proofs.YtbfmdpgghknccaaDoor
