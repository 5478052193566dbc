/- JsonTurn, Index. -/
import Derived.Test.YtmkebfclaehneaaDoorBg26
import Derived.Test.YtmkebfclaehneaaDoorBg25
/- An owned tree, turned at one place. Over no program. -/
namespace Go.Proofs.YtmkebfclaehneaaDoor
open Go.RowKit
set_option linter.unusedVariables false
set_option linter.unusedSimpArgs false

/-- The cells of a tree stand at an address. -/
def AtP (w : World) (b o : Nat) (T : PT) : Prop := ∀ j, j < 7 → w.cell? ⟨b, o + j, none⟩ = T.cells[j]?
/-- What is known of the tree that a function owns. -/
structure OwnedT (TS TT : TypeId) (w : World) (b0 : Nat) (T : PT) : Prop where
  root : Blk w b0 TT T.cells.toArray
  own : OwnJ TS TT w T
  nd : (b0 :: T.own).Nodup
section
variable {TS TT : TypeId} {w w' : World} {b0 : Nat} {T : PT}
theorem OwnedT.below (h : OwnedT TS TT w b0 T) (hb : Below w.heap.size w w') : OwnedT TS TT w' b0 T :=
  ⟨h.root.below hb h.root.lt, h.own.keep fun b _ hlt => hb.block b hlt, h.nd⟩

theorem kids_row {w : World} {T K : PT} {i : Nat} (h : OwnJ TS TT w T) (hi : T.kids[i]? = some K) : ∃ g cur, T.cA = some ⟨g, 0, none⟩ ∧ Blk w g TT cur ∧ T.kids.length * 7 ≤ cur.size ∧ g ∈ T.own := by
  rcases h.slot.kids.2 with ⟨_, hn⟩ | ⟨g, cap, cur, hv, _, hg, h1, _, h2, _⟩
  · rw [List.length_eq_zero_iff.1 hn] at hi; simp at hi
  · injection hv with hA _ _
    refine ⟨g, cur, hA, hg, by rw [h2]; exact Nat.mul_le_mul_right _ h1, ?_⟩
    rw [PT.own_eq, hA]
    simp [blkOf]

theorem addr_blk : ∀ (is : List Nat) (T X : PT) (a : Addr) {w : World}, OwnJ TS TT w T → is ≠ [] → T.sub is = some X → ∃ cur, Blk w (T.addr a is).block TT cur := by
  intro is
  induction is with
  | nil => intro T X a w _ h; exact absurd rfl h
  | cons i is ih =>
    intro T X a w h _ hs
    rw [PT.sub] at hs
    rw [PT.addr]
    cases hi : T.kids[i]? with
    | none => rw [hi] at hs; cases hs
    | some K =>
      rw [hi] at hs
      simp only at hs ⊢
      by_cases he : is = []
      · subst he
        obtain ⟨g, cur, hA, hB, _⟩ := kids_row h hi
        rw [hA]
        exact ⟨cur, hB⟩
      · exact ih K X _ (h.kids K (List.mem_of_getElem? hi)) he hs

theorem addr_apart : ∀ (is : List Nat) (T X : PT) (a : Addr) {w : World}, OwnJ TS TT w T → T.own.Nodup → is ≠ [] → T.sub is = some X → (T.addr a is).block ∉ X.own := by
  intro is
  induction is with
  | nil => intro T X a w _ _ h; exact absurd rfl h
  | cons i is ih =>
    intro T X a w h hnd _ hs
    rw [PT.sub] at hs
    rw [PT.addr]
    cases hi : T.kids[i]? with
    | none => rw [hi] at hs; cases hs
    | some K =>
      rw [hi] at hs
      simp only at hs ⊢
      obtain ⟨A, B, o1, _, _, _⟩ := own_setKid (K' := K) hi
      rw [o1] at hnd
      by_cases he : is = []
      · subst he
        simp only [PT.sub] at hs
        injection hs with hs
        subst hs
        obtain ⟨g, cur, hA, hB, _⟩ := kids_row h hi
        rw [hA] at hnd ⊢
        intro hm
        have := (nd_apart hnd hm).2.1
        simp [slotOf, blkOf, PT.addr] at this
      · have hKnd : K.own.Nodup := (List.nodup_append.1 (List.nodup_append.1 (List.nodup_append.1 (List.nodup_append.1 hnd).2.1).2.1).2.1).1
        exact ih K X _ (h.kids K (List.mem_of_getElem? hi)) hKnd he hs

/-- The place of a tree in an owned one: its block, and that it is none of its own. -/
theorem OwnedT.place {is : List Nat} {X : PT} {b o : Nat} (h : OwnedT TS TT w b0 T) (hs : T.sub is = some X) (ha : T.addr ⟨b0, 0, none⟩ is = ⟨b, o, none⟩) : (∃ cur, Blk w b TT cur) ∧ b ∉ X.own ∧ (∀ q ∈ X.own, q ∈ T.own) ∧ OwnJ TS TT w X ∧ X.own.Nodup ∧ (b = b0 ∨ b ∈ T.own) := by
  have hx : ∀ (is : List Nat) (T : PT), OwnJ TS TT w T → T.own.Nodup → T.sub is = some X → OwnJ TS TT w X ∧ X.own.Nodup := by
    intro is
    induction is with
    | nil => intro T h1 h2 hs; simp only [PT.sub] at hs; injection hs with hs; subst hs; exact ⟨h1, h2⟩
    | cons i is ih =>
      intro T h1 h2 hs
      rw [PT.sub] at hs
      cases hi : T.kids[i]? with
      | none => rw [hi] at hs; cases hs
      | some K =>
        rw [hi] at hs
        obtain ⟨A, B, o1, _, _, _⟩ := own_setKid (K' := K) hi
        rw [o1] at h2
        exact ih K (h1.kids K (List.mem_of_getElem? hi)) (List.nodup_append.1 (List.nodup_append.1 (List.nodup_append.1 (List.nodup_append.1 h2).2.1).2.1).2.1).1 hs
  obtain ⟨x1, x2⟩ := hx is T h.own (List.nodup_cons.1 h.nd).2 hs
  by_cases he : is = []
  · subst he
    simp only [PT.sub] at hs
    injection hs with hs
    subst hs
    simp only [PT.addr] at ha
    injection ha with h1 h2
    subst h1 h2
    exact ⟨⟨_, h.root⟩, (List.nodup_cons.1 h.nd).1, fun q hq => hq, x1, x2, .inl rfl⟩
  · have h1 := addr_blk is T X ⟨b0, 0, none⟩ h.own he hs
    have h2 := addr_apart is T X ⟨b0, 0, none⟩ h.own (List.nodup_cons.1 h.nd).2 he hs
    have h3 := sub_addr_mem is T X ⟨b0, 0, none⟩ h.own he hs
    rw [ha] at h1 h2 h3
    exact ⟨h1, h2, h3.2, x1, x2, .inr h3.1⟩

theorem OwnedT.turn {is : List Nat} {X X' : PT} {b o : Nat} (h : OwnedT TS TT w b0 T) (hs : T.sub is = some X) (ha : T.addr ⟨b0, 0, none⟩ is = ⟨b, o, none⟩) (hT : Turned w w' ⟨b, o, none⟩ X.own X'.cells) (hX' : OwnJ TS TT w' X') (hn : X'.own.Nodup) (hX : ∀ q ∈ X'.own, q ∈ X.own ∨ w.heap.size ≤ q) :
    OwnedT TS TT w' b0 (PT.repl X' T is) ∧ ∀ q ∈ (PT.repl X' T is).own, q ∈ T.own ∨ w.heap.size ≤ q := by
  have hb0 := List.nodup_cons.1 h.nd
  have hlt := h.root.lt
  by_cases he : is = []
  · subst he
    simp only [PT.sub] at hs
    injection hs with hs
    subst hs
    simp only [PT.addr] at ha
    injection ha with h1 h2
    subst h1 h2
    simp only [PT.repl]
    refine ⟨⟨?_, hX', List.nodup_cons.2 ⟨fun hm => ?_, hn⟩⟩, hX⟩
    · obtain ⟨cur, cur', e, r1, r2, r3⟩ := hT.row
      have hr := h.root
      unfold Blk at hr ⊢
      rw [r1] at hr
      injection hr with hr
      injection hr with q1 q2
      subst q1 q2
      rw [r2]
      congr 2
      have l7 := X'.cells_length
      have l7' := T.cells_length
      apply Array.ext_getElem?
      intro j
      have hsz : cur'.size = 7 := by rw [r3.1]; simpa using l7'
      by_cases hj : j < 7
      · rw [r3.2 j (by simpa [l7'] using hj), l7, if_pos (by simp; exact hj)]
        simp
      · rw [Array.getElem?_eq_none (by omega), Array.getElem?_eq_none (by simp [l7]; omega)]
    · rcases hX b0 hm with g | g
      · exact hb0.1 g
      · omega
  · obtain ⟨r1, r2, r3⟩ := repl_own hT hX' hn hX is T ⟨b0, 0, none⟩ he hs ha h.own hb0.2
    have hm := sub_addr_mem is T X ⟨b0, 0, none⟩ h.own he hs
    rw [ha] at hm
    refine ⟨⟨?_, r1, List.nodup_cons.2 ⟨fun hq => ?_, r2⟩⟩, r3⟩
    · rw [repl_cells is T he]
      have : w'.heap[b0]? = w.heap[b0]? := hT.block b0 hlt (fun e => hb0.1 (by rw [e]; exact hm.1)) (fun hx => hb0.1 (hm.2 b0 hx))
      unfold Blk
      rw [this]
      exact h.root
    · rcases r3 b0 hq with g | g
      · exact hb0.1 g
      · omega
end
theorem repl_snoc {K' : PT} {i : Nat} : ∀ (is : List Nat) (T X : PT), T.sub is = some X → X.kids[i]? ≠ none → PT.repl (X.setKid i K') T is = PT.repl K' T (is ++ [i]) := by
  intro is
  induction is with
  | nil =>
    intro T X h hk
    simp only [PT.sub] at h
    injection h with h
    subst h
    cases hq : T.kids[i]? with
    | none => exact absurd hq hk
    | some K => simp [PT.repl, hq]
  | cons j is ih =>
    intro T X h hk
    rw [PT.sub] at h
    rw [List.cons_append, PT.repl, PT.repl]
    cases hj : T.kids[j]? with
    | none => rfl
    | some L =>
      rw [hj] at h
      simp only
      rw [ih L X h hk]
end Go.Proofs.YtmkebfclaehneaaDoor
/- json.index, json.find: the contracts. -/
namespace Go.Proofs.YtmkebfclaehneaaDoor
open Go.RowKit
set_option linter.unusedVariables false
set_option linter.unusedSimpArgs false

theorem AtP.below {w w' : World} {b o : Nat} {T : PT} (h : AtP w b o T) (hb : Below w.heap.size w w') : AtP w' b o T := by
  intro j hj
  have := h j hj
  obtain ⟨u, hu⟩ : ∃ u, T.cells[j]? = some u := ⟨_, List.getElem?_eq_getElem (by rw [T.cells_length]; omega)⟩
  rw [hu] at this ⊢
  exact cell_below hb this
theorem AtP.of_blk {w : World} {b : Nat} {t : TypeId} {T : PT} (h : Blk w b t T.cells.toArray) : AtP w b 0 T := by
  intro j hj
  rw [Nat.zero_add, h.cell j]
  simp
theorem AtP.of_kid {w : World} {T : PT} (h : T.Slot w) {i : Nat} {k : PT} (hk : T.kids[i]? = some k) : ∃ b o, T.cA = some ⟨b, o, none⟩ ∧ AtP w b (o + i * 7) k := by
  obtain ⟨b, o, h1, h2⟩ := h.kid_at hk
  exact ⟨b, o, h1, fun j hj => by rw [Nat.add_assoc]; exact h2 j hj⟩

def idxAt (v : JV) (keys : List ByteArray) (n : Nat) (s : St) : Int := if isMapStep v s then (plc keys s.key : Int) else if isListStep v s n then s.at_ else 0
def idxHas (v : JV) (keys : List ByteArray) (n : Nat) (s : St) : Bool := if isMapStep v s then decide (keys[plc keys s.key]? = some s.key) else if isListStep v s n then decide (s.at_ < (n : Int)) else false
def idxMay (v : JV) (n : Nat) (s : St) : Bool := if isMapStep v s then true else if isListStep v s n then true else false
theorem idx_has {v : JV} {keys : List ByteArray} {n : Nat} {s : St} : idxHas v keys n s = true → ∃ i : Nat, idxO v keys n s = some i ∧ idxAt v keys n s = i := by
  unfold idxHas idxO idxAt
  intro h
  split at h
  · rename_i hm
    simp only [decide_eq_true_eq] at h
    rw [if_pos hm, if_pos hm, if_pos h]
    exact ⟨_, rfl, rfl⟩
  · rename_i hm
    rw [if_neg hm, if_neg hm]
    split at h
    · rename_i hl
      rw [if_pos hl, if_pos hl]
      simp only [decide_eq_true_eq] at h
      unfold isListStep at hl
      simp at hl
      rw [if_pos (by omega)]
      exact ⟨_, rfl, by omega⟩
    · cases h
theorem idx_hasnt {v : JV} {keys : List ByteArray} {n : Nat} {s : St} : idxHas v keys n s = false → idxO v keys n s = none := by
  unfold idxHas idxO
  intro h
  split at h
  · rename_i hm
    simp only [decide_eq_false_iff_not] at h
    rw [if_pos hm, if_neg h]
  · rename_i hm
    rw [if_neg hm]
    split at h
    · rename_i hl
      rw [if_pos hl]
      simp only [decide_eq_false_iff_not] at h
      unfold isListStep at hl
      simp at hl
      rw [if_neg (by omega)]
    · rename_i hl
      rw [if_neg hl]

set_option maxRecDepth 100000 in
set_option maxHeartbeats 2000000 in
theorem index_any (T : PT) (b o : Nat) (key : ByteArray) (at_ : Int) (w : World) (hP : AtP w b o T) (hT : InJ w T) (hf : T.tree.formed = true) (hl : T.keys.length ≤ 400) :
    Calls Tryd.prog 36 #[.pointer (some ⟨b, o, none⟩), .agg #[.string key, .int .i64 at_]] w (IdxQ w (idxAt T.val T.keys T.kids.length ⟨key, at_⟩) (idxHas T.val T.keys T.kids.length ⟨key, at_⟩) (idxMay T.val T.kids.length ⟨key, at_⟩)) := by
  have c0 : w.cell? ⟨b, o, none⟩ = some (.int .i64 T.val.k) := hP 0 (by omega)
  have c5 : w.cell? ⟨b, o + 5, none⟩ = some (.slice T.kA T.keys.length T.kc) := hP 5 (by omega)
  have c6 : w.cell? ⟨b, o + 6, none⟩ = some (.slice T.cA T.kids.length T.cc) := hP 6 (by omega)
  have hbw : b < w.heap.size := cell_lt c0
  have hcl : T.kids.length ≤ 9223372036854775807 := Nat.le_trans hT.slot.clen (by decide)
  obtain ⟨k, hk⟩ : ∃ k, T.val.k = k := ⟨_, rfl⟩
  rw [hk] at c0
  have HK := Lib.hid hk
  have HS := Lib.hid (fun (w1 : World) (h1 : Below w.heap.size w w1) (hr : Rise T.keys) => search_str T.kA T.kc T.keys key w1 (hT.slot.keys.below h1) hr (by omega))
  have HF := Lib.hid hf
  obtain ⟨cn, hcn⟩ : ∃ cn, T.kids.length = cn := ⟨_, rfl⟩
  rw [hcn] at c6 hcl ⊢
  clear hP hT hf hl hk hcn
  cases hm : isMapStep T.val ⟨key, at_⟩ with
  | true =>
    have hm' := hm
    unfold isMapStep at hm'
    simp at hm'
    obtain ⟨⟨h5, hne⟩, h0⟩ := hm'
    rw [HK.out] at h5
    subst h5 h0
    have h1 : (!key.toList.isEmpty) = true := by simp [hne]
    have hrise : Rise T.keys := by
      have h2 := ((JT.formed_iff _).1 HF.out).1
      unfold JT.top at h2
      rw [PT.tree_val, HK.out, if_pos rfl, PT.tree_keys] at h2
      simp only [Bool.and_eq_true] at h2
      exact ((keysOk_iff _).1 h2.2.2).2
    have HA := Lib.hid (show idxAt T.val T.keys cn ⟨key, 0⟩ = (plc T.keys key : Int) ∧ idxHas T.val T.keys cn ⟨key, 0⟩ = decide (T.keys[plc T.keys key]? = some key) ∧ idxMay T.val cn ⟨key, 0⟩ = true from by unfold idxAt idxHas idxMay; rw [hm]; exact ⟨rfl, rfl, rfl⟩)
    have HS2 := Lib.hid (fun (w1 : World) (h1 : Below w.heap.size w w1) => HS.out w1 h1 hrise)
    clear hm hne hrise
    go_enter Tryd.func36, Tryd.ntmps36
    go_wp2_with fail
    have hb1 : Below w.heap.size w (w.alloc (.cells #[.string key, .int .i64 0] 64)) := (Below.refl _ _).alloc (Nat.le_refl _) _
    obtain ⟨r, hr⟩ : ∃ r, decide (T.keys[plc T.keys key]? = some key) = r := ⟨_, rfl⟩
    have HQ := Lib.hid (fun (n : Nat) => Calls.quiet_of_same (n := n) (v := .tuple #[.int .i64 (plc T.keys key), .bool r]) ((HS2.out ((w.alloc (.cells #[.string key, .int .i64 0] 64)).drewN n) ⟨hb1.os, hb1.tape, hb1.output, hb1.size, hb1.block⟩).mono (fun e w' h => ⟨by rw [← hr]; exact h.1, h.2.symm⟩)))
    have HR := Lib.hid hr
    clear hr
    go_quiet ((go_at_call 56; exact HQ.out _))
    go_wp2_with fail
    go_ret3
    exact ⟨by rw [HA.out.1, HA.out.2.1, HA.out.2.2, HR.out]; rfl, ⟨hb1.os, hb1.tape, hb1.output, hb1.size, hb1.block⟩⟩
  | false =>
    have HKK := HK.out
    clear HS HF c5
    cases hl : isListStep T.val ⟨key, at_⟩ cn with
    | true =>
      have hl' := hl
      unfold isListStep at hl'
      simp at hl'
      obtain ⟨⟨⟨h6, hne⟩, h0⟩, h0'⟩ := hl'
      rw [HKK] at h6
      subst h6
      rw [show idxAt T.val T.keys cn ⟨key, at_⟩ = at_ from by unfold idxAt; rw [hm, hl]; rfl, show idxHas T.val T.keys cn ⟨key, at_⟩ = decide (at_ < (cn : Int)) from by unfold idxHas; rw [hm, hl]; rfl, show idxMay T.val cn ⟨key, at_⟩ = true from by unfold idxMay; rw [hm, hl]; rfl]
      exact index_list _ _ _ _ _ _ _ _ c0 c6 hbw hcl hne h0 h0'
    | false =>
      rw [show idxAt T.val T.keys cn ⟨key, at_⟩ = 0 from by unfold idxAt; rw [hm, hl]; rfl, show idxHas T.val T.keys cn ⟨key, at_⟩ = false from by unfold idxHas; rw [hm, hl]; rfl, show idxMay T.val cn ⟨key, at_⟩ = false from by unfold idxMay; rw [hm, hl]; rfl]
      unfold isMapStep at hm
      unfold isListStep at hl
      rw [HKK] at hm hl
      by_cases h5 : k = 5
      · subst h5
        cases hke : key.toList.isEmpty with
        | true => exact index_no_a _ _ _ _ _ _ _ _ c0 c6 hbw hcl (by simpa using hke)
        | false =>
          rw [hke] at hm
          exact index_no_c _ _ _ _ _ _ _ _ c0 c6 hbw hcl (by rw [hke]; rfl) (by simpa using hm)
      · by_cases h6 : k = 6
        · subst h6
          cases hke : key.toList.isEmpty with
          | true =>
            rw [hke] at hl
            cases ha : decide (0 ≤ at_) with
            | false => exact index_no_e _ _ _ _ _ _ _ _ c0 c6 hbw hcl (by simpa using hke) ha
            | true =>
              rw [ha] at hl
              exact index_no_f _ _ _ _ _ _ _ _ c0 c6 hbw hcl (by simpa using hke) ha (by simpa using hl)
          | false => exact index_no_d _ _ _ _ _ _ _ _ c0 c6 hbw hcl (by rw [hke]; rfl) hke
        · exact index_no_b _ _ _ _ _ _ _ _ _ c0 c6 hbw hcl (by simpa using h5) (by simpa using h6)

/-- Paths in memory. -/
def stCells (p : List St) : List Value := p.flatMap St.cells
theorem stCells_at (l : List St) : ∀ (k : Nat) (s : St), l[k]? = some s → (stCells l)[k * 2]? = some (.string s.key) ∧ (stCells l)[k * 2 + 1]? = some (.int .i64 s.at_) := by
  induction l with
  | nil => intro k r h; simp at h
  | cons x l ih =>
    intro k s h
    cases k with
    | zero => simp at h; subst h; exact ⟨rfl, rfl⟩
    | succ k =>
      have := ih k s (by simpa using h)
      have e : (k + 1) * 2 = k * 2 + 1 + 1 := by omega
      rw [e]
      exact this
theorem SlAt.step {w : World} {A : Option Addr} {l : List St} (h : SlAt w A (stCells l)) {k : Nat} {s : St} (hk : l[k]? = some s) :
    ∃ b off, A = some ⟨b, off, none⟩ ∧ w.cell? ⟨b, off + k * 2, none⟩ = some (.string s.key) ∧ w.cell? ⟨b, off + k * 2 + 1, none⟩ = some (.int .i64 s.at_) := by
  obtain ⟨h0, h1⟩ := stCells_at l k s hk
  rcases h with h | ⟨b, off, hA, hc⟩
  · rw [h] at h0; simp at h0
  · exact ⟨b, off, hA, hc _ _ h0, hc _ _ h1⟩

theorem JT.keys_le {t : JT} (hf : t.formed = true) : t.keys.length ≤ t.size := by
  have h := ((JT.formed_iff t).1 hf).1
  have h2 := JT.length_le_sizeL t.kids
  have h3 := JT.size_eq t
  unfold JT.top at h
  by_cases h5 : t.val.k = 5
  · rw [if_pos h5] at h; simp at h; omega
  · rw [if_neg h5] at h
    by_cases h6 : t.val.k = 6
    · rw [if_pos h6] at h; simp at h; simp [h.2]
    · rw [if_neg h6] at h; simp at h; simp [h.2.1]
theorem JT.kid_size {t k : JT} {i : Nat} (h : t.kids[i]? = some k) : k.size ≤ t.size := by
  have h1 := JT.size_eq t
  have h2 := JT.sizeL_take_succ h
  have h3 := JT.sizeL_take_le t.kids (i + 1)
  omega
theorem Lead.size {T : PT} : ∀ {p : List St} {is : List Nat} {T0 : PT}, Lead T0 p is T → T.tree.size ≤ T0.tree.size := by
  intro p
  induction p with
  | nil =>
    intro is T0 h
    cases is with
    | nil => simp only [Lead] at h; subst h; exact Nat.le_refl _
    | cons j is => exact h.elim
  | cons r p ih =>
    intro is T0 h
    cases is with
    | nil => exact h.elim
    | cons j is =>
      obtain ⟨h1, L, h2, h3⟩ := h
      exact Nat.le_trans (ih h3) (JT.kid_size (Lead.kid h2))
theorem find_none {T0 X : PT} {p : List St} {k : Nat} {is : List Nat} {s : St} (hl : Lead T0 (p.take k) is X) (hs : p[k]? = some s) (hi : X.tree.idx s = none) :
    T0.tree.get p = none ∧ ∀ kind x q, q ≠ [] → JT.pat kind x T0.tree (p ++ q) = none := by
  obtain ⟨hlt, rfl⟩ := List.getElem?_eq_some_iff.1 hs
  have e : p = p.take k ++ p[k] :: p.drop (k + 1) := by rw [← List.drop_eq_getElem_cons hlt, List.take_append_drop]
  refine ⟨?_, fun kind x q hq => ?_⟩
  · rw [e]; exact (Lead.stuck hi (p.drop (k + 1)) hl).1
  · obtain ⟨r, l, hrl⟩ : ∃ r l, p.drop (k + 1) ++ q = r :: l := by
      cases h : p.drop (k + 1) ++ q with
      | nil => simp at h; exact absurd h.2 hq
      | cons r l => exact ⟨r, l, rfl⟩
    have e2 : p ++ q = p.take k ++ p[k] :: (r :: l) := by
      conv => lhs; rw [e]
      rw [List.append_assoc, List.cons_append, hrl]
    rw [e2]
    exact (Lead.stuck hi l hl).2 kind x r

/-- What find gives: the address of the tree that a path leads to; or nil. -/
def FindQ (w : World) (T0 : PT) (b0 : Nat) (p : List St) (e : Ending) (w' : World) : Prop :=
  Below w.heap.size w w' ∧ ((∃ (is : List Nat) (X : PT) (b o : Nat), e = .returned (.pointer (some ⟨b, o, none⟩)) ∧ Lead T0 p is X ∧ T0.addr ⟨b0, 0, none⟩ is = ⟨b, o, none⟩ ∧ AtP w' b o X) ∨
    (e = .returned (.pointer none) ∧ T0.tree.get p = none ∧ ∀ kind x q, q ≠ [] → JT.pat kind x T0.tree (p ++ q) = none))

set_option maxRecDepth 100000 in
set_option maxHeartbeats 2000000 in
theorem find_any (T0 : PT) (b0 : Nat) (A : Option Addr) (c : Nat) (p : List St) (w : World) (hP : AtP w b0 0 T0) (hT : InJ w T0) (hf : T0.tree.formed = true) (hs : T0.tree.size ≤ 400) (hA : SlAt w A (stCells p)) (hl : p.length ≤ maxLen) :
    Calls Tryd.prog 18 #[.pointer (some ⟨b0, 0, none⟩), .slice A p.length c] w (FindQ w T0 b0 p) := by
  have hml : p.length ≤ 9223372036854775807 := Nat.le_trans hl (by decide)
  have HH := Lib.hid (And.intro hP (And.intro hT (And.intro hf (And.intro hs hA))))
  clear hP hT hf hs hA hl
  go_enter Tryd.func18, Tryd.ntmps18
  go_wp2_with fail
  go_loopw [0, 12] (fun tv iv wr => ∃ (k : Nat) (is : List Nat) (X : PT) (b o : Nat), tv = .pointer (some ⟨b, o, none⟩) ∧ iv = .int .i64 k ∧ k ≤ p.length ∧ Lead T0 (p.take k) is X ∧ T0.addr ⟨b0, 0, none⟩ is = ⟨b, o, none⟩ ∧ AtP wr b o X ∧ Below w.heap.size w wr)
    (fun _ iv _ => p.length - (intOf iv).toNat)
  case atStart => exact ⟨0, [], T0, b0, 0, rfl, rfl, by omega, rfl, rfl, HH.out.1, Below.refl _ _⟩
  case round =>
    obtain ⟨k, is, X, b, o, rfl, rfl, hk, hL, had, hP, hb⟩ := hrel
    by_cases hlt : k < p.length
    · have hlti : (k : Int) < (p.length : Int) := by omega
      obtain ⟨s, hs⟩ : ∃ s, p[k]? = some s := ⟨_, List.getElem?_eq_getElem hlt⟩
      obtain ⟨bp, op, rfl, g0, g1⟩ := (HH.out.2.2.2.2.below hb).step hs
      have hXi : InJ wr X := (hL.inJ HH.out.2.1).below hb
      have hXf : X.tree.formed = true := hL.formed HH.out.2.2.1
      have hXk : X.keys.length ≤ 400 := by
        have := JT.keys_le hXf
        rw [PT.tree_keys] at this
        have := hL.size
        have := HH.out.2.2.2.1
        omega
      have hba : Below wr.heap.size wr (wr.alloc (.cells #[.string s.key, .int .i64 s.at_] 64)) := (Below.refl _ _).alloc (Nat.le_refl _) _
      have hbw : b < wr.heap.size := cell_lt (hP 0 (by omega))
      have HI := Lib.hid (index_any X b o s.key s.at_ (wr.alloc (.cells #[.string s.key, .int .i64 s.at_] 64)) (hP.below hba) (hXi.below hba) hXf hXk)
      have HX := Lib.hid (And.intro hL (And.intro had (And.intro hP (And.intro hb (And.intro hXi (And.intro hXf (And.intro hs hba)))))))
      clear hL had hP hb hXi hXf hXk hs hba
      go_wp2_with fail
      refine HI.out.mono ?_
      rintro e w2 ⟨rfl, hb2⟩
      have hb3 := HX.out.2.2.2.2.2.2.2.trans (hb2.mono (by simp))
      cases hh : idxHas X.val X.keys X.kids.length s with
      | true =>
        obtain ⟨i, hi, hia⟩ := idx_has hh
        have hi' : X.tree.idx s = some i := by
          unfold JT.idx
          rw [PT.tree_val, PT.tree_keys, PT.tree_kids, List.length_map]; exact hi
        have hil := JT.idx_lt hi' ((JT.formed_iff _).1 HX.out.2.2.2.2.2.1).1
        rw [PT.tree_kids, List.length_map] at hil
        obtain ⟨K, hK⟩ : ∃ K, X.kids[i]? = some K := ⟨_, List.getElem?_eq_getElem hil⟩
        obtain ⟨bk, ok, hcA, hPk⟩ := AtP.of_kid HX.out.2.2.2.2.1.slot hK
        have c6 : w2.cell? ⟨b, o + 6, none⟩ = some (.slice (some ⟨bk, ok, none⟩) X.kids.length X.cc) := by rw [← hcA]; exact (HX.out.2.2.1.below hb3) 6 (by omega)
        have hii : (i : Int) < (X.kids.length : Int) := by omega
        have HK := Lib.hid (And.intro hi' (And.intro hK (And.intro hcA (And.intro (hPk.below hb3) hb3))))
        obtain ⟨m, hm⟩ : ∃ m, idxMay X.val X.kids.length s = m := ⟨_, rfl⟩
        have HM := Lib.hid (And.intro hh (And.intro hia hm))
        have e2 : idxAt X.val X.keys X.kids.length ⟨s.key, s.at_⟩ = i := hia
        rw [e2]
        clear hh hi hia hi' hK hcA hPk hb2 hb3 hm e2
        go_wp2_with fail
        go_roundw
        case rel =>
          refine ⟨k + 1, is ++ [i], K, bk, ok + i * 7, rfl, by go_num, by omega, ?_, ?_, HK.out.2.2.2.1, HX.out.2.2.2.1.trans (HK.out.2.2.2.2.mono HX.out.2.2.2.1.size)⟩
          · rw [List.take_add_one, HX.out.2.2.2.2.2.2.1]
            exact HX.out.1.snoc HK.out.1 HK.out.2.1
          · rw [Lead.addr (s := s) HK.out.2.1 _ HX.out.1, HK.out.2.2.1]; rfl
        case measure => simp [intOf] <;> omega
      | false =>
        have hn : X.tree.idx s = none := by
          unfold JT.idx
          rw [PT.tree_val, PT.tree_keys, PT.tree_kids, List.length_map]; exact idx_hasnt hh
        have HN := Lib.hid (And.intro (find_none HX.out.1 HX.out.2.2.2.2.2.2.1 hn) hb3)
        clear hh hn hb2 hb3
        go_wp2_with fail
        go_ret
        exact ⟨HX.out.2.2.2.1.trans (HN.out.2.mono HX.out.2.2.2.1.size), .inr ⟨rfl, HN.out.1⟩⟩
    · obtain rfl : k = p.length := by omega
      have HX := Lib.hid (And.intro hL (And.intro had (And.intro hP hb)))
      clear hL had hP hb
      go_wp2_with fail
      go_ret
      refine ⟨HX.out.2.2.2, .inl ⟨is, X, b, o, rfl, ?_, HX.out.2.1, HX.out.2.2.1⟩⟩
      have := HX.out.1
      rw [List.take_of_length_le (Nat.le_refl _)] at this
      exact this
end Go.Proofs.YtmkebfclaehneaaDoor
