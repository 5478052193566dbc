/- What patches that set make of the tree in memory. -/
import Derived.Test.YtbfmdpgghknccaaDoorPatch
namespace Go.Proofs.YtbfmdpgghknccaaDoor
open Go.RowKit
set_option linter.unusedVariables false
set_option linter.unusedSimpArgs false

def put7 (w : World) (g o : Nat) (c0 c1 c2 c3 c4 c5 c6 : Value) : World := ((((((w.setCell ⟨g, o, none⟩ c0).setCell ⟨g, o + 1, none⟩ c1).setCell ⟨g, o + 2, none⟩ c2).setCell ⟨g, o + 3, none⟩ c3).setCell ⟨g, o + 4, none⟩ c4).setCell ⟨g, o + 5, none⟩ c5).setCell ⟨g, o + 6, none⟩ c6
theorem set_end {TS TT : TypeId} {W : World} {b0 : Nat} {T X K : PT} {q is} {s : St} {i g : Nat} {v : JV} (hv : v.Fit) (hO : OwnedT TS TT W b0 T) (hL : Lead T q is X) (hi : X.tree.idx s = some i) (hK : X.kids[i]? = some K) (hA : X.cA = some ⟨g, 0, none⟩) {W5 : World}
    (hW : W5 = put7 W g (i * 7) (.int .i64 v.k) (.int .i64 v.n) (.string v.s) (.int .i64 v.o) (.int .i64 v.p) (.slice none 0 0) (.slice none 0 0)) :
    ∃ T' : PT, OwnedT TS TT W5 b0 T' ∧ (∀ r ∈ T'.own, r ∈ T.own ∨ W.heap.size ≤ r) ∧ JT.pat 1 (JT.leaf v) T.tree (q ++ [s]) = some T'.tree ∧ Only (· ∈ T.own) W W5 := by
  have hsX := hL.sub
  have hsK : T.sub (is ++ [i]) = some K := PT.sub_snoc hsX hK
  have haK : T.addr ⟨b0, 0, none⟩ (is ++ [i]) = ⟨g, i * 7, none⟩ := by
    rw [Lead.addr (s := s) hK _ hL, hA]
    simp [slotOf]
  obtain ⟨⟨cur, hB⟩, hnot, hsub, _, _, hin⟩ := hO.place hsK haK
  have hXo : OwnJ TS TT W X := by
    by_cases he : is = []
    · subst he
      simp only [PT.sub] at hsX
      injection hsX with hsX
      subst hsX
      exact hO.own
    · obtain ⟨b, o, sp, hab⟩ : ∃ b o sp, T.addr ⟨b0, 0, none⟩ is = ⟨b, o, sp⟩ := ⟨_, _, _, rfl⟩
      have : ∀ (is : List Nat) (T : PT), OwnJ TS TT W T → T.sub is = some X → OwnJ TS TT W X := by
        intro is
        induction is with
        | nil => intro T h1 hs; simp only [PT.sub] at hs; injection hs with hs; subst hs; exact h1
        | cons j is ih =>
          intro T h1 hs
          rw [PT.sub] at hs
          cases hj : T.kids[j]? with
          | none => rw [hj] at hs; cases hs
          | some L => rw [hj] at hs; exact ih L (h1.kids L (List.mem_of_getElem? hj)) hs
      exact this is T hO.own hsX
  obtain ⟨g', cur', hA', hB', hsz, hgo⟩ := kids_row hXo hK
  rw [hA] at hA'
  injection hA' with hA'
  injection hA' with hA'
  subst hA'
  have hlt := (List.getElem?_eq_some_iff.1 hK).1
  have hgX : g ∈ T.own := by
    rcases hin with h | h
    · exfalso
      have hb := (List.nodup_cons.1 hO.nd).1
      rw [← h] at hb
      have : ∀ (is : List Nat) (T : PT), T.sub is = some X → ∀ r ∈ X.own, r ∈ T.own := by
        intro is
        induction is with
        | nil => intro T hs; simp only [PT.sub] at hs; injection hs with hs; subst hs; exact fun r h => h
        | cons j is ih =>
          intro T hs r hr
          rw [PT.sub] at hs
          cases hj : T.kids[j]? with
          | none => rw [hj] at hs; cases hs
          | some L =>
            rw [hj] at hs
            rw [PT.own_eq]
            exact List.mem_append_right _ (List.mem_append_right _ (PT.ownL_mem (List.mem_of_getElem? hj) (ih L hs r hr)))
      exact hb (this is T hsX g hgo)
    · exact h
  have ho : Only (· = g) W W5 := by rw [hW]; exact only7 W g _ _ _ _ _ _ _ _ _ _ _ _ _ _
  obtain ⟨cur5, hB5, hU⟩ : ∃ cur5, Blk W5 g TT cur5 ∧ Upd cur' cur5 (i * 7) (PT.bare v).cells :=
    ⟨_, by rw [hW]; exact ((((((hB'.set_ (i * 7) (.int .i64 v.k)).set_ (i * 7 + 1) (.int .i64 v.n)).set_ (i * 7 + 2) (.string v.s)).set_ (i * 7 + 3) (.int .i64 v.o)).set_ (i * 7 + 4) (.int .i64 v.p)).set_ (i * 7 + 5) (.slice none 0 0)).set_ (i * 7 + 6) (.slice none 0 0), upd7 cur' (i * 7) _ _ _ _ _ _ _ (by omega)⟩
  have hT : Turned W W5 ⟨g, i * 7, none⟩ K.own (PT.bare v).cells := ⟨ho.size, fun r hr hne _ => ho.block r hr hne, ⟨cur', cur5, TT, hB', hB5, hU⟩⟩
  obtain ⟨r1, r2⟩ := hO.turn hsK haK hT (PT.bare_own W5 hv) (by simp [PT.bare, PT.own, blkOf, PT.ownL]) (by intro r hr; simp [PT.bare, PT.own, blkOf, PT.ownL] at hr)
  refine ⟨_, r1, r2, ?_, ho.mono (fun r _ h => by rw [h]; exact hgX)⟩
  have hp : JT.pat 1 (JT.leaf v) X.tree [s] = some (X.setKid i (PT.bare v)).tree := by
    simp only [JT.pat]
    unfold JT.pat1
    rw [if_pos rfl, hi, PT.setKid_tree, PT.bare_tree]
  rw [(Lead.pat 1 (JT.leaf v) hL).2 _ hp, repl_snoc is T X hsX (by rw [hK]; simp)]

/-- The row of keys, and of kids, with one more. -/
theorem ins_end {TS TT : TypeId} {W W5 : World} {b0 : Nat} {T X : PT} {q is} {s : St} {b o i : Nat} {v : JV} (hv : v.Fit) (hO : OwnedT TS TT W b0 T) (hL : Lead T q is X) (ha : T.addr ⟨b0, 0, none⟩ is = ⟨b, o, none⟩) (hP : AtP W b o X) (hi : X.tree.idx s = none) (hm : isMapStep X.val s = true) (hie : i = plc X.keys s.key)
    (hsk : s.key.size ≤ maxLen) {A' C' : Option Addr} {ac cc : Nat}
    (hk : W5.ownsRow 0 TS 1 (.slice A' (X.keys.length + 1) ac) (X.keys.length + 1) ((insAt X.keys i s.key).map Value.string)) (hc : W5.ownsRow 0 TT 7 (.slice C' (X.kids.length + 1) cc) (X.kids.length + 1) (PT.cellsL (insAt X.kids i (PT.bare v))))
    (hik : i ≤ X.keys.length) (hic : i ≤ X.kids.length)
    (hA : ∀ r ∈ blkOf A', r ∈ blkOf X.kA ∨ W.heap.size ≤ r) (hC : ∀ r ∈ blkOf C', r ∈ blkOf X.cA ∨ W.heap.size ≤ r) (hAC : ∀ r ∈ blkOf A', r ∉ blkOf C')
    (ho : Only (fun r => r ∈ blkOf X.kA ∨ r ∈ blkOf X.cA ∨ r = b) W W5) {cur cur5 : Array Value} (hB : Blk W b TT cur) (hB5 : Blk W5 b TT cur5) (hcur : cur5 = (cur.setIfInBounds (o + 5) (.slice A' (X.keys.length + 1) ac)).setIfInBounds (o + 6) (.slice C' (X.kids.length + 1) cc)) :
    ∃ T' : PT, OwnedT TS TT W5 b0 T' ∧ (∀ r ∈ T'.own, r ∈ T.own ∨ W.heap.size ≤ r) ∧ JT.pat 1 (JT.leaf v) T.tree (q ++ [s]) = some T'.tree ∧ Only (· ∈ b0 :: T.own) W W5 := by
  have hsX := hL.sub
  obtain ⟨_, hnot, hsub, hXo, hXn, hin⟩ := hO.place hsX ha
  obtain ⟨X', hX'⟩ : ∃ X', PT.node X.val A' ac (insAt X.keys i s.key) C' cc (insAt X.kids i (PT.bare v)) = X' := ⟨_, rfl⟩
  have lk : (insAt X.keys i s.key).length = X.keys.length + 1 := insAt_length _ _ _ hik
  have lc : (insAt X.kids i (PT.bare v)).length = X.kids.length + 1 := insAt_length _ _ _ hic
  have hXeq := PT.own_eq X
  have hownL : PT.ownL (insAt X.kids i (PT.bare v)) = PT.ownL X.kids := by
    rw [insAt, PT.ownL_append, PT.ownL]
    conv => rhs; rw [← List.take_append_drop i X.kids, PT.ownL_append]
    simp [PT.bare, PT.own, blkOf, PT.ownL]
  have hXlt := hXo.lt
  have hX'own : X'.own = blkOf A' ++ (blkOf C' ++ PT.ownL X.kids) := by
    rw [← hX']
    refine (PT.own_eq _).trans ?_
    show blkOf A' ++ (blkOf C' ++ PT.ownL (insAt X.kids i (PT.bare v))) = _
    rw [hownL]
  have hkidown : ∀ r ∈ PT.ownL X.kids, r < W.heap.size ∧ r ∉ blkOf X.kA ∧ r ∉ blkOf X.cA ∧ r ≠ b := by
    intro r hr
    have h1 : r ∈ X.own := by rw [hXeq]; exact List.mem_append_right _ (List.mem_append_right _ hr)
    rw [hXeq, List.nodup_append] at hXn
    obtain ⟨_, n2, n3⟩ := hXn
    rw [List.nodup_append] at n2
    refine ⟨hXlt r h1, fun hm => n3 r hm r (List.mem_append_right _ hr) rfl, fun hm => n2.2.2 r hm r hr rfl, fun e => hnot (by rw [← e]; exact h1)⟩
  have hown5 : OwnJ TS TT W5 X' := by
    rw [← hX']
    refine OwnJ.mk_ ⟨hXo.slot.fit, ?_, ?_, ?_⟩ ?_
    · show W5.ownsRow 0 TS 1 (.slice A' (insAt X.keys i s.key).length ac) (insAt X.keys i s.key).length _
      rw [lk]; exact hk
    · show W5.ownsRow 0 TT 7 (.slice C' (insAt X.kids i (PT.bare v)).length cc) (insAt X.kids i (PT.bare v)).length _
      rw [lc]; exact hc
    · intro x hx
      have hx : x ∈ insAt X.keys i s.key := hx
      rcases insAt_mem hx with rfl | hx
      · exact hsk
      · exact hXo.slot.each x hx
    · intro k hkm
      have hkm : k ∈ insAt X.kids i (PT.bare v) := hkm
      rcases insAt_mem hkm with rfl | hkm
      · exact PT.bare_own W5 hv
      · refine (hXo.kids k hkm).keep fun r hr hlt => ?_
        obtain ⟨_, h2, h3, h4⟩ := hkidown r (PT.ownL_mem hkm hr)
        exact ho.block r hlt (fun h => by rcases h with h | h | h; exact h2 h; exact h3 h; exact h4 h)
  have hnd' : X'.own.Nodup := by
    rw [hX'own]
    rw [hXeq] at hXn
    have n1 : (PT.ownL X.kids).Nodup := (List.nodup_append.1 (List.nodup_append.1 hXn).2.1).2.1
    have nA : (blkOf A').Nodup := by cases A' <;> simp [blkOf]
    have nC : (blkOf C').Nodup := by cases C' <;> simp [blkOf]
    refine List.nodup_append.2 ⟨nA, List.nodup_append.2 ⟨nC, n1, ?_⟩, ?_⟩
    · intro a haC r hr e
      obtain ⟨h1, h2, h3, _⟩ := hkidown r hr
      rcases hC a haC with h | h
      · exact h3 (by rw [← e]; exact h)
      · omega
    · intro a haA r hr e
      rcases List.mem_append.1 hr with hr | hr
      · exact hAC a haA (by rw [e]; exact hr)
      · obtain ⟨h1, h2, h3, _⟩ := hkidown r hr
        rcases hA a haA with h | h
        · exact h2 (by rw [← e]; exact h)
        · omega
  have hsub' : ∀ r ∈ X'.own, r ∈ X.own ∨ W.heap.size ≤ r := by
    intro r hr
    rw [hX'own] at hr
    rw [hXeq]
    simp only [List.mem_append] at hr ⊢
    rcases hr with hr | hr | hr
    · rcases hA r hr with h | h
      · exact .inl (.inl h)
      · exact .inr h
    · rcases hC r hr with h | h
      · exact .inl (.inr (.inl h))
      · exact .inr h
    · exact .inl (.inr (.inr hr))
  have hX'c : X'.cells = [.int .i64 X.val.k, .int .i64 X.val.n, .string X.val.s, .int .i64 X.val.o, .int .i64 X.val.p, .slice A' (X.keys.length + 1) ac, .slice C' (X.kids.length + 1) cc] := by
    rw [← hX']
    show X.val.cells ++ [.slice A' (insAt X.keys i s.key).length ac, .slice C' (insAt X.kids i (PT.bare v)).length cc] = _
    rw [lk, lc]; rfl
  have hsz : o + 7 ≤ cur.size := by
    have := hP 6 (by omega)
    rw [hB.cell] at this
    have h2 : X.cells[6]? = some (.slice X.cA X.kids.length X.cc) := rfl
    rw [h2] at this
    have := (Array.getElem?_eq_some_iff.1 this).1
    omega
  have hT : Turned W W5 ⟨b, o, none⟩ X.own X'.cells := by
    refine ⟨ho.size, fun r hr hne hn => ho.block r hr (fun h => ?_), ⟨cur, cur5, TT, hB, hB5, ?_⟩⟩
    · rcases h with h | h | h
      · exact hn (by rw [hXeq]; exact List.mem_append_left _ h)
      · exact hn (by rw [hXeq]; exact List.mem_append_right _ (List.mem_append_left _ h))
      · exact hne h
    · rw [hX'c, hcur]
      refine ⟨by simp, fun j hj => ?_⟩
      have hcell : ∀ t, t < 7 → cur[o + t]? = X.cells[t]? := fun t ht => by rw [← hB.cell]; exact hP t ht
      simp only [Array.getElem?_setIfInBounds, Array.size_setIfInBounds, List.length_cons, List.length_nil]
      by_cases hc7 : o ≤ j ∧ j < o + 7
      · have : j = o + 0 ∨ j = o + 1 ∨ j = o + 2 ∨ j = o + 3 ∨ j = o + 4 ∨ j = o + 5 ∨ j = o + 6 := by omega
        have g5 : o + 5 < cur.size := by omega
        have g6 : o + 6 < cur.size := by omega
        rcases this with rfl | rfl | rfl | rfl | rfl | rfl | rfl
        · have h0 := hcell 0 (by omega)
          rw [Nat.add_zero] at h0
          rw [if_neg (by omega), if_neg (by omega), if_pos (by omega), h0]; simp [PT.cells, JV.cells]
        · rw [if_neg (by omega), if_neg (by omega), if_pos (by omega), hcell 1 (by omega)]; simp [PT.cells, JV.cells]
        · rw [if_neg (by omega), if_neg (by omega), if_pos (by omega), hcell 2 (by omega)]; simp [PT.cells, JV.cells]
        · rw [if_neg (by omega), if_neg (by omega), if_pos (by omega), hcell 3 (by omega)]; simp [PT.cells, JV.cells]
        · rw [if_neg (by omega), if_neg (by omega), if_pos (by omega), hcell 4 (by omega)]; simp [PT.cells, JV.cells]
        · simp [g5]
        · simp [g6]
      · rw [if_neg (by omega), if_neg (by omega), if_neg (by omega)]
  obtain ⟨r1, r2⟩ := hO.turn hsX ha hT hown5 hnd' hsub'
  refine ⟨_, r1, r2, ?_, ho.mono (fun r _ h => ?_)⟩
  · refine (Lead.pat 1 (JT.leaf v) hL).2 _ ?_
    simp only [JT.pat]
    unfold JT.pat1
    have e1 : X'.tree = .node X.val (insAt X.keys i s.key) ((insAt X.kids i (PT.bare v)).map PT.tree) := by rw [← hX']; exact PT.tree_eq _
    have e2 : (insAt X.kids i (PT.bare v)).map PT.tree = insAt (X.kids.map PT.tree) i (JT.leaf v) := by simp [insAt, PT.bare_tree, List.map_take, List.map_drop]
    rw [if_pos rfl, hi, PT.tree_val, if_pos hm, PT.tree_keys, PT.tree_kids, ← hie, e1, e2]
  · rcases h with h | h | h
    · exact List.mem_cons_of_mem _ (hsub r (by rw [hXeq]; exact List.mem_append_left _ h))
    · exact List.mem_cons_of_mem _ (hsub r (by rw [hXeq]; exact List.mem_append_right _ (List.mem_append_left _ h)))
    · rcases hin with e | e
      · rw [h, e]; exact List.mem_cons_self
      · rw [h]; exact List.mem_cons_of_mem _ e

/-- Between the two rows: the keys have one more. -/
structure Ins1 (TS TT : TypeId) (w4 W3 : World) (X : PT) (b o i : Nat) (key : ByteArray) (cur : Array Value) (A' : Option Addr) (ac : Nat) (kid : Array Value) : Prop where
  only : Only (fun r => r ∈ blkOf X.kA ∨ r = b) w4 W3
  row : Blk W3 b TT (cur.setIfInBounds (o + 5) (.slice A' (X.keys.length + 1) ac))
  keys : W3.ownsRow 0 TS 1 (.slice A' (X.keys.length + 1) ac) (X.keys.length + 1) ((insAt X.keys i key).map Value.string)
  new : ∀ r ∈ blkOf A', r ∈ blkOf X.kA ∨ w4.heap.size ≤ r
  kid : Blk W3 w4.heap.size TT kid

theorem own_parts {TS TT : TypeId} {w : World} {X : PT} (h : OwnJ TS TT w X) (hn : X.own.Nodup) : (∀ r ∈ blkOf X.kA, r < w.heap.size ∧ r ∉ blkOf X.cA) ∧ (∀ r ∈ blkOf X.cA, r < w.heap.size ∧ r ∉ blkOf X.kA) := by
  have e := PT.own_eq X
  have hlt := h.lt
  rw [e] at hlt hn
  have n3 := (List.nodup_append.1 hn).2.2
  refine ⟨fun r hr => ⟨hlt r (List.mem_append_left _ hr), fun hc => n3 r hr r (List.mem_append_left _ hc) rfl⟩, fun r hr => ⟨hlt r (List.mem_append_right _ (List.mem_append_left _ hr)), fun hc => n3 r hc r (List.mem_append_left _ hr) rfl⟩⟩

theorem ins1_mk {TS TT : TypeId} {w4 W1 W2 : World} {X : PT} {b o i : Nat} {key : ByteArray} {cur kid : Array Value} {A' : Option Addr} {ac : Nat}
    (hXo : OwnJ TS TT w4 X) (hXn : X.own.Nodup) (hnb : b ∉ X.own) (hBb : Blk w4 b TT cur) (hW1 : Below w4.heap.size w4 W1) (hk1 : Blk W1 w4.heap.size TT kid)
    (hrow : W2.ownsRow 0 TS 1 (.slice A' (X.keys.length + 1) ac) (X.keys.length + 1) ((X.keys.map Value.string).take (i * 1) ++ [.string key] ++ (X.keys.map Value.string).drop (i * 1)))
    (ho : Only (· ∈ blkOf X.kA) W1 W2) (hA : ∀ r ∈ blkOf A', r ∈ blkOf X.kA ∨ W1.heap.size ≤ r) :
    Ins1 TS TT w4 (W2.setCell ⟨b, o + 5, none⟩ (.slice A' (X.keys.length + 1) ac)) X b o i key cur A' ac kid := by
  have hbk : b ∉ blkOf X.kA := fun h => hnb (by rw [PT.own_eq]; exact List.mem_append_left _ h)
  have hp := (own_parts hXo hXn).1
  have hs1 := hW1.size
  have hb2 : Blk W2 b TT cur := (hBb.below hW1 hBb.lt).only ho hbk
  have oS := (Only.refl (· = b) W2).setCell (p := ⟨b, o + 5, none⟩) rfl (.slice A' (X.keys.length + 1) ac)
  have e : (X.keys.map Value.string).take (i * 1) ++ [.string key] ++ (X.keys.map Value.string).drop (i * 1) = (insAt X.keys i key).map Value.string := by
    simp [insAt, List.map_take, List.map_drop]
  rw [e] at hrow
  refine ⟨?_, hb2.set_ (o + 5) _, own_keep hrow fun r hr _ => oS.block r ?_ ?_, fun r hr => ?_, (hk1.only ho (fun h => ?_)).only oS (by have := hBb.lt; show w4.heap.size ≠ b; omega)⟩
  · refine ((Only.of_below hW1).trans ?_).trans (oS.mono fun r _ h => .inr h)
    exact ho.mono fun r _ h => .inl h
  · exact own_lt hrow r hr
  · show r ≠ b
    rcases hA r hr with h | h
    · intro e; exact hbk (by rw [← e]; exact h)
    · have := hBb.lt; omega
  · rcases hA r hr with h | h
    · exact .inl h
    · exact .inr (by omega)
  · have := (hp _ h).1; omega

theorem ins2_mk {TS TT : TypeId} {w4 W3 W1 W4 : World} {b0 : Nat} {T X : PT} {q is} {s : St} {b o i : Nat} {v : JV} (hv : v.Fit) (hO : OwnedT TS TT w4 b0 T) (hL : Lead T q is X) (ha : T.addr ⟨b0, 0, none⟩ is = ⟨b, o, none⟩) (hP : AtP w4 b o X) (hi : X.tree.idx s = none) (hm : isMapStep X.val s = true) (hie : plc X.keys s.key = i)
    (hsk : s.key.size ≤ maxLen) (hic : i ≤ X.kids.length) {cur kid : Array Value} (hBb : Blk w4 b TT cur) {A' C' : Option Addr} {ac cc : Nat} (h1 : Ins1 TS TT w4 W3 X b o i s.key cur A' ac kid)
    (hW1 : Below W3.heap.size W3 W1) (hrow : W4.ownsRow 0 TT 7 (.slice C' (X.kids.length + 1) cc) (X.kids.length + 1) ((PT.cellsL X.kids).take (i * 7) ++ (PT.bare v).cells ++ (PT.cellsL X.kids).drop (i * 7)))
    (ho : Only (· ∈ blkOf X.cA) W1 W4) (hC : ∀ r ∈ blkOf C', r ∈ blkOf X.cA ∨ W1.heap.size ≤ r) :
    ∃ T' : PT, OwnedT TS TT (W4.setCell ⟨b, o + 6, none⟩ (.slice C' (X.kids.length + 1) cc)) b0 T' ∧ (∀ r ∈ T'.own, r ∈ T.own ∨ w4.heap.size ≤ r) ∧ JT.pat 1 (JT.leaf v) T.tree (q ++ [s]) = some T'.tree ∧ Only (· ∈ b0 :: T.own) w4 (W4.setCell ⟨b, o + 6, none⟩ (.slice C' (X.kids.length + 1) cc)) := by
  obtain ⟨_, hnb, hsub, hXo, hXn, hin⟩ := hO.place hL.sub ha
  obtain ⟨pk, pc⟩ := own_parts hXo hXn
  have hbk : b ∉ blkOf X.kA := fun h => hnb (by rw [PT.own_eq]; exact List.mem_append_left _ h)
  have hbc : b ∉ blkOf X.cA := fun h => hnb (by rw [PT.own_eq]; exact List.mem_append_right _ (List.mem_append_left _ h))
  have hbl := hBb.lt
  have s3 := h1.only.size
  have s1 := hW1.size
  have hik : i ≤ X.keys.length := by rw [← hie]; exact plc_le _ _
  have oS := (Only.refl (· = b) W4).setCell (p := ⟨b, o + 6, none⟩) rfl (.slice C' (X.kids.length + 1) cc)
  have o34 : Only (fun r => r ∈ blkOf X.cA ∨ r = b) W3 (W4.setCell ⟨b, o + 6, none⟩ (.slice C' (X.kids.length + 1) cc)) := ((Only.of_below hW1).trans (ho.mono fun r _ h => .inl h)).trans (oS.mono fun r _ h => .inr h)
  have e : (PT.cellsL X.kids).take (i * 7) ++ (PT.bare v).cells ++ (PT.cellsL X.kids).drop (i * 7) = PT.cellsL (insAt X.kids i (PT.bare v)) := by
    have hl : (PT.cellsL (X.kids.take i)).length = i * 7 := by rw [PT.cellsL_length, List.length_take]; omega
    have hall : PT.cellsL X.kids = PT.cellsL (X.kids.take i) ++ PT.cellsL (X.kids.drop i) := by rw [← PT.cellsL_append, List.take_append_drop]
    rw [hall, ← hl, List.take_left, List.drop_left, insAt, PT.cellsL_append]
    simp [PT.cellsL, List.append_assoc]
  rw [e] at hrow
  have hnA : ∀ r ∈ blkOf A', r ∉ blkOf X.cA ∧ r ≠ b ∧ r < W3.heap.size := by
    intro r hr
    refine ⟨fun hc => ?_, fun hb => ?_, own_lt h1.keys r hr⟩
    · rcases h1.new r hr with h | h
      · exact (pk r h).2 hc
      · have := (pc r hc).1; omega
    · rcases h1.new r hr with h | h
      · exact hbk (by rw [← hb]; exact h)
      · omega
  have hnC : ∀ r ∈ blkOf C', r ≠ b := by
    intro r hr hb
    rcases hC r hr with h | h
    · exact hbc (by rw [← hb]; exact h)
    · omega
  refine ins_end hv hO hL ha hP hi hm hie.symm hsk (own_keep h1.keys fun r hr hlt => o34.block r hlt (fun h => ?_)) (own_keep hrow fun r hr hlt => oS.block r hlt (hnC r hr)) hik hic h1.new (fun r hr => ?_) (fun r hr hc => ?_) ?_ hBb (((h1.row.below hW1 h1.row.lt).only ho hbc).set_ (o + 6) _) rfl
  · rcases h with h | h
    · exact (hnA r hr).1 h
    · exact (hnA r hr).2.1 h
  · rcases hC r hr with h | h
    · exact .inl h
    · exact .inr (by omega)
  · rcases hC r hc with h | h
    · exact (hnA r hr).1 h
    · have := (hnA r hr).2.2; omega
  · refine ⟨o34.os.trans h1.only.os, o34.tape.trans h1.only.tape, o34.output.trans h1.only.output, Nat.le_trans s3 o34.size, fun k hk hn => ?_⟩
    rw [o34.block k (by omega) (fun h => hn (by rcases h with h | h; exact .inr (.inl h); exact .inr (.inr h)))]
    exact h1.only.block k hk (fun h => hn (by rcases h with h | h; exact .inl h; exact .inr (.inr h)))
end Go.Proofs.YtbfmdpgghknccaaDoor
