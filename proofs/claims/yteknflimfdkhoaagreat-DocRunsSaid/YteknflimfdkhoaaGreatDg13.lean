/- dag.Clone: a contract. dag.Clone: the walk. -/
import Derived.Test.YteknflimfdkhoaaGreatDg12
import Derived.Test.YteknflimfdkhoaaGreatDg9
import Derived.Laws.OwnMore
import Derived.RegionTactic
import Derived.BigRegion
namespace Go.Proofs.YteknflimfdkhoaaGreat
open Go.RowKit
set_option linter.unusedVariables false
set_option linter.unusedSimpArgs false

theorem own_keepD {w w' : World} {e : TypeId} {sz n c : Nat} {A : Option Addr} {xs : List Value} (h : w.ownsRow 0 e sz (.slice A n c) n xs) (hk : ∀ b ∈ blkOf A, b < w.heap.size → w'.heap[b]? = w.heap[b]?) : w'.ownsRow 0 e sz (.slice A n c) n xs := by
  refine ⟨h.1, ?_⟩
  rcases h.2 with hn | ⟨g, cap, cur, hv, hb, hg, rest⟩
  · exact .inl hn
  · refine .inr ⟨g, cap, cur, hv, hb, ?_, rest⟩
    injection hv with hA _ _
    subst hA
    rw [hk g (by simp [blkOf]) (Array.getElem?_eq_some_iff.1 hg).1]
    exact hg
theorem own_ltD {w : World} {e : TypeId} {sz n c : Nat} {A : Option Addr} {xs : List Value} (h : w.ownsRow 0 e sz (.slice A n c) n xs) : ∀ b ∈ blkOf A, b < w.heap.size := by
  intro b hb
  cases A with
  | none => simp [blkOf] at hb
  | some a =>
    simp [blkOf] at hb
    subst hb
    exact (h.lt a.block rfl).2
theorem sl_keep {w w' : World} {A : Option Addr} {cells : List Value} (h : SlAt w A cells) (hk : ∀ b ∈ blkOf A, b < w.heap.size → w'.heap[b]? = w.heap[b]?) : SlAt w' A cells := by
  by_cases hc : cells = []
  · exact .inl hc
  · rcases h with h | ⟨b, off, hA, hcell⟩
    · exact .inl h
    · obtain ⟨u, us, rfl⟩ := List.exists_cons_of_ne_nil hc
      have hlt := cell_lt (hcell 0 u rfl)
      refine .inr ⟨b, off, hA, fun j v hv => ?_⟩
      have e := hk b (by rw [hA]; simp [blkOf]) hlt
      rw [← hcell j v hv]
      exact World.cell?_of_block e
theorem refs_one (l : List (Int × Int)) : ∀ u ∈ refs l, u.oneCell' = true := by
  intro u hu
  obtain ⟨r, _, hr⟩ := List.mem_flatMap.1 hu
  simp at hr
  rcases hr with rfl | rfl <;> rfl
theorem opsCells_one (l : List POp) : ∀ u ∈ opsCells l, u.oneCell' = true := by
  intro u hu
  obtain ⟨o, _, ho⟩ := List.mem_flatMap.1 hu
  simp [POp.cells] at ho
  rcases ho with rfl | rfl | rfl | rfl | rfl | rfl | rfl | rfl | rfl | rfl | rfl | rfl | rfl <;> rfl
theorem opsCells_set : ∀ (l : List POp) (k : Nat) (x : POp) (A : Option Addr) (c : Nat), l[k]? = some x → (opsCells l).set (k * 13 + 12) (.slice A x.op.preds.length c) = opsCells (l.set k ⟨x.op, A, c⟩)
  | [], k, x, _, _, h => by simp at h
  | y :: l, 0, x, A, c, h => by
    simp at h
    subst h
    simp only [opsCells, List.flatMap_cons, List.set_cons_zero]
    rw [List.set_append_left _ _ (by rw [POp.cells_len]; omega)]
    rfl
  | y :: l, k + 1, x, A, c, h => by
    have ih := opsCells_set l k x A c (by simpa using h)
    simp only [opsCells, List.flatMap_cons, List.set_cons_succ] at *
    rw [List.set_append_right _ _ (by rw [POp.cells_len]; omega), POp.cells_len, show (k + 1) * 13 + 12 - 13 = k * 13 + 12 by omega, ih]

structure ClI (w : World) (c : PCh) (dA' : Option Addr) (dc' : Nat) (oA' : Option Addr) (oc' k : Nat) (done : List POp) (W : World) : Prop where
  len : done.length = k
  same : done.map POp.op = (c.ops.map POp.op).take k
  box : Blk W w.heap.size 65 #[.int .i64 c.actor, .int .i64 c.seq, .int .i64 c.start, .slice dA' c.deps.length dc', .slice oA' c.ops.length oc']
  res : Blk W (w.heap.size + 1) 65 #[.int .i64 0, .int .i64 0, .int .i64 0, .slice none 0 0, .slice none 0 0]
  deps : SlAt W dA' (refs c.deps)
  row : W.ownsRow 0 51 13 (.slice oA' c.ops.length oc') c.ops.length (opsCells (done ++ c.ops.drop k))
  preds : ∀ o ∈ done, SlAt W o.pA (refs o.op.preds)
  depsNe : ∀ b ∈ blkOf dA', b ∉ blkOf oA' ∧ w.heap.size + 2 ≤ b
  predNe : ∀ o ∈ done, ∀ b ∈ blkOf o.pA, b ∉ blkOf oA' ∧ w.heap.size + 2 ≤ b
  oLow : ∀ b ∈ blkOf oA', w.heap.size + 2 ≤ b
  bel : Below w.heap.size w W

theorem ClI.step {w wr w3 : World} {c : PCh} {dA' : Option Addr} {dc' g oc' k : Nat} {done : List POp} (h : ClI w c dA' dc' (some ⟨g, 0, none⟩) oc' k done wr) {x : POp} (hx : c.ops[k]? = some x) {A : Option Addr} {cc : Nat}
    (hb : Below wr.heap.size wr w3) (hA : SlAt w3 A (refs x.op.preds)) (hn : ∀ b ∈ blkOf A, wr.heap.size ≤ b) :
    ClI w c dA' dc' (some ⟨g, 0, none⟩) oc' (k + 1) (done ++ [⟨x.op, A, cc⟩]) (w3.setCell ⟨g, k * 13 + 12, none⟩ (.slice A x.op.preds.length cc)) := by
  have hlt : k < c.ops.length := (List.getElem?_eq_some_iff.1 hx).1
  have hglt : g < wr.heap.size := own_ltD h.row g (by simp [blkOf])
  have hglow := h.oLow g (by simp [blkOf])
  obtain ⟨w4, hw4⟩ : ∃ w4, w4 = w3.setCell ⟨g, k * 13 + 12, none⟩ (.slice A x.op.preds.length cc) := ⟨_, rfl⟩
  have ho : Only (fun b => b = g) w3 w4 := by rw [hw4]; exact Only.setCell (S := fun b => b = g) (Only.refl _ w3) (p := ⟨g, k * 13 + 12, none⟩) rfl _
  have hk4 : ∀ b, b < wr.heap.size → b ≠ g → w4.heap[b]? = wr.heap[b]? := fun b hb' hne => (ho.block b (Nat.lt_of_lt_of_le hb' hb.size) hne).trans (hb.block b hb')
  have hg' : ∀ b, b ∉ blkOf (some (⟨g, 0, none⟩ : Addr)) → b ≠ g := fun b hn e => hn (by simp [blkOf, e])
  rw [← hw4]
  refine ⟨by simp [h.len], ?_, ?_, ?_, ?_, ?_, ?_, h.depsNe, ?_, h.oLow, ?_⟩
  · rw [List.map_append, h.same, List.take_add_one]
    simp [hx]
  · exact (h.box.below hb h.box.lt).only ho (by show w.heap.size ≠ g; omega)
  · exact (h.res.below hb h.res.lt).only ho (by show w.heap.size + 1 ≠ g; omega)
  · exact sl_keep h.deps (fun b hb' hl => hk4 b hl (hg' b (h.depsNe b hb').1))
  · have h3 := own_keepD h.row (w' := w3) (fun b _ hl => hb.block b hl)
    have h4 := (h3.stored (k * 13 + 12) (.slice A x.op.preds.length cc)).1
    rw [← hw4] at h4
    have hat : (done ++ c.ops.drop k)[k]? = some x := by rw [List.getElem?_append_right (by rw [h.len]; exact Nat.le_refl _), h.len, Nat.sub_self, List.getElem?_drop]; exact hx
    rw [opsCells_set _ k x A cc hat] at h4
    have hset : (done ++ c.ops.drop k).set k ⟨x.op, A, cc⟩ = (done ++ [⟨x.op, A, cc⟩]) ++ c.ops.drop (k + 1) := by
      rw [List.set_append_right _ _ (by rw [h.len]; exact Nat.le_refl _), h.len, Nat.sub_self, List.drop_eq_getElem_cons hlt, List.set_cons_zero, List.append_assoc]
      rfl
    rw [hset] at h4
    exact h4
  · intro o hm
    rcases List.mem_append.1 hm with hm | hm
    · exact sl_keep (h.preds o hm) (fun b hb' hl => hk4 b hl (hg' b (h.predNe o hm b hb').1))
    · rw [List.mem_singleton] at hm
      subst hm
      exact sl_keep hA (fun b hb' hl => ho.block b hl (by have := hn b hb'; show b ≠ g; omega))
  · intro o hm b hb'
    rcases List.mem_append.1 hm with hm | hm
    · exact h.predNe o hm b hb'
    · rw [List.mem_singleton] at hm
      subst hm
      have h1 := hn b hb'
      have h2 := h.bel.size
      have h3 := h.res.lt
      refine ⟨?_, by omega⟩
      simp [blkOf]
      omega
  · exact (h.bel.trans (hb.mono h.bel.size)).trans (ho.below (Nat.le_trans h.bel.size hb.size) (fun q hq e => by have : q = g := e; omega))

/-- A copy: the same change, in memory that is new. -/
def CloneQ (w : World) (c : PCh) (e : Ending) (w' : World) : Prop :=
  ∃ c' : PCh, e = .returned (.agg #[.int .i64 c'.actor, .int .i64 c'.seq, .int .i64 c'.start, .slice c'.dA c'.deps.length c'.dc, .slice c'.oA c'.ops.length c'.oc]) ∧ c'.ch = c.ch ∧ c'.ref = c.ref ∧ InC w' c' ∧ Below w.heap.size w w' ∧ ∀ W' : World, (∀ b, w.heap.size ≤ b → b < w'.heap.size → W'.heap[b]? = w'.heap[b]?) → InC W' c'

theorem ClI.end {w W : World} {c : PCh} {dA' : Option Addr} {dc' : Nat} {oA' : Option Addr} {oc' : Nat} {done : List POp} (h : ClI w c dA' dc' oA' oc' c.ops.length done W) (hc : InC w c) :
    ∃ c' : PCh, c'.actor = c.actor ∧ c'.seq = c.seq ∧ c'.start = c.start ∧ c'.dA = dA' ∧ c'.deps = c.deps ∧ c'.dc = dc' ∧ c'.oA = oA' ∧ c'.ops.length = c.ops.length ∧ c'.oc = oc' ∧ c'.ch = c.ch ∧ ∀ W' : World, (∀ b, w.heap.size + 2 ≤ b → b < W.heap.size → W'.heap[b]? = W.heap[b]?) → InC W' c' := by
  have hs : done.map POp.op = c.ops.map POp.op := by rw [h.same, List.take_of_length_le (by simp)]
  have hr := h.row
  rw [List.drop_eq_nil_of_le (Nat.le_refl _), List.append_nil] at hr
  refine ⟨⟨c.actor, c.seq, c.start, dA', dc', c.deps, oA', oc', done⟩, rfl, rfl, rfl, rfl, rfl, rfl, rfl, h.len, rfl, ?_, ?_⟩
  · show Ch.mk c.actor c.seq c.start c.deps (done.map POp.op) = _
    rw [hs]; rfl
  · intro W' hW
    have keep : ∀ (A : Option Addr) (xs : List Value), SlAt W A xs → (∀ b ∈ blkOf A, w.heap.size + 2 ≤ b) → SlAt W' A xs := fun A xs hA hb => sl_keep hA (fun b hm hl => hW b (hb b hm) hl)
    refine ⟨keep _ _ h.deps (fun b hb => (h.depsNe b hb).2), ?_, fun o ho => keep _ _ (h.preds o ho) (fun b hb => (h.predNe o ho b hb).2), hc.actor, hc.seq, hc.start, hc.dep, hc.dlen, fun o ho => ?_, by show done.length ≤ maxLen; rw [h.len]; exact hc.olen⟩
    · exact keep _ _ (SlAt.of_owns hr) h.oLow
    · have hm : o.op ∈ c.ops.map POp.op := by rw [← hs]; exact List.mem_map_of_mem ho
      obtain ⟨p, hp, e⟩ := List.mem_map.1 hm
      rw [← e]
      exact hc.op p hp
end Go.Proofs.YteknflimfdkhoaaGreat
namespace Go.Proofs.YteknflimfdkhoaaGreat
open Go.RowKit
set_option linter.unusedVariables false
set_option linter.unusedSimpArgs false

theorem blk5 {w : World} {g : Nat} {t : TypeId} {a0 a1 a2 a3 a4 : Value} (c0 c1 c2 c3 c4 : Value) (h : Blk w g t #[a0, a1, a2, a3, a4]) :
    Blk (((((w.setCell ⟨g, 0, none⟩ c0).setCell ⟨g, 1, none⟩ c1).setCell ⟨g, 2, none⟩ c2).setCell ⟨g, 3, none⟩ c3).setCell ⟨g, 4, none⟩ c4) g t #[c0, c1, c2, c3, c4] := by
  have := ((((h.set_ 0 c0).set_ 1 c1).set_ 2 c2).set_ 3 c3).set_ 4 c4
  simpa using this
theorem only5 (w : World) (g : Nat) (c0 c1 c2 c3 c4 : Value) (o0 o1 o2 o3 o4 : Nat) :
    Only (· = g) w (((((w.setCell ⟨g, o0, none⟩ c0).setCell ⟨g, o1, none⟩ c1).setCell ⟨g, o2, none⟩ c2).setCell ⟨g, o3, none⟩ c3).setCell ⟨g, o4, none⟩ c4) :=
  (((((Only.refl (· = g) w).setCell (p := ⟨g, o0, none⟩) rfl c0).setCell (p := ⟨g, o1, none⟩) rfl c1).setCell (p := ⟨g, o2, none⟩) rfl c2).setCell (p := ⟨g, o3, none⟩) rfl c3).setCell (p := ⟨g, o4, none⟩) rfl c4

set_option maxRecDepth 100000 in
set_option maxHeartbeats 2000000 in
theorem cloneChange_any (c : PCh) (w : World) (hc : InC w c) (hd : c.deps.length ≤ 1000) (ho : c.ops.length ≤ 1000) (hp : ∀ o ∈ c.ops, o.op.preds.length ≤ 1000) :
    Calls Tryz.prog 43 #[.agg #[.int .i64 c.actor, .int .i64 c.seq, .int .i64 c.start, .slice c.dA c.deps.length c.dc, .slice c.oA c.ops.length c.oc]] w (CloneQ w c) := by
  have HC := Lib.hid hc
  have HCR := Lib.hid (fun (w1 : World) (h1 : Below w.heap.size w w1) => cloneRef_any c.dA c.deps.length c.dc (refs c.deps) w1 (by rw [refs_length]) (hc.deps.below h1) hd (refs_one _))
  have HCO := Lib.hid (fun (w1 : World) (h1 : Below w.heap.size w w1) => cloneOp_any c.oA c.ops.length c.oc (opsCells c.ops) w1 (by rw [opsCells_len]) (hc.ops.below h1) ho (opsCells_one _))
  have HCI := Lib.hid (fun (o : POp) (hm : o ∈ c.ops) (w1 : World) (h1 : Below w.heap.size w w1) => cloneId_any o.pA o.op.preds.length o.pc (refs o.op.preds) w1 (by rw [refs_length]) ((hc.preds o hm).below h1) (hp o hm) (refs_one _))
  have hol : c.ops.length ≤ 9223372036854775807 := by omega
  clear hc hd ho hp
  have hA1 := ((Below.refl w.heap.size w).alloc (Nat.le_refl _) (.cells #[.int .i64 c.actor, .int .i64 c.seq, .int .i64 c.start, .slice c.dA c.deps.length c.dc, .slice c.oA c.ops.length c.oc] 65)).alloc (by simp) (.cells #[.int .i64 0, .int .i64 0, .int .i64 0, .slice none 0 0, .slice none 0 0] 65)
  have hB1 := (Blk.new w 65 #[.int .i64 c.actor, .int .i64 c.seq, .int .i64 c.start, .slice c.dA c.deps.length c.dc, .slice c.oA c.ops.length c.oc]).alloc (.cells #[.int .i64 0, .int .i64 0, .int .i64 0, .slice none 0 0, .slice none 0 0] 65)
  have hB1' := Blk.newer (w.alloc (.cells #[.int .i64 c.actor, .int .i64 c.seq, .int .i64 c.start, .slice c.dA c.deps.length c.dc, .slice c.oA c.ops.length c.oc] 65)) 65 #[.int .i64 0, .int .i64 0, .int .i64 0, .slice none 0 0, .slice none 0 0] (g := w.heap.size + 1) (by simp)
  have H0 := Lib.hid (And.intro hA1 (And.intro hB1 hB1'))
  clear hA1 hB1 hB1'
  go_enter Tryz.func43, Tryz.ntmps43
  go_wp2_with fail
  refine (HCR.out _ H0.out.1).mono ?_
  rintro e w1 ⟨dA', dc', rfl, hk1, hb1, hn1⟩
  have hs1 : w.heap.size + 2 ≤ w1.heap.size := by have := hb1.size; simp at this; omega
  have hB2 := H0.out.2.1.below hb1 (by simp; omega)
  have hB2' := H0.out.2.2.below hb1 (by simp)
  have hA2 : Below w.heap.size w w1 := H0.out.1.trans (hb1.mono (by simp; omega))
  have hn2 : ∀ b ∈ blkOf dA', w.heap.size + 2 ≤ b := fun b hb => by have := hn1 b hb; simp at this; omega
  have H1 := Lib.hid (And.intro hB2 (And.intro hB2' (And.intro hA2 (And.intro hn2 hk1))))
  clear hb1 hn1 hB2 hB2' hA2 hn2 hk1
  have c3 : w1.cell? ⟨w.heap.size, 3, none⟩ = some (.slice c.dA c.deps.length c.dc) := H1.out.1.cell 3
  have c4 : w1.cell? ⟨w.heap.size, 4, none⟩ = some (.slice c.oA c.ops.length c.oc) := H1.out.1.cell 4
  have z3 := H1.out.1.frozen 3
  have o1 := (Only.refl (· = w.heap.size) w1).setCell (p := ⟨w.heap.size, 3, none⟩) rfl (.slice dA' c.deps.length dc')
  have hB3 := H1.out.1.set_ 3 (.slice dA' c.deps.length dc')
  have hB3' := H1.out.2.1.only o1 (by show w.heap.size + 1 ≠ w.heap.size; omega)
  have hk3 := own_keepD H1.out.2.2.2.2 (fun b hb hlt => o1.block b hlt (by have := H1.out.2.2.2.1 b hb; show b ≠ w.heap.size; omega))
  have hA3 := H1.out.2.2.1.trans (o1.below H1.out.2.2.1.size (fun k hk e => by omega))
  have H3 := Lib.hid (And.intro hB3 (And.intro hB3' (And.intro hA3 hk3)))
  clear o1 hB3 hB3' hk3 hA3
  go_wp2_with fail
  clear c3 c4 z3
  refine (HCO.out _ H3.out.2.2.1).mono ?_
  rintro e w2 ⟨oA', oc', rfl, hk2, hb2, hn2⟩
  have hs2 : w1.heap.size ≤ w2.heap.size := by have := hb2.size; simpa using this
  have hB4 := H3.out.1.below hb2 (by simp; omega)
  have hB4' := H3.out.2.1.below hb2 (by simp; omega)
  have hA4 := H3.out.2.2.1.trans (hb2.mono (by simp; omega))
  have hk4 := owns_below H3.out.2.2.2 hb2
  have hn4 : ∀ b ∈ blkOf oA', w1.heap.size ≤ b := fun b hb => by have := hn2 b hb; simpa using this
  have hn4' : ∀ b ∈ blkOf dA', b < w1.heap.size := fun b hb => own_ltD H1.out.2.2.2.2 b hb
  have hn4'' := H1.out.2.2.2.1
  have H4 := Lib.hid (And.intro hB4 (And.intro hB4' (And.intro hA4 (And.intro hk4 (And.intro hk2 (And.intro hn4 (And.intro hn4' hn4'')))))))
  clear H3 H1 hB4 hB4' hA4 hk4 hk2 hn4 hn4' hn4'' hb2 hn2
  have c4 : w2.cell? ⟨w.heap.size, 4, none⟩ = some (.slice c.oA c.ops.length c.oc) := H4.out.1.cell 4
  have z4 := H4.out.1.frozen 4
  go_wp2_with fail
  clear c4 z4
  have o5 := (Only.refl (· = w.heap.size) w2).setCell (p := ⟨w.heap.size, 4, none⟩) rfl (.slice oA' c.ops.length oc')
  have I0 : ClI w c dA' dc' oA' oc' 0 [] (w2.setCell ⟨w.heap.size, 4, none⟩ (.slice oA' c.ops.length oc')) := by
    refine ⟨rfl, by simp, H4.out.1.set_ 4 _, H4.out.2.1.only o5 (by show w.heap.size + 1 ≠ w.heap.size; omega), ?_, ?_, by simp, ?_, by simp, ?_, H4.out.2.2.1.trans (o5.below H4.out.2.2.1.size (fun k hk e => by omega))⟩
    · exact sl_keep (SlAt.of_owns H4.out.2.2.2.1) (fun b hb hlt => o5.block b hlt (by have := H4.out.2.2.2.2.2.2.2 b hb; show b ≠ w.heap.size; omega))
    · exact own_keepD H4.out.2.2.2.2.1 (fun b hb hlt => o5.block b hlt (by have := H4.out.2.2.2.2.2.1 b hb; show b ≠ w.heap.size; omega))
    · intro b hb
      refine ⟨fun h => ?_, H4.out.2.2.2.2.2.2.2 b hb⟩
      have h1 := H4.out.2.2.2.2.2.1 b h
      have h2 := H4.out.2.2.2.2.2.2.1 b hb
      omega
    · intro b hb
      have := H4.out.2.2.2.2.2.1 b hb
      omega
  have HI0 := Lib.hid I0
  clear I0 o5 H4
  go_loopw [15, 3] (fun iv _ wr => ∃ (k : Nat) (done : List POp), iv = .int .i64 k ∧ k ≤ c.ops.length ∧ ClI w c dA' dc' oA' oc' k done wr) (fun iv _ _ => c.ops.length - (intOf iv).toNat)
  case atStart => exact ⟨0, [], rfl, by omega, HI0.out⟩
  case round =>
    obtain ⟨k, done, rfl, hk, hI⟩ := hrel
    by_cases hlt : k < c.ops.length
    · have hlti : (k : Int) < (c.ops.length : Int) := by omega
      obtain ⟨x, hx⟩ : ∃ x, c.ops[k]? = some x := ⟨_, List.getElem?_eq_getElem hlt⟩
      obtain ⟨g, cur, hg, hBg, hcs⟩ : ∃ g cur, oA' = some ⟨g, 0, none⟩ ∧ Blk wr g 51 cur ∧ c.ops.length * 13 ≤ cur.size := by
        rcases hI.row.2 with ⟨_, hn0⟩ | ⟨g, cap, cur, hv, _, hg, h1, _, h2, _⟩
        · omega
        · injection hv with hv; exact ⟨g, cur, hv, hg, by rw [h2]; exact Nat.mul_le_mul_right _ h1⟩
      subst hg
      have hat : (done ++ c.ops.drop k)[k]? = some x := by rw [List.getElem?_append_right (by rw [hI.len]; exact Nat.le_refl _), hI.len, Nat.sub_self, List.getElem?_drop]; exact hx
      obtain ⟨b, off, hA, hcell⟩ := (SlAt.of_owns hI.row).op hat
      injection hA with hA
      injection hA with e1 e2 _
      subst e1 e2
      have g12 : wr.cell? ⟨g, k * 13 + 12, none⟩ = some (.slice x.pA x.op.preds.length x.pc) := by have := hcell 12 _ rfl; rw [Nat.zero_add] at this; exact this
      have c4 : wr.cell? ⟨w.heap.size, 4, none⟩ = some (.slice (some ⟨g, 0, none⟩) c.ops.length oc') := hI.box.cell 4
      have HG := Lib.hid (And.intro hBg g12)
      have HI := Lib.hid hI
      have HX := Lib.hid hx
      have HK := Lib.hid (HCI.out x (List.mem_of_getElem? hx))
      have HW := Lib.hid hI.bel
      clear hBg hcs hI hx hat hcell
      go_wp2_with fail
      go_region_with (go_at_call 67; refine (HK.out _ HW.out.drew).mono ?_; rintro e w3 ⟨A3, c3, rfl, hr3, hb3', hn3'⟩; have hb3 : Below wr.heap.size wr w3 := ⟨hb3'.os, hb3'.tape, hb3'.output, hb3'.size, hb3'.block⟩; have hn3 : ∀ b ∈ blkOf A3, wr.heap.size ≤ b := hn3'; clear hb3' hn3'; have hx' := HI.out.box.below hb3 HI.out.box.lt; have c4' : w3.cell? ⟨w.heap.size, 4, none⟩ = some (.slice (some ⟨g, 0, none⟩) c.ops.length oc') := hx'.cell 4; have zg : ∀ i, w3.frozen? ⟨g, i, none⟩ = false := (HG.out.1.below hb3 HG.out.1.lt).frozen; have q0 := cell_below hb3 HG.out.2; clear hx')
      all_goals
        have HN := Lib.hid (HI.out.step (cc := c3) HX.out hb3 (SlAt.of_owns hr3) hn3)
        clear hr3 hb3 hn3 c4' zg q0 c4 g12
        go_wp2_with fail
        go_roundw
        case rel => exact ⟨k + 1, done ++ [⟨x.op, A3, c3⟩], by go_num, by omega, HN.out⟩
        case measure => simp [intOf] <;> omega
    · obtain rfl : k = c.ops.length := by omega
      have HI := Lib.hid hI
      clear hI
      have b0 : wr.cell? ⟨w.heap.size, 0, none⟩ = some (.int .i64 c.actor) := HI.out.box.cell 0
      have b1 : wr.cell? ⟨w.heap.size, 1, none⟩ = some (.int .i64 c.seq) := HI.out.box.cell 1
      have b2 : wr.cell? ⟨w.heap.size, 2, none⟩ = some (.int .i64 c.start) := HI.out.box.cell 2
      have b3 : wr.cell? ⟨w.heap.size, 3, none⟩ = some (.slice dA' c.deps.length dc') := HI.out.box.cell 3
      have b4 : wr.cell? ⟨w.heap.size, 4, none⟩ = some (.slice oA' c.ops.length oc') := HI.out.box.cell 4
      have r0 : wr.cell? ⟨w.heap.size + 1, 0, none⟩ = some (.int .i64 0) := HI.out.res.cell 0
      have r1 : wr.cell? ⟨w.heap.size + 1, 1, none⟩ = some (.int .i64 0) := HI.out.res.cell 1
      have r2 : wr.cell? ⟨w.heap.size + 1, 2, none⟩ = some (.int .i64 0) := HI.out.res.cell 2
      have r3 : wr.cell? ⟨w.heap.size + 1, 3, none⟩ = some (.slice none 0 0) := HI.out.res.cell 3
      have r4 : wr.cell? ⟨w.heap.size + 1, 4, none⟩ = some (.slice none 0 0) := HI.out.res.cell 4
      have zr := HI.out.res.frozen
      go_wp2_with fail
      clear b0 b1 b2 b3 b4 r0 r1 r2 r3 r4
      have ho := only5 wr (w.heap.size + 1) (.int .i64 c.actor) (.int .i64 c.seq) (.int .i64 c.start) (.slice dA' c.deps.length dc') (.slice oA' c.ops.length oc') 0 1 2 3 4
      refine bodyPost_ret (v := .agg #[.int .i64 c.actor, .int .i64 c.seq, .int .i64 c.start, .slice dA' c.deps.length dc', .slice oA' c.ops.length oc']) (results_cell_row Tryz.results43 _ _ (w.heap.size + 1) _ _ _ _ rfl (blk5 _ _ _ _ _ HI.out.res) Tryz.underlying65 rfl (by kernel_rfl)) rfl ?_
      obtain ⟨c', h1, h2, h3, h4, h5, h6, h7, h8, h9, h10, h11⟩ := HI.out.end HC.out
      have ho2 : ∀ b, w.heap.size + 2 ≤ b → b < wr.heap.size → (((((wr.setCell ⟨w.heap.size + 1, 0, none⟩ (.int .i64 c.actor)).setCell ⟨w.heap.size + 1, 1, none⟩ (.int .i64 c.seq)).setCell ⟨w.heap.size + 1, 2, none⟩ (.int .i64 c.start)).setCell ⟨w.heap.size + 1, 3, none⟩ (.slice dA' c.deps.length dc')).setCell ⟨w.heap.size + 1, 4, none⟩ (.slice oA' c.ops.length oc')).heap[b]? = wr.heap[b]? := fun b h1 h2 => ho.block b h2 (by show b ≠ w.heap.size + 1; omega)
      refine ⟨c', ?_, h10, ?_, h11 _ ho2, HI.out.bel.trans (ho.below HI.out.bel.size (fun q hq e => by omega)), fun W' hW' => h11 _ (fun b h1 h2 => (hW' b (by omega) (Nat.lt_of_lt_of_le h2 ho.size)).trans (ho2 b h1 h2))⟩
      · rw [h1, h2, h3, h4, h5, h6, h7, h8, h9]
      · unfold PCh.ref; rw [h1, h2]
end Go.Proofs.YteknflimfdkhoaaGreat
