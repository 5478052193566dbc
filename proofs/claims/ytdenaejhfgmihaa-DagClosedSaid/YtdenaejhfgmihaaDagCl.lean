/- dag.Clone: a contract. -/
import Derived.Test.YtdenaejhfgmihaaDagSame2
import Derived.Test.YtdenaejhfgmihaaDagClone
import Derived.Laws.OwnMore
import Derived.RegionTactic
import Derived.BigRegion
namespace Go.Proofs.Ytdenaejhfgmihaa
open Go.RowKit
set_option linter.unusedVariables false
set_option linter.unusedSimpArgs false

theorem own_keepD {w w' : World} {e : TypeId} {sz n c : Nat} {A : Option Addr} {xs : List Value} (h : w.ownsRow 0 e sz (.slice A n c) n xs) (hk : ∀ b ∈ blkOf A, b < w.heap.size → w'.heap[b]? = w.heap[b]?) : w'.ownsRow 0 e sz (.slice A n c) n xs := by
  refine ⟨h.1, ?_⟩
  rcases h.2 with hn | ⟨g, cap, cur, hv, hb, hg, rest⟩
  · exact .inl hn
  · refine .inr ⟨g, cap, cur, hv, hb, ?_, rest⟩
    injection hv with hA _ _
    subst hA
    rw [hk g (by simp [blkOf]) (Array.getElem?_eq_some_iff.1 hg).1]
    exact hg
theorem own_ltD {w : World} {e : TypeId} {sz n c : Nat} {A : Option Addr} {xs : List Value} (h : w.ownsRow 0 e sz (.slice A n c) n xs) : ∀ b ∈ blkOf A, b < w.heap.size := by
  intro b hb
  cases A with
  | none => simp [blkOf] at hb
  | some a =>
    simp [blkOf] at hb
    subst hb
    exact (h.lt a.block rfl).2
theorem sl_keep {w w' : World} {A : Option Addr} {cells : List Value} (h : SlAt w A cells) (hk : ∀ b ∈ blkOf A, b < w.heap.size → w'.heap[b]? = w.heap[b]?) : SlAt w' A cells := by
  by_cases hc : cells = []
  · exact .inl hc
  · rcases h with h | ⟨b, off, hA, hcell⟩
    · exact .inl h
    · obtain ⟨u, us, rfl⟩ := List.exists_cons_of_ne_nil hc
      have hlt := cell_lt (hcell 0 u rfl)
      refine .inr ⟨b, off, hA, fun j v hv => ?_⟩
      have e := hk b (by rw [hA]; simp [blkOf]) hlt
      rw [← hcell j v hv]
      exact World.cell?_of_block e
theorem refs_one (l : List (Int × Int)) : ∀ u ∈ refs l, u.oneCell' = true := by
  intro u hu
  obtain ⟨r, _, hr⟩ := List.mem_flatMap.1 hu
  simp at hr
  rcases hr with rfl | rfl <;> rfl
theorem opsCells_one (l : List POp) : ∀ u ∈ opsCells l, u.oneCell' = true := by
  intro u hu
  obtain ⟨o, _, ho⟩ := List.mem_flatMap.1 hu
  simp [POp.cells] at ho
  rcases ho with rfl | rfl | rfl | rfl | rfl | rfl | rfl | rfl | rfl | rfl | rfl | rfl | rfl <;> rfl
theorem opsCells_set : ∀ (l : List POp) (k : Nat) (x : POp) (A : Option Addr) (c : Nat), l[k]? = some x → (opsCells l).set (k * 13 + 12) (.slice A x.op.preds.length c) = opsCells (l.set k ⟨x.op, A, c⟩)
  | [], k, x, _, _, h => by simp at h
  | y :: l, 0, x, A, c, h => by
    simp at h
    subst h
    simp only [opsCells, List.flatMap_cons, List.set_cons_zero]
    rw [List.set_append_left _ _ (by rw [POp.cells_len]; omega)]
    rfl
  | y :: l, k + 1, x, A, c, h => by
    have ih := opsCells_set l k x A c (by simpa using h)
    simp only [opsCells, List.flatMap_cons, List.set_cons_succ] at *
    rw [List.set_append_right _ _ (by rw [POp.cells_len]; omega), POp.cells_len, show (k + 1) * 13 + 12 - 13 = k * 13 + 12 by omega, ih]

structure ClI (w : World) (c : PCh) (dA' : Option Addr) (dc' : Nat) (oA' : Option Addr) (oc' k : Nat) (done : List POp) (W : World) : Prop where
  len : done.length = k
  same : done.map POp.op = (c.ops.map POp.op).take k
  box : Blk W w.heap.size 31 #[.int .i64 c.actor, .int .i64 c.seq, .int .i64 c.start, .slice dA' c.deps.length dc', .slice oA' c.ops.length oc']
  res : Blk W (w.heap.size + 1) 31 #[.int .i64 0, .int .i64 0, .int .i64 0, .slice none 0 0, .slice none 0 0]
  deps : SlAt W dA' (refs c.deps)
  row : W.ownsRow 0 64 13 (.slice oA' c.ops.length oc') c.ops.length (opsCells (done ++ c.ops.drop k))
  preds : ∀ o ∈ done, SlAt W o.pA (refs o.op.preds)
  depsNe : ∀ b ∈ blkOf dA', b ∉ blkOf oA' ∧ w.heap.size + 2 ≤ b
  predNe : ∀ o ∈ done, ∀ b ∈ blkOf o.pA, b ∉ blkOf oA' ∧ w.heap.size + 2 ≤ b
  oLow : ∀ b ∈ blkOf oA', w.heap.size + 2 ≤ b
  bel : Below w.heap.size w W

theorem ClI.step {w wr w3 : World} {c : PCh} {dA' : Option Addr} {dc' g oc' k : Nat} {done : List POp} (h : ClI w c dA' dc' (some ⟨g, 0, none⟩) oc' k done wr) {x : POp} (hx : c.ops[k]? = some x) {A : Option Addr} {cc : Nat}
    (hb : Below wr.heap.size wr w3) (hA : SlAt w3 A (refs x.op.preds)) (hn : ∀ b ∈ blkOf A, wr.heap.size ≤ b) :
    ClI w c dA' dc' (some ⟨g, 0, none⟩) oc' (k + 1) (done ++ [⟨x.op, A, cc⟩]) (w3.setCell ⟨g, k * 13 + 12, none⟩ (.slice A x.op.preds.length cc)) := by
  have hlt : k < c.ops.length := (List.getElem?_eq_some_iff.1 hx).1
  have hglt : g < wr.heap.size := own_ltD h.row g (by simp [blkOf])
  have hglow := h.oLow g (by simp [blkOf])
  obtain ⟨w4, hw4⟩ : ∃ w4, w4 = w3.setCell ⟨g, k * 13 + 12, none⟩ (.slice A x.op.preds.length cc) := ⟨_, rfl⟩
  have ho : Only (fun b => b = g) w3 w4 := by rw [hw4]; exact Only.setCell (S := fun b => b = g) (Only.refl _ w3) (p := ⟨g, k * 13 + 12, none⟩) rfl _
  have hk4 : ∀ b, b < wr.heap.size → b ≠ g → w4.heap[b]? = wr.heap[b]? := fun b hb' hne => (ho.block b (Nat.lt_of_lt_of_le hb' hb.size) hne).trans (hb.block b hb')
  have hg' : ∀ b, b ∉ blkOf (some (⟨g, 0, none⟩ : Addr)) → b ≠ g := fun b hn e => hn (by simp [blkOf, e])
  rw [← hw4]
  refine ⟨by simp [h.len], ?_, ?_, ?_, ?_, ?_, ?_, h.depsNe, ?_, h.oLow, ?_⟩
  · rw [List.map_append, h.same, List.take_add_one]
    simp [hx]
  · exact (h.box.below hb h.box.lt).only ho (by show w.heap.size ≠ g; omega)
  · exact (h.res.below hb h.res.lt).only ho (by show w.heap.size + 1 ≠ g; omega)
  · exact sl_keep h.deps (fun b hb' hl => hk4 b hl (hg' b (h.depsNe b hb').1))
  · have h3 := own_keepD h.row (w' := w3) (fun b _ hl => hb.block b hl)
    have h4 := (h3.stored (k * 13 + 12) (.slice A x.op.preds.length cc)).1
    rw [← hw4] at h4
    have hat : (done ++ c.ops.drop k)[k]? = some x := by rw [List.getElem?_append_right (by rw [h.len]; exact Nat.le_refl _), h.len, Nat.sub_self, List.getElem?_drop]; exact hx
    rw [opsCells_set _ k x A cc hat] at h4
    have hset : (done ++ c.ops.drop k).set k ⟨x.op, A, cc⟩ = (done ++ [⟨x.op, A, cc⟩]) ++ c.ops.drop (k + 1) := by
      rw [List.set_append_right _ _ (by rw [h.len]; exact Nat.le_refl _), h.len, Nat.sub_self, List.drop_eq_getElem_cons hlt, List.set_cons_zero, List.append_assoc]
      rfl
    rw [hset] at h4
    exact h4
  · intro o hm
    rcases List.mem_append.1 hm with hm | hm
    · exact sl_keep (h.preds o hm) (fun b hb' hl => hk4 b hl (hg' b (h.predNe o hm b hb').1))
    · rw [List.mem_singleton] at hm
      subst hm
      exact sl_keep hA (fun b hb' hl => ho.block b hl (by have := hn b hb'; show b ≠ g; omega))
  · intro o hm b hb'
    rcases List.mem_append.1 hm with hm | hm
    · exact h.predNe o hm b hb'
    · rw [List.mem_singleton] at hm
      subst hm
      have h1 := hn b hb'
      have h2 := h.bel.size
      have h3 := h.res.lt
      refine ⟨?_, by omega⟩
      simp [blkOf]
      omega
  · exact (h.bel.trans (hb.mono h.bel.size)).trans (ho.below (Nat.le_trans h.bel.size hb.size) (fun q hq e => by have : q = g := e; omega))

/-- A copy: the same change, in memory that is new. -/
def CloneQ (w : World) (c : PCh) (e : Ending) (w' : World) : Prop :=
  ∃ c' : PCh, e = .returned (.agg #[.int .i64 c'.actor, .int .i64 c'.seq, .int .i64 c'.start, .slice c'.dA c'.deps.length c'.dc, .slice c'.oA c'.ops.length c'.oc]) ∧ c'.ch = c.ch ∧ c'.ref = c.ref ∧ InC w' c' ∧ Below w.heap.size w w' ∧ ∀ W' : World, (∀ b, w.heap.size ≤ b → b < w'.heap.size → W'.heap[b]? = w'.heap[b]?) → InC W' c'

theorem ClI.end {w W : World} {c : PCh} {dA' : Option Addr} {dc' : Nat} {oA' : Option Addr} {oc' : Nat} {done : List POp} (h : ClI w c dA' dc' oA' oc' c.ops.length done W) (hc : InC w c) :
    ∃ c' : PCh, c'.actor = c.actor ∧ c'.seq = c.seq ∧ c'.start = c.start ∧ c'.dA = dA' ∧ c'.deps = c.deps ∧ c'.dc = dc' ∧ c'.oA = oA' ∧ c'.ops.length = c.ops.length ∧ c'.oc = oc' ∧ c'.ch = c.ch ∧ ∀ W' : World, (∀ b, w.heap.size + 2 ≤ b → b < W.heap.size → W'.heap[b]? = W.heap[b]?) → InC W' c' := by
  have hs : done.map POp.op = c.ops.map POp.op := by rw [h.same, List.take_of_length_le (by simp)]
  have hr := h.row
  rw [List.drop_eq_nil_of_le (Nat.le_refl _), List.append_nil] at hr
  refine ⟨⟨c.actor, c.seq, c.start, dA', dc', c.deps, oA', oc', done⟩, rfl, rfl, rfl, rfl, rfl, rfl, rfl, h.len, rfl, ?_, ?_⟩
  · show Ch.mk c.actor c.seq c.start c.deps (done.map POp.op) = _
    rw [hs]; rfl
  · intro W' hW
    have keep : ∀ (A : Option Addr) (xs : List Value), SlAt W A xs → (∀ b ∈ blkOf A, w.heap.size + 2 ≤ b) → SlAt W' A xs := fun A xs hA hb => sl_keep hA (fun b hm hl => hW b (hb b hm) hl)
    refine ⟨keep _ _ h.deps (fun b hb => (h.depsNe b hb).2), ?_, fun o ho => keep _ _ (h.preds o ho) (fun b hb => (h.predNe o ho b hb).2), hc.actor, hc.seq, hc.start, hc.dep, hc.dlen, fun o ho => ?_, by show done.length ≤ maxLen; rw [h.len]; exact hc.olen⟩
    · exact keep _ _ (SlAt.of_owns hr) h.oLow
    · have hm : o.op ∈ c.ops.map POp.op := by rw [← hs]; exact List.mem_map_of_mem ho
      obtain ⟨p, hp, e⟩ := List.mem_map.1 hm
      rw [← e]
      exact hc.op p hp
end Go.Proofs.Ytdenaejhfgmihaa
