/- A hand at a book, in memory. Cells stored one behind the other; clear; the row behind a Delete of one element. -/
import Derived.Test.YteknflimfdkhoaaGreatDg22
import Derived.Test.YteknflimfdkhoaaGreatDg23
import Derived.Test.YteknflimfdkhoaaGreatDg24
import Derived.Test.YteknflimfdkhoaaGreatDg8
import Derived.Deep.RegionLaw
import Derived.Lib.SliceRun
import Derived.Lib.Hide
import Derived.Outline
namespace Go.Proofs.YteknflimfdkhoaaGreat
open Go.RowKit Go.Maps
set_option linter.unusedVariables false
set_option linter.unusedSimpArgs false

/-- A hand's memory: the book with what it stands on (F), the hand's own block, the row of what is pending. -/
structure DocM (w : World) (F : Nat → Prop) (db bk h wt bh : Nat) (Dh Dw Db : DataW Value) (L Wl : List PCh) (actor : Int) (A : Option Addr) (cp : Nat) (ps : List POp) : Prop where
  blk : Blk w db 57 #[.int .i64 actor, .pointer (some ⟨bk, 0, none⟩), .slice A ps.length cp]
  dag : DagX w F bk h wt bh Dh Dw Db L Wl
  act : 1 ≤ actor ∧ actor ≤ 99
  row : w.ownsRow 0 51 13 (.slice A ps.length cp) ps.length (opsCells ps)
  nd : ¬ F db
  nA : ∀ b ∈ blkOf A, ¬ F b
  preds : ∀ o ∈ ps, SlAt w o.pA (refs o.op.preds)
  pne : ∀ o ∈ ps, ∀ b ∈ blkOf o.pA, b < w.heap.size ∧ b ≠ db ∧ b ∉ blkOf A
  fit : ∀ o ∈ ps, o.op.Fit ∧ o.op.preds.length ≤ 12
  len : ps.length ≤ 40
/-- The blocks of a hand. -/
def DocK (F : Nat → Prop) (db bk h wt bh : Nat) (A : Option Addr) (ps : List POp) (i : Nat) : Prop :=
  F i ∨ i = db ∨ i = bk ∨ i = h ∨ i = wt ∨ i = bh ∨ i ∈ blkOf A ∨ ∃ o ∈ ps, i ∈ blkOf o.pA
/-- A hand in memory, on the blocks K. -/
def DocA (w : World) (K : Nat → Prop) (db : Nat) (D : DocV) : Prop :=
  ∃ (F : Nat → Prop) (bk h wt bh : Nat) (Dh Dw Db : DataW Value) (L Wl : List PCh) (A : Option Addr) (cp : Nat) (ps : List POp), DocM w F db bk h wt bh Dh Dw Db L Wl D.actor A cp ps ∧
    D.L = L.map PCh.ch ∧ D.W = Wl.map PCh.ch ∧ D.pend = ps.map POp.op ∧ (∀ i, i < w.heap.size → DocK F db bk h wt bh A ps i → K i)
theorem slat_lt {w : World} {A : Option Addr} {xs : List Value} (h : SlAt w A xs) (hn : xs ≠ []) : ∀ b ∈ blkOf A, b < w.heap.size := by
  rcases h with h | ⟨b, off, hA, hcell⟩
  · exact absurd h hn
  · obtain ⟨u, us, rfl⟩ := List.exists_cons_of_ne_nil hn
    have hlt := cell_lt (hcell 0 u rfl)
    intro b2 hb2
    rw [hA] at hb2
    simp [blkOf] at hb2
    rw [hb2]
    exact hlt
theorem Only.chain {S T : Nat → Prop} {a b c : World} (h : Only S a b) (k : Only T b c) (hs : ∀ i, i < a.heap.size → T i → S i) : Only S a c :=
  ⟨k.os.trans h.os, k.tape.trans h.tape, k.output.trans h.output, Nat.le_trans h.size k.size, fun i hi hn => (k.block i (Nat.lt_of_lt_of_le hi h.size) (fun e => hn (hs i hi e))).trans (h.block i hi hn)⟩
theorem blk_ty {w : World} {g : Nat} {t t' : TypeId} {cs cs' : Array Value} (h : Blk w g t cs) (k : Blk w g t' cs') : t = t' := by
  unfold Blk at h k
  rw [h] at k
  injection k with k
  injection k
theorem row_blk {w : World} {base : Nat} {e : TypeId} {size n c : Nat} {A : Option Addr} {xs : List Value} (h : w.ownsRow base e size (.slice A n c) n xs) : ∀ b ∈ blkOf A, ∃ cur, Blk w b e cur := by
  intro b hb
  rcases h.2 with ⟨hv, _⟩ | ⟨g, cap, cur, hv, _, hg, _⟩
  · injection hv with e; subst e; cases hb
  · injection hv with e; subst e; simp [blkOf] at hb; subst hb; exact ⟨cur, hg⟩
theorem DocM.apart {w : World} {F : Nat → Prop} {db bk h wt bh : Nat} {Dh Dw Db : DataW Value} {L Wl : List PCh} {actor : Int} {A : Option Addr} {cp : Nat} {ps : List POp} (H : DocM w F db bk h wt bh Dh Dw Db L Wl actor A cp ps) :
    (db ≠ bk ∧ db ≠ h ∧ db ≠ wt ∧ db ≠ bh) ∧ db ∉ blkOf A ∧ ∀ b ∈ blkOf A, b ≠ bk ∧ b ≠ h ∧ b ≠ wt ∧ b ≠ bh := by
  have hnm : ∀ i, IsMapB w i → db ≠ i := fun i hi e => by subst e; exact blk_noMap H.blk hi
  have hA := row_blk H.row
  refine ⟨⟨fun e => ?_, hnm _ H.dag.bkm.has.isMapB, hnm _ H.dag.bkm.wts.isMapB, hnm _ H.dag.bkm.beh.isMapB⟩, fun e => ?_, fun b hb => ?_⟩
  · have h1 := H.blk
    rw [e] at h1
    exact absurd (blk_ty h1 H.dag.bkm.blk) (by decide)
  · obtain ⟨cur, hc⟩ := hA _ e
    exact absurd (blk_ty H.blk hc) (by decide)
  · obtain ⟨cur, hc⟩ := hA _ hb
    refine ⟨fun e => ?_, fun e => ?_, fun e => ?_, fun e => ?_⟩
    · subst e
      exact absurd (blk_ty hc H.dag.bkm.blk) (by decide)
    · subst e; exact blk_noMap hc H.dag.bkm.has.isMapB
    · subst e; exact blk_noMap hc H.dag.bkm.wts.isMapB
    · subst e; exact blk_noMap hc H.dag.bkm.beh.isMapB
theorem row_keep {w w' : World} {base : Nat} {e : TypeId} {size n c : Nat} {A : Option Addr} {xs : List Value} (h : w.ownsRow base e size (.slice A n c) n xs) (hk : ∀ b ∈ blkOf A, b < w.heap.size → w'.heap[b]? = w.heap[b]?) : w'.ownsRow base e size (.slice A n c) n xs := by
  refine ⟨h.1, ?_⟩
  rcases h.2 with hn | ⟨g, cap, cur, hv, hb, hg, rest⟩
  · exact .inl hn
  · refine .inr ⟨g, cap, cur, hv, hb, ?_, rest⟩
    injection hv with hA' _ _
    rw [hk g (by rw [hA']; simp [blkOf]) (Array.getElem?_eq_some_iff.1 hg).1]
    exact hg
theorem row_blk_lt {w : World} {base : Nat} {e : TypeId} {size n c : Nat} {A : Option Addr} {xs : List Value} (h : w.ownsRow base e size (.slice A n c) n xs) : ∀ b ∈ blkOf A, b < w.heap.size := by
  intro b hb
  rcases h.2 with ⟨hv, _⟩ | ⟨g, cap, cur, hv, _, hg, _⟩
  · injection hv with hv; subst hv; cases hb
  · injection hv with hv; subst hv; simp [blkOf] at hb; subst hb; exact (Array.getElem?_eq_some_iff.1 hg).1
/-- What others do to blocks of their own leaves a hand as it was. -/
theorem DocM.other {w w' : World} {F S : Nat → Prop} {db bk h wt bh : Nat} {Dh Dw Db : DataW Value} {L Wl : List PCh} {actor : Int} {A : Option Addr} {cp : Nat} {ps : List POp} (H : DocM w F db bk h wt bh Dh Dw Db L Wl actor A cp ps) (ho : Only S w w')
    (hS : ∀ i, i < w.heap.size → S i → ¬ DocK F db bk h wt bh A ps i) : DocM w' (fun i => (F i ∧ i < w.heap.size) ∨ w'.heap.size ≤ i) db bk h wt bh Dh Dw Db L Wl actor A cp ps := by
  have hz := ho.size
  refine ⟨H.blk.only ho (fun e => hS _ H.blk.lt e (.inr (.inl rfl))), H.dag.other ho (fun i hi e => ⟨fun f => hS i hi e (.inl f), fun f => hS i hi e (.inr (.inr (.inl f))), fun f => hS i hi e (.inr (.inr (.inr (.inl f)))), fun f => hS i hi e (.inr (.inr (.inr (.inr (.inl f))))), fun f => hS i hi e (.inr (.inr (.inr (.inr (.inr (.inl f))))))⟩), H.act,
    row_keep H.row (fun b hb hl => ho.block b hl (fun e => hS b hl e (.inr (.inr (.inr (.inr (.inr (.inr (.inl hb))))))))), ?_, ?_, ?_, fun o hm b hb => ⟨Nat.lt_of_lt_of_le (H.pne o hm b hb).1 hz, (H.pne o hm b hb).2⟩, H.fit, H.len⟩
  · rintro (e | e)
    · exact H.nd e.1
    · have := H.blk.lt; omega
  · rintro b hb (e | e)
    · exact H.nA b hb e.1
    · have := row_blk_lt H.row b hb; omega
  · intro o hm
    exact sl_keep (H.preds o hm) (fun b hb hl => ho.block b hl (fun e => hS b hl e (.inr (.inr (.inr (.inr (.inr (.inr (.inr ⟨o, hm, hb⟩)))))))))
theorem DocM.k_lt {w : World} {F : Nat → Prop} {db bk h wt bh : Nat} {Dh Dw Db : DataW Value} {L Wl : List PCh} {actor : Int} {A : Option Addr} {cp : Nat} {ps : List POp} (H : DocM w F db bk h wt bh Dh Dw Db L Wl actor A cp ps) {G : Nat → Prop} {i : Nat} (hi : DocK G db bk h wt bh A ps i) : G i ∨ i < w.heap.size := by
  rcases hi with k | rfl | rfl | rfl | rfl | rfl | k | ⟨o, ho2, k⟩
  · exact .inl k
  · exact .inr H.blk.lt
  · exact .inr H.dag.bkm.blk.lt
  · exact .inr H.dag.bkm.has.lt
  · exact .inr H.dag.bkm.wts.lt
  · exact .inr H.dag.bkm.beh.lt
  · exact .inr (row_blk_lt H.row _ k)
  · exact .inr (H.pne o ho2 _ k).1
theorem DocA.mono {w : World} {K K' : Nat → Prop} {db : Nat} {D : DocV} (H : DocA w K db D) (hK : ∀ i, i < w.heap.size → K i → K' i) : DocA w K' db D := by
  obtain ⟨F, bk, h, wt, bh, Dh, Dw, Db, L, Wl, A, cp, ps, H, e1, e2, e3, e4⟩ := H
  exact ⟨F, bk, h, wt, bh, Dh, Dw, Db, L, Wl, A, cp, ps, H, e1, e2, e3, fun i hi k => hK i hi (e4 i hi k)⟩
theorem DocA.other {w w' : World} {K S : Nat → Prop} {db : Nat} {D : DocV} (H : DocA w K db D) (ho : Only S w w') (hS : ∀ i, i < w.heap.size → S i → ¬ K i) : DocA w' (fun i => K i ∧ i < w.heap.size) db D := by
  obtain ⟨F, bk, h, wt, bh, Dh, Dw, Db, L, Wl, A, cp, ps, H, e1, e2, e3, e4⟩ := H
  refine ⟨_, bk, h, wt, bh, Dh, Dw, Db, L, Wl, A, cp, ps, H.other ho (fun i hi e k => hS i hi e (e4 i hi k)), e1, e2, e3, fun i hi k => ?_⟩
  have hlt : i < w.heap.size ∧ DocK F db bk h wt bh A ps i := by
    rcases H.k_lt k with (k2 | k2) | k2
    · exact ⟨k2.2, .inl k2.1⟩
    · omega
    · refine ⟨k2, ?_⟩
      rcases k with (k | k) | k
      · exact .inl k.1
      · omega
      · exact .inr k
  exact ⟨e4 i hlt.1 hlt.2, hlt.1⟩
theorem DocA.below {w w' : World} {K : Nat → Prop} {db : Nat} {D : DocV} (H : DocA w K db D) (hb : Below w.heap.size w w') : DocA w' K db D :=
  (H.other (S := fun _ => False) (Only.of_below hb) (fun _ _ e => e.elim)).mono (fun _ _ k => k.1)
/-- A hand whose pending ops are others. -/
theorem DocM.pend {w w' : World} {F : Nat → Prop} {db bk h wt bh : Nat} {Dh Dw Db : DataW Value} {L Wl : List PCh} {actor : Int} {A A' : Option Addr} {cp cp' : Nat} {ps ps' : List POp} (H : DocM w F db bk h wt bh Dh Dw Db L Wl actor A cp ps)
    (ho : Only (fun i => i = db ∨ i ∈ blkOf A) w w') (hb : Blk w' db 57 #[.int .i64 actor, .pointer (some ⟨bk, 0, none⟩), .slice A' ps'.length cp']) (hr : w'.ownsRow 0 51 13 (.slice A' ps'.length cp') ps'.length (opsCells ps')) (hA : ∀ b ∈ blkOf A', b ∈ blkOf A ∨ w.heap.size ≤ b)
    (hp : ∀ o ∈ ps', SlAt w' o.pA (refs o.op.preds)) (hn : ∀ o ∈ ps', ∀ b ∈ blkOf o.pA, b < w'.heap.size ∧ b ≠ db ∧ b ∉ blkOf A') (hf : ∀ o ∈ ps', o.op.Fit ∧ o.op.preds.length ≤ 12) (hl : ps'.length ≤ 40) :
    DocM w' (fun i => (F i ∧ i < w.heap.size) ∨ w'.heap.size ≤ i) db bk h wt bh Dh Dw Db L Wl actor A' cp' ps' := by
  have hz := ho.size
  obtain ⟨a1, a2, a3⟩ := H.apart
  refine ⟨hb, H.dag.other ho (fun i hi e => ?_), H.act, hr, ?_, ?_, hp, hn, hf, hl⟩
  · rcases e with rfl | e
    · exact ⟨H.nd, a1⟩
    · exact ⟨H.nA i e, a3 i e⟩
  · rintro (e | e)
    · exact H.nd e.1
    · have := H.blk.lt; omega
  · rintro b hb2 (e | e)
    · rcases hA b hb2 with h1 | h1
      · exact H.nA b h1 e.1
      · omega
    · have := row_blk_lt hr b hb2; omega
end Go.Proofs.YteknflimfdkhoaaGreat
namespace Go.Proofs.YteknflimfdkhoaaGreat
open Go.RowKit
set_option linter.unusedVariables false
set_option linter.unusedSimpArgs false

def setL (cs : Array Value) : Nat → List Value → Array Value
  | _, [] => cs
  | o, v :: vs => setL (cs.setIfInBounds o v) (o + 1) vs
theorem setL_size : ∀ (vs : List Value) (cs : Array Value) (o : Nat), (setL cs o vs).size = cs.size
  | [], _, _ => rfl
  | v :: vs, cs, o => by rw [setL, setL_size vs]; simp
theorem setL_get : ∀ (vs : List Value) (cs : Array Value) (o k : Nat), o + vs.length ≤ cs.size → (setL cs o vs)[k]? = if o ≤ k ∧ k < o + vs.length then vs[k - o]? else cs[k]?
  | [], cs, o, k, _ => by rw [setL, if_neg (by rintro ⟨h1, h2⟩; simp at h2; omega)]
  | v :: vs, cs, o, k, h => by
    simp only [List.length_cons] at h
    rw [setL, setL_get vs _ _ _ (by simp; omega)]
    simp only [List.length_cons]
    by_cases h1 : o + 1 ≤ k ∧ k < o + 1 + vs.length
    · rw [if_pos h1, if_pos (by omega)]
      obtain ⟨j, rfl⟩ : ∃ j, k = o + 1 + j := ⟨k - (o + 1), by omega⟩
      rw [show o + 1 + j - (o + 1) = j by omega, show o + 1 + j - o = j + 1 by omega, List.getElem?_cons_succ]
    · rw [if_neg h1]
      by_cases h2 : k = o
      · subst h2
        rw [if_pos (by omega), Nat.sub_self, List.getElem?_cons_zero, Array.getElem?_setIfInBounds_self_of_lt (by omega)]
      · rw [if_neg (by omega), Array.getElem?_setIfInBounds_ne (by omega)]
theorem Blk.setCells_ {g : Nat} {t : TypeId} : ∀ (vs : List Value) (w : World) (o : Nat) (cs : Array Value), Blk w g t cs → Blk (w.setCells g o vs) g t (setL cs o vs) ∧ Only (· = g) w (w.setCells g o vs)
  | [], w, o, cs, h => ⟨h, Only.refl _ _⟩
  | v :: vs, w, o, cs, h => by
    have h1 := h.set_ o v
    have h2 := Blk.setCells_ vs (w.setCell ⟨g, o, none⟩ v) (o + 1) _ h1
    exact ⟨h2.1, ((Only.refl (· = g) w).setCell (p := ⟨g, o, none⟩) rfl v).trans h2.2⟩

theorem run_clear_one {P : Program} (w : World) (t e ty : TypeId) (z : Value) (ht : P.underlying t = some (.slice e)) (hv : ∀ w, (zeroValue e).run P w = .ok z w) (b o c : Nat) (h1 : ∀ u ∈ z.cells.toList, u.oneCell' = true)
    (hc : ∀ j, j < z.cells.size → (w.cell? ⟨b, o + j, none⟩).isSome = true) (hf : ∀ j, j < z.cells.size → w.frozen? ⟨b, o + j, none⟩ = false) :
    (Builtin.clear_ #[t] ty #[.slice (some ⟨b, o, none⟩) 1 c]).run P w = .ok (.tuple #[]) (w.setCells b o z.cells.toList) := by
  have hzc : (Builtin.zeroCells z.cells 1).toList = z.cells.toList := by
    apply List.ext_getElem
    · simp [Builtin.zeroCells]
    · intro i h1 h2
      simp [Builtin.zeroCells] at h1 h2 ⊢
      rw [Nat.mod_eq_of_lt h2]
      exact getElem!_pos z.cells i h2
  have hst := run_storeCells_cells (P := P) b o z.cells.toList 0 w (by simpa using hc) (by simpa using hf) h1
  simp only [Nat.add_zero] at hst
  simp [Builtin.clear_, run_underlying ht, hv, hzc, hst]

/-- 'clear' where its run is known. -/
theorem wp_clear_run {P : Program} (w : World) {o : Oper} {a : Act} {K : Act → World → Prop} {Q : Exit → Act → World → Prop} (d : Operand) (t : TypeId)
    (ho : o.op = .call { callee := .builtin .clear, args := #[d], argTypes := #[t] }) (v : Value) (hd : a.eval d = v) {v' : Value} {w' : World}
    (hr : (Builtin.clear_ #[t] o.type #[v]).run P w = .ok v' w') (h : K (a.put o.dst v') w') : o.wp P a w K Q := by
  unfold Oper.wp execOp
  simp only [ho, resolve, invoke, builtin, Sem.run_bind, Sem.run_pure, Result.andThen_ok, List.map_toArray, List.map_cons, List.map_nil, hd, hr]
  exact h
theorem wpList_clear_run {P : Program} (w : World) {ops : Array Oper} {rest : List Oper} {o : Oper} {a : Act} {Q : Exit → Act → World → Prop} (hgd : o.guard = none) (d : Operand) (t : TypeId)
    (ho : o.op = .call { callee := .builtin .clear, args := #[d], argTypes := #[t] }) (v : Value) (hd : a.eval d = v) {v' : Value} {w' : World}
    (hr : (Builtin.clear_ #[t] o.type #[v]).run P w = .ok v' w') (h : wpList P ops Q rest (a.put o.dst v') w') : wpList P ops Q (o :: rest) a w :=
  wpList_plain hgd fun _ hK => wp_clear_run w d t ho v hd hr (hK _ _ h)

/-- What the row holds. -/
theorem del_row {cur : Array Value} {xs zs : List Value} {c n i sz : Nat} (hcs : cur.size = c * sz) (htk : cur.toList.take (n * sz) = xs) (hnc : n ≤ c) (hi : i < n) (hz : zs.length = sz) (hsz : 0 < sz) :
    (setL (setL cur (i * sz) (xs.drop ((i + 1) * sz))) ((n - 1) * sz) zs).toList.take ((n - 1) * sz) = xs.take (i * sz) ++ xs.drop ((i + 1) * sz) := by
  have e1 : (i + 1) * sz = i * sz + sz := by rw [Nat.add_mul, Nat.one_mul]
  have e2 : (n - 1) * sz + sz = n * sz := by
    rw [← Nat.succ_mul]
    congr 1
    omega
  have e3 : (i + 1) * sz ≤ n * sz := Nat.mul_le_mul_right _ hi
  have e4 : n * sz ≤ c * sz := Nat.mul_le_mul_right _ hnc
  have hxl : xs.length = n * sz := by rw [← htk, List.length_take, Array.length_toList]; omega
  have hdl : (xs.drop ((i + 1) * sz)).length = n * sz - (i + 1) * sz := by rw [List.length_drop, hxl]
  apply List.ext_getElem?
  intro k
  rw [List.getElem?_take]
  by_cases hk : k < (n - 1) * sz
  · rw [if_pos hk, Array.getElem?_toList, setL_get _ _ _ _ (by rw [setL_size, hz]; omega), if_neg (by omega), setL_get _ _ _ _ (by rw [hdl]; omega), hdl]
    by_cases hk2 : k < i * sz
    · rw [if_neg (by omega), List.getElem?_append_left (by rw [List.length_take]; omega), List.getElem?_take, if_pos hk2, ← htk, List.getElem?_take, if_pos (by omega), Array.getElem?_toList]
    · rw [if_pos (by omega), List.getElem?_append_right (by rw [List.length_take]; omega), List.length_take, Nat.min_eq_left (by omega)]
  · rw [if_neg hk, List.getElem?_eq_none (by rw [List.length_append, List.length_take, hdl]; omega)]
end Go.Proofs.YteknflimfdkhoaaGreat
