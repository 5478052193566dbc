/- dag.Book.Waiting: how many. doc.Doc.add: a contract. -/
import Derived.Test.YthimkpkoimfkiaaGreatCg23
import Derived.Test.YthimkpkoimfkiaaGreatCg9
import Derived.Test.YthimkpkoimfkiaaGreatCg28
namespace Go.Proofs.YthimkpkoimfkiaaGreat
open Go.RowKit Go.Maps
set_option linter.unusedVariables false
set_option linter.unusedSimpArgs false

def WaitQ (w : World) (n : Nat) (e : Ending) (w' : World) : Prop := ∃ A c, e = .returned (.slice A n c) ∧ Below w.heap.size w w'
set_option maxRecDepth 100000 in
set_option maxHeartbeats 800000 in
theorem waiting_any (F : Nat → Prop) (bk h wt bh : Nat) (Dh Dw Db : DataW Value) (L Wl : List PCh) (w : World) (H : DagX w F bk h wt bh Dh Dw Db L Wl) :
    Calls Tryz.prog 19 #[.pointer (some ⟨bk, 0, none⟩)] w (WaitQ w Wl.length) := by
  have p1 : w.cell? ⟨bk, 1, none⟩ = some (.map (some wt)) := H.bkm.blk.cell 1
  have HO := Lib.hid (show w.ownsMap Tryz.prog 33 anyElem wt (Maps.size Dw) Dw from H.bkm.wts)
  have hs : Maps.size Dw ≤ 1000 := by have := H.sz; omega
  have HL := Lib.hid (show ∀ l, KeysAre Dw l → l.length = Wl.length from fun l hl => by
    have hp : l.Perm (Wl.map PCh.ref) := by
      refine (List.perm_ext_iff_of_nodup hl.nodup H.wnd).2 (fun r => ?_)
      constructor
      · intro hr
        have hi := hl.i2 r hr
        have := (hl.mem r hi).1 hr
        rw [H.wx r hi, Option.isSome_map] at this
        exact findC_mem.1 this
      · intro hr
        obtain ⟨c, hc, rfl⟩ := List.mem_map.1 hr
        have hi := (chE_good (H.win c hc).2).i2
        refine (hl.mem _ hi).2 ?_
        rw [H.wx _ hi, Option.isSome_map]
        exact findC_mem.2 hr
    have := hp.length_eq
    rwa [List.length_map] at this)
  clear H
  go_enter Tryz.func19, Tryz.ntmps19
  go_wp2_with (go_at_call 35; (with_reducible refine (rising_any wt _ Dw _ HO.out hs).mono ?_); (rintro e w1 ⟨l, A, c, hk, hl, rfl, hown, hb1⟩); (have HK := Lib.hid (And.intro (HL.out l hk) hb1)); clear hk hl hown hb1)
  go_ret
  exact ⟨A, c, by rw [HK.out.1]; rfl, HK.out.2⟩
end Go.Proofs.YthimkpkoimfkiaaGreat
namespace Go.Proofs.YthimkpkoimfkiaaGreat
open Go.RowKit Go.Maps Go.Sort
set_option linter.unusedVariables false
set_option linter.unusedSimpArgs false

theorem AddL.step {w w5 : World} {o : OpV} {x : Wh} {v1 v2 : Value} {f : Vm} {ids : List (Int × Int)} {k c c' : Nat} {A A' : Option Addr} {n : Int × Int} (hn : ids[k]? = some n) (hc : (decide (o.kind ≠ 4) || (((f n).getD zJV).k == 4)) = true)
    (hB : AddB w o x v1 v2 (.slice A (predsV o f (ids.take k)).length c) w5)
    (hown : w5.ownsRow (w.heap.size + 3) 24 2 (.slice A' ((predsV o f (ids.take k)).length + 1) c') ((predsV o f (ids.take k)).length + 1) (refs (predsV o f (ids.take k)) ++ [.int .i64 n.1, .int .i64 n.2])) :
    AddL w o x v1 v2 f ids (k + 1) (w5.setCell ⟨w.heap.size, 12, none⟩ (.slice A' ((predsV o f (ids.take k)).length + 1) c')) := by
  have e : predsV o f (ids.take (k + 1)) = predsV o f (ids.take k) ++ [n] := by rw [predsV_take hn, if_pos hc]
  have el : (predsV o f (ids.take (k + 1))).length = (predsV o f (ids.take k)).length + 1 := by rw [e]; simp
  have er : refs (predsV o f (ids.take (k + 1))) = refs (predsV o f (ids.take k)) ++ [.int .i64 n.1, .int .i64 n.2] := by rw [e, refs_append]; rfl
  unfold AddL
  rw [el, er]
  have hos : Only (· = w.heap.size) w5 (w5.setCell ⟨w.heap.size, 12, none⟩ (.slice A' ((predsV o f (ids.take k)).length + 1) c')) := (Only.refl (· = w.heap.size) w5).setCell (p := ⟨w.heap.size, 12, none⟩) rfl _
  exact ⟨A', c', hB.preds _, rowS_only hown hos (fun a ha e => by have h1 := (hown.lt a.block (by rw [ha]; rfl)).1; have e : a.block = w.heap.size := e; omega)⟩
theorem AddL.skip {w W : World} {o : OpV} {x : Wh} {v1 v2 : Value} {f : Vm} {ids : List (Int × Int)} {k : Nat} {n : Int × Int} (hn : ids[k]? = some n) (hc : (decide (o.kind ≠ 4) || (((f n).getD zJV).k == 4)) = false) (h : AddL w o x v1 v2 f ids k W) : AddL w o x v1 v2 f ids (k + 1) W := by
  have e : predsV o f (ids.take (k + 1)) = predsV o f (ids.take k) := by rw [predsV_take hn, hc]; simp
  unfold AddL
  rw [e]
  exact h
theorem addV_none {D : DocV} {o : OpV} {f : Vm} {ids : List (Int × Int)} (h3 : o.kind = 3) (hp : predsV o f ids = []) : addV D o f ids = (6, (0, 0), D.pend) := by
  unfold addV
  simp only
  rw [if_pos ⟨h3, hp⟩]
theorem addV_kind {D : DocV} {o : OpV} {f : Vm} {ids : List (Int × Int)} (h4 : o.kind = 4) (hp : predsV o f ids = []) : addV D o f ids = (10, (0, 0), D.pend) := by
  unfold addV
  simp only
  rw [if_neg (fun h => by omega), if_pos ⟨h4, hp⟩]
theorem addV_full {D : DocV} {o : OpV} {f : Vm} {ids : List (Int × Int)} (h : (o.kind = 3 → predsV o f ids ≠ []) ∧ (o.kind = 4 → predsV o f ids ≠ [])) (hc : 40 ≤ D.pend.length ∨ 12 < ids.length ∨ 1000000 < D.start.1 + D.pend.length ∨ 120 ≤ D.L.length + D.W.length) : addV D o f ids = (4, (0, 0), D.pend) := by
  unfold addV
  simp only
  rw [if_neg (fun e => h.1 e.1 e.2), if_neg (fun e => h.2 e.1 e.2), if_pos hc]
theorem addV_ok {D : DocV} {o : OpV} {f : Vm} {ids : List (Int × Int)} (h : (o.kind = 3 → predsV o f ids ≠ []) ∧ (o.kind = 4 → predsV o f ids ≠ [])) (hc : ¬ (40 ≤ D.pend.length ∨ 12 < ids.length ∨ 1000000 < D.start.1 + D.pend.length ∨ 120 ≤ D.L.length + D.W.length)) : addV D o f ids = (0, (D.start.1 + D.pend.length, D.actor), D.pend ++ [{ o with preds := sortC cmpId (predsV o f ids) }]) := by
  unfold addV
  simp only
  rw [if_neg (fun e => h.1 e.1 e.2), if_neg (fun e => h.2 e.1 e.2), if_neg hc]
theorem addQ_err {w w' : World} {K : Nat → Prop} {db : Nat} {D : DocV} {n : Int} (H : DocA w K db D) (hb : Below w.heap.size w w') : AddQ w K db D (n, (0, 0), D.pend) (.returned (.tuple #[.agg #[.int .i64 0, .int .i64 0], errC n])) w' :=
  ⟨rfl, (H.below hb).mono (fun _ _ k => .inl k), Only.of_below hb⟩
theorem blkS2 {w : World} {g : Nat} {t : TypeId} {a0 a1 : Value} (c0 c1 : Value) (h : Blk w g t #[a0, a1]) : Blk ((w.setCell ⟨g, 0, none⟩ c0).setCell ⟨g, 1, none⟩ c1) g t #[c0, c1] := by
  have := (h.set_ 0 c0).set_ 1 c1
  simpa using this
theorem onlyS2 (w : World) (g : Nat) (c0 c1 : Value) (o0 o1 : Nat) : Only (· = g) w ((w.setCell ⟨g, o0, none⟩ c0).setCell ⟨g, o1, none⟩ c1) :=
  ((Only.refl (· = g) w).setCell (p := ⟨g, o0, none⟩) rfl c0).setCell (p := ⟨g, o1, none⟩) rfl c1
/-- The end: one op more is pending. -/
theorem addQ_ok {w W9 w5 : World} {K : Nat → Prop} {db : Nat} {D : DocV} {o : OpV} {x : Wh} {v1 v2 vp : Value} {P : List (Int × Int)} {A : Option Addr} {c : Nat} {F : Nat → Prop} {bk h wt bh : Nat} {Dh Dw Db : DataW Value} {L Wl : List PCh} {Aq : Option Addr} {cq : Nat} {ps : List POp} {A' : Option Addr} {c' : Nat}
    (H : DocM w F db bk h wt bh Dh Dw Db L Wl D.actor Aq cq ps) (e1 : D.L = L.map PCh.ch) (e2 : D.W = Wl.map PCh.ch) (e3 : D.pend = ps.map POp.op) (e4 : ∀ i, i < w.heap.size → DocK F db bk h wt bh Aq ps i → K i)
    (hB : AddB w o x v1 v2 vp W9) (hf : o.Fit) (hpi : ∀ n ∈ P, I2 n) (hpl : P.length ≤ 12) (hrowP : W9.ownsRow (w.heap.size + 3) 24 2 (.slice A P.length c) P.length (refs (sortC cmpId P))) (hlen : ps.length < 40)
    (hown : w5.ownsRow 0 53 13 (.slice A' (ps.length + 1) c') (ps.length + 1) (opsCells (ps ++ [⟨{ o with preds := sortC cmpId P }, A, c⟩]))) (ho : Only (fun i => i ∈ blkOf Aq) W9 w5) (hA : A' = Aq ∨ ∃ g, A' = some ⟨g, 0, none⟩ ∧ W9.heap.size ≤ g)
    (n : Int × Int) (r : Int × (Int × Int) × List OpV) (hr : r = (0, n, D.pend ++ [{ o with preds := sortC cmpId P }])) :
    AddQ w K db D r (.returned (.tuple #[.agg #[.int .i64 n.1, .int .i64 n.2], .nilIface])) (((w5.setCell ⟨db, 2, none⟩ (.slice A' (ps.length + 1) c')).setCell ⟨w.heap.size + 2, 0, none⟩ (.int .i64 n.1)).setCell ⟨w.heap.size + 2, 1, none⟩ (.int .i64 n.2)) := by
  subst hr
  have hz9 := hB.size
  have hdb := H.blk.lt
  have h9 := H.other (S := fun _ => False) (Only.of_below hB.bel) (fun _ _ e => e.elim)
  obtain ⟨a1, a2, a3⟩ := H.apart
  have hAqlt : ∀ b ∈ blkOf Aq, b < w.heap.size := row_blk_lt H.row
  have hos : Only (· = db) w5 (w5.setCell ⟨db, 2, none⟩ (.slice A' (ps.length + 1) c')) := (Only.refl (· = db) w5).setCell (p := ⟨db, 2, none⟩) rfl _
  have ho6 : Only (fun i => i = db ∨ i ∈ blkOf Aq) W9 (w5.setCell ⟨db, 2, none⟩ (.slice A' (ps.length + 1) c')) := (ho.mono (fun k _ e => .inr e)).trans (hos.mono (fun k _ e => .inl e))
  have hA'ne : ∀ b ∈ blkOf A', b ∈ blkOf Aq ∨ W9.heap.size ≤ b := fun b hb => by
    rcases hA with rfl | ⟨g, rfl, hg⟩
    · exact .inl hb
    · simp [blkOf] at hb; subst hb; exact .inr hg
  have hPlow : ∀ b ∈ blkOf A, w.heap.size + 3 ≤ b ∧ b < W9.heap.size := fun b hb => by
    refine ⟨?_, row_blk_lt hrowP b hb⟩
    cases A with
    | none => cases hb
    | some a =>
      have := (hrowP.lt a.block rfl).1
      simp [blkOf] at hb
      omega
  have hPl : (sortC cmpId P).length = P.length := sortC_len _ _
  have hblk6 : Blk (w5.setCell ⟨db, 2, none⟩ (.slice A' (ps.length + 1) c')) db 59 #[.int .i64 D.actor, .pointer (some ⟨bk, 0, none⟩), .slice A' (ps.length + 1) c'] := by
    have := (h9.blk.only ho (fun e => a2 e)).set_ 2 (.slice A' (ps.length + 1) c')
    simpa using this
  have hz5 : W9.heap.size ≤ w5.heap.size := ho.size
  have hs6 : w5.heap.size ≤ (w5.setCell ⟨db, 2, none⟩ (.slice A' (ps.length + 1) c')).heap.size := hos.size
  have key := h9.pend (A' := A') (cp' := c') (ps' := ps ++ [⟨{ o with preds := sortC cmpId P }, A, c⟩]) ho6 (by rw [List.length_append]; exact hblk6)
    (by rw [List.length_append]; exact rowS_only hown hos (fun a ha e => by
      have h1 := hA'ne a.block (by rw [ha]; simp [blkOf])
      have e : a.block = db := e
      rcases h1 with h1 | h1
      · exact a2 (e ▸ h1)
      · omega)) hA'ne
    (fun q hq => by
      rcases List.mem_append.1 hq with hq | hq
      · exact sl_keep (h9.preds q hq) (fun b hb hl => ho6.block b hl (fun e => by
          have h1 := h9.pne q hq b hb
          rcases e with e | e
          · exact h1.2.1 e
          · exact h1.2.2 e))
      · rw [List.mem_singleton] at hq
        subst hq
        exact sl_keep (SlAt.of_owns hrowP) (fun b hb hl => ho6.block b hl (fun e => by
          have h1 := hPlow b hb
          rcases e with e | e
          · omega
          · have := hAqlt b e; omega)))
    (fun q hq b hb => by
      rcases List.mem_append.1 hq with hq | hq
      · have h1 := h9.pne q hq b hb
        have h2 := (H.pne q hq b hb).1
        refine ⟨by omega, h1.2.1, fun e => ?_⟩
        rcases hA'ne b e with h3 | h3
        · exact h1.2.2 h3
        · omega
      · rw [List.mem_singleton] at hq
        subst hq
        have h1 := hPlow b hb
        refine ⟨by omega, by omega, fun e => ?_⟩
        rcases hA'ne b e with h3 | h3
        · have := hAqlt b h3; omega
        · omega)
    (fun q hq => by
      rcases List.mem_append.1 hq with hq | hq
      · exact H.fit q hq
      · rw [List.mem_singleton] at hq
        subst hq
        refine ⟨⟨hf.kind, hf.obj, hf.key, hf.elem, hf.val, fun p hp => hpi p ((sortC_perm cmpId P).mem_iff.1 hp), ?_⟩, ?_⟩
        · show (sortC cmpId P).length ≤ maxLen
          rw [hPl]; unfold maxLen; omega
        · show (sortC cmpId P).length ≤ 12
          rw [hPl]; exact hpl)
    (by rw [List.length_append]; exact hlen)
  have hoI := onlyS2 (w5.setCell ⟨db, 2, none⟩ (.slice A' (ps.length + 1) c')) (w.heap.size + 2) (.int .i64 n.1) (.int .i64 n.2) 0 1
  have hnK : ∀ i, i < (w5.setCell ⟨db, 2, none⟩ (.slice A' (ps.length + 1) c')).heap.size → i = w.heap.size + 2 → ¬ DocK (fun i => ((F i ∧ i < w.heap.size ∨ W9.heap.size ≤ i) ∧ i < W9.heap.size) ∨ (w5.setCell ⟨db, 2, none⟩ (.slice A' (ps.length + 1) c')).heap.size ≤ i) db bk h wt bh A' (ps ++ [⟨{ o with preds := sortC cmpId P }, A, c⟩]) i := by
    rintro i hi rfl hk
    have l1 := H.dag.bkm.blk.lt
    have l2 := H.dag.bkm.has.lt
    have l3 := H.dag.bkm.wts.lt
    have l4 := H.dag.bkm.beh.lt
    rcases hk with ((k | k) | k) | k | k | k | k | k | k | ⟨q, hq, k⟩
    · omega
    · omega
    · omega
    · omega
    · omega
    · omega
    · omega
    · omega
    · rcases hA'ne _ k with h3 | h3
      · have := hAqlt _ h3; omega
      · omega
    · rcases List.mem_append.1 hq with hq | hq
      · have := (H.pne q hq _ k).1; omega
      · rw [List.mem_singleton] at hq
        subst hq
        have := hPlow _ k; omega
  have fin := key.other hoI hnK
  refine ⟨rfl, ⟨_, bk, h, wt, bh, Dh, Dw, Db, L, Wl, A', c', _, fin, e1, e2, ?_, fun i hi hk => ?_⟩, ?_⟩
  · show D.pend ++ _ = _
    rw [List.map_append, e3]
    rfl
  · by_cases hlt : i < w.heap.size
    · left
      refine e4 i hlt ?_
      have hsI := hoI.size
      rcases hk with k | k | k | k | k | k | k | ⟨q, hq, k⟩
      · rcases k with ⟨(⟨(k2 | k2), _⟩ | k2), _⟩ | k2
        · exact .inl k2.1
        · omega
        · omega
        · omega
      · exact .inr (.inl k)
      · exact .inr (.inr (.inl k))
      · exact .inr (.inr (.inr (.inl k)))
      · exact .inr (.inr (.inr (.inr (.inl k))))
      · exact .inr (.inr (.inr (.inr (.inr (.inl k)))))
      · rcases hA'ne _ k with h3 | h3
        · exact .inr (.inr (.inr (.inr (.inr (.inr (.inl h3))))))
        · omega
      · rcases List.mem_append.1 hq with hq | hq
        · exact .inr (.inr (.inr (.inr (.inr (.inr (.inr ⟨q, hq, k⟩))))))
        · rw [List.mem_singleton] at hq
          subst hq
          have := hPlow _ k; omega
    · exact .inr (Nat.le_of_not_lt hlt)
  · have hw9 : Only K w W9 := Only.of_below hB.bel
    have h1 := hw9.chain ho6 (fun i hi e => by
      rcases e with rfl | e
      · exact e4 _ hi (.inr (.inl rfl))
      · exact e4 _ hi (.inr (.inr (.inr (.inr (.inr (.inr (.inl e))))))))
    exact h1.chain hoI (fun i hi e => by have e : i = w.heap.size + 2 := e; omega)
end Go.Proofs.YthimkpkoimfkiaaGreat
