/- doc.Doc.add: a contract. doc.Doc.add: the walk. -/
import Derived.Test.YteknflimfdkhoaaGreatDg29
import Derived.Deep.DeepCutAuto
import Derived.BigQuiet
namespace Go.Proofs.YteknflimfdkhoaaGreat
open Go.RowKit Go.Maps Go.Sort
set_option linter.unusedVariables false
set_option linter.unusedSimpArgs false

theorem AddL.step {w w5 : World} {o : OpV} {x : Wh} {v1 v2 : Value} {f : Vm} {ids : List (Int × Int)} {k c c' : Nat} {A A' : Option Addr} {n : Int × Int} (hn : ids[k]? = some n) (hc : (decide (o.kind ≠ 4) || (((f n).getD zJV).k == 4)) = true)
    (hB : AddB w o x v1 v2 (.slice A (predsV o f (ids.take k)).length c) w5)
    (hown : w5.ownsRow (w.heap.size + 3) 24 2 (.slice A' ((predsV o f (ids.take k)).length + 1) c') ((predsV o f (ids.take k)).length + 1) (refs (predsV o f (ids.take k)) ++ [.int .i64 n.1, .int .i64 n.2])) :
    AddL w o x v1 v2 f ids (k + 1) (w5.setCell ⟨w.heap.size, 12, none⟩ (.slice A' ((predsV o f (ids.take k)).length + 1) c')) := by
  have e : predsV o f (ids.take (k + 1)) = predsV o f (ids.take k) ++ [n] := by rw [predsV_take hn, if_pos hc]
  have el : (predsV o f (ids.take (k + 1))).length = (predsV o f (ids.take k)).length + 1 := by rw [e]; simp
  have er : refs (predsV o f (ids.take (k + 1))) = refs (predsV o f (ids.take k)) ++ [.int .i64 n.1, .int .i64 n.2] := by rw [e, refs_append]; rfl
  unfold AddL
  rw [el, er]
  have hos : Only (· = w.heap.size) w5 (w5.setCell ⟨w.heap.size, 12, none⟩ (.slice A' ((predsV o f (ids.take k)).length + 1) c')) := (Only.refl (· = w.heap.size) w5).setCell (p := ⟨w.heap.size, 12, none⟩) rfl _
  exact ⟨A', c', hB.preds _, rowS_only hown hos (fun a ha e => by have h1 := (hown.lt a.block (by rw [ha]; rfl)).1; have e : a.block = w.heap.size := e; omega)⟩
theorem AddL.skip {w W : World} {o : OpV} {x : Wh} {v1 v2 : Value} {f : Vm} {ids : List (Int × Int)} {k : Nat} {n : Int × Int} (hn : ids[k]? = some n) (hc : (decide (o.kind ≠ 4) || (((f n).getD zJV).k == 4)) = false) (h : AddL w o x v1 v2 f ids k W) : AddL w o x v1 v2 f ids (k + 1) W := by
  have e : predsV o f (ids.take (k + 1)) = predsV o f (ids.take k) := by rw [predsV_take hn, hc]; simp
  unfold AddL
  rw [e]
  exact h
theorem addV_none {D : DocV} {o : OpV} {f : Vm} {ids : List (Int × Int)} (h3 : o.kind = 3) (hp : predsV o f ids = []) : addV D o f ids = (6, (0, 0), D.pend) := by
  unfold addV
  simp only
  rw [if_pos ⟨h3, hp⟩]
theorem addV_kind {D : DocV} {o : OpV} {f : Vm} {ids : List (Int × Int)} (h4 : o.kind = 4) (hp : predsV o f ids = []) : addV D o f ids = (10, (0, 0), D.pend) := by
  unfold addV
  simp only
  rw [if_neg (fun h => by omega), if_pos ⟨h4, hp⟩]
theorem addV_full {D : DocV} {o : OpV} {f : Vm} {ids : List (Int × Int)} (h : (o.kind = 3 → predsV o f ids ≠ []) ∧ (o.kind = 4 → predsV o f ids ≠ [])) (hc : 40 ≤ D.pend.length ∨ 12 < ids.length ∨ 1000000 < D.start.1 + D.pend.length ∨ 120 ≤ D.L.length + D.W.length) : addV D o f ids = (4, (0, 0), D.pend) := by
  unfold addV
  simp only
  rw [if_neg (fun e => h.1 e.1 e.2), if_neg (fun e => h.2 e.1 e.2), if_pos hc]
theorem addV_ok {D : DocV} {o : OpV} {f : Vm} {ids : List (Int × Int)} (h : (o.kind = 3 → predsV o f ids ≠ []) ∧ (o.kind = 4 → predsV o f ids ≠ [])) (hc : ¬ (40 ≤ D.pend.length ∨ 12 < ids.length ∨ 1000000 < D.start.1 + D.pend.length ∨ 120 ≤ D.L.length + D.W.length)) : addV D o f ids = (0, (D.start.1 + D.pend.length, D.actor), D.pend ++ [{ o with preds := sortC cmpId (predsV o f ids) }]) := by
  unfold addV
  simp only
  rw [if_neg (fun e => h.1 e.1 e.2), if_neg (fun e => h.2 e.1 e.2), if_neg hc]
theorem addQ_err {w w' : World} {K : Nat → Prop} {db : Nat} {D : DocV} {n : Int} (H : DocA w K db D) (hb : Below w.heap.size w w') : AddQ w K db D (n, (0, 0), D.pend) (.returned (.tuple #[.agg #[.int .i64 0, .int .i64 0], errC n])) w' :=
  ⟨rfl, (H.below hb).mono (fun _ _ k => .inl k), Only.of_below hb⟩
theorem blkS2 {w : World} {g : Nat} {t : TypeId} {a0 a1 : Value} (c0 c1 : Value) (h : Blk w g t #[a0, a1]) : Blk ((w.setCell ⟨g, 0, none⟩ c0).setCell ⟨g, 1, none⟩ c1) g t #[c0, c1] := by
  have := (h.set_ 0 c0).set_ 1 c1
  simpa using this
theorem onlyS2 (w : World) (g : Nat) (c0 c1 : Value) (o0 o1 : Nat) : Only (· = g) w ((w.setCell ⟨g, o0, none⟩ c0).setCell ⟨g, o1, none⟩ c1) :=
  ((Only.refl (· = g) w).setCell (p := ⟨g, o0, none⟩) rfl c0).setCell (p := ⟨g, o1, none⟩) rfl c1
/-- The end: one op more is pending. -/
theorem addQ_ok {w W9 w5 : World} {K : Nat → Prop} {db : Nat} {D : DocV} {o : OpV} {x : Wh} {v1 v2 vp : Value} {P : List (Int × Int)} {A : Option Addr} {c : Nat} {F : Nat → Prop} {bk h wt bh : Nat} {Dh Dw Db : DataW Value} {L Wl : List PCh} {Aq : Option Addr} {cq : Nat} {ps : List POp} {A' : Option Addr} {c' : Nat}
    (H : DocM w F db bk h wt bh Dh Dw Db L Wl D.actor Aq cq ps) (e1 : D.L = L.map PCh.ch) (e2 : D.W = Wl.map PCh.ch) (e3 : D.pend = ps.map POp.op) (e4 : ∀ i, i < w.heap.size → DocK F db bk h wt bh Aq ps i → K i)
    (hB : AddB w o x v1 v2 vp W9) (hf : o.Fit) (hpi : ∀ n ∈ P, I2 n) (hpl : P.length ≤ 12) (hrowP : W9.ownsRow (w.heap.size + 3) 24 2 (.slice A P.length c) P.length (refs (sortC cmpId P))) (hlen : ps.length < 40)
    (hown : w5.ownsRow 0 51 13 (.slice A' (ps.length + 1) c') (ps.length + 1) (opsCells (ps ++ [⟨{ o with preds := sortC cmpId P }, A, c⟩]))) (ho : Only (fun i => i ∈ blkOf Aq) W9 w5) (hA : A' = Aq ∨ ∃ g, A' = some ⟨g, 0, none⟩ ∧ W9.heap.size ≤ g)
    (n : Int × Int) (r : Int × (Int × Int) × List OpV) (hr : r = (0, n, D.pend ++ [{ o with preds := sortC cmpId P }])) :
    AddQ w K db D r (.returned (.tuple #[.agg #[.int .i64 n.1, .int .i64 n.2], .nilIface])) (((w5.setCell ⟨db, 2, none⟩ (.slice A' (ps.length + 1) c')).setCell ⟨w.heap.size + 2, 0, none⟩ (.int .i64 n.1)).setCell ⟨w.heap.size + 2, 1, none⟩ (.int .i64 n.2)) := by
  subst hr
  have hz9 := hB.size
  have hdb := H.blk.lt
  have h9 := H.other (S := fun _ => False) (Only.of_below hB.bel) (fun _ _ e => e.elim)
  obtain ⟨a1, a2, a3⟩ := H.apart
  have hAqlt : ∀ b ∈ blkOf Aq, b < w.heap.size := row_blk_lt H.row
  have hos : Only (· = db) w5 (w5.setCell ⟨db, 2, none⟩ (.slice A' (ps.length + 1) c')) := (Only.refl (· = db) w5).setCell (p := ⟨db, 2, none⟩) rfl _
  have ho6 : Only (fun i => i = db ∨ i ∈ blkOf Aq) W9 (w5.setCell ⟨db, 2, none⟩ (.slice A' (ps.length + 1) c')) := (ho.mono (fun k _ e => .inr e)).trans (hos.mono (fun k _ e => .inl e))
  have hA'ne : ∀ b ∈ blkOf A', b ∈ blkOf Aq ∨ W9.heap.size ≤ b := fun b hb => by
    rcases hA with rfl | ⟨g, rfl, hg⟩
    · exact .inl hb
    · simp [blkOf] at hb; subst hb; exact .inr hg
  have hPlow : ∀ b ∈ blkOf A, w.heap.size + 3 ≤ b ∧ b < W9.heap.size := fun b hb => by
    refine ⟨?_, row_blk_lt hrowP b hb⟩
    cases A with
    | none => cases hb
    | some a =>
      have := (hrowP.lt a.block rfl).1
      simp [blkOf] at hb
      omega
  have hPl : (sortC cmpId P).length = P.length := sortC_len _ _
  have hblk6 : Blk (w5.setCell ⟨db, 2, none⟩ (.slice A' (ps.length + 1) c')) db 57 #[.int .i64 D.actor, .pointer (some ⟨bk, 0, none⟩), .slice A' (ps.length + 1) c'] := by
    have := (h9.blk.only ho (fun e => a2 e)).set_ 2 (.slice A' (ps.length + 1) c')
    simpa using this
  have hz5 : W9.heap.size ≤ w5.heap.size := ho.size
  have hs6 : w5.heap.size ≤ (w5.setCell ⟨db, 2, none⟩ (.slice A' (ps.length + 1) c')).heap.size := hos.size
  have key := h9.pend (A' := A') (cp' := c') (ps' := ps ++ [⟨{ o with preds := sortC cmpId P }, A, c⟩]) ho6 (by rw [List.length_append]; exact hblk6)
    (by rw [List.length_append]; exact rowS_only hown hos (fun a ha e => by
      have h1 := hA'ne a.block (by rw [ha]; simp [blkOf])
      have e : a.block = db := e
      rcases h1 with h1 | h1
      · exact a2 (e ▸ h1)
      · omega)) hA'ne
    (fun q hq => by
      rcases List.mem_append.1 hq with hq | hq
      · exact sl_keep (h9.preds q hq) (fun b hb hl => ho6.block b hl (fun e => by
          have h1 := h9.pne q hq b hb
          rcases e with e | e
          · exact h1.2.1 e
          · exact h1.2.2 e))
      · rw [List.mem_singleton] at hq
        subst hq
        exact sl_keep (SlAt.of_owns hrowP) (fun b hb hl => ho6.block b hl (fun e => by
          have h1 := hPlow b hb
          rcases e with e | e
          · omega
          · have := hAqlt b e; omega)))
    (fun q hq b hb => by
      rcases List.mem_append.1 hq with hq | hq
      · have h1 := h9.pne q hq b hb
        have h2 := (H.pne q hq b hb).1
        refine ⟨by omega, h1.2.1, fun e => ?_⟩
        rcases hA'ne b e with h3 | h3
        · exact h1.2.2 h3
        · omega
      · rw [List.mem_singleton] at hq
        subst hq
        have h1 := hPlow b hb
        refine ⟨by omega, by omega, fun e => ?_⟩
        rcases hA'ne b e with h3 | h3
        · have := hAqlt b h3; omega
        · omega)
    (fun q hq => by
      rcases List.mem_append.1 hq with hq | hq
      · exact H.fit q hq
      · rw [List.mem_singleton] at hq
        subst hq
        refine ⟨⟨hf.kind, hf.obj, hf.key, hf.elem, hf.val, fun p hp => hpi p ((sortC_perm cmpId P).mem_iff.1 hp), ?_⟩, ?_⟩
        · show (sortC cmpId P).length ≤ maxLen
          rw [hPl]; unfold maxLen; omega
        · show (sortC cmpId P).length ≤ 12
          rw [hPl]; exact hpl)
    (by rw [List.length_append]; exact hlen)
  have hoI := onlyS2 (w5.setCell ⟨db, 2, none⟩ (.slice A' (ps.length + 1) c')) (w.heap.size + 2) (.int .i64 n.1) (.int .i64 n.2) 0 1
  have hnK : ∀ i, i < (w5.setCell ⟨db, 2, none⟩ (.slice A' (ps.length + 1) c')).heap.size → i = w.heap.size + 2 → ¬ DocK (fun i => ((F i ∧ i < w.heap.size ∨ W9.heap.size ≤ i) ∧ i < W9.heap.size) ∨ (w5.setCell ⟨db, 2, none⟩ (.slice A' (ps.length + 1) c')).heap.size ≤ i) db bk h wt bh A' (ps ++ [⟨{ o with preds := sortC cmpId P }, A, c⟩]) i := by
    rintro i hi rfl hk
    have l1 := H.dag.bkm.blk.lt
    have l2 := H.dag.bkm.has.lt
    have l3 := H.dag.bkm.wts.lt
    have l4 := H.dag.bkm.beh.lt
    rcases hk with ((k | k) | k) | k | k | k | k | k | k | ⟨q, hq, k⟩
    · omega
    · omega
    · omega
    · omega
    · omega
    · omega
    · omega
    · omega
    · rcases hA'ne _ k with h3 | h3
      · have := hAqlt _ h3; omega
      · omega
    · rcases List.mem_append.1 hq with hq | hq
      · have := (H.pne q hq _ k).1; omega
      · rw [List.mem_singleton] at hq
        subst hq
        have := hPlow _ k; omega
  have fin := key.other hoI hnK
  refine ⟨rfl, ⟨_, bk, h, wt, bh, Dh, Dw, Db, L, Wl, A', c', _, fin, e1, e2, ?_, fun i hi hk => ?_⟩, ?_⟩
  · show D.pend ++ _ = _
    rw [List.map_append, e3]
    rfl
  · by_cases hlt : i < w.heap.size
    · left
      refine e4 i hlt ?_
      have hsI := hoI.size
      rcases hk with k | k | k | k | k | k | k | ⟨q, hq, k⟩
      · rcases k with ⟨(⟨(k2 | k2), _⟩ | k2), _⟩ | k2
        · exact .inl k2.1
        · omega
        · omega
        · omega
      · exact .inr (.inl k)
      · exact .inr (.inr (.inl k))
      · exact .inr (.inr (.inr (.inl k)))
      · exact .inr (.inr (.inr (.inr (.inl k))))
      · exact .inr (.inr (.inr (.inr (.inr (.inl k)))))
      · rcases hA'ne _ k with h3 | h3
        · exact .inr (.inr (.inr (.inr (.inr (.inr (.inl h3))))))
        · omega
      · rcases List.mem_append.1 hq with hq | hq
        · exact .inr (.inr (.inr (.inr (.inr (.inr (.inr ⟨q, hq, k⟩))))))
        · rw [List.mem_singleton] at hq
          subst hq
          have := hPlow _ k; omega
    · exact .inr (Nat.le_of_not_lt hlt)
  · have hw9 : Only K w W9 := Only.of_below hB.bel
    have h1 := hw9.chain ho6 (fun i hi e => by
      rcases e with rfl | e
      · exact e4 _ hi (.inr (.inl rfl))
      · exact e4 _ hi (.inr (.inr (.inr (.inr (.inr (.inr (.inl e))))))))
    exact h1.chain hoI (fun i hi e => by have e : i = w.heap.size + 2 := e; omega)
end Go.Proofs.YteknflimfdkhoaaGreat
namespace Go.Proofs.YteknflimfdkhoaaGreat
open Go.RowKit Go.Maps Go.Sort
set_option linter.unusedVariables false
set_option linter.unusedSimpArgs false

set_option maxRecDepth 100000 in
set_option maxHeartbeats 4000000 in
theorem docAdd_any (K : Nat → Prop) (db : Nat) (D : DocV) (o : OpV) (x : Wh) (f : Vm) (ids : List (Int × Int)) (A1 A2 : Option Addr) (c1 c2 : Nat) (w : World) (H : DocA w K db D) (hf : o.Fit) (h1 : SlAt w A1 (valsCells f ids)) (h2 : SlAt w A2 (refs ids)) (hi : ∀ n ∈ ids, I2 n) (hl : ids.length ≤ 100000) :
    Calls Tryz.prog 33 #[.pointer (some ⟨db, 0, none⟩), .agg #[.int .i64 o.kind, .int .i64 o.obj.1, .int .i64 o.obj.2, .string o.key, .int .i64 o.elem.1, .int .i64 o.elem.2, .bool o.ins, .int .i64 o.val.k, .int .i64 o.val.n, .string o.val.s, .int .i64 o.val.o, .int .i64 o.val.p, .slice none 0 0],
      .agg #[.int .i64 x.1.1, .int .i64 x.1.2, .string x.2.1, .int .i64 x.2.2.1, .int .i64 x.2.2.2, .slice A1 ids.length c1, .slice A2 ids.length c2]] w (AddQ w K db D (addV D o f ids)) := by
  have HDA := Lib.hid H
  obtain ⟨F, bk, h, wt, bh, Dh, Dw, Db, L, Wl, Aq, cq, ps, HM, e1, e2, e3, e4⟩ := H
  obtain ⟨n, hn⟩ : ∃ n, ps.length = n := ⟨_, rfl⟩
  have HMM := Lib.hid (And.intro HM (And.intro e1 (And.intro e2 (And.intro e3 (And.intro e4 hn)))))
  clear HM e1 e2 e3 e4 hn
  obtain ⟨W0, hW0⟩ : ∃ W0, W0 = ((w.alloc (.cells #[.int .i64 o.kind, .int .i64 o.obj.1, .int .i64 o.obj.2, .string o.key, .int .i64 o.elem.1, .int .i64 o.elem.2, .bool o.ins, .int .i64 o.val.k, .int .i64 o.val.n, .string o.val.s, .int .i64 o.val.o, .int .i64 o.val.p, .slice none 0 0] 51)).alloc (.cells #[.int .i64 x.1.1, .int .i64 x.1.2, .string x.2.1, .int .i64 x.2.2.1, .int .i64 x.2.2.2, .slice A1 ids.length c1, .slice A2 ids.length c2] 83)).alloc (.cells #[.int .i64 0, .int .i64 0] 24) := ⟨_, rfl⟩
  have hB0 : AddB w o x (.slice A1 ids.length c1) (.slice A2 ids.length c2) (.slice none 0 0) W0 := by
    refine ⟨by rw [hW0]; exact (((Below.refl _ _).alloc (Nat.le_refl _) _).alloc (by simp) _).alloc (by simp; omega) _, ?_, ?_, ?_⟩
    · rw [hW0]; exact ((Blk.new w _ _).alloc _).alloc _
    · rw [hW0]; exact (Blk.newer _ _ _ (by simp)).alloc _
    · rw [hW0]; exact Blk.newer _ _ _ (by simp)
  have hL0 : AddL w o x (.slice A1 ids.length c1) (.slice A2 ids.length c2) f ids 0 W0 := ⟨none, 0, hB0, World.ownsRow_nil _ _ _ _⟩
  have p5 : W0.cell? ⟨w.heap.size + 1, 5, none⟩ = some (.slice A1 ids.length c1) := hB0.pl.cell 5
  have HL := Lib.hid (And.intro hL0 (And.intro h1 (And.intro h2 hi)))
  have HF := Lib.hid hf
  have hl2 : ids.length ≤ 9223372036854775807 := by omega
  have HW0 := Lib.hid hW0
  clear hB0 hL0 h1 h2 hi hf hW0
  go_enter Tryz.func33, Tryz.ntmps33
  go_upto_region 1 with (fail)
  rw [← HW0.out]
  go_wp2_with fail
  clear p5
  go_loopw [16, 8, 9] (fun iv _ _ wr => ∃ k : Nat, iv = .int .i64 k ∧ k ≤ ids.length ∧ AddL w o x (.slice A1 ids.length c1) (.slice A2 ids.length c2) f ids k wr) (fun iv _ _ _ => ids.length - (intOf iv).toNat)
  case atStart => exact ⟨0, rfl, Nat.zero_le _, HL.out.1⟩
  case round =>
    obtain ⟨k, rfl, hk, A, c, hB, hown⟩ := hrel
    by_cases hlt : k < ids.length
    · obtain ⟨n, hn⟩ : ∃ n, ids[k]? = some n := ⟨_, List.getElem?_eq_getElem hlt⟩
      obtain ⟨b, off, ha, hcell⟩ := (HL.out.2.1.below hB.bel).valc hn
      obtain ⟨v, hv⟩ : ∃ v, (f n).getD zJV = v := ⟨_, rfl⟩
      rw [hv] at hcell
      have q0 : wr.cell? ⟨b, off + k * 5, none⟩ = some (.int .i64 v.k) := hcell 0 _ rfl
      have q1 : wr.cell? ⟨b, off + k * 5 + 1, none⟩ = some (.int .i64 v.n) := hcell 1 _ rfl
      have q2 : wr.cell? ⟨b, off + k * 5 + 2, none⟩ = some (.string v.s) := hcell 2 _ rfl
      have q3 : wr.cell? ⟨b, off + k * 5 + 3, none⟩ = some (.int .i64 v.o) := hcell 3 _ rfl
      have q4 : wr.cell? ⟨b, off + k * 5 + 4, none⟩ = some (.int .i64 v.p) := hcell 4 _ rfl
      obtain ⟨W5, hW5⟩ : ∃ W5, W5 = wr.alloc (.cells #[.int .i64 v.k, .int .i64 v.n, .string v.s, .int .i64 v.o, .int .i64 v.p] 31) := ⟨_, rfl⟩
      have hb5 : Below wr.heap.size wr W5 := by rw [hW5]; exact (Below.refl _ _).alloc (Nat.le_refl _) _
      have hB5 : Blk W5 wr.heap.size 31 #[.int .i64 v.k, .int .i64 v.n, .string v.s, .int .i64 v.o, .int .i64 v.p] := by rw [hW5]; exact Blk.new _ _ _
      have hL5 := (show AddL w o x (.slice A1 ids.length c1) (.slice A2 ids.length c2) f ids k wr from ⟨A, c, hB, hown⟩).new hb5
      have hBB := hB.new hb5
      have hown5 := rowS_only hown (Only.of_below (S := fun _ => False) hb5) (fun _ _ h => h)
      have hpk := predsV_len o f (ids.take k)
      rw [List.length_take] at hpk
      have hm : (predsV o f (ids.take k)).length ≤ 1000000 := by omega
      have HAA := Lib.hid ha
      have HX := Lib.hid (And.intro hn (And.intro hv (And.intro hL5 (And.intro hBB hown5))))
      have o0 : W5.cell? ⟨w.heap.size, 0, none⟩ = some (.int .i64 o.kind) := hBB.op.cell 0
      have v0 : W5.cell? ⟨wr.heap.size, 0, none⟩ = some (.int .i64 v.k) := hB5.cell 0
      obtain ⟨z1, hz1⟩ : ∃ z, (o.kind != 4) = z := ⟨_, rfl⟩
      have HZ1 := hz1
      obtain ⟨z2, hz2⟩ : ∃ z, (v.k == 4) = z := ⟨_, rfl⟩
      have HZ2 := hz2
      have HZ := Lib.hid (show (decide (o.kind ≠ 4) || (((f n).getD zJV).k == 4)) = (z1 || z2) from by rw [hv, ← hz1, ← hz2]; congr 1; by_cases h4 : o.kind = 4 <;> simp [h4])
      have HWX := Lib.hid hW5
      have HBV := Lib.hid hB5
      clear hn hv hcell hb5 hB5 hL5 hBB hown5 hB hown hpk hz1 hz2
      rw [ha]
      clear ha
      have hzz : (z1 = false ∧ z2 = false) ∨ (z1 = true ∨ (z1 = false ∧ z2 = true)) := by cases z1 <;> cases z2 <;> simp
      rcases hzz with ⟨rfl, rfl⟩ | hzz
      · go_upto_region 4 with (fail)
        rw [← HWX.out]
        clear hW5 q0 q1 q2 q3 q4
        go_wp2_with fail
        exact ⟨⟨k + 1, by push_cast; rfl, by omega, by rw [← HAA.out]; exact AddL.skip HX.out.1 HZ.out HX.out.2.2.1⟩, by simp [intOf]; omega⟩
      · obtain ⟨b2, off2, d, ha2, hd, hx1, hx2⟩ := (HL.out.2.2.1.below HX.out.2.2.2.1.bel).ref hlt
        obtain rfl : n = d := by have h1 := HX.out.1; rw [hd] at h1; exact (Option.some.inj h1).symm
        obtain ⟨m, hme⟩ : ∃ m, (predsV o f (ids.take k)).length = m := ⟨_, rfl⟩
        have hBB := HX.out.2.2.2.1
        have hown5 := HX.out.2.2.2.2
        have p12 : W5.cell? ⟨w.heap.size, 12, none⟩ = some (.slice A m c) := by rw [← hme]; exact hBB.op.cell 12
        have p12' : (W5.alloc (.cells #[.int .i64 n.1, .int .i64 n.2] 24)).cell? ⟨w.heap.size, 12, none⟩ = some (.slice A m c) := by rw [← hme]; exact (hBB.op.alloc _).cell 12
        have p12'' : (W5.alloc (.cells #[.int .i64 n.1, .int .i64 n.2] 24)).drew.cell? ⟨w.heap.size, 12, none⟩ = some (.slice A m c) := p12'
        have p6 : W5.cell? ⟨w.heap.size + 1, 6, none⟩ = some (.slice (some ⟨b2, off2, none⟩) ids.length c2) := by rw [← ha2]; exact hBB.pl.cell 6
        obtain ⟨A', c', w5, hrun, hown6, ho6⟩ := at_push (x1 := n.1) (x2 := n.2) (W3 := W5.drew) (rowS_only hown5 (Only.refl (fun _ => False) W5).drew (fun _ _ h => h)) hBB.size hm
        have hB6 := (hBB.new (Below.refl W5.heap.size W5).drew).turn ho6 (fun i hi => (hown5.lt i hi).1)
        have HST := Lib.hid (AddL.step hd (by have h1 := HZ.out; rcases hzz with h | h; rw [h1, h]; rfl; rw [h1, h.1, h.2]; rfl) hB6 hown6)
        have zq := hB6.op.frozen
        have q12 : w5.cell? ⟨w.heap.size, 12, none⟩ = some (.slice A m c) := by rw [← hme]; exact hB6.op.cell 12
        rw [hme] at hrun HST
        have hrun1 : ∀ ty, (Builtin.append_ #[49, 49] ty #[.slice A m c, .slice (some ⟨W5.heap.size, 0, none⟩) 1 1]).run Tryz.prog (W5.alloc (.cells #[.int .i64 n.1, .int .i64 n.2] 24)).drew = .ok (.slice A' (m + 1) c') w5 := hrun
        have HRN := Lib.hid hrun1
        clear hBB hown5 hrun hrun1 hown6 ho6 hB6 hme ha2
        rcases hzz with rfl | ⟨rfl, rfl⟩
        all_goals
          go_upto_region 4 with (fail)
          rw [← HWX.out]
          clear hW5 q0 q1 q2 q3 q4
          go_upto_region 5 with (fail)
          go_region_law (refine step_append_run (o := ⟨some 37, _, _, _, _, _⟩) rfl _ _ _ _ rfl _ _ rfl rfl (HRN.out _) ?_)
          all_goals
            clear p12 p12' p12'' p6 q12 zq hx1 hx2 o0 v0
            go_wp2_with fail
            exact ⟨⟨k + 1, by push_cast; rfl, by omega, by rw [← HAA.out]; exact HST.out⟩, by simp [intOf]; omega⟩
    · obtain rfl : k = ids.length := by omega
      rw [List.take_length] at hB hown
      have hPi : ∀ n ∈ predsV o f ids, I2 n := fun n hn => HL.out.2.2.2 n ((List.mem_filter.1 hn).1)
      have hPl := predsV_len o f ids
      obtain ⟨P, hP⟩ : ∃ P, predsV o f ids = P := ⟨_, rfl⟩
      rw [hP] at hB hown hPi hPl
      obtain ⟨m, hm⟩ : ∃ m, P.length = m := ⟨_, rfl⟩
      have hm2 : m ≤ 9223372036854775807 := by omega
      have o0 : wr.cell? ⟨w.heap.size, 0, none⟩ = some (.int .i64 o.kind) := hB.op.cell 0
      have o12 : wr.cell? ⟨w.heap.size, 12, none⟩ = some (.slice A m c) := by rw [← hm]; exact hB.op.cell 12
      have HP := Lib.hid (And.intro hP (And.intro hm (And.intro hPi (And.intro hPl (And.intro hB hown)))))
      clear hP hm hPi hPl hB hown hk hlt
      go_upto_block 2 with (fail)
      go_cut [] (fun wx => AddCut wr o.kind m wx)
      case first =>
        have z0 := HP.out.2.2.2.2.1.id.frozen
        have i0 := HP.out.2.2.2.2.1.id.cell 0
        have i1 := HP.out.2.2.2.2.1.id.cell 1
        simp only [List.getElem?_toArray, List.getElem?_cons_zero, List.getElem?_cons_succ] at i0 i1
        have HB2 := Lib.hid (show ∀ n : Int, AddQ w K db D (n, (0, 0), D.pend) (.returned (.tuple #[.agg #[.int .i64 0, .int .i64 0], errC n])) ((wr.setCell ⟨w.heap.size + 1 + 1, 0, none⟩ (.int .i64 0)).setCell ⟨w.heap.size + 1 + 1, 1, none⟩ (.int .i64 0)) from fun n => addQ_err HDA.out (HP.out.2.2.2.2.1.bel.trans ((onlyS2 wr (w.heap.size + 1 + 1) _ _ 0 1).below HP.out.2.2.2.2.1.bel.size (fun k hk e => by have e : k = w.heap.size + 1 + 1 := e; omega))))
        by_cases h3 : o.kind = 3
        · have H3 := Lib.hid h3
          have h3b : (o.kind == 3) = true := by simpa using h3
          have h4b : (o.kind == 4) = false := by rw [h3]; rfl
          clear h3
          by_cases h0 : m = 0
          · have HE := Lib.hid (addV_none (D := D) (ids := ids) (f := f) H3.out (List.length_eq_zero_iff.1 (by rw [HP.out.1, HP.out.2.1, h0])))
            have h0b : ((m : Int) == 0) = true := by rw [h0]; rfl
            clear h0
            go_wp2_with fail
            refine bodyPost_ret (results_rowd2 Tryz.results33 _ _ (w.heap.size + 1 + 1) _ _ _ rfl (blkS2 (.int .i64 0) (.int .i64 0) HP.out.2.2.2.2.1.id) Tryz.underlying24 rfl (by kernel_rfl)) rfl ?_
            rw [HE.out]
            exact HB2.out 6
          · have h0b : ((m : Int) == 0) = false := by simp; omega
            have H0 := Lib.hid h0
            clear h0
            go_wp2_with fail
            go_meet
            exact ⟨rfl, fun _ => H0.out, fun _ => H0.out⟩
        · have H3 := Lib.hid h3
          have h3b : (o.kind == 3) = false := by simpa using h3
          clear h3
          by_cases h4 : o.kind = 4
          · have H4 := Lib.hid h4
            have h4b : (o.kind == 4) = true := by simpa using h4
            clear h4
            by_cases h0 : m = 0
            · have HE := Lib.hid (addV_kind (D := D) (ids := ids) (f := f) H4.out (List.length_eq_zero_iff.1 (by rw [HP.out.1, HP.out.2.1, h0])))
              have h0b : ((m : Int) == 0) = true := by rw [h0]; rfl
              clear h0
              go_wp2_with fail
              refine bodyPost_ret (results_rowd2 Tryz.results33 _ _ (w.heap.size + 1 + 1) _ _ _ rfl (blkS2 (.int .i64 0) (.int .i64 0) HP.out.2.2.2.2.1.id) Tryz.underlying24 rfl (by kernel_rfl)) rfl ?_
              rw [HE.out]
              exact HB2.out 10
            · have h0b : ((m : Int) == 0) = false := by simp; omega
              have H0 := Lib.hid h0
              clear h0
              go_wp2_with fail
              go_meet
              exact ⟨rfl, fun _ => H0.out, fun _ => H0.out⟩
          · have H4 := Lib.hid h4
            have h4b : (o.kind == 4) = false := by simpa using h4
            clear h4
            go_wp2_with fail
            go_meet
            exact ⟨rfl, fun e => absurd e H3.out, fun e => absurd e H4.out⟩
      case rest =>
        obtain ⟨hwc, hc3, hc4⟩ := hcut
        subst hwc
        have HC := Lib.hid (show (o.kind = 3 → predsV o f ids ≠ []) ∧ (o.kind = 4 → predsV o f ids ≠ []) from by
          rw [HP.out.1]
          exact ⟨fun e k => hc3 e (by rw [← HP.out.2.1, k]; rfl), fun e k => hc4 e (by rw [← HP.out.2.1, k]; rfl)⟩)
        clear hc3 hc4 o0
        have hso := sortPreds_any (w.heap.size + 3) c A P wc HP.out.2.2.2.2.2 (by have := HP.out.2.2.2.1; omega)
        rw [HP.out.2.1] at hso
        have HSO := Lib.hid hso
        have HNB := Lib.hid (fun i hi => (HP.out.2.2.2.2.2.lt i hi).1)
        clear hso
        go_upto_region 12 with (go_at_call 60; (with_reducible refine HSO.out.mono ?_); (rintro e w2 ⟨rfl, hrow2, ho2⟩); (have HB2 := Lib.hid (And.intro (HP.out.2.2.2.2.1.turn ho2 (fun i hi => HNB.out i (by rw [HP.out.2.1]; exact hi))) hrow2)); (clear hrow2 ho2))
        clear o12
        obtain ⟨st, hst⟩ : ∃ s, s = D.start.1 := ⟨_, rfl⟩
        obtain ⟨sq, hsq⟩ : ∃ s, s = D.start.2 := ⟨_, rfl⟩
        have HS := Lib.hid (And.intro hst hsq)
        have hstl : 1 ≤ st ∧ st ≤ 1000040 := by rw [hst]; exact ⟨(HMM.out.1.start_le HMM.out.2.1).1, (HMM.out.1.start_le HMM.out.2.1).2.1⟩
        have HSL := Lib.hid hstl
        clear hst hsq hstl
        go_upto_region 13 with (go_at_call 19; (with_reducible refine (docStart_any K db D _ (HDA.out.below HB2.out.1.bel)).mono ?_); (rintro e w3 ⟨rfl, hb3⟩); rw [← HS.out.1, ← HS.out.2]; (have HB3 := Lib.hid (And.intro (HB2.out.1.new hb3) (rowS_only HB2.out.2 (Only.of_below (S := fun _ => False) hb3) (fun _ _ h => h)))); (clear hb3))
        have hD3 : Blk w3 db 57 #[.int .i64 D.actor, .pointer (some ⟨bk, 0, none⟩), .slice Aq n cq] := by rw [← HMM.out.2.2.2.2.2]; exact HMM.out.1.blk.below HB3.out.1.bel HMM.out.1.blk.lt
        have HKS := Lib.hid (show ∀ W, Below w3.heap.size w3 W → W.cell? ⟨db, 0, none⟩ = some (.int .i64 D.actor) ∧ W.cell? ⟨db, 2, none⟩ = some (.slice Aq n cq) from fun W hW => by
          have := hD3.below hW hD3.lt
          exact ⟨this.cell 0, this.cell 2⟩)
        obtain ⟨d0, d2⟩ := HKS.out w3 (Below.refl _ _)
        have hn40 : n ≤ 40 := by rw [← HMM.out.2.2.2.2.2]; exact HMM.out.1.len
        have hw : IntKind.i64.wrap (st + (n : Int)) = st + (n : Int) := by have := HSL.out; rw [IntKind.wrap_i64]; omega
        clear hD3
        go_region_held3 (fun w' => w'.cell? ⟨db, 0, none⟩ = some (.int .i64 D.actor) ∧ w'.cell? ⟨db, 2, none⟩ = some (.slice Aq n cq))
          (first | (with_reducible exact HKS.out _ (Below.refl _ w3).drew) | (with_reducible exact HKS.out _ ((Below.refl _ w3).alloc (Nat.le_refl _) _).drew) | go_keep) (first | fail)
        obtain ⟨W4, hW4⟩ : ∃ W4, W4 = (w3.alloc (.cells #[.int .i64 (st + (n : Int)), .int .i64 D.actor] 24)).drew := ⟨_, rfl⟩
        rw [← hW4]
        have hb4 : Below w3.heap.size w3 W4 := by rw [hW4]; exact ((Below.refl _ _).alloc (Nat.le_refl _) _).drew
        have hI4 : Blk W4 w3.heap.size 24 #[.int .i64 (st + (n : Int)), .int .i64 D.actor] := by rw [hW4]; exact Blk.new w3 _ _
        have H4 := Lib.hid (And.intro (HB3.out.1.new hb4) (And.intro (rowS_only HB3.out.2 (Only.of_below (S := fun _ => False) hb4) (fun _ _ h => h)) hI4))
        clear hW4 hb4 hI4 d0 d2 hw
        have HFU := Lib.hid (show ∀ X, AddB w o x (.slice A1 ids.length c1) (.slice A2 ids.length c2) (.slice A P.length c) X → (40 ≤ n ∨ 12 < ids.length ∨ 1000000 < st + (n : Int) ∨ 120 ≤ L.length + Wl.length) → AddQ w K db D (addV D o f ids) (.returned (.tuple #[.agg #[.int .i64 0, .int .i64 0], .iface 59 (.int .i64 4)])) ((X.setCell ⟨w.heap.size + 1 + 1, 0, none⟩ (.int .i64 0)).setCell ⟨w.heap.size + 1 + 1, 1, none⟩ (.int .i64 0)) from fun X hX hq => by
          rw [addV_full HC.out (by
            rw [HMM.out.2.2.2.1, HMM.out.2.1, HMM.out.2.2.1, List.length_map, List.length_map, List.length_map, HMM.out.2.2.2.2.2, ← HS.out.1]
            exact hq)]
          exact addQ_err HDA.out (hX.bel.trans ((onlyS2 X (w.heap.size + 1 + 1) _ _ 0 1).below hX.bel.size (fun k hk e => by have e : k = w.heap.size + 1 + 1 := e; omega))))
        have hD4 : Blk W4 db 57 #[.int .i64 D.actor, .pointer (some ⟨bk, 0, none⟩), .slice Aq n cq] := by rw [← HMM.out.2.2.2.2.2]; exact HMM.out.1.blk.below H4.out.1.bel HMM.out.1.blk.lt
        have HD4 := Lib.hid hD4
        have d1 : W4.cell? ⟨db, 1, none⟩ = some (.pointer (some ⟨bk, 0, none⟩)) := hD4.cell 1
        have d2 : W4.cell? ⟨db, 2, none⟩ = some (.slice Aq n cq) := hD4.cell 2
        have p5 : W4.cell? ⟨w.heap.size + 1, 5, none⟩ = some (.slice A1 ids.length c1) := H4.out.1.pl.cell 5
        have m0 : W4.cell? ⟨w3.heap.size, 0, none⟩ = some (.int .i64 (st + (n : Int))) := H4.out.2.2.cell 0
        have z0 := H4.out.1.id.frozen
        have i0 := H4.out.1.id.cell 0
        have i1 := H4.out.1.id.cell 1
        simp only [List.getElem?_toArray, List.getElem?_cons_zero, List.getElem?_cons_succ] at i0 i1
        clear hD4
        by_cases hq1 : 40 ≤ n
        · have hq1i : (40 : Int) ≤ (n : Int) := by omega
          have HQ := Lib.hid hq1
          clear hq1
          go_upto_region 14 with (fail)
          go_quiet (fail)
          all_goals
            go_wp2_with fail
            refine bodyPost_ret (results_rowd2 Tryz.results33 _ _ (w.heap.size + 1 + 1) _ _ _ rfl (blkS2 (.int .i64 0) (.int .i64 0) (H4.out.1.drewN _).id) Tryz.underlying24 rfl (by kernel_rfl)) rfl ?_
            exact HFU.out _ (H4.out.1.drewN _) (.inl HQ.out)
        · have hq1i : ¬ (40 : Int) ≤ (n : Int) := by omega
          have HQ1 := Lib.hid hq1
          clear hq1
          by_cases hq2 : 12 < ids.length
          · have hq2i : (12 : Int) < (ids.length : Int) := by omega
            have HQ := Lib.hid hq2
            clear hq2
            go_upto_region 14 with (fail)
            go_quiet (fail)
            all_goals
              go_wp2_with fail
              refine bodyPost_ret (results_rowd2 Tryz.results33 _ _ (w.heap.size + 1 + 1) _ _ _ rfl (blkS2 (.int .i64 0) (.int .i64 0) (H4.out.1.drewN _).id) Tryz.underlying24 rfl (by kernel_rfl)) rfl ?_
              exact HFU.out _ (H4.out.1.drewN _) (.inr (.inl HQ.out))
          · have hq2i : ¬ (12 : Int) < (ids.length : Int) := by omega
            have HQ2 := Lib.hid hq2
            clear hq2
            by_cases hq3 : 1000000 < st + (n : Int)
            · have HQ := Lib.hid hq3
              go_upto_region 14 with (fail)
              go_quiet (fail)
              all_goals
                go_wp2_with fail
                refine bodyPost_ret (results_rowd2 Tryz.results33 _ _ (w.heap.size + 1 + 1) _ _ _ rfl (blkS2 (.int .i64 0) (.int .i64 0) (H4.out.1.drewN _).id) Tryz.underlying24 rfl (by kernel_rfl)) rfl ?_
                exact HFU.out _ (H4.out.1.drewN _) (.inr (.inr (.inl HQ.out)))
            · have HQ3 := Lib.hid hq3
              obtain ⟨z4, hz4⟩ : ∃ z, decide ((120 : Int) ≤ (L.length : Int) + (Wl.length : Int)) = z := ⟨_, rfl⟩
              have HZ4 := Lib.hid hz4
              have hL1 : L.length ≤ 1000 := by have h1 := HMM.out.1.dag.sz; have h2 := HMM.out.1.dag.szh; omega
              have hW1 : Wl.length ≤ 1000 := by have h1 := HMM.out.1.dag.sz; have h2 := HMM.out.1.dag.szw; omega
              have hw4 : IntKind.i64.wrap ((L.length : Int) + (Wl.length : Int)) = (L.length : Int) + (Wl.length : Int) := by rw [IntKind.wrap_i64]; omega
              have HCS := Lib.hid (show ∀ W, Below W4.heap.size W4 W → W.cell? ⟨db, 1, none⟩ = some (.pointer (some ⟨bk, 0, none⟩)) ∧ W.cell? ⟨db, 2, none⟩ = some (.slice Aq n cq) ∧ W.cell? ⟨w.heap.size + 1, 5, none⟩ = some (.slice A1 ids.length c1) ∧ W.cell? ⟨w3.heap.size, 0, none⟩ = some (.int .i64 (st + (n : Int))) from fun W hW => by
                have h1 := HD4.out.below hW HD4.out.lt
                have h2 := H4.out.1.pl.below hW H4.out.1.pl.lt
                have h3 := H4.out.2.2.below hW H4.out.2.2.lt
                exact ⟨h1.cell 1, h1.cell 2, h2.cell 5, h3.cell 0⟩)
              go_upto_region 14 with (fail)
              go_region_held3 (fun w' => w'.cell? ⟨db, 1, none⟩ = some (.pointer (some ⟨bk, 0, none⟩)) ∧ w'.cell? ⟨db, 2, none⟩ = some (.slice Aq n cq) ∧ w'.cell? ⟨w.heap.size + 1, 5, none⟩ = some (.slice A1 ids.length c1) ∧ w'.cell? ⟨w3.heap.size, 0, none⟩ = some (.int .i64 (st + (n : Int))))
                (first | (with_reducible exact HCS.out _ (Below.refl _ W4).drew) | (with_reducible exact HCS.out _ hb5) | (with_reducible exact HCS.out _ hb6) | go_keep) (first
                | (go_simp
                   go_at_call 17
                   (with_reducible refine (all_is bk h wt bh Dh Dw Db L _ (HMM.out.1.dag.toDag.below (H4.out.1.bel.drew))).mono ?_)
                   (rintro e w5 ⟨al, B, cB, rfl, hao, hb5, hal, hin⟩)
                   have hb5 : Below W4.heap.size W4 w5 := (Below.refl W4.heap.size W4).drew.trans hb5
                   rw [hao.len]
                   clear hao hal hin)
                | (go_simp
                   go_at_call 18
                   (with_reducible refine (waiting_any F bk h wt bh Dh Dw Db L Wl _ (HMM.out.1.dag.below (H4.out.1.new hb5).bel)).mono ?_)
                   (rintro e w6 ⟨A6, c6, rfl, hb6⟩)
                   have hb6 : Below W4.heap.size W4 w6 := hb5.trans (hb6.mono hb5.size)))
              have hB6 := H4.out.1.new hb6
              have H6 := Lib.hid (And.intro hB6 (And.intro (rowS_only H4.out.2.1 (Only.of_below (S := fun _ => False) hb6) (fun _ _ h => h)) (And.intro (H4.out.2.2.below hb6 H4.out.2.2.lt) (HD4.out.below hb6 HD4.out.lt))))
              have z0 := hB6.id.frozen
              have i0 := hB6.id.cell 0
              have i1 := hB6.id.cell 1
              simp only [List.getElem?_toArray, List.getElem?_cons_zero, List.getElem?_cons_succ] at i0 i1
              clear hB6 d1 d2 p5 m0 hw4
              cases z4 with
              | true =>
                have HQ := Lib.hid (show 120 ≤ L.length + Wl.length from by have h1 := of_decide_eq_true HZ4.out; omega)
                go_wp2_with fail
                refine bodyPost_ret (results_rowd2 Tryz.results33 _ _ (w.heap.size + 1 + 1) _ _ _ rfl (blkS2 (.int .i64 0) (.int .i64 0) H6.out.1.id) Tryz.underlying24 rfl (by kernel_rfl)) rfl ?_
                exact HFU.out _ H6.out.1 (.inr (.inr (.inr HQ.out)))
              | false =>
                have HQ4 := Lib.hid (show ¬ 120 ≤ L.length + Wl.length from by have h1 := of_decide_eq_false HZ4.out; omega)
                have hPl : (sortC cmpId P).length = P.length := sortC_len _ _
                have hrow6 : w6.drew.ownsRow 0 51 13 (.slice Aq ps.length cq) ps.length (opsCells ps) := row_keep HMM.out.1.row (fun b hb hl => H6.out.1.bel.block b hl)
                obtain ⟨A', c', w7, hrun, hown7, ho7, hA7⟩ := op_push (W3 := w6.drew) ⟨{ o with preds := sortC cmpId P }, A, c⟩ hrow6 (by rw [HMM.out.2.2.2.2.2]; omega)
                simp only at hrun
                rw [hPl, HMM.out.2.2.2.2.2] at hrun
                have hdbA : db ∉ blkOf Aq := HMM.out.1.apart.2.1
                have hAlt : ∀ b ∈ blkOf Aq, b < w.heap.size := row_blk_lt HMM.out.1.row
                have hzw : w.heap.size + 3 ≤ w3.heap.size := HB3.out.1.size
                have hD7 : Blk w7 db 57 #[.int .i64 D.actor, .pointer (some ⟨bk, 0, none⟩), .slice Aq n cq] := (show Blk w6.drew db _ _ from H6.out.2.2.2).only ho7 hdbA
                have hI7 : Blk w7 w3.heap.size 24 #[.int .i64 (st + (n : Int)), .int .i64 D.actor] := (show Blk w6.drew w3.heap.size _ _ from H6.out.2.2.1).only ho7 (fun e => by have := hAlt _ e; omega)
                have hR7 : Blk w7 (w.heap.size + 2) 24 #[.int .i64 0, .int .i64 0] := (show Blk w6.drew (w.heap.size + 2) _ _ from H6.out.1.id).only ho7 (fun e => by have := hAlt _ e; omega)
                have hdl := HMM.out.1.blk.lt
                have hos : Only (· = db) w7 (w7.setCell ⟨db, 2, none⟩ (.slice A' (n + 1) c')) := (Only.refl (· = db) w7).setCell (p := ⟨db, 2, none⟩) rfl _
                have hI8 := hI7.only hos (fun e => by have e : w3.heap.size = db := e; omega)
                have hR8 := hR7.only hos (fun e => by have e : w.heap.size + 2 = db := e; omega)
                have d2 : w6.cell? ⟨db, 2, none⟩ = some (.slice Aq n cq) := H6.out.2.2.2.cell 2
                have q2 : w7.cell? ⟨db, 2, none⟩ = some (.slice Aq n cq) := hD7.cell 2
                have zq := hD7.frozen
                have b0 : w6.cell? ⟨w.heap.size, 0, none⟩ = some (.int .i64 o.kind) := H6.out.1.op.cell 0
                have b1 : w6.cell? ⟨w.heap.size, 1, none⟩ = some (.int .i64 o.obj.1) := H6.out.1.op.cell 1
                have b2 : w6.cell? ⟨w.heap.size, 2, none⟩ = some (.int .i64 o.obj.2) := H6.out.1.op.cell 2
                have b3 : w6.cell? ⟨w.heap.size, 3, none⟩ = some (.string o.key) := H6.out.1.op.cell 3
                have b4 : w6.cell? ⟨w.heap.size, 4, none⟩ = some (.int .i64 o.elem.1) := H6.out.1.op.cell 4
                have b5 : w6.cell? ⟨w.heap.size, 5, none⟩ = some (.int .i64 o.elem.2) := H6.out.1.op.cell 5
                have b6 : w6.cell? ⟨w.heap.size, 6, none⟩ = some (.bool o.ins) := H6.out.1.op.cell 6
                have b7 : w6.cell? ⟨w.heap.size, 7, none⟩ = some (.int .i64 o.val.k) := H6.out.1.op.cell 7
                have b8 : w6.cell? ⟨w.heap.size, 8, none⟩ = some (.int .i64 o.val.n) := H6.out.1.op.cell 8
                have b9 : w6.cell? ⟨w.heap.size, 9, none⟩ = some (.string o.val.s) := H6.out.1.op.cell 9
                have b10 : w6.cell? ⟨w.heap.size, 10, none⟩ = some (.int .i64 o.val.o) := H6.out.1.op.cell 10
                have b11 : w6.cell? ⟨w.heap.size, 11, none⟩ = some (.int .i64 o.val.p) := H6.out.1.op.cell 11
                have b12 : w6.cell? ⟨w.heap.size, 12, none⟩ = some (.slice A P.length c) := H6.out.1.op.cell 12
                have hdA : Blk (w6.alloc (.cells #[.int .i64 o.kind, .int .i64 o.obj.1, .int .i64 o.obj.2, .string o.key, .int .i64 o.elem.1, .int .i64 o.elem.2, .bool o.ins, .int .i64 o.val.k, .int .i64 o.val.n, .string o.val.s, .int .i64 o.val.o, .int .i64 o.val.p, .slice A P.length c] 51)) db 57 #[.int .i64 D.actor, .pointer (some ⟨bk, 0, none⟩), .slice Aq n cq] := H6.out.2.2.2.alloc _
                have d2' : (w6.alloc (.cells #[.int .i64 o.kind, .int .i64 o.obj.1, .int .i64 o.obj.2, .string o.key, .int .i64 o.elem.1, .int .i64 o.elem.2, .bool o.ins, .int .i64 o.val.k, .int .i64 o.val.n, .string o.val.s, .int .i64 o.val.o, .int .i64 o.val.p, .slice A P.length c] 51)).cell? ⟨db, 2, none⟩ = some (.slice Aq n cq) := hdA.cell 2
                have d2'' : (w6.alloc (.cells #[.int .i64 o.kind, .int .i64 o.obj.1, .int .i64 o.obj.2, .string o.key, .int .i64 o.elem.1, .int .i64 o.elem.2, .bool o.ins, .int .i64 o.val.k, .int .i64 o.val.n, .string o.val.s, .int .i64 o.val.o, .int .i64 o.val.p, .slice A P.length c] 51)).drew.cell? ⟨db, 2, none⟩ = some (.slice Aq n cq) := d2'
                have hrun1 : ∀ ty, (Builtin.append_ #[55, 55] ty #[.slice Aq n cq, .slice (some ⟨w6.heap.size, 0, none⟩) 1 1]).run Tryz.prog (w6.alloc (.cells #[.int .i64 o.kind, .int .i64 o.obj.1, .int .i64 o.obj.2, .string o.key, .int .i64 o.elem.1, .int .i64 o.elem.2, .bool o.ins, .int .i64 o.val.k, .int .i64 o.val.n, .string o.val.s, .int .i64 o.val.o, .int .i64 o.val.p, .slice A P.length c] 51)).drew = .ok (.slice A' (n + 1) c') w7 := hrun
                have HRN := Lib.hid hrun1
                have HEND := Lib.hid (addQ_ok HMM.out.1 HMM.out.2.1 HMM.out.2.2.1 HMM.out.2.2.2.1 HMM.out.2.2.2.2.1 (H6.out.1.drewN 1) HF.out HP.out.2.2.1 (by have := HP.out.2.2.2.1; have := HQ2.out; omega) (show w6.drew.ownsRow (w.heap.size + 3) 24 2 (.slice A P.length c) P.length (refs (sortC cmpId P)) from by have h := H6.out.2.1; rw [← HP.out.2.1] at h; exact h) (by rw [HMM.out.2.2.2.2.2]; have := HQ1.out; omega) hown7 ho7 hA7 (st + (n : Int), D.actor) (addV D o f ids) (by
                  rw [addV_ok HC.out (by
                    rw [HMM.out.2.2.2.1, HMM.out.2.1, HMM.out.2.2.1, List.length_map, List.length_map, List.length_map, HMM.out.2.2.2.2.2, ← HS.out.1]
                    intro hq
                    rcases hq with hq | hq | hq | hq
                    · exact HQ1.out hq
                    · exact HQ2.out hq
                    · have := HQ3.out; omega
                    · exact HQ4.out hq), HP.out.1, ← HS.out.1, HMM.out.2.2.2.1, List.length_map, HMM.out.2.2.2.2.2]))
                rw [HMM.out.2.2.2.2.2] at HEND
                have HB8 := Lib.hid (And.intro hI8 hR8)
                clear hPl hrow6 hrun hrun1 hown7 ho7 hA7 hdbA hAlt hzw hD7 hI7 hR7 hdl hos hI8 hR8 hdA z0 i0 i1
                go_upto_region 16 with (fail)
                go_region_law (refine step_append_run (o := ⟨some 126, _, _, _, _, _⟩) rfl _ _ _ _ rfl _ _ rfl rfl (HRN.out _) ?_)
                all_goals
                  clear b0 b1 b2 b3 b4 b5 b6 b7 b8 b9 b10 b11 b12 d2 d2' d2'' q2 zq
                  obtain ⟨W8, hW8⟩ : ∃ W8, W8 = w7.setCell ⟨db, 2, none⟩ (.slice A' (n + 1) c') := ⟨_, rfl⟩
                  rw [← hW8] at HB8 HEND ⊢
                  clear hW8
                  have k0 : W8.cell? ⟨w3.heap.size, 0, none⟩ = some (.int .i64 (st + (n : Int))) := HB8.out.1.cell 0
                  have k1 : W8.cell? ⟨w3.heap.size, 1, none⟩ = some (.int .i64 D.actor) := HB8.out.1.cell 1
                  have z0 := HB8.out.2.frozen
                  have i0 := HB8.out.2.cell 0
                  have i1 := HB8.out.2.cell 1
                  simp only [List.getElem?_toArray, List.getElem?_cons_zero, List.getElem?_cons_succ] at i0 i1
                  go_wp2_with fail
                  refine bodyPost_ret (results_rowd2 Tryz.results33 _ _ (w.heap.size + 1 + 1) _ _ _ rfl (blkS2 (.int .i64 (st + (n : Int))) (.int .i64 D.actor) HB8.out.2) Tryz.underlying24 rfl (by kernel_rfl)) rfl ?_
                  exact HEND.out
end Go.Proofs.YteknflimfdkhoaaGreat
