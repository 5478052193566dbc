/- state.State.at at any place, state.State.Key: contracts. doc.Doc.onKey: a contract. -/
import Derived.Test.YthimkpkoimfkiaaGreatCg28
import Derived.Test.YthimkpkoimfkiaaGreatCg30
namespace Go.Proofs.YthimkpkoimfkiaaGreat
open Go.RowKit Go.Maps
set_option linter.unusedVariables false
set_option linter.unusedSimpArgs false

theorem stAt_any (B sb kb vb ib lb N : Nat) (s : Sta) (x : Wh) (w : World) (H : StM w B sb kb vb ib lb N s) (hx : whOk x) (hN : N ≤ 100000) :
    Calls Tryz.prog 50 #[.pointer (some ⟨sb, 0, none⟩), .agg #[.int .i64 x.1.1, .int .i64 x.1.2, .string x.2.1, .int .i64 x.2.2.1, .int .i64 x.2.2.2]] w (AtQ w s x N) := by
  cases hv : s.vals x with
  | none => exact stAt_none B sb kb vb ib lb N s x w H hx hv
  | some f => exact stAt_some B sb kb vb ib lb N s x f w H hx hv hN
theorem AtQ.from {w W : World} {s : Sta} {x : Wh} {N : Nat} {e : Ending} {w' : World} (hb : Below w.heap.size w W) (h : AtQ W s x N e w') : AtQ w s x N e w' := by
  obtain ⟨ids, A1, A2, c1, c2, h1, h2, h3, h4, h5, h6, h7⟩ := h
  exact ⟨ids, A1, A2, c1, c2, h1, h2, h3, h4, h5, hb.trans (h6.mono hb.size), fun a ha => Nat.le_trans hb.size (h7 a ha)⟩
set_option maxRecDepth 100000 in
set_option maxHeartbeats 1000000 in
theorem stKey_any (B sb kb vb ib lb N : Nat) (s : Sta) (obj : Int × Int) (key : ByteArray) (w : World) (H : StM w B sb kb vb ib lb N s) (hx : whOk (obj, key, (0, 0))) (hN : N ≤ 100000) :
    Calls Tryz.prog 26 #[.pointer (some ⟨sb, 0, none⟩), .agg #[.int .i64 obj.1, .int .i64 obj.2], .string key] w (AtQ w s (obj, key, (0, 0)) N) := by
  obtain ⟨W1, hW1⟩ : ∃ W1, W1 = (w.alloc (.cells #[.int .i64 obj.1, .int .i64 obj.2] 24)).alloc (.cells #[.int .i64 0, .int .i64 0, .string ⟨#[]⟩, .int .i64 0, .int .i64 0, .slice none 0 0, .slice none 0 0] 75) := ⟨_, rfl⟩
  have hb1 : Below w.heap.size w W1 := by rw [hW1]; exact ((Below.refl _ _).alloc (Nat.le_refl _) _).alloc (by simp) _
  have hr1 : Blk W1 (w.heap.size + 1) 75 #[.int .i64 0, .int .i64 0, .string ⟨#[]⟩, .int .i64 0, .int .i64 0, .slice none 0 0, .slice none 0 0] := by rw [hW1]; exact Blk.newer _ _ _ (by simp)
  have HK := Lib.hid (stAt_any B sb kb vb ib lb N s (obj, key, (0, 0)) W1 (H.below hb1) hx hN)
  have HW := Lib.hid hW1
  have HB := Lib.hid (And.intro hb1 hr1)
  clear H hx hW1 hb1 hr1
  go_enter Tryz.func26, Tryz.ntmps26
  go_wp2_with (go_at_call 50; rw [← HW.out]; (with_reducible refine HK.out.mono ?_); (rintro e w2 ⟨ids, A1, A2, c1, c2, rfl, h2, h3, h4, h5, h6, h7⟩); (have hr2 := HB.out.2.below h6 HB.out.2.lt); (have r0 := hr2.cell 0); (have r1 := hr2.cell 1); (have r2 := hr2.cell 2); (have r3 := hr2.cell 3); (have r4 := hr2.cell 4); (have r5 := hr2.cell 5); (have r6 := hr2.cell 6); (have zr := hr2.frozen); (simp only [List.getElem?_toArray, List.getElem?_cons_zero, List.getElem?_cons_succ] at r0 r1 r2 r3 r4 r5 r6); (have HE := Lib.hid (And.intro h2 (And.intro h3 (And.intro h4 (And.intro h5 (And.intro h6 (And.intro hr2 h7))))))); clear h2 h3 h4 h5 h6 hr2 h7)
  refine bodyPost_ret (results_cell_row Tryz.results26 _ _ (w.heap.size + 1) _ _ _ _ rfl (blkS7 (.int .i64 obj.1) (.int .i64 obj.2) (.string key) (.int .i64 0) (.int .i64 0) (.slice A1 ids.length c1) (.slice A2 ids.length c2) HE.out.2.2.2.2.2.1) Tryz.underlying75 rfl (by kernel_rfl)) rfl ?_
  have hz : w.heap.size + 2 = W1.heap.size := by rw [HW.out]; simp
  have ho7 := onlyS7 w2 (w.heap.size + 1) (.int .i64 obj.1) (.int .i64 obj.2) (.string key) (.int .i64 0) (.int .i64 0) (.slice A1 ids.length c1) (.slice A2 ids.length c2) 0 1 2 3 4 5 6
  have hbel : Below w.heap.size w w2 := HB.out.1.trans (HE.out.2.2.2.2.1.mono HB.out.1.size)
  refine ⟨ids, A1, A2, c1, c2, rfl, HE.out.1, HE.out.2.1.only ho7 ?_, HE.out.2.2.1.only ho7 ?_, HE.out.2.2.2.1, hbel.trans (ho7.below hbel.size (fun k hk e => by have e : k = w.heap.size + 1 := e; omega)), ?_⟩
  · intro b off s ha e
    have h := HE.out.2.2.2.2.2.2 _ (.inl ha)
    have e : b = w.heap.size + 1 := e
    have h : W1.heap.size ≤ b := h
    omega
  · intro b off s ha e
    have h := HE.out.2.2.2.2.2.2 _ (.inr ha)
    have e : b = w.heap.size + 1 := e
    have h : W1.heap.size ≤ b := h
    omega
  · intro a ha
    have h := HE.out.2.2.2.2.2.2 a ha
    omega
end Go.Proofs.YthimkpkoimfkiaaGreat
namespace Go.Proofs.YthimkpkoimfkiaaGreat
open Go.RowKit Go.Maps Go.Sort
set_option linter.unusedVariables false
set_option linter.unusedSimpArgs false

theorem i2_zk : I2 (0, 0) := ⟨⟨by decide, by decide⟩, ⟨by decide, by decide⟩⟩
/-- What onKey comes to. -/
def OnKeyR (D : DocV) (o : OpV) (ok : Int) (r : Int × (Int × Int) × List OpV) : Prop :=
  if keyedE D.state o.obj o.key ≠ 0 then r = (keyedE D.state o.obj o.key, (0, 0), D.pend)
  else if ok ≠ 0 then r = (ok, (0, 0), D.pend)
  else ∃ ids, IdsOf (D.state.mv (o.obj, o.key, (0, 0))) ids ∧ r = addV D o (D.state.mv (o.obj, o.key, (0, 0))) ids
theorem DocA.bound {w : World} {K : Nat → Prop} {db : Nat} {D : DocV} (H : DocA w K db D) : DocA w (fun i => K i ∧ i < w.heap.size) db D := H.mono (fun i hi k => ⟨k, hi⟩)
def OnKeyQ (w : World) (K : Nat → Prop) (db : Nat) (D : DocV) (o : OpV) (ok : Int) (e : Ending) (w' : World) : Prop := ∃ r, OnKeyR D o ok r ∧ AddQ w K db D r e w'
/-- The boxes of onKey. -/
structure OkB (w : World) (o : OpV) (W : World) : Prop where
  bel : Below w.heap.size w W
  op : Blk W w.heap.size 53 #[.int .i64 o.kind, .int .i64 o.obj.1, .int .i64 o.obj.2, .string o.key, .int .i64 o.elem.1, .int .i64 o.elem.2, .bool o.ins, .int .i64 o.val.k, .int .i64 o.val.n, .string o.val.s, .int .i64 o.val.o, .int .i64 o.val.p, .slice none 0 0]
  id : Blk W (w.heap.size + 1) 24 #[.int .i64 0, .int .i64 0]
theorem OkB.new {w W W' : World} {o : OpV} (h : OkB w o W) (hb : Below W.heap.size W W') : OkB w o W' :=
  ⟨h.bel.trans (hb.mono h.bel.size), h.op.below hb h.op.lt, h.id.below hb h.id.lt⟩
/-- The end of an error. -/
theorem onKey_err {w W : World} {K : Nat → Prop} {db : Nat} {D : DocV} {o : OpV} {n : Int} (H : DocA w K db D) (hB : OkB w o W) :
    AddQ w K db D (n, (0, 0), D.pend) (.returned (.tuple #[.agg #[.int .i64 0, .int .i64 0], errC n])) ((W.setCell ⟨w.heap.size + 1, 0, none⟩ (.int .i64 0)).setCell ⟨w.heap.size + 1, 1, none⟩ (.int .i64 0)) :=
  addQ_err H (hB.bel.trans ((onlyS2 W (w.heap.size + 1) _ _ 0 1).below hB.bel.size (fun k hk e => by have e : k = w.heap.size + 1 := e; omega)))
/-- The end behind add. -/
theorem onKey_end {w W W2 : World} {K : Nat → Prop} {db : Nat} {D : DocV} {r : Int × (Int × Int) × List OpV} {e : Ending} (hb : Below w.heap.size w W) (hz : w.heap.size + 2 ≤ W.heap.size) (h : AddQ W (fun i => K i ∧ i < w.heap.size) db D r e W2) (c0 c1 : Value) :
    AddQ w K db D r e ((W2.setCell ⟨w.heap.size + 1, 0, none⟩ c0).setCell ⟨w.heap.size + 1, 1, none⟩ c1) := by
  obtain ⟨h1, h2, h3⟩ := h
  have ho := onlyS2 W2 (w.heap.size + 1) c0 c1 0 1
  refine ⟨h1, (h2.other ho (fun i hi e k => ?_)).mono (fun i hi k => ?_), ?_⟩
  · have e : i = w.heap.size + 1 := e
    rcases k with k | k
    · omega
    · omega
  · rcases k.1 with k | k
    · exact .inl k.1
    · exact .inr (by omega)
  · exact ((Only.of_below (S := K) hb).chain h3 (fun i hi e => e.1)).chain ho (fun i hi e => by have e : i = w.heap.size + 1 := e; omega)
theorem OkB.far {w W W2 : World} {K : Nat → Prop} {o : OpV} (h : OkB w o W) (ho : Only (fun i => K i ∧ i < w.heap.size) W W2) : Blk W2 w.heap.size 53 #[.int .i64 o.kind, .int .i64 o.obj.1, .int .i64 o.obj.2, .string o.key, .int .i64 o.elem.1, .int .i64 o.elem.2, .bool o.ins, .int .i64 o.val.k, .int .i64 o.val.n, .string o.val.s, .int .i64 o.val.o, .int .i64 o.val.p, .slice none 0 0] ∧ Blk W2 (w.heap.size + 1) 24 #[.int .i64 0, .int .i64 0] :=
  ⟨h.op.only ho (fun e => by have := e.2; omega), h.id.only ho (fun e => by have := e.2; omega)⟩
theorem onKey_keep {w W W2 : World} {K : Nat → Prop} {o : OpV} (h : OkB w o W) (ho : Only (fun i => K i ∧ i < w.heap.size) W W2) : W2.cell? ⟨w.heap.size, 0, none⟩ = some (.int .i64 o.kind) ∧ W2.cell? ⟨w.heap.size, 1, none⟩ = some (.int .i64 o.obj.1) ∧ W2.cell? ⟨w.heap.size, 2, none⟩ = some (.int .i64 o.obj.2) ∧ W2.cell? ⟨w.heap.size, 3, none⟩ = some (.string o.key) ∧ W2.cell? ⟨w.heap.size, 4, none⟩ = some (.int .i64 o.elem.1) ∧ W2.cell? ⟨w.heap.size, 5, none⟩ = some (.int .i64 o.elem.2) ∧ W2.cell? ⟨w.heap.size, 6, none⟩ = some (.bool o.ins) ∧ W2.cell? ⟨w.heap.size, 7, none⟩ = some (.int .i64 o.val.k) ∧ W2.cell? ⟨w.heap.size, 8, none⟩ = some (.int .i64 o.val.n) ∧ W2.cell? ⟨w.heap.size, 9, none⟩ = some (.string o.val.s) ∧ W2.cell? ⟨w.heap.size, 10, none⟩ = some (.int .i64 o.val.o) ∧ W2.cell? ⟨w.heap.size, 11, none⟩ = some (.int .i64 o.val.p) ∧ W2.cell? ⟨w.heap.size, 12, none⟩ = some (.slice none 0 0) := by
  have h := (h.far ho).1
  exact ⟨h.cell 0, h.cell 1, h.cell 2, h.cell 3, h.cell 4, h.cell 5, h.cell 6, h.cell 7, h.cell 8, h.cell 9, h.cell 10, h.cell 11, h.cell 12⟩
set_option maxRecDepth 100000 in
set_option maxHeartbeats 4000000 in
theorem docOnKey_any (K : Nat → Prop) (db : Nat) (D : DocV) (o : OpV) (ok : Int) (w : World) (H : DocA w K db D) (hni : D.noIns) (hf : o.Fit) :
    Calls Tryz.prog 15 #[.pointer (some ⟨db, 0, none⟩), .agg #[.int .i64 o.kind, .int .i64 o.obj.1, .int .i64 o.obj.2, .string o.key, .int .i64 o.elem.1, .int .i64 o.elem.2, .bool o.ins, .int .i64 o.val.k, .int .i64 o.val.n, .string o.val.s, .int .i64 o.val.o, .int .i64 o.val.p, .slice none 0 0], errC ok] w (OnKeyQ w K db D o ok) := by
  obtain ⟨W0, hW0⟩ : ∃ W0, W0 = (w.alloc (.cells #[.int .i64 o.kind, .int .i64 o.obj.1, .int .i64 o.obj.2, .string o.key, .int .i64 o.elem.1, .int .i64 o.elem.2, .bool o.ins, .int .i64 o.val.k, .int .i64 o.val.n, .string o.val.s, .int .i64 o.val.o, .int .i64 o.val.p, .slice none 0 0] 53)).alloc (.cells #[.int .i64 0, .int .i64 0] 24) := ⟨_, rfl⟩
  have hB0 : OkB w o W0 := by
    refine ⟨by rw [hW0]; exact ((Below.refl _ _).alloc (Nat.le_refl _) _).alloc (by simp) _, ?_, ?_⟩
    · rw [hW0]; exact (Blk.new w _ _).alloc _
    · rw [hW0]; exact Blk.newer _ _ _ (by simp)
  have HH := Lib.hid (And.intro H (And.intro hni hf))
  have HB0 := Lib.hid hB0
  have HD0 := Lib.hid (H.bound.below hB0.bel)
  have HW0 := Lib.hid hW0
  obtain ⟨kE, hkE⟩ : ∃ n, keyedE D.state o.obj o.key = n := ⟨_, rfl⟩
  have HKE := Lib.hid hkE
  clear H hni hf hB0 hW0 hkE
  go_enter Tryz.func15, Tryz.ntmps15
  go_upto_region 2 with (first
    | (go_at_call 24; rw [← HW0.out]; (with_reducible refine (docState_any _ db D W0 HD0.out HH.out.2.1).mono ?_); (rintro e w1 ⟨B, sb, kb, vb, ib, lb, N, rfl, hS, hN, hB1, hb1⟩); (have H1 := Lib.hid (And.intro hS (And.intro hN (And.intro (HB0.out.new hb1) (HD0.out.below hb1))))); (clear hS hB1 hb1)))
  have o1 : w1.cell? ⟨w.heap.size, 1, none⟩ = some (.int .i64 o.obj.1) := H1.out.2.2.1.op.cell 1
  have o2 : w1.cell? ⟨w.heap.size, 2, none⟩ = some (.int .i64 o.obj.2) := H1.out.2.2.1.op.cell 2
  have o3 : w1.cell? ⟨w.heap.size, 3, none⟩ = some (.string o.key) := H1.out.2.2.1.op.cell 3
  go_upto_region 3 with (first
    | (go_at_call 25; (with_reducible refine (keyed_any B sb kb vb ib lb N D.state o.obj o.key w1 H1.out.1 HH.out.2.2.obj HH.out.2.2.key).mono ?_); (rintro e w2 ⟨rfl, hb2⟩); rw [HKE.out]; (have H2 := Lib.hid (And.intro (H1.out.1.below hb2) (And.intro (H1.out.2.2.1.new hb2) (H1.out.2.2.2.below hb2)))); (clear hb2)))
  clear o1 o2 o3
  by_cases hk0 : kE = 0
  · subst hk0
    rw [errC_zero]
    have HRR := Lib.hid (show ∀ r, OnKeyR D o ok r ↔ if ok ≠ 0 then r = (ok, (0, 0), D.pend) else ∃ ids, IdsOf (D.state.mv (o.obj, o.key, (0, 0))) ids ∧ r = addV D o (D.state.mv (o.obj, o.key, (0, 0))) ids from fun r => by unfold OnKeyR; rw [HKE.out, if_neg (by simp)])
    by_cases hok : ok = 0
    · subst hok
      rw [errC_zero]
      have HKS := Lib.hid (show ∀ W, Below w2.heap.size w2 W → W.cell? ⟨w.heap.size, 0, none⟩ = some (.int .i64 o.kind) ∧ W.cell? ⟨w.heap.size, 1, none⟩ = some (.int .i64 o.obj.1) ∧ W.cell? ⟨w.heap.size, 2, none⟩ = some (.int .i64 o.obj.2) ∧ W.cell? ⟨w.heap.size, 3, none⟩ = some (.string o.key) ∧ W.cell? ⟨w.heap.size, 4, none⟩ = some (.int .i64 o.elem.1) ∧ W.cell? ⟨w.heap.size, 5, none⟩ = some (.int .i64 o.elem.2) ∧ W.cell? ⟨w.heap.size, 6, none⟩ = some (.bool o.ins) ∧ W.cell? ⟨w.heap.size, 7, none⟩ = some (.int .i64 o.val.k) ∧ W.cell? ⟨w.heap.size, 8, none⟩ = some (.int .i64 o.val.n) ∧ W.cell? ⟨w.heap.size, 9, none⟩ = some (.string o.val.s) ∧ W.cell? ⟨w.heap.size, 10, none⟩ = some (.int .i64 o.val.o) ∧ W.cell? ⟨w.heap.size, 11, none⟩ = some (.int .i64 o.val.p) ∧ W.cell? ⟨w.heap.size, 12, none⟩ = some (.slice none 0 0) from fun W hW => by
        have h := (H2.out.2.1.new hW).op
        exact ⟨h.cell 0, h.cell 1, h.cell 2, h.cell 3, h.cell 4, h.cell 5, h.cell 6, h.cell 7, h.cell 8, h.cell 9, h.cell 10, h.cell 11, h.cell 12⟩)
      obtain ⟨b0, b1, b2, b3, b4, b5, b6, b7, b8, b9, b10, b11, b12⟩ := HKS.out w2 (Below.refl _ _)
      have HWK := Lib.hid (show whOk (o.obj, o.key, (0, 0)) from ⟨HH.out.2.2.obj, HH.out.2.2.key, i2_zk⟩)
      have HKY := Lib.hid (stKey_any B sb kb vb ib lb N D.state o.obj o.key w2.drew (H2.out.1.below (Below.refl _ _).drew) HWK.out H1.out.2.1)
      go_upto_region 7 with (fail)
      go_region_held3 (fun w' => w'.cell? ⟨w.heap.size, 0, none⟩ = some (.int .i64 o.kind) ∧ w'.cell? ⟨w.heap.size, 1, none⟩ = some (.int .i64 o.obj.1) ∧ w'.cell? ⟨w.heap.size, 2, none⟩ = some (.int .i64 o.obj.2) ∧ w'.cell? ⟨w.heap.size, 3, none⟩ = some (.string o.key) ∧ w'.cell? ⟨w.heap.size, 4, none⟩ = some (.int .i64 o.elem.1) ∧ w'.cell? ⟨w.heap.size, 5, none⟩ = some (.int .i64 o.elem.2) ∧ w'.cell? ⟨w.heap.size, 6, none⟩ = some (.bool o.ins) ∧ w'.cell? ⟨w.heap.size, 7, none⟩ = some (.int .i64 o.val.k) ∧ w'.cell? ⟨w.heap.size, 8, none⟩ = some (.int .i64 o.val.n) ∧ w'.cell? ⟨w.heap.size, 9, none⟩ = some (.string o.val.s) ∧ w'.cell? ⟨w.heap.size, 10, none⟩ = some (.int .i64 o.val.o) ∧ w'.cell? ⟨w.heap.size, 11, none⟩ = some (.int .i64 o.val.p) ∧ w'.cell? ⟨w.heap.size, 12, none⟩ = some (.slice none 0 0))
        (first | (with_reducible exact HKS.out _ (Below.refl _ w2).drew) | (with_reducible exact HKS.out _ HB3.out) | (with_reducible exact HKT.out) | go_keep) (first
        | (go_simp
           go_at_call 26
           (with_reducible refine HKY.out.mono ?_)
           (rintro e w3 ⟨ids, A1, A2, c1, c2, rfl, h2, h3, h4, h5, h6, h7⟩)
           have HB3 := Lib.hid (show Below w2.heap.size w2 w3 from (Below.refl w2.heap.size w2).drew.trans h6)
           have HE := Lib.hid (And.intro h2 (And.intro h3 (And.intro h4 h5)))
           clear h2 h3 h4 h5 h6 h7)
        | (go_simp
           go_at_call 31
           (with_reducible refine (docAdd_any (fun i => K i ∧ i < w.heap.size) db D o (o.obj, o.key, (0, 0)) (D.state.mv (o.obj, o.key, (0, 0))) ids A1 A2 c1 c2 w3 (H2.out.2.2.below HB3.out) HH.out.2.2 HE.out.2.1 HE.out.2.2.1 HE.out.1.i2 (Nat.le_trans HE.out.2.2.2 H1.out.2.1)).mono ?_)
           (rintro e w4 ⟨rfl, hD4, ho4⟩)
           have HKT := Lib.hid (onKey_keep (H2.out.2.1.new HB3.out) ho4)
           have hR4 := ((H2.out.2.1.new HB3.out).far ho4).2
           have HR4 := Lib.hid hR4
           have z0 := hR4.frozen
           have i0 := hR4.cell 0
           have i1 := hR4.cell 1
           simp only [List.getElem?_toArray, List.getElem?_cons_zero, List.getElem?_cons_succ] at i0 i1
           have HA := Lib.hid (show AddQ w3 (fun i => K i ∧ i < w.heap.size) db D (addV D o (D.state.mv (o.obj, o.key, (0, 0))) ids) _ w4 from ⟨rfl, hD4, ho4⟩)
           clear hD4 ho4 hR4))
      all_goals
        clear b0 b1 b2 b3 b4 b5 b6 b7 b8 b9 b10 b11 b12
        go_wp2_with fail
        refine bodyPost_ret (results_rowd2 Tryz.results15 _ _ (w.heap.size + 1) _ _ _ rfl (blkS2 _ _ HR4.out) Tryz.underlying24 rfl (by kernel_rfl)) rfl ?_
        refine ⟨_, (HRR.out _).2 (by rw [if_neg (by simp)]; exact ⟨ids, HE.out.1, rfl⟩), ?_⟩
        exact onKey_end (H2.out.2.1.new HB3.out).bel (H2.out.2.1.new HB3.out).id.lt HA.out _ _
    · have hokn : errC ok = .iface 61 (.int .i64 ok) := errC_ne hok
      rw [hokn]
      have HE := Lib.hid (And.intro hok hokn)
      clear hok hokn
      have z0 := H2.out.2.1.id.frozen
      have i0 := H2.out.2.1.id.cell 0
      have i1 := H2.out.2.1.id.cell 1
      simp only [List.getElem?_toArray, List.getElem?_cons_zero, List.getElem?_cons_succ] at i0 i1
      go_wp2_with fail
      refine bodyPost_ret (results_rowd2 Tryz.results15 _ _ (w.heap.size + 1) _ _ _ rfl (blkS2 (.int .i64 0) (.int .i64 0) H2.out.2.1.id) Tryz.underlying24 rfl (by kernel_rfl)) rfl ?_
      refine ⟨(ok, (0, 0), D.pend), (HRR.out _).2 (by rw [if_pos HE.out.1]), ?_⟩
      rw [show Value.tuple #[.agg #[.int .i64 0, .int .i64 0], _] = .tuple #[.agg #[.int .i64 0, .int .i64 0], errC ok] from by rw [HE.out.2]; rfl]
      exact onKey_err HH.out.1 H2.out.2.1
  · have hkn : errC kE = .iface 61 (.int .i64 kE) := errC_ne hk0
    rw [hkn]
    have HE := Lib.hid (And.intro hk0 hkn)
    clear hk0 hkn
    have z0 := H2.out.2.1.id.frozen
    have i0 := H2.out.2.1.id.cell 0
    have i1 := H2.out.2.1.id.cell 1
    simp only [List.getElem?_toArray, List.getElem?_cons_zero, List.getElem?_cons_succ] at i0 i1
    go_wp2_with fail
    refine bodyPost_ret (results_rowd2 Tryz.results15 _ _ (w.heap.size + 1) _ _ _ rfl (blkS2 (.int .i64 0) (.int .i64 0) H2.out.2.1.id) Tryz.underlying24 rfl (by kernel_rfl)) rfl ?_
    refine ⟨(kE, (0, 0), D.pend), by unfold OnKeyR; rw [HKE.out, if_pos HE.out.1], ?_⟩
    rw [show Value.tuple #[.agg #[.int .i64 0, .int .i64 0], _] = .tuple #[.agg #[.int .i64 0, .int .i64 0], errC kE] from by rw [HE.out.2]; rfl]
    exact onKey_err HH.out.1 H2.out.2.1
end Go.Proofs.YthimkpkoimfkiaaGreat
