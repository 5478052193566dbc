/- doc.Doc.onKey: a contract. doc.Doc.Put, Make, Add: contracts. -/
import Derived.Test.YteknflimfdkhoaaGreatDg30
import Derived.Test.YteknflimfdkhoaaGreatDg31
namespace Go.Proofs.YteknflimfdkhoaaGreat
open Go.RowKit Go.Maps Go.Sort
set_option linter.unusedVariables false
set_option linter.unusedSimpArgs false

theorem i2_zk : I2 (0, 0) := ⟨⟨by decide, by decide⟩, ⟨by decide, by decide⟩⟩
/-- What onKey comes to. -/
def OnKeyR (D : DocV) (o : OpV) (ok : Int) (r : Int × (Int × Int) × List OpV) : Prop :=
  if keyedE D.state o.obj o.key ≠ 0 then r = (keyedE D.state o.obj o.key, (0, 0), D.pend)
  else if ok ≠ 0 then r = (ok, (0, 0), D.pend)
  else ∃ ids, IdsOf (D.state.mv (o.obj, o.key, (0, 0))) ids ∧ r = addV D o (D.state.mv (o.obj, o.key, (0, 0))) ids
theorem DocA.bound {w : World} {K : Nat → Prop} {db : Nat} {D : DocV} (H : DocA w K db D) : DocA w (fun i => K i ∧ i < w.heap.size) db D := H.mono (fun i hi k => ⟨k, hi⟩)
def OnKeyQ (w : World) (K : Nat → Prop) (db : Nat) (D : DocV) (o : OpV) (ok : Int) (e : Ending) (w' : World) : Prop := ∃ r, OnKeyR D o ok r ∧ AddQ w K db D r e w'
/-- The boxes of onKey. -/
structure OkB (w : World) (o : OpV) (W : World) : Prop where
  bel : Below w.heap.size w W
  op : Blk W w.heap.size 51 #[.int .i64 o.kind, .int .i64 o.obj.1, .int .i64 o.obj.2, .string o.key, .int .i64 o.elem.1, .int .i64 o.elem.2, .bool o.ins, .int .i64 o.val.k, .int .i64 o.val.n, .string o.val.s, .int .i64 o.val.o, .int .i64 o.val.p, .slice none 0 0]
  id : Blk W (w.heap.size + 1) 24 #[.int .i64 0, .int .i64 0]
theorem OkB.new {w W W' : World} {o : OpV} (h : OkB w o W) (hb : Below W.heap.size W W') : OkB w o W' :=
  ⟨h.bel.trans (hb.mono h.bel.size), h.op.below hb h.op.lt, h.id.below hb h.id.lt⟩
/-- The end of an error. -/
theorem onKey_err {w W : World} {K : Nat → Prop} {db : Nat} {D : DocV} {o : OpV} {n : Int} (H : DocA w K db D) (hB : OkB w o W) :
    AddQ w K db D (n, (0, 0), D.pend) (.returned (.tuple #[.agg #[.int .i64 0, .int .i64 0], errC n])) ((W.setCell ⟨w.heap.size + 1, 0, none⟩ (.int .i64 0)).setCell ⟨w.heap.size + 1, 1, none⟩ (.int .i64 0)) :=
  addQ_err H (hB.bel.trans ((onlyS2 W (w.heap.size + 1) _ _ 0 1).below hB.bel.size (fun k hk e => by have e : k = w.heap.size + 1 := e; omega)))
/-- The end behind add. -/
theorem onKey_end {w W W2 : World} {K : Nat → Prop} {db : Nat} {D : DocV} {r : Int × (Int × Int) × List OpV} {e : Ending} (hb : Below w.heap.size w W) (hz : w.heap.size + 2 ≤ W.heap.size) (h : AddQ W (fun i => K i ∧ i < w.heap.size) db D r e W2) (c0 c1 : Value) :
    AddQ w K db D r e ((W2.setCell ⟨w.heap.size + 1, 0, none⟩ c0).setCell ⟨w.heap.size + 1, 1, none⟩ c1) := by
  obtain ⟨h1, h2, h3⟩ := h
  have ho := onlyS2 W2 (w.heap.size + 1) c0 c1 0 1
  refine ⟨h1, (h2.other ho (fun i hi e k => ?_)).mono (fun i hi k => ?_), ?_⟩
  · have e : i = w.heap.size + 1 := e
    rcases k with k | k
    · omega
    · omega
  · rcases k.1 with k | k
    · exact .inl k.1
    · exact .inr (by omega)
  · exact ((Only.of_below (S := K) hb).chain h3 (fun i hi e => e.1)).chain ho (fun i hi e => by have e : i = w.heap.size + 1 := e; omega)
theorem OkB.far {w W W2 : World} {K : Nat → Prop} {o : OpV} (h : OkB w o W) (ho : Only (fun i => K i ∧ i < w.heap.size) W W2) : Blk W2 w.heap.size 51 #[.int .i64 o.kind, .int .i64 o.obj.1, .int .i64 o.obj.2, .string o.key, .int .i64 o.elem.1, .int .i64 o.elem.2, .bool o.ins, .int .i64 o.val.k, .int .i64 o.val.n, .string o.val.s, .int .i64 o.val.o, .int .i64 o.val.p, .slice none 0 0] ∧ Blk W2 (w.heap.size + 1) 24 #[.int .i64 0, .int .i64 0] :=
  ⟨h.op.only ho (fun e => by have := e.2; omega), h.id.only ho (fun e => by have := e.2; omega)⟩
theorem onKey_keep {w W W2 : World} {K : Nat → Prop} {o : OpV} (h : OkB w o W) (ho : Only (fun i => K i ∧ i < w.heap.size) W W2) : W2.cell? ⟨w.heap.size, 0, none⟩ = some (.int .i64 o.kind) ∧ W2.cell? ⟨w.heap.size, 1, none⟩ = some (.int .i64 o.obj.1) ∧ W2.cell? ⟨w.heap.size, 2, none⟩ = some (.int .i64 o.obj.2) ∧ W2.cell? ⟨w.heap.size, 3, none⟩ = some (.string o.key) ∧ W2.cell? ⟨w.heap.size, 4, none⟩ = some (.int .i64 o.elem.1) ∧ W2.cell? ⟨w.heap.size, 5, none⟩ = some (.int .i64 o.elem.2) ∧ W2.cell? ⟨w.heap.size, 6, none⟩ = some (.bool o.ins) ∧ W2.cell? ⟨w.heap.size, 7, none⟩ = some (.int .i64 o.val.k) ∧ W2.cell? ⟨w.heap.size, 8, none⟩ = some (.int .i64 o.val.n) ∧ W2.cell? ⟨w.heap.size, 9, none⟩ = some (.string o.val.s) ∧ W2.cell? ⟨w.heap.size, 10, none⟩ = some (.int .i64 o.val.o) ∧ W2.cell? ⟨w.heap.size, 11, none⟩ = some (.int .i64 o.val.p) ∧ W2.cell? ⟨w.heap.size, 12, none⟩ = some (.slice none 0 0) := by
  have h := (h.far ho).1
  exact ⟨h.cell 0, h.cell 1, h.cell 2, h.cell 3, h.cell 4, h.cell 5, h.cell 6, h.cell 7, h.cell 8, h.cell 9, h.cell 10, h.cell 11, h.cell 12⟩
set_option maxRecDepth 100000 in
set_option maxHeartbeats 4000000 in
theorem docOnKey_any (K : Nat → Prop) (db : Nat) (D : DocV) (o : OpV) (ok : Int) (w : World) (H : DocA w K db D) (hni : D.noIns) (hf : o.Fit) :
    Calls Tryz.prog 29 #[.pointer (some ⟨db, 0, none⟩), .agg #[.int .i64 o.kind, .int .i64 o.obj.1, .int .i64 o.obj.2, .string o.key, .int .i64 o.elem.1, .int .i64 o.elem.2, .bool o.ins, .int .i64 o.val.k, .int .i64 o.val.n, .string o.val.s, .int .i64 o.val.o, .int .i64 o.val.p, .slice none 0 0], errC ok] w (OnKeyQ w K db D o ok) := by
  obtain ⟨W0, hW0⟩ : ∃ W0, W0 = (w.alloc (.cells #[.int .i64 o.kind, .int .i64 o.obj.1, .int .i64 o.obj.2, .string o.key, .int .i64 o.elem.1, .int .i64 o.elem.2, .bool o.ins, .int .i64 o.val.k, .int .i64 o.val.n, .string o.val.s, .int .i64 o.val.o, .int .i64 o.val.p, .slice none 0 0] 51)).alloc (.cells #[.int .i64 0, .int .i64 0] 24) := ⟨_, rfl⟩
  have hB0 : OkB w o W0 := by
    refine ⟨by rw [hW0]; exact ((Below.refl _ _).alloc (Nat.le_refl _) _).alloc (by simp) _, ?_, ?_⟩
    · rw [hW0]; exact (Blk.new w _ _).alloc _
    · rw [hW0]; exact Blk.newer _ _ _ (by simp)
  have HH := Lib.hid (And.intro H (And.intro hni hf))
  have HB0 := Lib.hid hB0
  have HD0 := Lib.hid (H.bound.below hB0.bel)
  have HW0 := Lib.hid hW0
  obtain ⟨kE, hkE⟩ : ∃ n, keyedE D.state o.obj o.key = n := ⟨_, rfl⟩
  have HKE := Lib.hid hkE
  clear H hni hf hB0 hW0 hkE
  go_enter Tryz.func29, Tryz.ntmps29
  go_upto_region 2 with (first
    | (go_at_call 23; rw [← HW0.out]; (with_reducible refine (docState_any _ db D W0 HD0.out).mono ?_); (rintro e w1 ⟨B, sb, kb, vb, ib, lb, N, rfl, hS, hN, hB1, hb1⟩); (have H1 := Lib.hid (And.intro hS (And.intro hN (And.intro (HB0.out.new hb1) (HD0.out.below hb1))))); (clear hS hB1 hb1)))
  have o1 : w1.cell? ⟨w.heap.size, 1, none⟩ = some (.int .i64 o.obj.1) := H1.out.2.2.1.op.cell 1
  have o2 : w1.cell? ⟨w.heap.size, 2, none⟩ = some (.int .i64 o.obj.2) := H1.out.2.2.1.op.cell 2
  have o3 : w1.cell? ⟨w.heap.size, 3, none⟩ = some (.string o.key) := H1.out.2.2.1.op.cell 3
  go_upto_region 3 with (first
    | (go_at_call 57; (with_reducible refine (keyed_any B sb kb vb ib lb N D.state o.obj o.key w1 H1.out.1 HH.out.2.2.obj HH.out.2.2.key).mono ?_); (rintro e w2 ⟨rfl, hb2⟩); rw [HKE.out]; (have H2 := Lib.hid (And.intro (H1.out.1.below hb2) (And.intro (H1.out.2.2.1.new hb2) (H1.out.2.2.2.below hb2)))); (clear hb2)))
  clear o1 o2 o3
  by_cases hk0 : kE = 0
  · subst hk0
    rw [errC_zero]
    have HRR := Lib.hid (show ∀ r, OnKeyR D o ok r ↔ if ok ≠ 0 then r = (ok, (0, 0), D.pend) else ∃ ids, IdsOf (D.state.mv (o.obj, o.key, (0, 0))) ids ∧ r = addV D o (D.state.mv (o.obj, o.key, (0, 0))) ids from fun r => by unfold OnKeyR; rw [HKE.out, if_neg (by simp)])
    by_cases hok : ok = 0
    · subst hok
      rw [errC_zero]
      have HKS := Lib.hid (show ∀ W, Below w2.heap.size w2 W → W.cell? ⟨w.heap.size, 0, none⟩ = some (.int .i64 o.kind) ∧ W.cell? ⟨w.heap.size, 1, none⟩ = some (.int .i64 o.obj.1) ∧ W.cell? ⟨w.heap.size, 2, none⟩ = some (.int .i64 o.obj.2) ∧ W.cell? ⟨w.heap.size, 3, none⟩ = some (.string o.key) ∧ W.cell? ⟨w.heap.size, 4, none⟩ = some (.int .i64 o.elem.1) ∧ W.cell? ⟨w.heap.size, 5, none⟩ = some (.int .i64 o.elem.2) ∧ W.cell? ⟨w.heap.size, 6, none⟩ = some (.bool o.ins) ∧ W.cell? ⟨w.heap.size, 7, none⟩ = some (.int .i64 o.val.k) ∧ W.cell? ⟨w.heap.size, 8, none⟩ = some (.int .i64 o.val.n) ∧ W.cell? ⟨w.heap.size, 9, none⟩ = some (.string o.val.s) ∧ W.cell? ⟨w.heap.size, 10, none⟩ = some (.int .i64 o.val.o) ∧ W.cell? ⟨w.heap.size, 11, none⟩ = some (.int .i64 o.val.p) ∧ W.cell? ⟨w.heap.size, 12, none⟩ = some (.slice none 0 0) from fun W hW => by
        have h := (H2.out.2.1.new hW).op
        exact ⟨h.cell 0, h.cell 1, h.cell 2, h.cell 3, h.cell 4, h.cell 5, h.cell 6, h.cell 7, h.cell 8, h.cell 9, h.cell 10, h.cell 11, h.cell 12⟩)
      obtain ⟨b0, b1, b2, b3, b4, b5, b6, b7, b8, b9, b10, b11, b12⟩ := HKS.out w2 (Below.refl _ _)
      have HWK := Lib.hid (show whOk (o.obj, o.key, (0, 0)) from ⟨HH.out.2.2.obj, HH.out.2.2.key, i2_zk⟩)
      have HKY := Lib.hid (stKey_any B sb kb vb ib lb N D.state o.obj o.key w2.drew (H2.out.1.below (Below.refl _ _).drew) HWK.out H1.out.2.1)
      go_upto_region 7 with (fail)
      go_region_held3 (fun w' => w'.cell? ⟨w.heap.size, 0, none⟩ = some (.int .i64 o.kind) ∧ w'.cell? ⟨w.heap.size, 1, none⟩ = some (.int .i64 o.obj.1) ∧ w'.cell? ⟨w.heap.size, 2, none⟩ = some (.int .i64 o.obj.2) ∧ w'.cell? ⟨w.heap.size, 3, none⟩ = some (.string o.key) ∧ w'.cell? ⟨w.heap.size, 4, none⟩ = some (.int .i64 o.elem.1) ∧ w'.cell? ⟨w.heap.size, 5, none⟩ = some (.int .i64 o.elem.2) ∧ w'.cell? ⟨w.heap.size, 6, none⟩ = some (.bool o.ins) ∧ w'.cell? ⟨w.heap.size, 7, none⟩ = some (.int .i64 o.val.k) ∧ w'.cell? ⟨w.heap.size, 8, none⟩ = some (.int .i64 o.val.n) ∧ w'.cell? ⟨w.heap.size, 9, none⟩ = some (.string o.val.s) ∧ w'.cell? ⟨w.heap.size, 10, none⟩ = some (.int .i64 o.val.o) ∧ w'.cell? ⟨w.heap.size, 11, none⟩ = some (.int .i64 o.val.p) ∧ w'.cell? ⟨w.heap.size, 12, none⟩ = some (.slice none 0 0))
        (first | (with_reducible exact HKS.out _ (Below.refl _ w2).drew) | (with_reducible exact HKS.out _ HB3.out) | (with_reducible exact HKT.out) | go_keep) (first
        | (go_simp
           go_at_call 58
           (with_reducible refine HKY.out.mono ?_)
           (rintro e w3 ⟨ids, A1, A2, c1, c2, rfl, h2, h3, h4, h5, h6, h7⟩)
           have HB3 := Lib.hid (show Below w2.heap.size w2 w3 from (Below.refl w2.heap.size w2).drew.trans h6)
           have HE := Lib.hid (And.intro h2 (And.intro h3 (And.intro h4 h5)))
           clear h2 h3 h4 h5 h6 h7)
        | (go_simp
           go_at_call 33
           (with_reducible refine (docAdd_any (fun i => K i ∧ i < w.heap.size) db D o (o.obj, o.key, (0, 0)) (D.state.mv (o.obj, o.key, (0, 0))) ids A1 A2 c1 c2 w3 (H2.out.2.2.below HB3.out) HH.out.2.2 HE.out.2.1 HE.out.2.2.1 HE.out.1.i2 (Nat.le_trans HE.out.2.2.2 H1.out.2.1)).mono ?_)
           (rintro e w4 ⟨rfl, hD4, ho4⟩)
           have HKT := Lib.hid (onKey_keep (H2.out.2.1.new HB3.out) ho4)
           have hR4 := ((H2.out.2.1.new HB3.out).far ho4).2
           have HR4 := Lib.hid hR4
           have z0 := hR4.frozen
           have i0 := hR4.cell 0
           have i1 := hR4.cell 1
           simp only [List.getElem?_toArray, List.getElem?_cons_zero, List.getElem?_cons_succ] at i0 i1
           have HA := Lib.hid (show AddQ w3 (fun i => K i ∧ i < w.heap.size) db D (addV D o (D.state.mv (o.obj, o.key, (0, 0))) ids) _ w4 from ⟨rfl, hD4, ho4⟩)
           clear hD4 ho4 hR4))
      all_goals
        clear b0 b1 b2 b3 b4 b5 b6 b7 b8 b9 b10 b11 b12
        go_wp2_with fail
        refine bodyPost_ret (results_rowd2 Tryz.results29 _ _ (w.heap.size + 1) _ _ _ rfl (blkS2 _ _ HR4.out) Tryz.underlying24 rfl (by kernel_rfl)) rfl ?_
        refine ⟨_, (HRR.out _).2 (by rw [if_neg (by simp)]; exact ⟨ids, HE.out.1, rfl⟩), ?_⟩
        exact onKey_end (H2.out.2.1.new HB3.out).bel (H2.out.2.1.new HB3.out).id.lt HA.out _ _
    · have hokn : errC ok = .iface 59 (.int .i64 ok) := errC_ne hok
      rw [hokn]
      have HE := Lib.hid (And.intro hok hokn)
      clear hok hokn
      have z0 := H2.out.2.1.id.frozen
      have i0 := H2.out.2.1.id.cell 0
      have i1 := H2.out.2.1.id.cell 1
      simp only [List.getElem?_toArray, List.getElem?_cons_zero, List.getElem?_cons_succ] at i0 i1
      go_wp2_with fail
      refine bodyPost_ret (results_rowd2 Tryz.results29 _ _ (w.heap.size + 1) _ _ _ rfl (blkS2 (.int .i64 0) (.int .i64 0) H2.out.2.1.id) Tryz.underlying24 rfl (by kernel_rfl)) rfl ?_
      refine ⟨(ok, (0, 0), D.pend), (HRR.out _).2 (by rw [if_pos HE.out.1]), ?_⟩
      rw [show Value.tuple #[.agg #[.int .i64 0, .int .i64 0], _] = .tuple #[.agg #[.int .i64 0, .int .i64 0], errC ok] from by rw [HE.out.2]; rfl]
      exact onKey_err HH.out.1 H2.out.2.1
  · have hkn : errC kE = .iface 59 (.int .i64 kE) := errC_ne hk0
    rw [hkn]
    have HE := Lib.hid (And.intro hk0 hkn)
    clear hk0 hkn
    have z0 := H2.out.2.1.id.frozen
    have i0 := H2.out.2.1.id.cell 0
    have i1 := H2.out.2.1.id.cell 1
    simp only [List.getElem?_toArray, List.getElem?_cons_zero, List.getElem?_cons_succ] at i0 i1
    go_wp2_with fail
    refine bodyPost_ret (results_rowd2 Tryz.results29 _ _ (w.heap.size + 1) _ _ _ rfl (blkS2 (.int .i64 0) (.int .i64 0) H2.out.2.1.id) Tryz.underlying24 rfl (by kernel_rfl)) rfl ?_
    refine ⟨(kE, (0, 0), D.pend), by unfold OnKeyR; rw [HKE.out, if_pos HE.out.1], ?_⟩
    rw [show Value.tuple #[.agg #[.int .i64 0, .int .i64 0], _] = .tuple #[.agg #[.int .i64 0, .int .i64 0], errC kE] from by rw [HE.out.2]; rfl]
    exact onKey_err HH.out.1 H2.out.2.1
end Go.Proofs.YteknflimfdkhoaaGreat
namespace Go.Proofs.YteknflimfdkhoaaGreat
open Go.RowKit Go.Maps Go.Sort
set_option linter.unusedVariables false
set_option linter.unusedSimpArgs false

def DPutQ (w : World) (K : Nat → Prop) (db : Nat) (D : DocV) (o : OpV) (ok : Int) (e : Ending) (w' : World) : Prop :=
  ∃ r, OnKeyR D o ok r ∧ e = .returned (errC r.1) ∧ DocA w' (fun i => K i ∨ w.heap.size ≤ i) db { D with pend := r.2.2 } ∧ Only K w w'
theorem addQ_up {w W W2 : World} {K : Nat → Prop} {db : Nat} {D : DocV} {r : Int × (Int × Int) × List OpV} {e : Ending} (hb : Below w.heap.size w W) (h : AddQ W (fun i => K i ∧ i < w.heap.size) db D r e W2) :
    DocA W2 (fun i => K i ∨ w.heap.size ≤ i) db { D with pend := r.2.2 } ∧ Only K w W2 := by
  obtain ⟨h1, h2, h3⟩ := h
  refine ⟨h2.mono (fun i hi k => ?_), (Only.of_below (S := K) hb).chain h3 (fun i hi e => e.1)⟩
  rcases k with k | k
  · exact .inl k.1
  · exact .inr (Nat.le_trans hb.size k)
/-- .. and something is stored into a box of the call's own. -/
theorem put_end {w W W2 : World} {K : Nat → Prop} {db g : Nat} {D : DocV} {r : Int × (Int × Int) × List OpV} {e : Ending} (hb : Below w.heap.size w W) (hg : w.heap.size ≤ g) (hgW : g < W.heap.size) (h : AddQ W (fun i => K i ∧ i < w.heap.size) db D r e W2) (c0 c1 : Value) :
    DocA ((W2.setCell ⟨g, 0, none⟩ c0).setCell ⟨g, 1, none⟩ c1) (fun i => K i ∨ w.heap.size ≤ i) db { D with pend := r.2.2 } ∧ Only K w ((W2.setCell ⟨g, 0, none⟩ c0).setCell ⟨g, 1, none⟩ c1) := by
  obtain ⟨h1, h2, h3⟩ := h
  have ho := onlyS2 W2 g c0 c1 0 1
  refine ⟨(h2.other ho (fun i hi e k => ?_)).mono (fun i hi k => ?_), ?_⟩
  · have e : i = g := e
    rcases k with k | k
    · omega
    · omega
  · rcases k.1 with k | k
    · exact .inl k.1
    · exact .inr (Nat.le_trans hb.size k)
  · exact ((Only.of_below (S := K) hb).chain h3 (fun i hi e => e.1)).chain ho (fun i hi e => by have e : i = g := e; omega)
def putOp (obj : Int × Int) (key : ByteArray) (v : JV) : OpV := ⟨1, obj, key, (0, 0), false, v, []⟩
def makeOp (obj : Int × Int) (key : ByteArray) (k : Int) : OpV := ⟨2, obj, key, (0, 0), false, ⟨k, 0, ⟨#[]⟩, 0, 0⟩, []⟩
def incOp (obj : Int × Int) (key : ByteArray) (n : Int) : OpV := ⟨4, obj, key, (0, 0), false, ⟨2, n, ⟨#[]⟩, 0, 0⟩, []⟩
theorem i64_0 : I64 0 := ⟨by decide, by decide⟩
theorem putOp_fit {obj : Int × Int} {key : ByteArray} {v : JV} (h1 : I2 obj) (h2 : key.size ≤ maxLen) (h3 : v.Fit) : (putOp obj key v).Fit := ⟨⟨by show (-9223372036854775808 : Int) ≤ 1; decide, by show (1 : Int) ≤ 9223372036854775807; decide⟩, h1, h2, ⟨i64_0, i64_0⟩, h3, fun p hp => (by cases hp), Nat.zero_le _⟩
set_option maxRecDepth 100000 in
set_option maxHeartbeats 4000000 in
theorem docPut_any (K : Nat → Prop) (db : Nat) (D : DocV) (obj : Int × Int) (key : ByteArray) (v : JV) (w : World) (H : DocA w K db D) (hni : D.noIns) (hob : I2 obj) (hks : key.size ≤ maxLen) (hv : v.Fit) :
    Calls Tryz.prog 12 #[.pointer (some ⟨db, 0, none⟩), .agg #[.int .i64 obj.1, .int .i64 obj.2], .string key, .agg #[.int .i64 v.k, .int .i64 v.n, .string v.s, .int .i64 v.o, .int .i64 v.p]] w (DPutQ w K db D (putOp obj key v) (plainE v)) := by
  obtain ⟨W0, hW0⟩ : ∃ W0, W0 = (w.alloc (.cells #[.int .i64 obj.1, .int .i64 obj.2] 24)).alloc (.cells #[.int .i64 v.k, .int .i64 v.n, .string v.s, .int .i64 v.o, .int .i64 v.p] 31) := ⟨_, rfl⟩
  have hb0 : Below w.heap.size w W0 := by rw [hW0]; exact ((Below.refl _ _).alloc (Nat.le_refl _) _).alloc (by simp) _
  have hI0 : Blk W0 w.heap.size 24 #[.int .i64 obj.1, .int .i64 obj.2] := by rw [hW0]; exact (Blk.new w _ _).alloc _
  have hV0 : Blk W0 (w.heap.size + 1) 31 #[.int .i64 v.k, .int .i64 v.n, .string v.s, .int .i64 v.o, .int .i64 v.p] := by rw [hW0]; exact Blk.newer _ _ _ (by simp)
  have HD0 := Lib.hid (H.bound.below hb0)
  have HF := Lib.hid (And.intro (putOp_fit hob hks hv) hni)
  have HS := Lib.hid (show ∀ W, Only (fun i => K i ∧ i < w.heap.size) W0 W → (W.cell? ⟨w.heap.size, 0, none⟩ = some (.int .i64 obj.1) ∧ W.cell? ⟨w.heap.size, 1, none⟩ = some (.int .i64 obj.2) ∧ W.cell? ⟨w.heap.size + 1, 0, none⟩ = some (.int .i64 v.k) ∧ W.cell? ⟨w.heap.size + 1, 1, none⟩ = some (.int .i64 v.n) ∧ W.cell? ⟨w.heap.size + 1, 2, none⟩ = some (.string v.s) ∧ W.cell? ⟨w.heap.size + 1, 3, none⟩ = some (.int .i64 v.o) ∧ W.cell? ⟨w.heap.size + 1, 4, none⟩ = some (.int .i64 v.p)) from fun W hW => by
    have hI := hI0.only hW (fun e => by have := e.2; omega)
    have hV := hV0.only hW (fun e => by have := e.2; omega)
    exact ⟨hI.cell 0, hI.cell 1, hV.cell 0, hV.cell 1, hV.cell 2, hV.cell 3, hV.cell 4⟩)
  have HT := Lib.hid (show ∀ W W2 g c0 c1, Only (fun i => K i ∧ i < w.heap.size) W0 W → W0.heap.size ≤ g → W2 = ((W.setCell ⟨g, 0, none⟩ c0).setCell ⟨g, 1, none⟩ c1) → (W2.cell? ⟨w.heap.size, 0, none⟩ = some (.int .i64 obj.1) ∧ W2.cell? ⟨w.heap.size, 1, none⟩ = some (.int .i64 obj.2) ∧ W2.cell? ⟨w.heap.size + 1, 0, none⟩ = some (.int .i64 v.k) ∧ W2.cell? ⟨w.heap.size + 1, 1, none⟩ = some (.int .i64 v.n) ∧ W2.cell? ⟨w.heap.size + 1, 2, none⟩ = some (.string v.s) ∧ W2.cell? ⟨w.heap.size + 1, 3, none⟩ = some (.int .i64 v.o) ∧ W2.cell? ⟨w.heap.size + 1, 4, none⟩ = some (.int .i64 v.p)) from fun W W2 g c0 c1 hW hg e => by
    subst e
    have hl := hV0.lt
    have ho := onlyS2 W g c0 c1 0 1
    have hI := (hI0.only hW (fun e => by have := e.2; omega)).only ho (fun e => by have e : w.heap.size = g := e; omega)
    have hV := (hV0.only hW (fun e => by have := e.2; omega)).only ho (fun e => by have e : w.heap.size + 1 = g := e; omega)
    exact ⟨hI.cell 0, hI.cell 1, hV.cell 0, hV.cell 1, hV.cell 2, hV.cell 3, hV.cell 4⟩)
  have HB0 := Lib.hid hb0
  have HW0 := Lib.hid hW0
  obtain ⟨pe, hpe⟩ : ∃ n, plainE v = n := ⟨_, rfl⟩
  have HPE := Lib.hid hpe
  rw [hpe]
  have HOK := Lib.hid (show ∀ W, Below W0.heap.size W0 W → Calls Tryz.prog 29 #[.pointer (some ⟨db, 0, none⟩), .agg #[.int .i64 1, .int .i64 obj.1, .int .i64 obj.2, .string key, .int .i64 0, .int .i64 0, .bool false, .int .i64 v.k, .int .i64 v.n, .string v.s, .int .i64 v.o, .int .i64 v.p, .slice none 0 0], errC pe] W (OnKeyQ W (fun i => K i ∧ i < w.heap.size) db D (putOp obj key v) pe) from fun W hW => docOnKey_any _ db D (putOp obj key v) pe W (HD0.out.below hW) HF.out.2 HF.out.1)
  obtain ⟨p0, p1, p2, p3, p4, p5, p6⟩ := HS.out W0 (Only.refl _ _)
  clear H hni hob hks hv hb0 hI0 hV0 hW0 hpe
  go_enter Tryz.func12, Tryz.ntmps12
  go_upto_region 1 with (fail)
  rw [← HW0.out]
  go_region_held3 (fun w' => w'.cell? ⟨w.heap.size, 0, none⟩ = some (.int .i64 obj.1) ∧ w'.cell? ⟨w.heap.size, 1, none⟩ = some (.int .i64 obj.2) ∧ w'.cell? ⟨w.heap.size + 1, 0, none⟩ = some (.int .i64 v.k) ∧ w'.cell? ⟨w.heap.size + 1, 1, none⟩ = some (.int .i64 v.n) ∧ w'.cell? ⟨w.heap.size + 1, 2, none⟩ = some (.string v.s) ∧ w'.cell? ⟨w.heap.size + 1, 3, none⟩ = some (.int .i64 v.o) ∧ w'.cell? ⟨w.heap.size + 1, 4, none⟩ = some (.int .i64 v.p))
    (first | (with_reducible exact HS.out _ (Only.refl _ W0).drew) | (with_reducible exact HS.out _ ((Only.refl _ W0).alloc _).drew) | (with_reducible exact HS.out _ hoW1) | (with_reducible exact HS.out _ (hoW1.alloc _)) | (with_reducible exact HS.out _ hoW2) | (with_reducible exact HS.out _ (hoW2.alloc _)) | (with_reducible exact HT.out _ _ _ _ _ hoW2 HB1.out.size rfl) | (with_reducible exact HT.out _ _ _ _ _ hoW2 (Nat.le_refl _) rfl) | go_keep) (first
    | (go_simp
       go_at_call 15
       (with_reducible refine (docPlain_any v W0.drew).mono ?_)
       (rintro e w1 ⟨rfl, hb1⟩)
       rw [HPE.out]
       have hb1 : Below W0.heap.size W0 w1 := (Below.refl W0.heap.size W0).drew.trans hb1
       have hoW1 : Only (fun i => K i ∧ i < w.heap.size) W0 w1 := Only.of_below hb1
       have HB1 := Lib.hid hb1
       have HBA := Lib.hid (hb1.alloc hb1.size (.cells #[.int .i64 0, .int .i64 0] 24))
       clear hb1)
    | (go_simp
       go_at_call 15
       (with_reducible refine (docPlain_any v (W0.alloc (.cells #[.int .i64 0, .int .i64 0] 24)).drew).mono ?_)
       (rintro e w1 ⟨rfl, hb1⟩)
       rw [HPE.out]
       have hbx : Blk w1 W0.heap.size 24 #[.int .i64 0, .int .i64 0] := (show Blk (W0.alloc (.cells #[.int .i64 0, .int .i64 0] 24)).drew W0.heap.size _ _ from Blk.new W0 _ _).below hb1 (by simp)
       have hb1 : Below W0.heap.size W0 w1 := ((Below.refl W0.heap.size W0).alloc (Nat.le_refl _) (.cells #[.int .i64 0, .int .i64 0] 24)).drew.trans (hb1.mono (by simp))
       have hoW1 : Only (fun i => K i ∧ i < w.heap.size) W0 w1 := Only.of_below hb1
       have HBX := Lib.hid hbx
       have HB1 := Lib.hid hb1
       clear hb1 hbx)
    | (go_simp
       go_at_call 29
       (with_reducible refine (HOK.out _ HBA.out).mono ?_)
       (rintro e w2 ⟨r, hr, rfl, hD2, ho2⟩)
       have hoW2 : Only (fun i => K i ∧ i < w.heap.size) W0 w2 := (hoW1.alloc _).chain ho2 (fun i hi e => e)
       have hR4 : Blk w2 w1.heap.size 24 #[.int .i64 0, .int .i64 0] := (Blk.new w1 _ _).only ho2 (fun e => by have := e.2; have := HB0.out.size; have := HB1.out.size; omega)
       have z0 := hR4.frozen
       have i0 := hR4.cell 0
       have i1 := hR4.cell 1
       simp only [List.getElem?_toArray, List.getElem?_cons_zero, List.getElem?_cons_succ] at i0 i1
       have HR := Lib.hid (And.intro hr (show AddQ (w1.alloc (.cells #[.int .i64 0, .int .i64 0] 24)) (fun i => K i ∧ i < w.heap.size) db D r _ w2 from ⟨rfl, hD2, ho2⟩))
       clear hr hD2 ho2 hR4)
    | (go_simp
       go_at_call 29
       (with_reducible refine (HOK.out w1 HB1.out).mono ?_)
       (rintro e w2 ⟨r, hr, rfl, hD2, ho2⟩)
       have hoW2 : Only (fun i => K i ∧ i < w.heap.size) W0 w2 := hoW1.chain ho2 (fun i hi e => e)
       have hR4 : Blk w2 W0.heap.size 24 #[.int .i64 0, .int .i64 0] := HBX.out.only ho2 (fun e => by have := e.2; have := HB0.out.size; have := HB1.out.size; omega)
       have z0 := hR4.frozen
       have i0 := hR4.cell 0
       have i1 := hR4.cell 1
       simp only [List.getElem?_toArray, List.getElem?_cons_zero, List.getElem?_cons_succ] at i0 i1
       have HR := Lib.hid (And.intro hr (show AddQ w1 (fun i => K i ∧ i < w.heap.size) db D r _ w2 from ⟨rfl, hD2, ho2⟩))
       clear hr hD2 ho2 hR4)
    | (go_simp
       go_at_call 29
       (with_reducible refine (HOK.out w1 HB1.out).mono ?_)
       (rintro e w2 ⟨r, hr, rfl, hD2, ho2⟩)
       have hoW2 : Only (fun i => K i ∧ i < w.heap.size) W0 w2 := hoW1.chain ho2 (fun i hi e => e)
       have HR := Lib.hid (And.intro hr (show AddQ w1 (fun i => K i ∧ i < w.heap.size) db D r _ w2 from ⟨rfl, hD2, ho2⟩))
       clear hr hD2 ho2))
  all_goals
    go_wp2_with fail
    go_ret
    have hz : (w1.alloc (.cells #[.int .i64 0, .int .i64 0] 24)).heap.size = w1.heap.size + 1 := by simp
    have hz0 : W0.heap.size < (W0.alloc (.cells #[.int .i64 0, .int .i64 0] 24)).heap.size := by simp
    first
      | (obtain ⟨h2, h3⟩ := put_end (HB0.out.trans (HBA.out.mono HB0.out.size)) (Nat.le_trans HB0.out.size HB1.out.size) (show w1.heap.size < _ from by omega) HR.out.2 (.int .i64 r.2.1.1) (.int .i64 r.2.1.2)
         exact ⟨r, HR.out.1, rfl, h2, h3⟩)
      | (obtain ⟨h2, h3⟩ := put_end (HB0.out.trans (HB1.out.mono HB0.out.size)) HB0.out.size HBX.out.lt HR.out.2 (.int .i64 r.2.1.1) (.int .i64 r.2.1.2)
         exact ⟨r, HR.out.1, rfl, h2, h3⟩)
      | (obtain ⟨h2, h3⟩ := addQ_up (HB0.out.trans (HB1.out.mono HB0.out.size)) HR.out.2
         have hbl : Below w2.heap.size w2 (w2.alloc (.cells #[.int .i64 r.2.1.1, .int .i64 r.2.1.2] 24)) := (Below.refl _ _).alloc (Nat.le_refl _) _
         exact ⟨r, HR.out.1, rfl, h2.below hbl, h3.trans (Only.of_below hbl)⟩)
theorem i64_k : I64 2 ∧ I64 4 ∧ I64 1 := ⟨⟨by decide, by decide⟩, ⟨by decide, by decide⟩, ⟨by decide, by decide⟩⟩
theorem incOp_fit {obj : Int × Int} {key : ByteArray} {n : Int} (h1 : I2 obj) (h2 : key.size ≤ maxLen) (h3 : I64 n) : (incOp obj key n).Fit := ⟨i64_k.2.1, h1, h2, ⟨i64_0, i64_0⟩, ⟨i64_k.1, h3, Nat.zero_le _, i64_0, i64_0⟩, fun p hp => (by cases hp), Nat.zero_le _⟩
theorem makeOp_fit {obj : Int × Int} {key : ByteArray} {k : Int} (h1 : I2 obj) (h2 : key.size ≤ maxLen) (h3 : I64 k) : (makeOp obj key k).Fit := ⟨i64_k.1, h1, h2, ⟨i64_0, i64_0⟩, ⟨h3, i64_0, Nat.zero_le _, i64_0, i64_0⟩, fun p hp => (by cases hp), Nat.zero_le _⟩
set_option maxRecDepth 100000 in
set_option maxHeartbeats 4000000 in
theorem docMake_any (K : Nat → Prop) (db : Nat) (D : DocV) (obj : Int × Int) (key : ByteArray) (k : Int) (w : World) (H : DocA w K db D) (hni : D.noIns) (hob : I2 obj) (hks : key.size ≤ maxLen) (hv : I64 k) :
    Calls Tryz.prog 11 #[.pointer (some ⟨db, 0, none⟩), .agg #[.int .i64 obj.1, .int .i64 obj.2], .string key, .int .i64 k] w (OnKeyQ w K db D (makeOp obj key k) (objectE k)) := by
  obtain ⟨W0, hW0⟩ : ∃ W0, W0 = (w.alloc (.cells #[.int .i64 obj.1, .int .i64 obj.2] 24)).alloc (.cells #[.int .i64 0, .int .i64 0] 24) := ⟨_, rfl⟩
  have hb0 : Below w.heap.size w W0 := by rw [hW0]; exact ((Below.refl _ _).alloc (Nat.le_refl _) _).alloc (by simp) _
  have hI0 : Blk W0 w.heap.size 24 #[.int .i64 obj.1, .int .i64 obj.2] := by rw [hW0]; exact (Blk.new w _ _).alloc _
  have hR0 : Blk W0 (w.heap.size + 1) 24 #[.int .i64 0, .int .i64 0] := by rw [hW0]; exact Blk.newer _ _ _ (by simp)
  have HD0 := Lib.hid (H.bound.below hb0)
  have HF := Lib.hid (And.intro (makeOp_fit hob hks hv) hni)
  have HS := Lib.hid (show ∀ W, Only (fun i => K i ∧ i < w.heap.size) W0 W → (W.cell? ⟨w.heap.size, 0, none⟩ = some (.int .i64 obj.1) ∧ W.cell? ⟨w.heap.size, 1, none⟩ = some (.int .i64 obj.2)) from fun W hW => by
    have hI := hI0.only hW (fun e => by have := e.2; omega)
    exact ⟨hI.cell 0, hI.cell 1⟩)
  have HR0 := Lib.hid (show ∀ W, Only (fun i => K i ∧ i < w.heap.size) W0 W → Blk W (w.heap.size + 1) 24 #[.int .i64 0, .int .i64 0] from fun W hW => hR0.only hW (fun e => by have := e.2; omega))
  have HB0 := Lib.hid (And.intro hb0 hR0.lt)
  have HW0 := Lib.hid hW0
  obtain ⟨pe, hpe⟩ : ∃ n, objectE k = n := ⟨_, rfl⟩
  have HPE := Lib.hid hpe
  rw [hpe]
  have HOK := Lib.hid (show ∀ W, Below W0.heap.size W0 W → Calls Tryz.prog 29 #[.pointer (some ⟨db, 0, none⟩), .agg #[.int .i64 2, .int .i64 obj.1, .int .i64 obj.2, .string key, .int .i64 0, .int .i64 0, .bool false, .int .i64 k, .int .i64 0, .string ⟨#[]⟩, .int .i64 0, .int .i64 0, .slice none 0 0], errC pe] W (OnKeyQ W (fun i => K i ∧ i < w.heap.size) db D (makeOp obj key k) pe) from fun W hW => docOnKey_any _ db D (makeOp obj key k) pe W (HD0.out.below hW) HF.out.2 HF.out.1)
  obtain ⟨p0, p1⟩ := HS.out W0 (Only.refl _ _)
  clear H hni hob hks hv hb0 hI0 hR0 hW0 hpe
  go_enter Tryz.func11, Tryz.ntmps11
  go_upto_region 1 with (fail)
  rw [← HW0.out]
  go_region_held3 (fun w' => w'.cell? ⟨w.heap.size, 0, none⟩ = some (.int .i64 obj.1) ∧ w'.cell? ⟨w.heap.size, 1, none⟩ = some (.int .i64 obj.2))
    (first | (with_reducible exact HS.out _ (Only.refl _ W0).drew) | (with_reducible exact HS.out _ hoW1) | (with_reducible exact HS.out _ hoW2) | go_keep) (first
    | (go_simp
       go_at_call 30
       (with_reducible refine (docObject_any k _).mono ?_)
       (rintro e w1 ⟨rfl, hb1⟩)
       rw [HPE.out]
       have hb1 : Below W0.heap.size W0 w1 := (Below.refl W0.heap.size W0).drew.trans hb1
       have hoW1 : Only (fun i => K i ∧ i < w.heap.size) W0 w1 := Only.of_below hb1
       have HB1 := Lib.hid hb1
       clear hb1)
    | (go_simp
       go_at_call 29
       (with_reducible refine (HOK.out w1 HB1.out).mono ?_)
       (rintro e w2 ⟨r, hr, rfl, hD2, ho2⟩)
       have hoW2 : Only (fun i => K i ∧ i < w.heap.size) W0 w2 := hoW1.chain ho2 (fun i hi e => e)
       have hR4 := HR0.out w2 hoW2
       have HR4 := Lib.hid hR4
       have z0 := hR4.frozen
       have i0 := hR4.cell 0
       have i1 := hR4.cell 1
       simp only [List.getElem?_toArray, List.getElem?_cons_zero, List.getElem?_cons_succ] at i0 i1
       have HR := Lib.hid (And.intro hr (show AddQ w1 (fun i => K i ∧ i < w.heap.size) db D r _ w2 from ⟨rfl, hD2, ho2⟩))
       clear hr hD2 ho2 hR4))
  all_goals
    go_wp2_with fail
    refine bodyPost_ret (results_rowd2 Tryz.results11 _ _ (w.heap.size + 1) _ _ _ rfl (blkS2 _ _ HR4.out) Tryz.underlying24 rfl (by kernel_rfl)) rfl ?_
    have hbw := HB0.out.1.trans (HB1.out.mono HB0.out.1.size)
    exact ⟨r, HR.out.1, onKey_end hbw (Nat.le_trans HB0.out.2 HB1.out.size) HR.out.2 _ _⟩
end Go.Proofs.YteknflimfdkhoaaGreat
