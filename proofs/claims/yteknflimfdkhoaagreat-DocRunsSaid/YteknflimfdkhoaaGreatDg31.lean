/- doc.Doc.state: a contract. state.State.at at any place, state.State.Key: contracts. -/
import Derived.Test.YteknflimfdkhoaaGreatDg27
import Derived.Test.YteknflimfdkhoaaGreatDg24
import Derived.Test.YteknflimfdkhoaaGreatDg28
namespace Go.Proofs.YteknflimfdkhoaaGreat
open Go.RowKit Go.Maps
set_option linter.unusedVariables false
set_option linter.unusedSimpArgs false

/-- What state answers. -/
def StateQ (w : World) (s : Sta) (e : Ending) (w' : World) : Prop :=
  ∃ B sb kb vb ib lb N : Nat, e = .returned (.pointer (some ⟨sb, 0, none⟩)) ∧ StM w' B sb kb vb ib lb N s ∧ N ≤ 100000 ∧ w.heap.size ≤ B ∧ Below w.heap.size w w'
theorem ch_stok {c : PCh} (h : chE c.ch = 0) : StOk c := by
  have g := chE_good h
  have h1 : refOk (c.actor, c.seq) = true := g.ref
  simp [refOk] at h1
  exact ⟨⟨by have := g.st.1; omega, g.st.2⟩, ⟨by omega, by omega⟩, g.ops, g.preds⟩
set_option maxRecDepth 100000 in
set_option maxHeartbeats 4000000 in
theorem docState_any (K : Nat → Prop) (db : Nat) (D : DocV) (w : World) (H : DocA w K db D) :
    Calls Tryz.prog 23 #[.pointer (some ⟨db, 0, none⟩)] w (StateQ w D.state) := by
  have HDA := Lib.hid H
  obtain ⟨F, bk, h, wt, bh, Dh, Dw, Db, L, Wl, A, cp, ps, H, e1, e2, e3, e4⟩ := H
  obtain ⟨actor, hac⟩ : ∃ a, a = D.actor := ⟨_, rfl⟩
  rw [← hac] at H
  have b1 : w.cell? ⟨db, 1, none⟩ = some (.pointer (some ⟨bk, 0, none⟩)) := H.blk.cell 1
  obtain ⟨st, hst⟩ : ∃ s, s = D.start.1 := ⟨_, rfl⟩
  obtain ⟨sq, hsq⟩ : ∃ s, s = D.start.2 := ⟨_, rfl⟩
  have HH := Lib.hid (And.intro H (And.intro e1 (And.intro hac e3)))
  have HS := Lib.hid (And.intro hst hsq)
  have HA := Lib.hid (all_is bk h wt bh Dh Dw Db L w H.dag.toDag)
  have hpl : ps.length ≤ 9223372036854775807 := by have := H.len; omega
  clear H e1 e2 e3 e4 hac hst hsq
  go_enter Tryz.func23, Tryz.ntmps23
  go_upto_region 2 with (first
    | (go_at_call 17; (with_reducible refine HA.out.mono ?_); (rintro e w1 ⟨al, B, cB, rfl, hao, hb1, hal, hin⟩); (have HB := Lib.hid (And.intro hao (And.intro hb1 (And.intro hal (hin w1 (fun _ _ _ => rfl)))))); (clear hao hb1 hin))
    | (go_at_call 50; (with_reducible refine (stNew_any al B cB w1 HB.out.2.2.2.1 (fun c hc => ⟨HB.out.2.2.2.2 c hc, ch_stok (HH.out.1.dag.small HB.out.1 c hc)⟩) HB.out.2.2.1).mono ?_); (rintro e w2 ⟨sb, kb, vb, ib, lb, rfl, hS2, hb2⟩); (have HN := Lib.hid (And.intro hS2 hb2)); (clear hS2 hb2)))
  have hb12 : Below w.heap.size w w2 := HB.out.2.1.trans (HN.out.2.mono HB.out.2.1.size)
  have HD2 := Lib.hid (HDA.out.below hb12)
  have HB2 := Lib.hid hb12
  clear b1 hb12
  go_wp2_with (go_at_call 19; (with_reducible refine (docStart_any K db D _ HD2.out).mono ?_); (rintro e w3 ⟨rfl, hb3⟩); rw [← HS.out.1, ← HS.out.2]; (have hd3 := ((HH.out.1.blk.below HB2.out HH.out.1.blk.lt).below hb3 (by have h1 := HH.out.1.blk.lt; have h2 := HB2.out.size; omega)).cell 2); simp at hd3; (have HB3 := Lib.hid hb3); clear hb3)
  clear hd3
  have HALL := Lib.hid (show doChs stNew (al.map PCh.ch) = doChs stNew D.all from by
    rw [HB.out.1.eq HH.out.1.dag.ndp, ← HH.out.2.1]
    rfl)
  have hst1 : 1 ≤ st ∧ st ≤ 1000040 := by
    have h1 := startV_le actor (al.map PCh.ch) (fun c hc => by
      obtain ⟨x, hx, rfl⟩ := List.mem_map.1 hc
      exact ch_small (HH.out.1.dag.small HB.out.1 x hx))
    rw [HB.out.1.eq HH.out.1.dag.ndp, ← HH.out.2.1, HH.out.2.2.1] at h1
    rw [HS.out.1]
    exact ⟨h1.1, h1.2.1⟩
  have HST := Lib.hid hst1
  clear hst1
  have hL0 : StM w3 w1.heap.size sb kb vb ib lb (640 * al.length + 1) (doOps (doChs stNew D.all) actor st (D.pend.take 0)) := by
    rw [← HALL.out]
    exact HN.out.1.below HB3.out
  have hbw3 : Below w.heap.size w w3 := HB2.out.trans (HB3.out.mono HB2.out.size)
  have hb13 : w1.heap.size ≤ w3.heap.size := Nat.le_trans HN.out.2.size HB3.out.size
  have HL := Lib.hid (And.intro hL0 (And.intro hbw3 hb13))
  clear hL0 hbw3 hb13
  go_loopw [24, 6, 7] (fun iv _ _ wr => ∃ k : Nat, iv = .int .i64 k ∧ k ≤ ps.length ∧ StM wr w1.heap.size sb kb vb ib lb (640 * al.length + 16 * k + 1) (doOps (doChs stNew D.all) actor st (D.pend.take k)) ∧ Below w.heap.size w wr ∧ w1.heap.size ≤ wr.heap.size) (fun iv _ _ _ => ps.length - (intOf iv).toNat)
  case atStart => exact ⟨0, rfl, Nat.zero_le _, HL.out.1, HL.out.2.1, HL.out.2.2⟩
  case round =>
    obtain ⟨j, rfl, hj, hS, hb, hw1⟩ := hrel
    by_cases hlt : j < ps.length
    · obtain ⟨o, ho⟩ : ∃ o, ps[j]? = some o := ⟨_, List.getElem?_eq_getElem hlt⟩
      have hom := List.mem_of_getElem? ho
      obtain ⟨b2, off2, ha2, hcell2⟩ := ((SlAt.of_owns HH.out.1.row).below hb).op ho
      have o0 : wr.cell? ⟨b2, off2 + j * 13, none⟩ = some (.int .i64 o.op.kind) := hcell2 0 _ rfl
      have o1 : wr.cell? ⟨b2, off2 + j * 13 + 1, none⟩ = some (.int .i64 o.op.obj.1) := hcell2 1 _ rfl
      have o2 : wr.cell? ⟨b2, off2 + j * 13 + 2, none⟩ = some (.int .i64 o.op.obj.2) := hcell2 2 _ rfl
      have o3 : wr.cell? ⟨b2, off2 + j * 13 + 3, none⟩ = some (.string o.op.key) := hcell2 3 _ rfl
      have o4 : wr.cell? ⟨b2, off2 + j * 13 + 4, none⟩ = some (.int .i64 o.op.elem.1) := hcell2 4 _ rfl
      have o5 : wr.cell? ⟨b2, off2 + j * 13 + 5, none⟩ = some (.int .i64 o.op.elem.2) := hcell2 5 _ rfl
      have o6 : wr.cell? ⟨b2, off2 + j * 13 + 6, none⟩ = some (.bool o.op.ins) := hcell2 6 _ rfl
      have o7 : wr.cell? ⟨b2, off2 + j * 13 + 7, none⟩ = some (.int .i64 o.op.val.k) := hcell2 7 _ rfl
      have o8 : wr.cell? ⟨b2, off2 + j * 13 + 8, none⟩ = some (.int .i64 o.op.val.n) := hcell2 8 _ rfl
      have o9 : wr.cell? ⟨b2, off2 + j * 13 + 9, none⟩ = some (.string o.op.val.s) := hcell2 9 _ rfl
      have o10 : wr.cell? ⟨b2, off2 + j * 13 + 10, none⟩ = some (.int .i64 o.op.val.o) := hcell2 10 _ rfl
      have o11 : wr.cell? ⟨b2, off2 + j * 13 + 11, none⟩ = some (.int .i64 o.op.val.p) := hcell2 11 _ rfl
      have o12 : wr.cell? ⟨b2, off2 + j * 13 + 12, none⟩ = some (.slice o.pA o.op.preds.length o.pc) := hcell2 12 _ rfl
      obtain ⟨W8, hW8⟩ : ∃ W8, W8 = wr.alloc (.cells #[.int .i64 o.op.kind, .int .i64 o.op.obj.1, .int .i64 o.op.obj.2, .string o.op.key, .int .i64 o.op.elem.1, .int .i64 o.op.elem.2, .bool o.op.ins, .int .i64 o.op.val.k, .int .i64 o.op.val.n, .string o.op.val.s, .int .i64 o.op.val.o, .int .i64 o.op.val.p, .slice o.pA o.op.preds.length o.pc] 51) := ⟨_, rfl⟩
      have hb8 : Below wr.heap.size wr W8 := by rw [hW8]; exact (Below.refl _ _).alloc (Nat.le_refl _) _
      have hO8 : Blk W8 wr.heap.size 51 #[.int .i64 o.op.kind, .int .i64 o.op.obj.1, .int .i64 o.op.obj.2, .string o.op.key, .int .i64 o.op.elem.1, .int .i64 o.op.elem.2, .bool o.op.ins, .int .i64 o.op.val.k, .int .i64 o.op.val.n, .string o.op.val.s, .int .i64 o.op.val.o, .int .i64 o.op.val.p, .slice o.pA o.op.preds.length o.pc] := by rw [hW8]; exact Blk.new _ _ _
      have hbw8 := hb.trans (hb8.mono hb.size)
      have hd8 : Blk W8 db 57 #[.int .i64 actor, .pointer (some ⟨bk, 0, none⟩), .slice A ps.length cp] := HH.out.1.blk.below hbw8 HH.out.1.blk.lt
      have hjb : j ≤ 40 := by have := HH.out.1.len; omega
      have hn : I2 (st + (j : Int), actor) := ⟨⟨by show (-9223372036854775808 : Int) ≤ st + (j : Int); have := HST.out; omega, by show st + (j : Int) ≤ 9223372036854775807; have := HST.out; omega⟩, ⟨by show (-9223372036854775808 : Int) ≤ actor; have := HH.out.1.act; omega, by show actor ≤ 9223372036854775807; have := HH.out.1.act; omega⟩⟩
      have hpl2 : o.op.preds.length ≤ 12 := (HH.out.1.fit o hom).2
      have hdo := stDo_any w1.heap.size sb kb vb ib lb (640 * al.length + 16 * j + 1) (doOps (doChs stNew D.all) actor st (D.pend.take j)) o.op o.pA o.pc (st + (j : Int), actor) W8.drew (hS.below hb8.drew) (Nat.le_trans hw1 hb8.size) (fun W hW => (HH.out.1.preds o hom).below (hbw8.drew.trans (hW.mono HB.out.2.1.size))) (HH.out.1.fit o hom).1 hn (by have := HB.out.2.2.1; omega) (by omega)
      have HDO := Lib.hid hdo
      have hop : D.pend[j]? = some o.op := by rw [HH.out.2.2.2, List.getElem?_map, ho]; rfl
      have H8 := Lib.hid (And.intro hbw8.drew (And.intro hop (And.intro hpl2 (Nat.le_trans hw1 hb8.size))))
      have hw8 : IntKind.i64.wrap (st + (j : Int)) = st + (j : Int) := by rw [IntKind.wrap_i64]; have := HST.out; omega
      rw [ha2]
      clear ha2 hcell2 hom hdo hS hb hbw8 hb8 hn hop ho hpl2 hjb hw1
      go_upto_region 6 with (fail)
      rw [← hW8]
      clear hW8 o0 o1 o2 o3 o4 o5 o6 o7 o8 o9 o10 o11 o12
      have p0 : W8.cell? ⟨wr.heap.size, 0, none⟩ = some (.int .i64 o.op.kind) := hO8.cell 0
      have p1 : W8.cell? ⟨wr.heap.size, 1, none⟩ = some (.int .i64 o.op.obj.1) := hO8.cell 1
      have p2 : W8.cell? ⟨wr.heap.size, 2, none⟩ = some (.int .i64 o.op.obj.2) := hO8.cell 2
      have p3 : W8.cell? ⟨wr.heap.size, 3, none⟩ = some (.string o.op.key) := hO8.cell 3
      have p4 : W8.cell? ⟨wr.heap.size, 4, none⟩ = some (.int .i64 o.op.elem.1) := hO8.cell 4
      have p5 : W8.cell? ⟨wr.heap.size, 5, none⟩ = some (.int .i64 o.op.elem.2) := hO8.cell 5
      have p6 : W8.cell? ⟨wr.heap.size, 6, none⟩ = some (.bool o.op.ins) := hO8.cell 6
      have p7 : W8.cell? ⟨wr.heap.size, 7, none⟩ = some (.int .i64 o.op.val.k) := hO8.cell 7
      have p8 : W8.cell? ⟨wr.heap.size, 8, none⟩ = some (.int .i64 o.op.val.n) := hO8.cell 8
      have p9 : W8.cell? ⟨wr.heap.size, 9, none⟩ = some (.string o.op.val.s) := hO8.cell 9
      have p10 : W8.cell? ⟨wr.heap.size, 10, none⟩ = some (.int .i64 o.op.val.o) := hO8.cell 10
      have p11 : W8.cell? ⟨wr.heap.size, 11, none⟩ = some (.int .i64 o.op.val.p) := hO8.cell 11
      have p12 : W8.cell? ⟨wr.heap.size, 12, none⟩ = some (.slice o.pA o.op.preds.length o.pc) := hO8.cell 12
      have r0 : W8.cell? ⟨db, 0, none⟩ = some (.int .i64 actor) := hd8.cell 0
      clear hO8 hd8
      go_region_with (go_at_call 51; (with_reducible refine HDO.out.mono ?_); (rintro e w9 ⟨rfl, hS9, hb9, hn9⟩); (have H9 := Lib.hid (And.intro hS9 (And.intro hb9 hn9))); (clear hS9 hb9 hn9))
      all_goals
        go_wp2_with fail
        refine ⟨⟨j + 1, by push_cast; rfl, by omega, ?_, ?_, ?_⟩, by simp [intOf]; omega⟩
        · rw [doOps_take H8.out.2.1]
          exact H9.out.1.mono (by have := H8.out.2.2.1; omega)
        · exact H8.out.1.trans (H9.out.2.1.mono HB.out.2.1.size)
        · exact Nat.le_trans H8.out.2.2.2 H9.out.2.1.size
    · obtain rfl : j = ps.length := by omega
      have HI := Lib.hid (And.intro hS hb)
      clear hS hb hw1
      go_wp2_with fail
      go_ret
      have h1 := HI.out.1
      rw [show D.pend.take ps.length = D.pend from List.take_of_length_le (by rw [HH.out.2.2.2, List.length_map]; exact Nat.le_refl _), HS.out.1, HH.out.2.2.1] at h1
      exact ⟨_, _, _, _, _, _, _, rfl, h1, by have := HB.out.2.2.1; have := HH.out.1.len; omega, HB.out.2.1.size, HI.out.2⟩
end Go.Proofs.YteknflimfdkhoaaGreat
namespace Go.Proofs.YteknflimfdkhoaaGreat
open Go.RowKit Go.Maps
set_option linter.unusedVariables false
set_option linter.unusedSimpArgs false

theorem stAt_any (B sb kb vb ib lb N : Nat) (s : Sta) (x : Wh) (w : World) (H : StM w B sb kb vb ib lb N s) (hx : whOk x) (hN : N ≤ 100000) :
    Calls Tryz.prog 56 #[.pointer (some ⟨sb, 0, none⟩), .agg #[.int .i64 x.1.1, .int .i64 x.1.2, .string x.2.1, .int .i64 x.2.2.1, .int .i64 x.2.2.2]] w (AtQ w s x N) := by
  cases hv : s.vals x with
  | none => exact stAt_none B sb kb vb ib lb N s x w H hx hv
  | some f => exact stAt_some B sb kb vb ib lb N s x f w H hx hv hN
theorem AtQ.from {w W : World} {s : Sta} {x : Wh} {N : Nat} {e : Ending} {w' : World} (hb : Below w.heap.size w W) (h : AtQ W s x N e w') : AtQ w s x N e w' := by
  obtain ⟨ids, A1, A2, c1, c2, h1, h2, h3, h4, h5, h6, h7⟩ := h
  exact ⟨ids, A1, A2, c1, c2, h1, h2, h3, h4, h5, hb.trans (h6.mono hb.size), fun a ha => Nat.le_trans hb.size (h7 a ha)⟩
set_option maxRecDepth 100000 in
set_option maxHeartbeats 1000000 in
theorem stKey_any (B sb kb vb ib lb N : Nat) (s : Sta) (obj : Int × Int) (key : ByteArray) (w : World) (H : StM w B sb kb vb ib lb N s) (hx : whOk (obj, key, (0, 0))) (hN : N ≤ 100000) :
    Calls Tryz.prog 58 #[.pointer (some ⟨sb, 0, none⟩), .agg #[.int .i64 obj.1, .int .i64 obj.2], .string key] w (AtQ w s (obj, key, (0, 0)) N) := by
  obtain ⟨W1, hW1⟩ : ∃ W1, W1 = (w.alloc (.cells #[.int .i64 obj.1, .int .i64 obj.2] 24)).alloc (.cells #[.int .i64 0, .int .i64 0, .string ⟨#[]⟩, .int .i64 0, .int .i64 0, .slice none 0 0, .slice none 0 0] 83) := ⟨_, rfl⟩
  have hb1 : Below w.heap.size w W1 := by rw [hW1]; exact ((Below.refl _ _).alloc (Nat.le_refl _) _).alloc (by simp) _
  have hr1 : Blk W1 (w.heap.size + 1) 83 #[.int .i64 0, .int .i64 0, .string ⟨#[]⟩, .int .i64 0, .int .i64 0, .slice none 0 0, .slice none 0 0] := by rw [hW1]; exact Blk.newer _ _ _ (by simp)
  have HK := Lib.hid (stAt_any B sb kb vb ib lb N s (obj, key, (0, 0)) W1 (H.below hb1) hx hN)
  have HW := Lib.hid hW1
  have HB := Lib.hid (And.intro hb1 hr1)
  clear H hx hW1 hb1 hr1
  go_enter Tryz.func58, Tryz.ntmps58
  go_wp2_with (go_at_call 56; rw [← HW.out]; (with_reducible refine HK.out.mono ?_); (rintro e w2 ⟨ids, A1, A2, c1, c2, rfl, h2, h3, h4, h5, h6, h7⟩); (have hr2 := HB.out.2.below h6 HB.out.2.lt); (have r0 := hr2.cell 0); (have r1 := hr2.cell 1); (have r2 := hr2.cell 2); (have r3 := hr2.cell 3); (have r4 := hr2.cell 4); (have r5 := hr2.cell 5); (have r6 := hr2.cell 6); (have zr := hr2.frozen); (simp only [List.getElem?_toArray, List.getElem?_cons_zero, List.getElem?_cons_succ] at r0 r1 r2 r3 r4 r5 r6); (have HE := Lib.hid (And.intro h2 (And.intro h3 (And.intro h4 (And.intro h5 (And.intro h6 (And.intro hr2 h7))))))); clear h2 h3 h4 h5 h6 hr2 h7)
  refine bodyPost_ret (results_cell_row Tryz.results58 _ _ (w.heap.size + 1) _ _ _ _ rfl (blkS7 (.int .i64 obj.1) (.int .i64 obj.2) (.string key) (.int .i64 0) (.int .i64 0) (.slice A1 ids.length c1) (.slice A2 ids.length c2) HE.out.2.2.2.2.2.1) Tryz.underlying83 rfl (by kernel_rfl)) rfl ?_
  have hz : w.heap.size + 2 = W1.heap.size := by rw [HW.out]; simp
  have ho7 := onlyS7 w2 (w.heap.size + 1) (.int .i64 obj.1) (.int .i64 obj.2) (.string key) (.int .i64 0) (.int .i64 0) (.slice A1 ids.length c1) (.slice A2 ids.length c2) 0 1 2 3 4 5 6
  have hbel : Below w.heap.size w w2 := HB.out.1.trans (HE.out.2.2.2.2.1.mono HB.out.1.size)
  refine ⟨ids, A1, A2, c1, c2, rfl, HE.out.1, HE.out.2.1.only ho7 ?_, HE.out.2.2.1.only ho7 ?_, HE.out.2.2.2.1, hbel.trans (ho7.below hbel.size (fun k hk e => by have e : k = w.heap.size + 1 := e; omega)), ?_⟩
  · intro b off s ha e
    have h := HE.out.2.2.2.2.2.2 _ (.inl ha)
    have e : b = w.heap.size + 1 := e
    have h : W1.heap.size ≤ b := h
    omega
  · intro b off s ha e
    have h := HE.out.2.2.2.2.2.2 _ (.inr ha)
    have e : b = w.heap.size + 1 := e
    have h : W1.heap.size ≤ b := h
    omega
  · intro a ha
    have h := HE.out.2.2.2.2.2.2 a ha
    omega
end Go.Proofs.YteknflimfdkhoaaGreat
