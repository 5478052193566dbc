/- state.New: a contract, of changes of which no op comes in. A hand at a book, in memory. -/
import Derived.Test.YthimkpkoimfkiaaGreatCg23
import Derived.Test.YthimkpkoimfkiaaGreatCg21
import Derived.Test.YthimkpkoimfkiaaGreatCg22
namespace Go.Proofs.YthimkpkoimfkiaaGreat
open Go.RowKit Go.Maps
set_option linter.unusedVariables false
set_option linter.unusedSimpArgs false

/-- What the ops of a change want so that New takes them. -/
structure StOk (c : PCh) : Prop where
  start : 0 ≤ c.start ∧ c.start ≤ 1000000
  actor : I64 c.actor
  ops : c.ops.length ≤ 40
  preds : ∀ o ∈ c.ops, o.op.preds.length ≤ 12
  ins : ∀ o ∈ c.ops, o.op.ins = false
theorem doChs_take {s : Sta} {l : List PCh} {k : Nat} {c : PCh} (h : l[k]? = some c) : doChs s ((l.take (k + 1)).map PCh.ch) = doOps (doChs s ((l.take k).map PCh.ch)) c.actor c.start c.ch.ops := by
  rw [List.take_add_one, h, List.map_append]
  exact doChs_snoc _ _ _
theorem doOps_take {s : Sta} {a k : Int} {l : List OpV} {j : Nat} {o : OpV} (h : l[j]? = some o) : doOps s a k (l.take (j + 1)) = (doOps s a k (l.take j)).do_ o (k + j, a) := by
  rw [List.take_add_one, h]
  have hl : (l.take j).length = j := by
    have := (List.getElem?_eq_some_iff.1 h).1
    rw [List.length_take]; omega
  show doOps s a k (l.take j ++ [o]) = _
  rw [doOps_snoc, hl]
/-- What New answers. -/
def NewSt (w : World) (l : List PCh) (e : Ending) (w' : World) : Prop :=
  ∃ sb kb vb ib lb : Nat, e = .returned (.pointer (some ⟨sb, 0, none⟩)) ∧ StM w' w.heap.size sb kb vb ib lb (600 * l.length + 1) (doChs stNew (l.map PCh.ch)) ∧ Below w.heap.size w w'
theorem stm_new (w W : World) (h0 : w.heap.size ≤ W.heap.size) {w1 : World} (hm : w1.ownsMap Tryz.prog 24 anyElem W.heap.size 1 ((DataW.map []).put (rlit (0, 0)) (.held (.int .i64 5)))) (hs : w1.heap.size = W.heap.size + 1) :
    StM ((((w1.alloc (.map #[] 0)).alloc (.map #[] 0)).alloc (.map #[] 0)).alloc (.cells #[.map (some W.heap.size), .map (some w1.heap.size), .map (some (w1.alloc (.map #[] 0)).heap.size), .map (some ((w1.alloc (.map #[] 0)).alloc (.map #[] 0)).heap.size)] 105)) w.heap.size (((w1.alloc (.map #[] 0)).alloc (.map #[] 0)).alloc (.map #[] 0)).heap.size W.heap.size w1.heap.size (w1.alloc (.map #[] 0)).heap.size ((w1.alloc (.map #[] 0)).alloc (.map #[] 0)).heap.size 1 stNew := by
  have ho : Only (fun _ => False) w1 ((((w1.alloc (.map #[] 0)).alloc (.map #[] 0)).alloc (.map #[] 0)).alloc (.cells #[.map (some W.heap.size), .map (some w1.heap.size), .map (some (w1.alloc (.map #[] 0)).heap.size), .map (some ((w1.alloc (.map #[] 0)).alloc (.map #[] 0)).heap.size)] 105)) := ((((Only.refl _ w1).alloc _).alloc _).alloc _).alloc _
  refine ⟨Blk.new _ _ _, ⟨_, own_tight (own_only hm ho (fun h => h)), fun n hn => ?_, own_size hm⟩, ⟨.map [], own_tight (own_only (World.ownsMap_made w1 Tryz.prog 108 anyElem) ((((Only.refl (fun _ => False) _).alloc _).alloc _).alloc _) (fun h => h)), by simp [Maps.size], fun x _ => ?_, fun x y m _ _ h => by rw [kget_empty] at h; cases h⟩, ⟨by simp; omega, h0, by omega⟩, ⟨by simp; omega, by simp; omega, by omega⟩⟩
  · rw [mget_put pairId isMap_empty (show I2 (0, 0) from ⟨⟨by decide, by decide⟩, ⟨by decide, by decide⟩⟩) hn]
    show _ = (if n = (0, 0) then some (5 : Int) else none).map _
    split
    · rfl
    · rfl
  · exact kget_empty _
set_option maxRecDepth 100000 in
set_option maxHeartbeats 4000000 in
theorem stNew_any (l : List PCh) (A : Option Addr) (cp : Nat) (w : World) (hA : SlAt w A (chsCells l)) (hin : ∀ c ∈ l, InC w c ∧ StOk c) (hl : l.length ≤ 120) :
    Calls Tryz.prog 48 #[.slice A l.length cp] w (NewSt w l) := by
  have hmm := @run_makeMap Tryz.prog
  have HH := Lib.hid (And.intro hA (And.intro hin hl))
  have hlen : l.length ≤ 9223372036854775807 := by omega
  have hz : I2 (0, 0) := ⟨⟨by decide, by decide⟩, ⟨by decide, by decide⟩⟩
  clear hA hin
  go_enter Tryz.func48, Tryz.ntmps48
  go_wp2_with (first
    | (with_reducible refine wpList_ins _ rfl _ _ _ 100 rfl 24 3 pairId Tryz.underlying100 w.heap.size 0 (.map []) rfl (World.ownsMap_made w _ _ _) (by decide) (0, 0) rfl hz (.int .i64 5) rfl ?_)
    | fail)
  intro w1 hm1 ho1 hs1
  have hs1' : w1.heap.size = w.heap.size + 1 := hs1.trans (by simp)
  have hst := stm_new w w (Nat.le_refl _) hm1 hs1'
  have hb1 : Below w.heap.size w w1 := ((Only.refl (fun i => i = w.heap.size) w).alloc (.map #[] 0)).trans ho1 |>.below (Nat.le_refl _) (fun k hk e => by have : k = w.heap.size := e; omega)
  have hb2 : Below w.heap.size w ((((w1.alloc (.map #[] 0)).alloc (.map #[] 0)).alloc (.map #[] 0)).alloc (.cells #[.map (some w.heap.size), .map (some w1.heap.size), .map (some (w1.alloc (.map #[] 0)).heap.size), .map (some ((w1.alloc (.map #[] 0)).alloc (.map #[] 0)).heap.size)] 105)) := (((hb1.alloc (by omega) _).alloc (by simp; omega) _).alloc (by simp; omega) _).alloc (by simp; omega) _
  have e1 : (w1.alloc (.map #[] 0)).heap.size = w.heap.size + 1 + 1 := by simp [hs1']
  have e2 : ((w1.alloc (.map #[] 0)).alloc (.map #[] 0)).heap.size = w.heap.size + 1 + 1 + 1 := by simp [hs1']
  have e3 : (((w1.alloc (.map #[] 0)).alloc (.map #[] 0)).alloc (.map #[] 0)).heap.size = w.heap.size + 1 + 1 + 1 + 1 := by simp [hs1']
  rw [e3, e2, e1, hs1'] at hst
  rw [e2, e1, hs1'] at hb2
  obtain ⟨W4, hW4⟩ : ∃ W4, W4 = ((((w1.alloc (.map #[] 0)).alloc (.map #[] 0)).alloc (.map #[] 0)).alloc (.cells #[.map (some w.heap.size), .map (some (w.heap.size + 1)), .map (some (w.heap.size + 1 + 1)), .map (some (w.heap.size + 1 + 1 + 1))] 105)) := ⟨_, rfl⟩
  rw [← hW4] at hst hb2
  have HST := Lib.hid (And.intro hst hb2)
  clear hst hb1 hb2 hm1 ho1 e1 e2 e3
  go_wp2_with fail
  rw [← hW4]
  clear hW4 hs1 hs1'
  go_loopw [18, 5, 6, 7] (fun iv _ _ _ wr => ∃ k : Nat, iv = .int .i64 k ∧ k ≤ l.length ∧ StM wr w.heap.size (w.heap.size + 1 + 1 + 1 + 1) w.heap.size (w.heap.size + 1) (w.heap.size + 1 + 1) (w.heap.size + 1 + 1 + 1) (600 * k + 1) (doChs stNew ((l.take k).map PCh.ch)) ∧ Below w.heap.size w wr) (fun iv _ _ _ _ => l.length - (intOf iv).toNat)
  case atStart => exact ⟨0, rfl, Nat.zero_le _, HST.out.1, HST.out.2⟩
  case round =>
    obtain ⟨k, rfl, hk, hS, hb⟩ := hrel
    by_cases hlt : k < l.length
    · obtain ⟨c, hc⟩ : ∃ c, l[k]? = some c := ⟨_, List.getElem?_eq_getElem hlt⟩
      have hcm := List.mem_of_getElem? hc
      obtain ⟨hcI, hcO⟩ := HH.out.2.1 c hcm
      obtain ⟨b, off, ha, hcell⟩ := (HH.out.1.below hb).chg hc
      have c0 : wr.cell? ⟨b, off + k * 5, none⟩ = some (.int .i64 c.actor) := hcell 0 _ rfl
      have c1 : wr.cell? ⟨b, off + k * 5 + 1, none⟩ = some (.int .i64 c.seq) := hcell 1 _ rfl
      have c2 : wr.cell? ⟨b, off + k * 5 + 2, none⟩ = some (.int .i64 c.start) := hcell 2 _ rfl
      have c3 : wr.cell? ⟨b, off + k * 5 + 3, none⟩ = some (.slice c.dA c.deps.length c.dc) := hcell 3 _ rfl
      have c4 : wr.cell? ⟨b, off + k * 5 + 4, none⟩ = some (.slice c.oA c.ops.length c.oc) := hcell 4 _ rfl
      have hol : c.ops.length ≤ 9223372036854775807 := by have := hcO.ops; omega
      obtain ⟨W5, hW5⟩ : ∃ W5, W5 = wr.alloc (.cells #[.int .i64 c.actor, .int .i64 c.seq, .int .i64 c.start, .slice c.dA c.deps.length c.dc, .slice c.oA c.ops.length c.oc] 67) := ⟨_, rfl⟩
      have hb5 : Below wr.heap.size wr W5 := by rw [hW5]; exact (Below.refl _ _).alloc (Nat.le_refl _) _
      have hB5 : Blk W5 wr.heap.size 67 #[.int .i64 c.actor, .int .i64 c.seq, .int .i64 c.start, .slice c.dA c.deps.length c.dc, .slice c.oA c.ops.length c.oc] := by rw [hW5]; exact Blk.new _ _ _
      have HAA := Lib.hid ha
      have H5 := Lib.hid (And.intro (hS.below hb5) (And.intro (hb.trans (hb5.mono hb.size)) (And.intro hB5 (And.intro hcI (And.intro hcO hc)))))
      have hwl : w.heap.size < wr.heap.size := Nat.lt_of_le_of_lt (by omega) (show w.heap.size + 1 + 1 + 1 + 1 < wr.heap.size from hS.blk.lt)
      clear hS hb hb5 hB5 hcI hcO hcm hcell hc
      rw [ha]
      clear ha
      go_upto_region 5 with (fail)
      rw [← hW5]
      clear hW5 c0 c1 c2 c3 c4
      have d4 : W5.cell? ⟨wr.heap.size, 4, none⟩ = some (.slice c.oA c.ops.length c.oc) := H5.out.2.2.1.cell 4
      go_wp2_with fail
      clear d4
      obtain ⟨cb, hcb⟩ : ∃ cb, cb = wr.heap.size := ⟨_, rfl⟩
      rw [← hcb] at H5 hwl ⊢
      clear hcb
      rename World => wz
      go_loopw [25, 6, 7] (fun iv _ _ wj => ∃ j : Nat, iv = .int .i64 j ∧ j ≤ c.ops.length ∧ StM wj w.heap.size (w.heap.size + 1 + 1 + 1 + 1) w.heap.size (w.heap.size + 1) (w.heap.size + 1 + 1) (w.heap.size + 1 + 1 + 1) (600 * k + 15 * j + 1) (doOps (doChs stNew ((l.take k).map PCh.ch)) c.actor c.start (c.ch.ops.take j)) ∧ Below w.heap.size w wj ∧ Blk wj cb 67 #[.int .i64 c.actor, .int .i64 c.seq, .int .i64 c.start, .slice c.dA c.deps.length c.dc, .slice c.oA c.ops.length c.oc]) (fun iv _ _ _ => c.ops.length - (intOf iv).toNat)
      case atStart => exact ⟨0, rfl, Nat.zero_le _, by simpa [doOps] using H5.out.1, H5.out.2.1, H5.out.2.2.1⟩
      case round =>
        obtain ⟨j, rfl, hj, hS, hb, hB⟩ := hrel
        by_cases hlt2 : j < c.ops.length
        · obtain ⟨o, ho⟩ : ∃ o, c.ops[j]? = some o := ⟨_, List.getElem?_eq_getElem hlt2⟩
          have hom := List.mem_of_getElem? ho
          have hins := H5.out.2.2.2.2.1.ins o hom
          obtain ⟨b2, off2, ha2, hcell2⟩ := (H5.out.2.2.2.1.ops.below hb).op ho
          have o0 : wr.cell? ⟨b2, off2 + j * 13, none⟩ = some (.int .i64 o.op.kind) := hcell2 0 _ rfl
          have o1 : wr.cell? ⟨b2, off2 + j * 13 + 1, none⟩ = some (.int .i64 o.op.obj.1) := hcell2 1 _ rfl
          have o2 : wr.cell? ⟨b2, off2 + j * 13 + 2, none⟩ = some (.int .i64 o.op.obj.2) := hcell2 2 _ rfl
          have o3 : wr.cell? ⟨b2, off2 + j * 13 + 3, none⟩ = some (.string o.op.key) := hcell2 3 _ rfl
          have o4 : wr.cell? ⟨b2, off2 + j * 13 + 4, none⟩ = some (.int .i64 o.op.elem.1) := hcell2 4 _ rfl
          have o5 : wr.cell? ⟨b2, off2 + j * 13 + 5, none⟩ = some (.int .i64 o.op.elem.2) := hcell2 5 _ rfl
          have o6 : wr.cell? ⟨b2, off2 + j * 13 + 6, none⟩ = some (.bool false) := by have h6 := hcell2 6 (.bool o.op.ins) rfl; rw [hins] at h6; exact h6
          have o7 : wr.cell? ⟨b2, off2 + j * 13 + 7, none⟩ = some (.int .i64 o.op.val.k) := hcell2 7 _ rfl
          have o8 : wr.cell? ⟨b2, off2 + j * 13 + 8, none⟩ = some (.int .i64 o.op.val.n) := hcell2 8 _ rfl
          have o9 : wr.cell? ⟨b2, off2 + j * 13 + 9, none⟩ = some (.string o.op.val.s) := hcell2 9 _ rfl
          have o10 : wr.cell? ⟨b2, off2 + j * 13 + 10, none⟩ = some (.int .i64 o.op.val.o) := hcell2 10 _ rfl
          have o11 : wr.cell? ⟨b2, off2 + j * 13 + 11, none⟩ = some (.int .i64 o.op.val.p) := hcell2 11 _ rfl
          have o12 : wr.cell? ⟨b2, off2 + j * 13 + 12, none⟩ = some (.slice o.pA o.op.preds.length o.pc) := hcell2 12 _ rfl
          obtain ⟨W8, hW8⟩ : ∃ W8, W8 = wr.alloc (.cells #[.int .i64 o.op.kind, .int .i64 o.op.obj.1, .int .i64 o.op.obj.2, .string o.op.key, .int .i64 o.op.elem.1, .int .i64 o.op.elem.2, .bool false, .int .i64 o.op.val.k, .int .i64 o.op.val.n, .string o.op.val.s, .int .i64 o.op.val.o, .int .i64 o.op.val.p, .slice o.pA o.op.preds.length o.pc] 53) := ⟨_, rfl⟩
          have hb8 : Below wr.heap.size wr W8 := by rw [hW8]; exact (Below.refl _ _).alloc (Nat.le_refl _) _
          have hO8 : Blk W8 wr.heap.size 53 #[.int .i64 o.op.kind, .int .i64 o.op.obj.1, .int .i64 o.op.obj.2, .string o.op.key, .int .i64 o.op.elem.1, .int .i64 o.op.elem.2, .bool false, .int .i64 o.op.val.k, .int .i64 o.op.val.n, .string o.op.val.s, .int .i64 o.op.val.o, .int .i64 o.op.val.p, .slice o.pA o.op.preds.length o.pc] := by rw [hW8]; exact Blk.new _ _ _
          have hbw8 := hb.trans (hb8.mono hb.size)
          have hn : I2 (c.start + (j : Int), c.actor) := ⟨⟨by show (-9223372036854775808 : Int) ≤ c.start + (j : Int); have := H5.out.2.2.2.2.1.start; omega, by show c.start + (j : Int) ≤ 9223372036854775807; have := H5.out.2.2.2.2.1.start; have := H5.out.2.2.2.2.1.ops; omega⟩, H5.out.2.2.2.2.1.actor⟩
          have hkb : k ≤ 120 := by omega
          have hjb : j ≤ 40 := by have := H5.out.2.2.2.2.1.ops; omega
          have hpl := H5.out.2.2.2.2.1.preds o hom
          have hdo := stDo_any w.heap.size (w.heap.size + 1 + 1 + 1 + 1) w.heap.size (w.heap.size + 1) (w.heap.size + 1 + 1) (w.heap.size + 1 + 1 + 1) (600 * k + 15 * j + 1) (doOps (doChs stNew ((l.take k).map PCh.ch)) c.actor c.start (c.ch.ops.take j)) o.op o.pA o.pc (c.start + (j : Int), c.actor) W8 (hS.below hb8) hbw8.size ((H5.out.2.2.2.1.preds o hom).below hbw8) (H5.out.2.2.2.1.op o hom) hins hn (by omega) (by omega)
          have HDO := Lib.hid hdo
          have hop : c.ch.ops[j]? = some o.op := by show (c.ops.map POp.op)[j]? = _; rw [List.getElem?_map, ho]; rfl
          have H8 := Lib.hid (And.intro hbw8 (And.intro (hB.below hb8 hB.lt) (And.intro hop hpl)))
          have HA2 := Lib.hid ha2
          have hw8 : IntKind.i64.wrap (c.start + (j : Int)) = c.start + (j : Int) := by have h1 := hn.1; rw [IntKind.wrap_i64]; have h2 : (-9223372036854775808 : Int) ≤ c.start + (j : Int) := h1.1; have h3 : c.start + (j : Int) ≤ 9223372036854775807 := h1.2; omega
          rw [ha2]
          clear ha2 hcell2 hom hdo hS hb hB hbw8 hb8 hn hop ho hins hpl hkb hjb
          go_upto_region 8 with (fail)
          rw [← hW8]
          clear hW8 o0 o1 o2 o3 o4 o5 o6 o7 o8 o9 o10 o11 o12
          have p0 : W8.cell? ⟨wr.heap.size, 0, none⟩ = some (.int .i64 o.op.kind) := hO8.cell 0
          have p1 : W8.cell? ⟨wr.heap.size, 1, none⟩ = some (.int .i64 o.op.obj.1) := hO8.cell 1
          have p2 : W8.cell? ⟨wr.heap.size, 2, none⟩ = some (.int .i64 o.op.obj.2) := hO8.cell 2
          have p3 : W8.cell? ⟨wr.heap.size, 3, none⟩ = some (.string o.op.key) := hO8.cell 3
          have p4 : W8.cell? ⟨wr.heap.size, 4, none⟩ = some (.int .i64 o.op.elem.1) := hO8.cell 4
          have p5 : W8.cell? ⟨wr.heap.size, 5, none⟩ = some (.int .i64 o.op.elem.2) := hO8.cell 5
          have p6 : W8.cell? ⟨wr.heap.size, 6, none⟩ = some (.bool false) := hO8.cell 6
          have p7 : W8.cell? ⟨wr.heap.size, 7, none⟩ = some (.int .i64 o.op.val.k) := hO8.cell 7
          have p8 : W8.cell? ⟨wr.heap.size, 8, none⟩ = some (.int .i64 o.op.val.n) := hO8.cell 8
          have p9 : W8.cell? ⟨wr.heap.size, 9, none⟩ = some (.string o.op.val.s) := hO8.cell 9
          have p10 : W8.cell? ⟨wr.heap.size, 10, none⟩ = some (.int .i64 o.op.val.o) := hO8.cell 10
          have p11 : W8.cell? ⟨wr.heap.size, 11, none⟩ = some (.int .i64 o.op.val.p) := hO8.cell 11
          have p12 : W8.cell? ⟨wr.heap.size, 12, none⟩ = some (.slice o.pA o.op.preds.length o.pc) := hO8.cell 12
          have r0 : W8.cell? ⟨cb, 0, none⟩ = some (.int .i64 c.actor) := H8.out.2.1.cell 0
          have r2 : W8.cell? ⟨cb, 2, none⟩ = some (.int .i64 c.start) := H8.out.2.1.cell 2
          clear hO8
          go_wp2_with (go_at_call 49; (with_reducible refine HDO.out.mono ?_); rintro e w9 ⟨rfl, hS9, hb9, hn9⟩; have H9 := Lib.hid (And.intro hS9 (And.intro hb9 hn9)); clear hS9 hb9 hn9)
          refine ⟨⟨j + 1, by push_cast; rfl, by omega, ?_, H8.out.1.trans H9.out.2.1, ?_⟩, by simp [intOf]; omega⟩
          · rw [doOps_take H8.out.2.2.1]
            exact H9.out.1.mono (by have := H8.out.2.2.2; omega)
          · rw [← HA2.out]
            exact H9.out.2.2.blk H8.out.2.1
        · obtain rfl : j = c.ops.length := by omega
          have HI := Lib.hid (And.intro hS hb)
          clear hS hb hB
          go_wp2_with fail
          refine ⟨⟨k + 1, by push_cast; rfl, by omega, ?_, HI.out.2⟩, by simp [intOf]; omega⟩
          rw [doChs_take H5.out.2.2.2.2.2]
          have h1 := HI.out.1
          rw [show c.ch.ops.take c.ops.length = c.ch.ops from List.take_of_length_le (by show (c.ops.map POp.op).length ≤ _; rw [List.length_map]; exact Nat.le_refl _)] at h1
          exact h1.mono (by have := H5.out.2.2.2.2.1.ops; omega)
    · obtain rfl : k = l.length := by omega
      have HI := Lib.hid (And.intro hS hb)
      clear hS hb
      go_wp2_with fail
      go_ret
      have h1 := HI.out.1
      rw [List.take_length] at h1
      exact ⟨_, _, _, _, _, rfl, h1, HI.out.2⟩
end Go.Proofs.YthimkpkoimfkiaaGreat
namespace Go.Proofs.YthimkpkoimfkiaaGreat
open Go.RowKit Go.Maps
set_option linter.unusedVariables false
set_option linter.unusedSimpArgs false

/-- A hand's memory: the book with what it stands on (F), the hand's own block, the row of what is pending. -/
structure DocM (w : World) (F : Nat → Prop) (db bk h wt bh : Nat) (Dh Dw Db : DataW Value) (L Wl : List PCh) (actor : Int) (A : Option Addr) (cp : Nat) (ps : List POp) : Prop where
  blk : Blk w db 59 #[.int .i64 actor, .pointer (some ⟨bk, 0, none⟩), .slice A ps.length cp]
  dag : DagX w F bk h wt bh Dh Dw Db L Wl
  act : 1 ≤ actor ∧ actor ≤ 99
  row : w.ownsRow 0 53 13 (.slice A ps.length cp) ps.length (opsCells ps)
  nd : ¬ F db
  nA : ∀ b ∈ blkOf A, ¬ F b
  preds : ∀ o ∈ ps, SlAt w o.pA (refs o.op.preds)
  pne : ∀ o ∈ ps, ∀ b ∈ blkOf o.pA, b < w.heap.size ∧ b ≠ db ∧ b ∉ blkOf A
  fit : ∀ o ∈ ps, o.op.Fit ∧ o.op.preds.length ≤ 12
  len : ps.length ≤ 40
/-- The blocks of a hand. -/
def DocK (F : Nat → Prop) (db bk h wt bh : Nat) (A : Option Addr) (ps : List POp) (i : Nat) : Prop :=
  F i ∨ i = db ∨ i = bk ∨ i = h ∨ i = wt ∨ i = bh ∨ i ∈ blkOf A ∨ ∃ o ∈ ps, i ∈ blkOf o.pA
/-- A hand in memory, on the blocks K. -/
def DocA (w : World) (K : Nat → Prop) (db : Nat) (D : DocV) : Prop :=
  ∃ (F : Nat → Prop) (bk h wt bh : Nat) (Dh Dw Db : DataW Value) (L Wl : List PCh) (A : Option Addr) (cp : Nat) (ps : List POp), DocM w F db bk h wt bh Dh Dw Db L Wl D.actor A cp ps ∧
    D.L = L.map PCh.ch ∧ D.W = Wl.map PCh.ch ∧ D.pend = ps.map POp.op ∧ (∀ i, i < w.heap.size → DocK F db bk h wt bh A ps i → K i)
theorem slat_lt {w : World} {A : Option Addr} {xs : List Value} (h : SlAt w A xs) (hn : xs ≠ []) : ∀ b ∈ blkOf A, b < w.heap.size := by
  rcases h with h | ⟨b, off, hA, hcell⟩
  · exact absurd h hn
  · obtain ⟨u, us, rfl⟩ := List.exists_cons_of_ne_nil hn
    have hlt := cell_lt (hcell 0 u rfl)
    intro b2 hb2
    rw [hA] at hb2
    simp [blkOf] at hb2
    rw [hb2]
    exact hlt
theorem Only.chain {S T : Nat → Prop} {a b c : World} (h : Only S a b) (k : Only T b c) (hs : ∀ i, i < a.heap.size → T i → S i) : Only S a c :=
  ⟨k.os.trans h.os, k.tape.trans h.tape, k.output.trans h.output, Nat.le_trans h.size k.size, fun i hi hn => (k.block i (Nat.lt_of_lt_of_le hi h.size) (fun e => hn (hs i hi e))).trans (h.block i hi hn)⟩
theorem blk_ty {w : World} {g : Nat} {t t' : TypeId} {cs cs' : Array Value} (h : Blk w g t cs) (k : Blk w g t' cs') : t = t' := by
  unfold Blk at h k
  rw [h] at k
  injection k with k
  injection k
theorem row_blk {w : World} {base : Nat} {e : TypeId} {size n c : Nat} {A : Option Addr} {xs : List Value} (h : w.ownsRow base e size (.slice A n c) n xs) : ∀ b ∈ blkOf A, ∃ cur, Blk w b e cur := by
  intro b hb
  rcases h.2 with ⟨hv, _⟩ | ⟨g, cap, cur, hv, _, hg, _⟩
  · injection hv with e; subst e; cases hb
  · injection hv with e; subst e; simp [blkOf] at hb; subst hb; exact ⟨cur, hg⟩
theorem DocM.apart {w : World} {F : Nat → Prop} {db bk h wt bh : Nat} {Dh Dw Db : DataW Value} {L Wl : List PCh} {actor : Int} {A : Option Addr} {cp : Nat} {ps : List POp} (H : DocM w F db bk h wt bh Dh Dw Db L Wl actor A cp ps) :
    (db ≠ bk ∧ db ≠ h ∧ db ≠ wt ∧ db ≠ bh) ∧ db ∉ blkOf A ∧ ∀ b ∈ blkOf A, b ≠ bk ∧ b ≠ h ∧ b ≠ wt ∧ b ≠ bh := by
  have hnm : ∀ i, IsMapB w i → db ≠ i := fun i hi e => by subst e; exact blk_noMap H.blk hi
  have hA := row_blk H.row
  refine ⟨⟨fun e => ?_, hnm _ H.dag.bkm.has.isMapB, hnm _ H.dag.bkm.wts.isMapB, hnm _ H.dag.bkm.beh.isMapB⟩, fun e => ?_, fun b hb => ?_⟩
  · have h1 := H.blk
    rw [e] at h1
    exact absurd (blk_ty h1 H.dag.bkm.blk) (by decide)
  · obtain ⟨cur, hc⟩ := hA _ e
    exact absurd (blk_ty H.blk hc) (by decide)
  · obtain ⟨cur, hc⟩ := hA _ hb
    refine ⟨fun e => ?_, fun e => ?_, fun e => ?_, fun e => ?_⟩
    · subst e
      exact absurd (blk_ty hc H.dag.bkm.blk) (by decide)
    · subst e; exact blk_noMap hc H.dag.bkm.has.isMapB
    · subst e; exact blk_noMap hc H.dag.bkm.wts.isMapB
    · subst e; exact blk_noMap hc H.dag.bkm.beh.isMapB
theorem row_keep {w w' : World} {base : Nat} {e : TypeId} {size n c : Nat} {A : Option Addr} {xs : List Value} (h : w.ownsRow base e size (.slice A n c) n xs) (hk : ∀ b ∈ blkOf A, b < w.heap.size → w'.heap[b]? = w.heap[b]?) : w'.ownsRow base e size (.slice A n c) n xs := by
  refine ⟨h.1, ?_⟩
  rcases h.2 with hn | ⟨g, cap, cur, hv, hb, hg, rest⟩
  · exact .inl hn
  · refine .inr ⟨g, cap, cur, hv, hb, ?_, rest⟩
    injection hv with hA' _ _
    rw [hk g (by rw [hA']; simp [blkOf]) (Array.getElem?_eq_some_iff.1 hg).1]
    exact hg
theorem row_blk_lt {w : World} {base : Nat} {e : TypeId} {size n c : Nat} {A : Option Addr} {xs : List Value} (h : w.ownsRow base e size (.slice A n c) n xs) : ∀ b ∈ blkOf A, b < w.heap.size := by
  intro b hb
  rcases h.2 with ⟨hv, _⟩ | ⟨g, cap, cur, hv, _, hg, _⟩
  · injection hv with hv; subst hv; cases hb
  · injection hv with hv; subst hv; simp [blkOf] at hb; subst hb; exact (Array.getElem?_eq_some_iff.1 hg).1
/-- What others do to blocks of their own leaves a hand as it was. -/
theorem DocM.other {w w' : World} {F S : Nat → Prop} {db bk h wt bh : Nat} {Dh Dw Db : DataW Value} {L Wl : List PCh} {actor : Int} {A : Option Addr} {cp : Nat} {ps : List POp} (H : DocM w F db bk h wt bh Dh Dw Db L Wl actor A cp ps) (ho : Only S w w')
    (hS : ∀ i, i < w.heap.size → S i → ¬ DocK F db bk h wt bh A ps i) : DocM w' (fun i => (F i ∧ i < w.heap.size) ∨ w'.heap.size ≤ i) db bk h wt bh Dh Dw Db L Wl actor A cp ps := by
  have hz := ho.size
  refine ⟨H.blk.only ho (fun e => hS _ H.blk.lt e (.inr (.inl rfl))), H.dag.other ho (fun i hi e => ⟨fun f => hS i hi e (.inl f), fun f => hS i hi e (.inr (.inr (.inl f))), fun f => hS i hi e (.inr (.inr (.inr (.inl f)))), fun f => hS i hi e (.inr (.inr (.inr (.inr (.inl f))))), fun f => hS i hi e (.inr (.inr (.inr (.inr (.inr (.inl f))))))⟩), H.act,
    row_keep H.row (fun b hb hl => ho.block b hl (fun e => hS b hl e (.inr (.inr (.inr (.inr (.inr (.inr (.inl hb))))))))), ?_, ?_, ?_, fun o hm b hb => ⟨Nat.lt_of_lt_of_le (H.pne o hm b hb).1 hz, (H.pne o hm b hb).2⟩, H.fit, H.len⟩
  · rintro (e | e)
    · exact H.nd e.1
    · have := H.blk.lt; omega
  · rintro b hb (e | e)
    · exact H.nA b hb e.1
    · have := row_blk_lt H.row b hb; omega
  · intro o hm
    exact sl_keep (H.preds o hm) (fun b hb hl => ho.block b hl (fun e => hS b hl e (.inr (.inr (.inr (.inr (.inr (.inr (.inr ⟨o, hm, hb⟩)))))))))
theorem DocM.k_lt {w : World} {F : Nat → Prop} {db bk h wt bh : Nat} {Dh Dw Db : DataW Value} {L Wl : List PCh} {actor : Int} {A : Option Addr} {cp : Nat} {ps : List POp} (H : DocM w F db bk h wt bh Dh Dw Db L Wl actor A cp ps) {G : Nat → Prop} {i : Nat} (hi : DocK G db bk h wt bh A ps i) : G i ∨ i < w.heap.size := by
  rcases hi with k | rfl | rfl | rfl | rfl | rfl | k | ⟨o, ho2, k⟩
  · exact .inl k
  · exact .inr H.blk.lt
  · exact .inr H.dag.bkm.blk.lt
  · exact .inr H.dag.bkm.has.lt
  · exact .inr H.dag.bkm.wts.lt
  · exact .inr H.dag.bkm.beh.lt
  · exact .inr (row_blk_lt H.row _ k)
  · exact .inr (H.pne o ho2 _ k).1
theorem DocA.mono {w : World} {K K' : Nat → Prop} {db : Nat} {D : DocV} (H : DocA w K db D) (hK : ∀ i, i < w.heap.size → K i → K' i) : DocA w K' db D := by
  obtain ⟨F, bk, h, wt, bh, Dh, Dw, Db, L, Wl, A, cp, ps, H, e1, e2, e3, e4⟩ := H
  exact ⟨F, bk, h, wt, bh, Dh, Dw, Db, L, Wl, A, cp, ps, H, e1, e2, e3, fun i hi k => hK i hi (e4 i hi k)⟩
theorem DocA.other {w w' : World} {K S : Nat → Prop} {db : Nat} {D : DocV} (H : DocA w K db D) (ho : Only S w w') (hS : ∀ i, i < w.heap.size → S i → ¬ K i) : DocA w' (fun i => K i ∧ i < w.heap.size) db D := by
  obtain ⟨F, bk, h, wt, bh, Dh, Dw, Db, L, Wl, A, cp, ps, H, e1, e2, e3, e4⟩ := H
  refine ⟨_, bk, h, wt, bh, Dh, Dw, Db, L, Wl, A, cp, ps, H.other ho (fun i hi e k => hS i hi e (e4 i hi k)), e1, e2, e3, fun i hi k => ?_⟩
  have hlt : i < w.heap.size ∧ DocK F db bk h wt bh A ps i := by
    rcases H.k_lt k with (k2 | k2) | k2
    · exact ⟨k2.2, .inl k2.1⟩
    · omega
    · refine ⟨k2, ?_⟩
      rcases k with (k | k) | k
      · exact .inl k.1
      · omega
      · exact .inr k
  exact ⟨e4 i hlt.1 hlt.2, hlt.1⟩
theorem DocA.below {w w' : World} {K : Nat → Prop} {db : Nat} {D : DocV} (H : DocA w K db D) (hb : Below w.heap.size w w') : DocA w' K db D :=
  (H.other (S := fun _ => False) (Only.of_below hb) (fun _ _ e => e.elim)).mono (fun _ _ k => k.1)
/-- A hand whose pending ops are others. -/
theorem DocM.pend {w w' : World} {F : Nat → Prop} {db bk h wt bh : Nat} {Dh Dw Db : DataW Value} {L Wl : List PCh} {actor : Int} {A A' : Option Addr} {cp cp' : Nat} {ps ps' : List POp} (H : DocM w F db bk h wt bh Dh Dw Db L Wl actor A cp ps)
    (ho : Only (fun i => i = db ∨ i ∈ blkOf A) w w') (hb : Blk w' db 59 #[.int .i64 actor, .pointer (some ⟨bk, 0, none⟩), .slice A' ps'.length cp']) (hr : w'.ownsRow 0 53 13 (.slice A' ps'.length cp') ps'.length (opsCells ps')) (hA : ∀ b ∈ blkOf A', b ∈ blkOf A ∨ w.heap.size ≤ b)
    (hp : ∀ o ∈ ps', SlAt w' o.pA (refs o.op.preds)) (hn : ∀ o ∈ ps', ∀ b ∈ blkOf o.pA, b < w'.heap.size ∧ b ≠ db ∧ b ∉ blkOf A') (hf : ∀ o ∈ ps', o.op.Fit ∧ o.op.preds.length ≤ 12) (hl : ps'.length ≤ 40) :
    DocM w' (fun i => (F i ∧ i < w.heap.size) ∨ w'.heap.size ≤ i) db bk h wt bh Dh Dw Db L Wl actor A' cp' ps' := by
  have hz := ho.size
  obtain ⟨a1, a2, a3⟩ := H.apart
  refine ⟨hb, H.dag.other ho (fun i hi e => ?_), H.act, hr, ?_, ?_, hp, hn, hf, hl⟩
  · rcases e with rfl | e
    · exact ⟨H.nd, a1⟩
    · exact ⟨H.nA i e, a3 i e⟩
  · rintro (e | e)
    · exact H.nd e.1
    · have := H.blk.lt; omega
  · rintro b hb2 (e | e)
    · rcases hA b hb2 with h1 | h1
      · exact H.nA b h1 e.1
      · omega
    · have := row_blk_lt hr b hb2; omega
end Go.Proofs.YthimkpkoimfkiaaGreat
