/- dag.Book.fits: a contract. A book, described; what it holds. -/
import Derived.Test.YteknflimfdkhoaaGreatDg17
import Derived.Test.YteknflimfdkhoaaGreatDg12
namespace Go.Proofs.YteknflimfdkhoaaGreat
open Go.RowKit Go.Maps Go.WideShapes
set_option linter.unusedVariables false
set_option linter.unusedSimpArgs false

theorem own_size {P : Program} {k : TypeId} {w : World} {b n : Nat} {D : DataW Value} (h : w.ownsMap P k anyElem b n D) : Maps.size D ≤ n := by
  obtain ⟨es, clock, hb, F, hs, rfl⟩ := h
  simp [Maps.size, length_sorted]
  omega
/-- The changes in a map. -/
def InHas (w : World) (Dh : DataW Value) : Prop := ∀ r, I2 r → ∀ v, mget Dh r = some v → ∃ x : PCh, v = x.value ∧ InC w x ∧ (0 ≤ x.start ∧ x.start ≤ 1000000) ∧ x.ops.length ≤ 40
theorem InHas.get {w : World} {Dh : DataW Value} (h : InHas w Dh) {r : Int × Int} (hr : I2 r) : ∃ x : PCh, (mget Dh r).getD zCh = x.value ∧ InC w x ∧ (0 ≤ x.start ∧ x.start ≤ 1000000) ∧ x.ops.length ≤ 40 := by
  cases e : mget Dh r with
  | none => exact ⟨zPCh, rfl, ⟨.inl rfl, .inl rfl, fun o ho => (by cases ho), ⟨by decide, by decide⟩, ⟨by decide, by decide⟩, ⟨by decide, by decide⟩, fun d hd => (by cases hd), by decide, fun o ho => (by cases ho), by decide⟩, ⟨by decide, by decide⟩, by decide⟩
  | some v => obtain ⟨x, h1, h2⟩ := h r hr v e; exact ⟨x, h1, h2⟩
theorem InHas.maps {w w' : World} {S : Nat → Prop} {Dh : DataW Value} (h : InHas w Dh) (ho : Only S w w') (hS : ∀ i, S i → IsMapB w i) : InHas w' Dh := fun r hr v hv => by
  obtain ⟨x, h1, h2, h3⟩ := h r hr v hv
  exact ⟨x, h1, h2.maps ho hS, h3⟩
theorem CB.turn {w W W' : World} {c : PCh} {S : Nat → Prop} (h : CB w c W) (ho : Only S W W') (hS : ∀ i, S i → w.heap.size < i) : CB w c W' :=
  ⟨h.bel.trans (ho.below h.bel.size (fun i hi e => by have := hS i e; omega)), h.blk.only ho (fun e => by have := hS _ e; omega)⟩

set_option maxRecDepth 100000 in
set_option maxHeartbeats 4000000 in
theorem bookFits_any (bk h wt bh : Nat) (Dh Dw Db : DataW Value) (c : PCh) (w : World) (H : BkM w bk h wt bh Dh Dw Db) (hB : BehOk w h wt bh Dh Db) (hI : InHas w Dh) (hc : InC w c) (hr : I2 c.ref) (hsz : Maps.size Dh ≤ 1000)
    (hst : (0 ≤ c.start ∧ c.start ≤ 1000000) ∧ c.ops.length ≤ 40) (hsq : 1 ≤ c.seq) (hall : ∀ d ∈ c.deps, (mget Db d).isSome = true) :
    Calls Tryz.prog 48 #[.pointer (some ⟨bk, 0, none⟩), .agg #[.int .i64 c.actor, .int .i64 c.seq, .int .i64 c.start, .slice c.dA c.deps.length c.dc, .slice c.oA c.ops.length c.oc]] w (SomeB w) := by
  have hmm := @run_makeMap Tryz.prog
  obtain ⟨W0, hW0⟩ : ∃ W0, W0 = w.alloc (.cells #[.int .i64 c.actor, .int .i64 c.seq, .int .i64 c.start, .slice c.dA c.deps.length c.dc, .slice c.oA c.ops.length c.oc] 65) := ⟨_, rfl⟩
  have hC0 : CB w c W0 := by rw [hW0]; exact ⟨(Below.refl _ _).alloc (Nat.le_refl _) _, Blk.new _ _ _⟩
  have hs0 : W0.heap.size = w.heap.size + 1 := by rw [hW0]; simp
  obtain ⟨W4, hW4⟩ : ∃ W4, W4 = W0.alloc (.map #[] 0) := ⟨_, rfl⟩
  have hb4 : Below W0.heap.size W0 W4 := by rw [hW4]; exact (Below.refl _ _).alloc (Nat.le_refl _) _
  obtain ⟨m, hm⟩ : ∃ m, m = w.heap.size + 1 := ⟨_, rfl⟩
  have hI4 : PutI W4 W4 Dh c.ref m := by
    refine ⟨.map [], ?_, Cont.empty _ _, Only.refl _ _⟩
    have := World.ownsMap_made W0 Tryz.prog 33 anyElem
    rw [hs0, ← hm, ← hW4] at this
    exact OM.of this
  have HP := Lib.hid (And.intro (hC0.new hb4) (And.intro hI4 hm))
  have H0 := Lib.hid (And.intro H (And.intro hB (And.intro hI (And.intro hc (And.intro hr (And.intro hsz (And.intro hst (And.intro hsq hall))))))))
  have HW := Lib.hid (And.intro hW0 (And.intro hW4 hs0))
  have hdl : c.deps.length ≤ 9223372036854775807 := by have := hc.dlen; unfold maxLen at this; omega
  have hol : c.ops.length ≤ 9223372036854775807 := by omega
  clear hC0 hs0 hb4 hI4 H hB hI hc hr hsz hst hsq hall hW0 hW4 hm
  go_enter Tryz.func48, Tryz.ntmps48
  go_upto_region 2 with (fail)
  rw [← HW.out.1, ← HW.out.2.1, ← HP.out.2.2]
  have b3 : W4.cell? ⟨w.heap.size, 3, none⟩ = some (.slice c.dA c.deps.length c.dc) := HP.out.1.blk.cell 3
  go_wp2_with fail
  clear b3
  go_loopw [22, 7, 8] (fun iv _ _ wr => ∃ k : Nat, iv = .int .i64 k ∧ k ≤ c.deps.length ∧ PutI W4 wr Dh c.ref m) (fun iv _ _ _ => c.deps.length - (intOf iv).toNat)
  case atStart => exact ⟨0, rfl, Nat.zero_le _, HP.out.2.1⟩
  case round =>
    obtain ⟨k, rfl, hk, hI⟩ := hrel
    have hmw : w.heap.size < m := by have := HP.out.2.2; omega
    have hon : Only (fun i => i = m) W4 wr := by obtain ⟨Dm, _, _, h3⟩ := hI; exact h3
    have hCr : CB w c wr := HP.out.1.turn hon (fun i e => by have : i = m := e; omega)
    by_cases hlt : k < c.deps.length
    · obtain ⟨b, off, d, ha, hd, hx, hy⟩ := (H0.out.2.2.2.1.deps.below hCr.bel).ref hlt
      rw [ha]
      have hdm : d ∈ c.deps := List.mem_of_getElem? hd
      have hdi := H0.out.2.2.2.1.dep d hdm
      obtain ⟨v, hv⟩ := Option.isSome_iff_exists.1 (H0.out.2.2.2.2.2.2.2.2 d hdm)
      obtain ⟨md, Dd, rfl, hmd, hn1, hn2, hn3, hdd⟩ := H0.out.2.1 d hdi v hv
      have hmdl := hmd.lt
      obtain ⟨W5, hW5⟩ : ∃ W5, W5 = wr.alloc (.cells #[.int .i64 d.1, .int .i64 d.2] 33) := ⟨_, rfl⟩
      have hb5 : Below wr.heap.size wr W5 := by rw [hW5]; exact (Below.refl _ _).alloc (Nat.le_refl _) _
      have hI5 := hI.new hb5
      have hC5 := hCr.new hb5
      have hmd5 := hmd.below hC5.bel
      have hH5 := H0.out.1.below hC5.bel
      have hd5 : Blk W5 wr.heap.size 33 #[.int .i64 d.1, .int .i64 d.2] := by rw [hW5]; exact Blk.new _ _ _
      have HK := Lib.hid (And.intro hI5 (And.intro hC5 (And.intro hmd5 (And.intro hdd hd5))))
      have p0 : W5.cell? ⟨bk, 2, none⟩ = some (.map (some bh)) := hH5.blk.cell 2
      have p1 : W5.cell? ⟨wr.heap.size, 0, none⟩ = some (.int .i64 d.1) := hd5.cell 0
      have p2 : W5.cell? ⟨wr.heap.size, 1, none⟩ = some (.int .i64 d.2) := hd5.cell 1
      have hq : (Instr.lookup 94 (.map (some bh)) (.agg #[.int .i64 d.1, .int .i64 d.2]) false).run Tryz.prog W5.drew = .ok (.map (some md)) W5.drew := by
        have := run_look pairRef (w := W5.drew) (show W5.drew.ownsMap Tryz.prog 33 anyElem bh (Maps.size Db) Db from hH5.beh) Tryz.underlying94 (zeroMapB _) hdi
        rw [hv] at this
        exact this
      clear hI hd hdm hdi hv hmd hn1 hn2 hn3 hdd hI5 hC5 hmd5 hd5 hb5 hon hCr hH5
      go_wp2_with fail
      rw [← hW5]
      clear hW5 ha
      go_still_tail 6, (by kernel_rfl)
      change wpList _ _ _ _ _ W5.drew
      refine wpList_range_own _ rfl _ 92 rfl 33 4 keyedRef Tryz.underlying92 _ md _ _ rfl (show W5.drew.ownsMap Tryz.prog 33 anyElem md (Maps.size Dd) Dd from HK.out.2.2.1) ?_
      intro W6 hrg6 hg6 hs6
      obtain ⟨it, hit⟩ : ∃ it, it = W5.drew.heap.size := ⟨_, rfl⟩
      rw [← hit] at hrg6 ⊢
      have hI6 : PutI W4 W6 Dh c.ref m := by
        obtain ⟨Dm, h1, h2, h3⟩ := HK.out.1
        exact ⟨Dm, (show OM W5.drew m Dm from h1).only (only_grown0 (S := fun _ => False) hg6) (fun h => h), h2, (show Only _ W4 W5.drew from h3.drew).trans (only_grown0 hg6)⟩
      have h4it : W4.heap.size ≤ it := by
        obtain ⟨Dm, h1, h2, h3⟩ := HK.out.1
        have := h3.size
        rw [hit]; exact this
      have hml : m < it := by
        obtain ⟨Dm, h1, h2, h3⟩ := HK.out.1
        have := h1.lt
        rw [hit]; exact this
      have hmd : md ≠ m := by omega
      have HI := Lib.hid (And.intro hI6 hrg6)
      clear hrg6 hg6 hs6 hI6 p0 p1 p2 hq hit hx hy
      go_wp2_with fail
      go_frame
      go_loopw [8] (fun _ wj => ∃ (left : Lit → Bool) (cnt : Nat), wj.ranges Tryz.prog 33 anyElem md it (Maps.size Dd) Dd left cnt ∧ PutI W4 wj Dh c.ref m) (fun _ wj => wj.rangeLeft md it)
      case atStart => exact ⟨_, _, HI.out.2, HI.out.1⟩
      case round =>
        obtain ⟨left, cnt, hrg, hI⟩ := hrel
        have HR := Lib.hid hI
        clear hI
        go_wp2_with (first | (at_next; refine wpList_next_pair _ rfl _ rfl 33 pairRef md it _ Dd _ _ rfl hrg ?_ ?_) | fail)
        · intro hc0 hl0
          go_wp2_with fail
          exact ⟨⟨k + 1, by push_cast; rfl, by omega, HR.out⟩, by simp [intOf]; omega⟩
        · intro x1 x2 v w2 cnt2 hx hl2 hat hrg2 hlt2 ho2 hs2 hen2
          obtain ⟨hv, hxk⟩ := HK.out.2.2.2.1 (x1, x2) hx v hat
          have hI2 : ∃ Dm, OM w2 m Dm ∧ Cont Dh c.ref Dm ∧ Only (fun i => i = m) W4 w2 := by
            obtain ⟨Dm, h1, h2, h3⟩ := HR.out
            exact ⟨Dm, h1.only ho2 (by show m ≠ it; omega), h2, only_step h3 ho2 (fun i hi e => by have : i = it := e; omega)⟩
          obtain ⟨Dm, hm2, hc2, hon2⟩ := hI2
          have hsm : Maps.size Dm < maxLen := by
            have := hc2.size hm2 H0.out.1.has
            have := H0.out.2.2.2.2.2.1
            unfold maxLen
            omega
          have hm3 : OM (w2.alloc (.cells #[.int .i64 x1, .int .i64 x2] 33)) m Dm := hm2.below ((Below.refl _ _).alloc (Nat.le_refl _) _)
          have hlt := hrg.left_eq
          have HX := Lib.hid (And.intro hrg2 (And.intro hc2 (And.intro hon2 (And.intro hxk (And.intro hlt2 (And.intro hlt hm3))))))
          clear hrg hrg2 hc2 hon2 hxk hlt2 hat hl2 ho2 hs2 hlt hm2
          subst hv
          go_wp2_with (first
            | (at_mapUpdate; refine wpList_upd _ rfl _ _ _ 92 rfl 33 4 pairRef Tryz.underlying92 m _ Dm rfl hm3 hsm (x1, x2) rfl hx (.bool true) rfl ?_; intro w4 hm4 ho4 hs4; go_frame)
            | fail)
          obtain ⟨hrg2, hc2, hon2, hxk, hlt2, hlt, hm3'⟩ := HX.out
          have hrg4 := ranges_only (hrg2.alloc (.cells #[.int .i64 x1, .int .i64 x2] 33)) ho4 (by show ¬ (md = m); exact hmd) (by show ¬ (it = m); omega)
          refine ⟨⟨_, cnt2, hrg4, _, OM.of hm4, hc2.put hm3' hx (.inr hxk), (hon2.alloc _).trans ho4⟩, ?_⟩
          rw [hlt, hrg4.left_eq]
          exact hlt2
    · obtain rfl : k = c.deps.length := by omega
      obtain ⟨Dm, hm1, hcm, hon'⟩ := hI
      have hdms : Maps.size Dm ≤ 1001 := by
        have := hcm.size hm1 H0.out.1.has
        have := H0.out.2.2.2.2.2.1
        omega
      have hal : Below wr.heap.size wr (wr.alloc (.map #[] 0)) := (Below.refl _ _).alloc (Nat.le_refl _) _
      have hm2 := hm1.below hal
      have hml := hm1.lt
      have hmk : (wr.alloc (.map #[] 0)).ownsMap Tryz.prog 24 anyElem wr.heap.size 0 (.map []) := World.ownsMap_made wr _ _ _
      have HQ := Lib.hid (And.intro hCr (And.intro hcm (And.intro hdms (And.intro hml hmk))))
      clear hCr hcm hdms hml hmk hm1 hon hon' hmw
      go_wp2_with (first | (at_range; refine wpList_range_own _ rfl _ 92 rfl 33 4 keyedRef Tryz.underlying92 _ m _ _ rfl hm2 ?_; intro w1 hrg1 hg1 hs1) | fail)
      go_frame
      obtain ⟨it, hit⟩ : ∃ it, it = (wr.alloc (.map #[] 0)).heap.size := ⟨_, rfl⟩
      rw [← hit] at hrg1
      obtain ⟨mo, hmo⟩ : ∃ mo, mo = wr.heap.size := ⟨_, rfl⟩
      have hit2 : it = mo + 1 := by rw [hit, hmo]; simp
      have hwm : w.heap.size < mo := by have := HQ.out.1.blk.lt; omega
      have hmm2 : m < mo := by have := HQ.out.2.2.2.1; omega
      have hO1 : OpsM w1 mo (.map []) := by
        rw [hmo]
        exact ⟨own_tight (own_only HQ.out.2.2.2.2 (only_grown0 (S := fun _ => False) hg1) (fun h => h)), fun r hr v hv => by rw [mget_empty] at hv; cases hv⟩
      have hC1 : CB w c w1 := (HQ.out.1.new hal).turn (only_grown0 (S := fun _ => False) hg1) (fun i h => h.elim)
      have HS := Lib.hid (And.intro hrg1 (And.intro hO1 hC1))
      clear hrg1 hO1 hC1 hg1 hs1 hal hm2
      rw [← hit, ← hmo]
      have HZ := Lib.hid hit2
      clear hit hmo hit2
      go_loopw [10, 11, 12, 13, 14] (fun _ _ _ _ _ wj => ∃ (left : Lit → Bool) (cnt : Nat) (Do : DataW Value), wj.ranges Tryz.prog 33 anyElem m it (Maps.size Dm) Dm left cnt ∧ OpsM wj mo Do ∧ CB w c wj ∧ Maps.size Do + 40 * cnt ≤ 40040) (fun _ _ _ _ _ wj => wj.rangeLeft m it)
      case atStart => exact ⟨_, _, _, HS.out.1, HS.out.2.1, HS.out.2.2, by have := HQ.out.2.2.1; simp [Maps.size] at this ⊢; omega⟩
      case round =>
        obtain ⟨left, cnt, Do, hrg, hO, hC, hsz⟩ := hrel
        have HR := Lib.hid (And.intro hO (And.intro hC hsz))
        have hlo := hO.1.lt
        clear hO hC hsz
        go_wp2_with (first | (at_next; refine wpList_next_pair _ rfl _ rfl 33 pairRef m it _ Dm _ _ rfl hrg ?_ ?_) | fail)
        · intro hc0 hl0
          have HL := Lib.hid hrg.owns
          clear hc0 hl0 hrg
          have p0 : wr.cell? ⟨w.heap.size, 0, none⟩ = some (.int .i64 c.actor) := HR.out.2.1.blk.cell 0
          have p1 : wr.cell? ⟨w.heap.size, 1, none⟩ = some (.int .i64 c.seq) := HR.out.2.1.blk.cell 1
          go_upto_region 25 with (fail)
          go_cut [104] from 91 to 104 (fun s104 wx => (∃ z : Bool, s104 = .bool z) ∧ wx = wr)
          case first =>
            by_cases hq1 : 1 < c.seq
            · have d1 : decide (1 < c.seq) = true := decide_eq_true hq1
              have hi : I2 (c.actor, c.seq - 1) := by
                have h1 := H0.out.2.2.2.2.1
                have h2 := h1.2.2
                exact ⟨h1.1, ⟨by show (-9223372036854775808 : Int) ≤ c.seq - 1; omega, by show c.seq - 1 ≤ 9223372036854775807; have : c.seq ≤ 9223372036854775807 := h2; omega⟩⟩
              obtain ⟨z, hz⟩ : ∃ z, (mget Dm (c.actor, c.seq - 1)).getD (.bool false) = .bool z := by
                cases e : mget Dm (c.actor, c.seq - 1) with
                | none => exact ⟨false, rfl⟩
                | some v => exact ⟨true, (HQ.out.2.1 _ hi v e).1⟩
              have hq : (Instr.lookup 92 (.map (some m)) (.agg #[.int .i64 c.actor, .int .i64 (c.seq - 1)]) false).run Tryz.prog wr = .ok (.bool z) wr := by
                have := run_look pairRef (w := wr) HL.out Tryz.underlying92 (zeroBool _) hi
                rw [hz] at this
                exact this
              have hw1 : c.seq ≤ 9223372036854775807 := H0.out.2.2.2.2.1.2.2
              clear hz hi
              cases z
              all_goals
                go_wp2_with fail
                go_meet
                exact ⟨⟨_, rfl⟩, rfl⟩
            · have d1 : decide (1 < c.seq) = false := decide_eq_false hq1
              go_wp2_with fail
              go_meet
              exact ⟨⟨_, rfl⟩, rfl⟩
          case rest =>
            obtain ⟨⟨z, rfl⟩, rfl⟩ := hcut
            clear p0 p1
            cases z with
            | true =>
              go_wp2_with fail
              go_ret
              exact ⟨_, rfl, HR.out.2.1.bel⟩
            | false =>
              have q4 : wc.cell? ⟨w.heap.size, 4, none⟩ = some (.slice c.oA c.ops.length c.oc) := HR.out.2.1.blk.cell 4
              go_wp2_with fail
              clear q4
              go_loopw [108, 15, 16, 17] (fun iv _ _ _ wj => ∃ j : Nat, iv = .int .i64 j ∧ j ≤ c.ops.length ∧ ∃ Do, OpsM wj mo Do ∧ CB w c wj ∧ Maps.size Do + (c.ops.length - j) ≤ 40080) (fun iv _ _ _ _ => c.ops.length - (intOf iv).toNat)
              case atStart =>
                refine ⟨0, rfl, Nat.zero_le _, Do, HR.out.1, HR.out.2.1, ?_⟩
                have h1 := HR.out.2.2
                have h2 := H0.out.2.2.2.2.2.2.1.2
                omega
              case round =>
                obtain ⟨j, rfl, hj, Do4, hO4, hC4, hs4⟩ := hrel
                by_cases hlt4 : j < c.ops.length
                · have ho := List.getElem?_eq_getElem hlt4
                  generalize c.ops[j] = o at ho
                  have hom := List.mem_of_getElem? ho
                  obtain ⟨b, off, ha, hcell⟩ := (H0.out.2.2.2.1.ops.below hC4.bel).op ho
                  have HA := Lib.hid ha
                  rw [ha]
                  have o0 : wr.cell? ⟨b, off + j * 13, none⟩ = some (.int .i64 o.op.kind) := hcell 0 _ rfl
                  have o1 : wr.cell? ⟨b, off + j * 13 + 1, none⟩ = some (.int .i64 o.op.obj.1) := hcell 1 _ rfl
                  have o2 : wr.cell? ⟨b, off + j * 13 + 2, none⟩ = some (.int .i64 o.op.obj.2) := hcell 2 _ rfl
                  have o3 : wr.cell? ⟨b, off + j * 13 + 3, none⟩ = some (.string o.op.key) := hcell 3 _ rfl
                  have o4 : wr.cell? ⟨b, off + j * 13 + 4, none⟩ = some (.int .i64 o.op.elem.1) := hcell 4 _ rfl
                  have o5 : wr.cell? ⟨b, off + j * 13 + 5, none⟩ = some (.int .i64 o.op.elem.2) := hcell 5 _ rfl
                  have o6 : wr.cell? ⟨b, off + j * 13 + 6, none⟩ = some (.bool o.op.ins) := hcell 6 _ rfl
                  have o7 : wr.cell? ⟨b, off + j * 13 + 7, none⟩ = some (.int .i64 o.op.val.k) := hcell 7 _ rfl
                  have o8 : wr.cell? ⟨b, off + j * 13 + 8, none⟩ = some (.int .i64 o.op.val.n) := hcell 8 _ rfl
                  have o9 : wr.cell? ⟨b, off + j * 13 + 9, none⟩ = some (.string o.op.val.s) := hcell 9 _ rfl
                  have o10 : wr.cell? ⟨b, off + j * 13 + 10, none⟩ = some (.int .i64 o.op.val.o) := hcell 10 _ rfl
                  have o11 : wr.cell? ⟨b, off + j * 13 + 11, none⟩ = some (.int .i64 o.op.val.p) := hcell 11 _ rfl
                  have o12 : wr.cell? ⟨b, off + j * 13 + 12, none⟩ = some (.slice o.pA o.op.preds.length o.pc) := hcell 12 _ rfl
                  have hsx := H0.out.2.2.2.2.2.2.1.1
                  have hl40 := H0.out.2.2.2.2.2.2.1.2
                  have H5 := Lib.hid (And.intro hO4 (And.intro hC4 (And.intro hs4 hom)))
                  clear hO4 hC4 hs4 ho ha hcell hom
                  go_upto_region 30 with (fail)
                  obtain ⟨W8, hW8⟩ : ∃ W8, W8 = wr.alloc (.cells #[.int .i64 o.op.kind, .int .i64 o.op.obj.1, .int .i64 o.op.obj.2, .string o.op.key, .int .i64 o.op.elem.1, .int .i64 o.op.elem.2, .bool o.op.ins, .int .i64 o.op.val.k, .int .i64 o.op.val.n, .string o.op.val.s, .int .i64 o.op.val.o, .int .i64 o.op.val.p, .slice o.pA o.op.preds.length o.pc] 51) := ⟨_, rfl⟩
                  rw [← hW8]
                  have hb8 : Below wr.heap.size wr W8 := by rw [hW8]; exact (Below.refl _ _).alloc (Nat.le_refl _) _
                  have hob : Blk W8 wr.heap.size 51 #[.int .i64 o.op.kind, .int .i64 o.op.obj.1, .int .i64 o.op.obj.2, .string o.op.key, .int .i64 o.op.elem.1, .int .i64 o.op.elem.2, .bool o.op.ins, .int .i64 o.op.val.k, .int .i64 o.op.val.n, .string o.op.val.s, .int .i64 o.op.val.o, .int .i64 o.op.val.p, .slice o.pA o.op.preds.length o.pc] := by rw [hW8]; exact Blk.new _ _ _
                  have hC8 := H5.out.2.1.new hb8
                  clear o0 o1 o2 o3 o4 o5 o6 o7 o8 o9 o10 o11 o12
                  have r0 : W8.cell? ⟨wr.heap.size, 0, none⟩ = some (.int .i64 o.op.kind) := hob.cell 0
                  have r1 : W8.cell? ⟨wr.heap.size, 1, none⟩ = some (.int .i64 o.op.obj.1) := hob.cell 1
                  have r2 : W8.cell? ⟨wr.heap.size, 2, none⟩ = some (.int .i64 o.op.obj.2) := hob.cell 2
                  have r3 : W8.cell? ⟨wr.heap.size, 3, none⟩ = some (.string o.op.key) := hob.cell 3
                  have r4 : W8.cell? ⟨wr.heap.size, 4, none⟩ = some (.int .i64 o.op.elem.1) := hob.cell 4
                  have r5 : W8.cell? ⟨wr.heap.size, 5, none⟩ = some (.int .i64 o.op.elem.2) := hob.cell 5
                  have r6 : W8.cell? ⟨wr.heap.size, 6, none⟩ = some (.bool o.op.ins) := hob.cell 6
                  have r7 : W8.cell? ⟨wr.heap.size, 7, none⟩ = some (.int .i64 o.op.val.k) := hob.cell 7
                  have r8 : W8.cell? ⟨wr.heap.size, 8, none⟩ = some (.int .i64 o.op.val.n) := hob.cell 8
                  have r9 : W8.cell? ⟨wr.heap.size, 9, none⟩ = some (.string o.op.val.s) := hob.cell 9
                  have r10 : W8.cell? ⟨wr.heap.size, 10, none⟩ = some (.int .i64 o.op.val.o) := hob.cell 10
                  have r11 : W8.cell? ⟨wr.heap.size, 11, none⟩ = some (.int .i64 o.op.val.p) := hob.cell 11
                  have r12 : W8.cell? ⟨wr.heap.size, 12, none⟩ = some (.slice o.pA o.op.preds.length o.pc) := hob.cell 12
                  have s0 : W8.cell? ⟨w.heap.size, 0, none⟩ = some (.int .i64 c.actor) := hC8.blk.cell 0
                  have s2 : W8.cell? ⟨w.heap.size, 2, none⟩ = some (.int .i64 c.start) := hC8.blk.cell 2
                  have H8 := Lib.hid (And.intro hb8 hC8)
                  clear hW8 hb8 hob hC8
                  go_upto_region 31 with (fail)
                  clear r0 r1 r2 r3 r4 r5 r6 r7 r8 r9 r10 r11 r12 s0 s2
                  obtain ⟨W9, hW9⟩ : ∃ W9, W9 = W8.alloc (.cells #[.int .i64 o.op.kind, .int .i64 o.op.obj.1, .int .i64 o.op.obj.2, .string o.op.key, .int .i64 o.op.elem.1, .int .i64 o.op.elem.2, .bool o.op.ins, .int .i64 o.op.val.k, .int .i64 o.op.val.n, .string o.op.val.s, .int .i64 o.op.val.o, .int .i64 o.op.val.p, .slice o.pA o.op.preds.length o.pc, .int .i64 (c.start + (j : Int)), .int .i64 c.actor] 135) := ⟨_, rfl⟩
                  rw [← hW9]
                  have hb9 : Below W8.heap.size W8 W9 := by rw [hW9]; exact (Below.refl _ _).alloc (Nat.le_refl _) _
                  have hb89 : Below wr.heap.size wr W9 := H8.out.1.trans (hb9.mono H8.out.1.size)
                  have hnb : Blk W9 W8.heap.size 135 #[.int .i64 o.op.kind, .int .i64 o.op.obj.1, .int .i64 o.op.obj.2, .string o.op.key, .int .i64 o.op.elem.1, .int .i64 o.op.elem.2, .bool o.op.ins, .int .i64 o.op.val.k, .int .i64 o.op.val.n, .string o.op.val.s, .int .i64 o.op.val.o, .int .i64 o.op.val.p, .slice o.pA o.op.preds.length o.pc, .int .i64 (c.start + (j : Int)), .int .i64 c.actor] := by rw [hW9]; exact Blk.new _ _ _
                  have hC9 := H8.out.2.new hb9
                  have hFC := opFits_any o.op o.pA o.pc (c.start + (j : Int), c.actor) mo Do4 W9 (H5.out.1.below hb89) ((H0.out.2.2.2.1.preds o H5.out.2.2.2).below hC9.bel) (H0.out.2.2.2.1.op o H5.out.2.2.2)
                  unfold OpX at hFC
                  have HFC := Lib.hid hFC
                  have hi9 : I2 (c.start + (j : Int), c.actor) := ⟨⟨by show (-9223372036854775808 : Int) ≤ c.start + (j : Int); omega, by show c.start + (j : Int) ≤ 9223372036854775807; omega⟩, H0.out.2.2.2.1.actor⟩
                  have H9 := Lib.hid (And.intro hb89 (And.intro hC9 (And.intro hnb hi9)))
                  have v0 : W9.cell? ⟨W8.heap.size, 0, none⟩ = some (.int .i64 o.op.kind) := hnb.cell 0
                  have v1 : W9.cell? ⟨W8.heap.size, 1, none⟩ = some (.int .i64 o.op.obj.1) := hnb.cell 1
                  have v2 : W9.cell? ⟨W8.heap.size, 2, none⟩ = some (.int .i64 o.op.obj.2) := hnb.cell 2
                  have v3 : W9.cell? ⟨W8.heap.size, 3, none⟩ = some (.string o.op.key) := hnb.cell 3
                  have v4 : W9.cell? ⟨W8.heap.size, 4, none⟩ = some (.int .i64 o.op.elem.1) := hnb.cell 4
                  have v5 : W9.cell? ⟨W8.heap.size, 5, none⟩ = some (.int .i64 o.op.elem.2) := hnb.cell 5
                  have v6 : W9.cell? ⟨W8.heap.size, 6, none⟩ = some (.bool o.op.ins) := hnb.cell 6
                  have v7 : W9.cell? ⟨W8.heap.size, 7, none⟩ = some (.int .i64 o.op.val.k) := hnb.cell 7
                  have v8 : W9.cell? ⟨W8.heap.size, 8, none⟩ = some (.int .i64 o.op.val.n) := hnb.cell 8
                  have v9 : W9.cell? ⟨W8.heap.size, 9, none⟩ = some (.string o.op.val.s) := hnb.cell 9
                  have v10 : W9.cell? ⟨W8.heap.size, 10, none⟩ = some (.int .i64 o.op.val.o) := hnb.cell 10
                  have v11 : W9.cell? ⟨W8.heap.size, 11, none⟩ = some (.int .i64 o.op.val.p) := hnb.cell 11
                  have v12 : W9.cell? ⟨W8.heap.size, 12, none⟩ = some (.slice o.pA o.op.preds.length o.pc) := hnb.cell 12
                  have v13 : W9.cell? ⟨W8.heap.size, 13, none⟩ = some (.int .i64 (c.start + (j : Int))) := hnb.cell 13
                  have v14 : W9.cell? ⟨W8.heap.size, 14, none⟩ = some (.int .i64 c.actor) := hnb.cell 14
                  clear hW9 hb9 hb89 hnb hC9 hFC hi9
                  go_cut [108, 125] from 108 to 130 (fun s108 s125 wx => s108 = .int .i64 (j : Int) ∧ (∃ z : Bool, s125 = .bool z) ∧ Below W9.heap.size W9 wx)
                  case first =>
                    go_wp2_with (go_at_call 76; refine HFC.out.mono ?_; rintro e w5 ⟨z, rfl, hb5⟩)
                    go_meet
                    exact ⟨rfl, ⟨_, rfl⟩, hb5⟩
                  case rest =>
                    obtain ⟨rfl, ⟨z, rfl⟩, hbc⟩ := hcut
                    clear v0 v1 v2 v3 v4 v5 v6 v7 v8 v9 v10 v11 v12 v13 v14
                    have hCc := H9.out.2.1.new hbc
                    cases z with
                    | true =>
                      have HCc := Lib.hid hCc
                      clear hCc hbc
                      go_wp2_with fail
                      go_ret
                      first | exact ⟨_, rfl, HCc.out.bel⟩ | exact ⟨rfl, HCc.out.bel⟩ | exact HCc.out.bel
                    | false =>
                      have hnb := H9.out.2.2.1.below hbc H9.out.2.2.1.lt
                      have hOc := (H5.out.1.below H9.out.1).below hbc
                      have hO9 := hOc.1
                      have hi9 := H9.out.2.2.2
                      have hsz9 : Maps.size Do4 < maxLen := by have := H5.out.2.2.1; unfold maxLen; omega
                      have HD := Lib.hid (And.intro hCc hOc)
                      have v0 : wc.cell? ⟨W8.heap.size, 0, none⟩ = some (.int .i64 o.op.kind) := hnb.cell 0
                      have v1 : wc.cell? ⟨W8.heap.size, 1, none⟩ = some (.int .i64 o.op.obj.1) := hnb.cell 1
                      have v2 : wc.cell? ⟨W8.heap.size, 2, none⟩ = some (.int .i64 o.op.obj.2) := hnb.cell 2
                      have v3 : wc.cell? ⟨W8.heap.size, 3, none⟩ = some (.string o.op.key) := hnb.cell 3
                      have v4 : wc.cell? ⟨W8.heap.size, 4, none⟩ = some (.int .i64 o.op.elem.1) := hnb.cell 4
                      have v5 : wc.cell? ⟨W8.heap.size, 5, none⟩ = some (.int .i64 o.op.elem.2) := hnb.cell 5
                      have v6 : wc.cell? ⟨W8.heap.size, 6, none⟩ = some (.bool o.op.ins) := hnb.cell 6
                      have v7 : wc.cell? ⟨W8.heap.size, 7, none⟩ = some (.int .i64 o.op.val.k) := hnb.cell 7
                      have v8 : wc.cell? ⟨W8.heap.size, 8, none⟩ = some (.int .i64 o.op.val.n) := hnb.cell 8
                      have v9 : wc.cell? ⟨W8.heap.size, 9, none⟩ = some (.string o.op.val.s) := hnb.cell 9
                      have v10 : wc.cell? ⟨W8.heap.size, 10, none⟩ = some (.int .i64 o.op.val.o) := hnb.cell 10
                      have v11 : wc.cell? ⟨W8.heap.size, 11, none⟩ = some (.int .i64 o.op.val.p) := hnb.cell 11
                      have v12 : wc.cell? ⟨W8.heap.size, 12, none⟩ = some (.slice o.pA o.op.preds.length o.pc) := hnb.cell 12
                      have v13 : wc.cell? ⟨W8.heap.size, 13, none⟩ = some (.int .i64 (c.start + (j : Int))) := hnb.cell 13
                      have v14 : wc.cell? ⟨W8.heap.size, 14, none⟩ = some (.int .i64 c.actor) := hnb.cell 14
                      clear hCc hbc hnb hOc
                      go_wp2_with (first
                        | (at_mapUpdate; refine wpList_upd _ rfl _ _ _ 133 rfl 24 135 pairId Tryz.underlying133 mo _ Do4 rfl hO9 hsz9 (c.start + (j : Int), c.actor) rfl hi9 (OpX o.op o.pA o.pc (c.start + (j : Int), c.actor)) rfl ?_; intro w5 hm5 ho5 hs5)
                        | fail)
                      refine ⟨⟨j + 1, by push_cast; rfl, by omega, _, HD.out.2.put hi9 hm5, HD.out.1.turn ho5 (fun i e => by have : i = mo := e; omega), ?_⟩, by simp [intOf]; omega⟩
                      have h1 := own_size hm5
                      have h2 := H5.out.2.2.1
                      omega
                · obtain rfl : j = c.ops.length := by omega
                  have H5 := Lib.hid hC4
                  clear hO4 hC4 hs4
                  go_wp2_with fail
                  go_ret
                  exact ⟨_, rfl, H5.out.bel⟩
        · intro x1 x2 v w2 cnt2 hx hl2 hat hrg2 hlt2 ho2 hs2 hen2
          have hlc := hrg.left_eq
          obtain ⟨x, hxv, hxc, hxs, hxl⟩ := H0.out.2.2.1.get hx
          unfold PCh.value at hxv
          obtain ⟨W7, hW7⟩ : ∃ W7, W7 = w2.alloc (.cells #[.int .i64 x1, .int .i64 x2] 33) := ⟨_, rfl⟩
          have hb7 : Below w2.heap.size w2 W7 := by rw [hW7]; exact (Below.refl _ _).alloc (Nat.le_refl _) _
          have hC2 : CB w c w2 := HR.out.2.1.turn ho2 (fun i e => by have : i = it := e; have := HZ.out; omega)
          have hO2 : OpsM w2 mo Do := HR.out.1.only ho2 (by show ¬ (mo = it); have := HZ.out; omega)
          have hC7 := hC2.new hb7
          have hB7 : Blk W7 w2.heap.size 33 #[.int .i64 x1, .int .i64 x2] := by rw [hW7]; exact Blk.new _ _ _
          have hrg7 : W7.ranges Tryz.prog 33 anyElem m it (Maps.size Dm) Dm (fun z => left z && !z.sameKey (rlit (x1, x2))) cnt2 := by rw [hW7]; exact hrg2.alloc _
          have hS : ∀ W, Below W7.heap.size W7 W → W.cell? ⟨bk, 0, none⟩ = some (.map (some h)) ∧ W.cell? ⟨w2.heap.size, 0, none⟩ = some (.int .i64 x1) ∧ W.cell? ⟨w2.heap.size, 1, none⟩ = some (.int .i64 x2) ∧
              (Instr.lookup 93 (.map (some h)) (.agg #[.int .i64 x1, .int .i64 x2]) false).run Tryz.prog W = .ok (.agg #[.int .i64 x.actor, .int .i64 x.seq, .int .i64 x.start, .slice x.dA x.deps.length x.dc, .slice x.oA x.ops.length x.oc]) W := by
            intro W hW
            have h2 := H0.out.1.below (hC7.bel.trans (hW.mono hC7.bel.size))
            have hN2 := hB7.below hW hB7.lt
            refine ⟨h2.blk.cell 0, hN2.cell 0, hN2.cell 1, ?_⟩
            have := run_look pairRef (w := W) h2.has Tryz.underlying93 (zeroCh _) hx
            rw [hxv] at this
            exact this
          have HX := Lib.hid (And.intro hrg7 (And.intro (hO2.below hb7) (And.intro hC7 (And.intro hB7 (And.intro (And.intro hlt2 hlc) (And.intro hxc (And.intro hxs (And.intro hxl hx))))))))
          have HKS := Lib.hid hS
          have hS0 := hS W7 (Below.refl _ _)
          clear hrg hrg2 hl2 hat hlt2 ho2 hs2 hlc hxv hxc hxs hxl hb7 hC2 hO2 hC7 hB7 hrg7 hS hx
          go_upto_region 14 with (fail)
          rw [← hW7]
          clear hW7
          obtain ⟨p1, p2, p3, p4⟩ := hS0
          go_cut [11] from 43 to 90 (fun s11 wx => s11 = .pointer (some ⟨W7.heap.size, 0, none⟩) ∧ Below W7.heap.size W7 wx ∧ Blk wx W7.heap.size 65 #[.int .i64 x.actor, .int .i64 x.seq, .int .i64 x.start, .slice x.dA x.deps.length x.dc, .slice x.oA x.ops.length x.oc])
          case first =>
            go_region_held3 (fun w' => w'.cell? ⟨bk, 0, none⟩ = some (.map (some h)) ∧ w'.cell? ⟨w2.heap.size, 0, none⟩ = some (.int .i64 x1) ∧ w'.cell? ⟨w2.heap.size, 1, none⟩ = some (.int .i64 x2) ∧ (Instr.lookup 93 (.map (some h)) (.agg #[.int .i64 x1, .int .i64 x2]) false).run Tryz.prog w' = .ok (.agg #[.int .i64 x.actor, .int .i64 x.seq, .int .i64 x.start, .slice x.dA x.deps.length x.dc, .slice x.oA x.ops.length x.oc]) w')
              (first | (with_reducible exact HKS.out _ (Below.refl _ W7).drew) | (with_reducible exact HKS.out _ ((Below.refl _ W7).alloc (Nat.le_refl _) _).drew) | go_keep) (first | fail)
            all_goals
              go_wp2_with fail
              go_meet
              exact ⟨rfl, ((Below.refl _ _).alloc (Nat.le_refl _) _).drew, Blk.new _ _ _⟩
          case rest =>
            obtain ⟨rfl, hbx, hxb⟩ := hcut
            have hCc := HX.out.2.2.1.new hbx
            have hrb := HX.out.2.2.2.1.below hbx HX.out.2.2.2.1.lt
            have HY := Lib.hid (And.intro hbx (And.intro hxb hCc))
            have q0 : wc.cell? ⟨w2.heap.size, 0, none⟩ = some (.int .i64 x1) := hrb.cell 0
            have q1 : wc.cell? ⟨w2.heap.size, 1, none⟩ = some (.int .i64 x2) := hrb.cell 1
            have q2 : wc.cell? ⟨w.heap.size, 0, none⟩ = some (.int .i64 c.actor) := hCc.blk.cell 0
            have q3 : wc.cell? ⟨w.heap.size, 1, none⟩ = some (.int .i64 c.seq) := hCc.blk.cell 1
            clear hbx hxb p1 p2 p3 p4 hCc hrb
            go_upto_region 15 with (fail)
            go_cut [64] from 43 to 90 (fun s64 wx => (∃ z : Bool, s64 = .bool z) ∧ wx = wc)
            case first =>
              obtain ⟨a, ha⟩ : ∃ a, (x1 == c.actor) = a := ⟨_, rfl⟩
              obtain ⟨b, hb⟩ : ∃ b, decide (c.seq ≤ x2) = b := ⟨_, rfl⟩
              cases a <;> cases b
              all_goals
                go_wp2_with fail
                go_meet
                exact ⟨⟨_, rfl⟩, rfl⟩
            case rest =>
              obtain ⟨⟨z, rfl⟩, rfl⟩ := hcut
              clear q0 q1 q2 q3
              cases z with
              | true =>
                go_wp2_with fail
                go_ret
                exact ⟨_, rfl, HY.out.2.2.bel⟩
              | false =>
                have q4 : wc.cell? ⟨W7.heap.size, 4, none⟩ = some (.slice x.oA x.ops.length x.oc) := HY.out.2.1.cell 4
                have hxl : x.ops.length ≤ 9223372036854775807 := by have := HX.out.2.2.2.2.2.2.2.1; omega
                have hst4 : ∃ Do, OpsM wc mo Do ∧ wc.ranges Tryz.prog 33 anyElem m it (Maps.size Dm) Dm (fun z => left z && !z.sameKey (rlit (x1, x2))) cnt2 ∧ CB w c wc ∧ Blk wc W7.heap.size 65 #[.int .i64 x.actor, .int .i64 x.seq, .int .i64 x.start, .slice x.dA x.deps.length x.dc, .slice x.oA x.ops.length x.oc] ∧ Maps.size Do + (x.ops.length - 0) + 40 * cnt2 ≤ 40040 := by
                  refine ⟨Do, HX.out.2.1.below HY.out.1, ranges_only HX.out.1 (Only.of_below (S := fun _ => False) HY.out.1) (fun h => h) (fun h => h), HY.out.2.2, HY.out.2.1, ?_⟩
                  have h1 := HX.out.2.2.2.2.1.1
                  have h2 := HR.out.2.2
                  have h3 := HX.out.2.2.2.2.2.2.2.1
                  omega
                have H4 := Lib.hid hst4
                clear hst4
                go_wp2_with fail
                clear q4
                go_loopw [68, 12, 13, 14] (fun iv _ _ _ wj => ∃ j : Nat, iv = .int .i64 j ∧ j ≤ x.ops.length ∧ ∃ Do, OpsM wj mo Do ∧ wj.ranges Tryz.prog 33 anyElem m it (Maps.size Dm) Dm (fun z => left z && !z.sameKey (rlit (x1, x2))) cnt2 ∧ CB w c wj ∧ Blk wj W7.heap.size 65 #[.int .i64 x.actor, .int .i64 x.seq, .int .i64 x.start, .slice x.dA x.deps.length x.dc, .slice x.oA x.ops.length x.oc] ∧ Maps.size Do + (x.ops.length - j) + 40 * cnt2 ≤ 40040) (fun iv _ _ _ _ => x.ops.length - (intOf iv).toNat)
                case atStart => exact ⟨0, rfl, Nat.zero_le _, H4.out⟩
                case round =>
                  obtain ⟨j, rfl, hj, Do4, hO4, hrg4, hC4, hB4, hs4⟩ := hrel
                  by_cases hlt4 : j < x.ops.length
                  · have ho := List.getElem?_eq_getElem hlt4
                    generalize x.ops[j] = o at ho
                    have hom := List.mem_of_getElem? ho
                    obtain ⟨b, off, ha, hcell⟩ := (HX.out.2.2.2.2.2.1.ops.below hC4.bel).op ho
                    have HA := Lib.hid ha
                    rw [ha]
                    have o0 : wr.cell? ⟨b, off + j * 13, none⟩ = some (.int .i64 o.op.kind) := hcell 0 _ rfl
                    have o1 : wr.cell? ⟨b, off + j * 13 + 1, none⟩ = some (.int .i64 o.op.obj.1) := hcell 1 _ rfl
                    have o2 : wr.cell? ⟨b, off + j * 13 + 2, none⟩ = some (.int .i64 o.op.obj.2) := hcell 2 _ rfl
                    have o3 : wr.cell? ⟨b, off + j * 13 + 3, none⟩ = some (.string o.op.key) := hcell 3 _ rfl
                    have o4 : wr.cell? ⟨b, off + j * 13 + 4, none⟩ = some (.int .i64 o.op.elem.1) := hcell 4 _ rfl
                    have o5 : wr.cell? ⟨b, off + j * 13 + 5, none⟩ = some (.int .i64 o.op.elem.2) := hcell 5 _ rfl
                    have o6 : wr.cell? ⟨b, off + j * 13 + 6, none⟩ = some (.bool o.op.ins) := hcell 6 _ rfl
                    have o7 : wr.cell? ⟨b, off + j * 13 + 7, none⟩ = some (.int .i64 o.op.val.k) := hcell 7 _ rfl
                    have o8 : wr.cell? ⟨b, off + j * 13 + 8, none⟩ = some (.int .i64 o.op.val.n) := hcell 8 _ rfl
                    have o9 : wr.cell? ⟨b, off + j * 13 + 9, none⟩ = some (.string o.op.val.s) := hcell 9 _ rfl
                    have o10 : wr.cell? ⟨b, off + j * 13 + 10, none⟩ = some (.int .i64 o.op.val.o) := hcell 10 _ rfl
                    have o11 : wr.cell? ⟨b, off + j * 13 + 11, none⟩ = some (.int .i64 o.op.val.p) := hcell 11 _ rfl
                    have o12 : wr.cell? ⟨b, off + j * 13 + 12, none⟩ = some (.slice o.pA o.op.preds.length o.pc) := hcell 12 _ rfl
                    have hsx := HX.out.2.2.2.2.2.2.1
                    have hl40 := HX.out.2.2.2.2.2.2.2.1
                    have H5 := Lib.hid (And.intro hO4 (And.intro hrg4 (And.intro hC4 (And.intro hB4 (And.intro hs4 hom)))))
                    clear hO4 hrg4 hC4 hB4 hs4 ho ha hcell hom
                    go_upto_region 20 with (fail)
                    obtain ⟨W8, hW8⟩ : ∃ W8, W8 = wr.alloc (.cells #[.int .i64 o.op.kind, .int .i64 o.op.obj.1, .int .i64 o.op.obj.2, .string o.op.key, .int .i64 o.op.elem.1, .int .i64 o.op.elem.2, .bool o.op.ins, .int .i64 o.op.val.k, .int .i64 o.op.val.n, .string o.op.val.s, .int .i64 o.op.val.o, .int .i64 o.op.val.p, .slice o.pA o.op.preds.length o.pc] 51) := ⟨_, rfl⟩
                    rw [← hW8]
                    have hb8 : Below wr.heap.size wr W8 := by rw [hW8]; exact (Below.refl _ _).alloc (Nat.le_refl _) _
                    have hob : Blk W8 wr.heap.size 51 #[.int .i64 o.op.kind, .int .i64 o.op.obj.1, .int .i64 o.op.obj.2, .string o.op.key, .int .i64 o.op.elem.1, .int .i64 o.op.elem.2, .bool o.op.ins, .int .i64 o.op.val.k, .int .i64 o.op.val.n, .string o.op.val.s, .int .i64 o.op.val.o, .int .i64 o.op.val.p, .slice o.pA o.op.preds.length o.pc] := by rw [hW8]; exact Blk.new _ _ _
                    have hxb8 := H5.out.2.2.2.1.below hb8 H5.out.2.2.2.1.lt
                    have r0 : W8.cell? ⟨W7.heap.size, 0, none⟩ = some (.int .i64 x.actor) := hxb8.cell 0
                    have r2 : W8.cell? ⟨W7.heap.size, 2, none⟩ = some (.int .i64 x.start) := hxb8.cell 2
                    have H8 := Lib.hid (And.intro hb8 hob)
                    clear hW8 hb8 hob hxb8 o0 o1 o2 o3 o4 o5 o6 o7 o8 o9 o10 o11 o12
                    go_upto_region 21 with (fail)
                    clear r0 r2
                    obtain ⟨W9, hW9⟩ : ∃ W9, W9 = W8.alloc (.cells #[.int .i64 (x.start + (j : Int)), .int .i64 x.actor] 24) := ⟨_, rfl⟩
                    rw [← hW9]
                    have hb9 : Below W8.heap.size W8 W9 := by rw [hW9]; exact (Below.refl _ _).alloc (Nat.le_refl _) _
                    have hb89 : Below wr.heap.size wr W9 := H8.out.1.trans (hb9.mono H8.out.1.size)
                    have hnb : Blk W9 W8.heap.size 24 #[.int .i64 (x.start + (j : Int)), .int .i64 x.actor] := by rw [hW9]; exact Blk.new _ _ _
                    have hob9 := H8.out.2.below hb9 H8.out.2.lt
                    have hC9 := H5.out.2.2.1.new hb89
                    have hO9 := (H5.out.1.below hb89).1
                    have hsz9 : Maps.size Do4 < maxLen := by have := H5.out.2.2.2.2.1; unfold maxLen; omega
                    have hi9 : I2 (x.start + (j : Int), x.actor) := ⟨⟨by show (-9223372036854775808 : Int) ≤ x.start + (j : Int); omega, by show x.start + (j : Int) ≤ 9223372036854775807; omega⟩, HX.out.2.2.2.2.2.1.actor⟩
                    have o0 : W9.cell? ⟨wr.heap.size, 0, none⟩ = some (.int .i64 o.op.kind) := hob9.cell 0
                    have o1 : W9.cell? ⟨wr.heap.size, 1, none⟩ = some (.int .i64 o.op.obj.1) := hob9.cell 1
                    have o2 : W9.cell? ⟨wr.heap.size, 2, none⟩ = some (.int .i64 o.op.obj.2) := hob9.cell 2
                    have o3 : W9.cell? ⟨wr.heap.size, 3, none⟩ = some (.string o.op.key) := hob9.cell 3
                    have o4 : W9.cell? ⟨wr.heap.size, 4, none⟩ = some (.int .i64 o.op.elem.1) := hob9.cell 4
                    have o5 : W9.cell? ⟨wr.heap.size, 5, none⟩ = some (.int .i64 o.op.elem.2) := hob9.cell 5
                    have o6 : W9.cell? ⟨wr.heap.size, 6, none⟩ = some (.bool o.op.ins) := hob9.cell 6
                    have o7 : W9.cell? ⟨wr.heap.size, 7, none⟩ = some (.int .i64 o.op.val.k) := hob9.cell 7
                    have o8 : W9.cell? ⟨wr.heap.size, 8, none⟩ = some (.int .i64 o.op.val.n) := hob9.cell 8
                    have o9 : W9.cell? ⟨wr.heap.size, 9, none⟩ = some (.string o.op.val.s) := hob9.cell 9
                    have o10 : W9.cell? ⟨wr.heap.size, 10, none⟩ = some (.int .i64 o.op.val.o) := hob9.cell 10
                    have o11 : W9.cell? ⟨wr.heap.size, 11, none⟩ = some (.int .i64 o.op.val.p) := hob9.cell 11
                    have o12 : W9.cell? ⟨wr.heap.size, 12, none⟩ = some (.slice o.pA o.op.preds.length o.pc) := hob9.cell 12
                    have n0 : W9.cell? ⟨W8.heap.size, 0, none⟩ = some (.int .i64 (x.start + (j : Int))) := hnb.cell 0
                    have n1 : W9.cell? ⟨W8.heap.size, 1, none⟩ = some (.int .i64 x.actor) := hnb.cell 1
                    have n2 : W9.cell? ⟨w.heap.size, 2, none⟩ = some (.int .i64 c.start) := hC9.blk.cell 2
                    have H9 := Lib.hid (And.intro hb89 hC9)
                    clear hW9 hb9 hb89 hnb hob9 hC9
                    obtain ⟨z, hz⟩ : ∃ z, decide (c.start ≤ x.start + (j : Int)) = z := ⟨_, rfl⟩
                    cases z with
                    | true =>
                      go_wp2_with fail
                      go_ret
                      exact ⟨_, rfl, H9.out.2.bel⟩
                    | false =>
                      go_wp2_with (first
                        | (at_mapUpdate; refine wpList_upd _ rfl _ _ _ 133 rfl 24 135 pairId Tryz.underlying133 mo _ Do4 rfl hO9 hsz9 (x.start + (j : Int), x.actor) rfl hi9 (OpX o.op o.pA o.pc (x.start + (j : Int), x.actor)) rfl ?_; intro w5 hm5 ho5 hs5)
                        | fail)
                      have hmo7 := HX.out.2.1.1.lt
                      have hzz := HZ.out
                      have hxb5 : Blk w5 W7.heap.size 65 #[.int .i64 x.actor, .int .i64 x.seq, .int .i64 x.start, .slice x.dA x.deps.length x.dc, .slice x.oA x.ops.length x.oc] := (H5.out.2.2.2.1.below H9.out.1 H5.out.2.2.2.1.lt).only ho5 (by show ¬ (W7.heap.size = mo); omega)
                      rw [HA.out] at hxb5
                      refine ⟨⟨j + 1, by push_cast; rfl, by omega, _, (H5.out.1.below H9.out.1).put hi9 hm5, ranges_only (ranges_only H5.out.2.1 (Only.of_below (S := fun _ => False) H9.out.1) (fun h => h) (fun h => h)) ho5 (by show ¬ (m = mo); omega) (by show ¬ (it = mo); omega), H9.out.2.turn ho5 (fun i e => by have : i = mo := e; omega), hxb5, ?_⟩, by simp [intOf]; omega⟩
                      have h1 := own_size hm5
                      have h2 := H5.out.2.2.2.2.1
                      omega
                  · obtain rfl : j = x.ops.length := by omega
                    have H5 := Lib.hid (And.intro hO4 (And.intro hrg4 (And.intro hC4 (And.intro hB4 hs4))))
                    clear hO4 hrg4 hC4 hB4 hs4
                    go_wp2_with fail
                    refine ⟨⟨_, cnt2, _, H5.out.2.1, H5.out.1, H5.out.2.2.1, by have := H5.out.2.2.2.2; omega⟩, ?_⟩
                    rw [H5.out.2.1.left_eq, HX.out.2.2.2.2.1.2]
                    exact HX.out.2.2.2.2.1.1
end Go.Proofs.YteknflimfdkhoaaGreat
namespace Go.Proofs.YteknflimfdkhoaaGreat
open Go.RowKit Go.Maps
set_option linter.unusedVariables false
set_option linter.unusedSimpArgs false

/-- What a change that Check lets by is like. -/
structure GoodC (c : PCh) : Prop where
  ref : refOk c.ref = true
  st : 1 ≤ c.start ∧ c.start ≤ 1000000
  deps : c.deps.length ≤ 12
  ops : c.ops.length ≤ 40
  preds : ∀ o ∈ c.ops, o.op.preds.length ≤ 12
  key : ∀ o ∈ c.ops, o.op.key.size ≤ 20
  val : ∀ o ∈ c.ops, o.op.val.ok = true
theorem firstF_cons {x : Int} {l : List Int} (h : firstF (x :: l) = 0) : x = 0 ∧ firstF l = 0 := by
  unfold firstF at h
  split at h
  · rename_i h0; exact ⟨h0, h⟩
  · rename_i h0; exact absurd h h0
theorem chE_good {c : PCh} (h : chE c.ch = 0) : GoodC c := by
  have hch : c.ch.ops = c.ops.map POp.op := rfl
  unfold chE at h
  split at h
  · rename_i h1
    unfold chE1 at h1
    split at h1
    · exact absurd h1 (by decide)
    · rename_i hn
      simp only [not_or] at hn
      obtain ⟨n1, n2, n3⟩ := hn
      split at h1
      · exact absurd h1 (by decide)
      · rename_i hd
        unfold chE2 at h
        split at h
        · exact absurd h (by decide)
        · rename_i ho
          split at h
          · exact absurd h (by decide)
          · rw [hch, List.length_map] at ho
            have hop : ∀ o ∈ c.ops, opE o.op = 0 := fun o hm => firstF_all h _ (List.mem_map_of_mem (by rw [hch]; exact List.mem_map_of_mem hm))
            have h3 : ∀ o ∈ c.ops, opE3 o.op = 0 ∧ opE4 o.op = 0 := fun o hm => by
              have h0 := hop o hm
              unfold opE at h0
              have a1 := firstF_cons h0
              have a2 := firstF_cons a1.2
              have a3 := firstF_cons a2.2
              exact ⟨a3.1, (firstF_cons a3.2).1⟩
            refine ⟨(Bool.not_eq_false _).mp n1, ⟨by have : ¬ c.start < 1 := n2; omega, by have : ¬ 1000000 < c.start := n3; omega⟩, by have : ¬ 12 < c.deps.length := hd; omega, by omega, fun o hm => ?_, fun o hm => ?_, fun o hm => ?_⟩
            · have h0 := (h3 o hm).1
              unfold opE3 at h0
              split at h0
              · exact absurd h0 (by decide)
              · unfold idsE at h0
                split at h0
                · exact absurd h0 (by decide)
                · omega
            · have h0 := (h3 o hm).1
              unfold opE3 at h0
              split at h0
              · exact absurd h0 (by decide)
              · omega
            · have h0 := (h3 o hm).2
              unfold opE4 at h0
              split at h0
              · exact absurd h0 (by decide)
              · split at h0
                · exact absurd h0 (by decide)
                · rename_i hv; simpa using hv
  · rename_i h1; exact absurd h h1
theorem GoodC.i2 {c : PCh} (h : GoodC c) : I2 c.ref := refOk_i2 h.ref
theorem GoodC.seq {c : PCh} (h : GoodC c) : 1 ≤ c.seq := by
  have h1 : (refOk (c.actor, c.seq)) = true := h.ref
  simp [refOk] at h1
  exact h1.2.1

/-- A map whose keys are keys of another one. -/
theorem size_sub {w w2 : World} {m h : Nat} {Dm Dh : DataW Value} (hm : OM w m Dm) (hh : OM w2 h Dh) (hc : ∀ s, I2 s → hasB Dm s = true → hasB Dh s = true) : Maps.size Dm ≤ Maps.size Dh := by
  obtain ⟨es, e1, e2, e3⟩ := own_keys pairRef hm
  obtain ⟨fs, f1, f2, f3⟩ := own_keys pairRef hh
  have hn : (es.map (·.1)).Nodup := by
    rw [List.Nodup, List.pairwise_map]
    exact e2
  have : DecidableEq Lit := fun a b => Classical.propDecidable (a = b)
  have := nodup_sub_len (es.map (·.1)) (fs.map (·.1)) hn (by
    intro l hl
    obtain ⟨p, hp, rfl⟩ := List.mem_map.1 hl
    obtain ⟨s, hs, e⟩ := e3 p hp
    have h1 : Maps.has Dm (rlit s) = true := by
      rw [e1]
      exact List.any_eq_true.2 ⟨p, hp, by rw [e]; exact WideAt.sameKey_self (rlit_key s)⟩
    rw [hasD_ref hm hs] at h1
    have h2 := hc s hs h1
    rw [← hasD_ref hh hs, f1] at h2
    obtain ⟨q, hq, hqs⟩ := List.any_eq_true.1 h2
    have : q.1 = rlit s := WideAt.sameKey_eq hqs
    rw [e, ← this]
    exact List.mem_map_of_mem hq)
  simp at this
  rw [e1, f1]
  exact this
theorem OM.tidy {w : World} {b : Nat} {D : DataW Value} (h : OM w b D) : Tidy D := World.ownsMap.tidy h keyedRef
theorem OM.size_put {w : World} {b : Nat} {D : DataW Value} (h : OM w b D) (r : Int × Int) (v : DataW Value) : Maps.size (D.put (rlit r) v) ≤ Maps.size D + 1 := by
  rw [Maps.size_put h.tidy]
  split <;> omega
theorem OM.size_del {w : World} {b : Nat} {D : DataW Value} (h : OM w b D) {r : Int × Int} (hr : I2 r) (hh : hasB D r = true) : Maps.size (D.del (rlit r)) + 1 = Maps.size D := by
  have := Maps.size_del (k := rlit r) h.tidy
  rw [hasD_ref h hr, hh] at this
  simpa using this

/-- The changes of a list, as a map. -/
def findC (L : List PCh) (r : Int × Int) : Option PCh := L.find? (fun c => decide (c.ref = r))
theorem findC_some {L : List PCh} {r : Int × Int} {c : PCh} (h : findC L r = some c) : c ∈ L ∧ c.ref = r := ⟨List.mem_of_find?_eq_some h, by simpa using List.find?_some h⟩
theorem findC_mem {L : List PCh} {r : Int × Int} : (findC L r).isSome = true ↔ r ∈ L.map PCh.ref := by
  unfold findC
  rw [List.find?_isSome]
  simp
theorem findC_of {L : List PCh} (hn : (L.map PCh.ref).Nodup) {c : PCh} (hc : c ∈ L) : findC L c.ref = some c := by
  induction L with
  | nil => cases hc
  | cons x L ih =>
    unfold findC
    rw [List.find?_cons]
    rw [List.map_cons, List.nodup_cons] at hn
    rcases List.mem_cons.1 hc with rfl | hc
    · simp
    · have hne : ¬ x.ref = c.ref := fun e => hn.1 (by rw [e]; exact List.mem_map_of_mem hc)
      simp only [hne, decide_false]
      exact ih hn.2 hc
theorem findC_append {L : List PCh} {c : PCh} {r : Int × Int} (hn : c.ref ∉ L.map PCh.ref) : findC (L ++ [c]) r = if r = c.ref then some c else findC L r := by
  unfold findC
  rw [List.find?_append]
  by_cases e : r = c.ref
  · subst e
    have : L.find? (fun x => decide (x.ref = c.ref)) = none := List.find?_eq_none.2 (fun x hx => by
      simp only [decide_eq_true_eq]
      intro e; exact hn (by rw [← e]; exact List.mem_map_of_mem hx))
    simp [this]
  · have : ¬ c.ref = r := fun h => e h.symm
    simp [e, this]

/-- A book: its maps, the changes that are there in the order in which they came, the changes that wait. -/
structure Dag (w : World) (bk h wt bh : Nat) (Dh Dw Db : DataW Value) (L : List PCh) : Prop where
  bkm : BkM w bk h wt bh Dh Dw Db
  beh : BehOk w h wt bh Dh Db
  keys : ∀ r, I2 r → (mget Db r).isSome = (mget Dh r).isSome
  has : ∀ r, I2 r → mget Dh r = (findC L r).map PCh.value
  good : ∀ c ∈ L, InC w c ∧ chE c.ch = 0
  ndp : (L.map PCh.ref).Nodup
  shut : ∀ L1 c L2, L = L1 ++ c :: L2 → ∀ d ∈ c.deps, d ∈ L1.map PCh.ref
  wts : ∀ r, I2 r → ∀ v, mget Dw r = some v → ∃ c : PCh, v = c.value ∧ InC w c ∧ chE c.ch = 0 ∧ c.ref = r
  sz : Maps.size Dh + Maps.size Dw ≤ 120
  apart : ∀ r, I2 r → hasB Dw r = true → hasB Dh r = false
theorem Dag.below {w w' : World} {bk h wt bh : Nat} {Dh Dw Db : DataW Value} {L : List PCh} (H : Dag w bk h wt bh Dh Dw Db L) (hb : Below w.heap.size w w') : Dag w' bk h wt bh Dh Dw Db L :=
  ⟨H.bkm.below hb, fun r hr v hv => by
      obtain ⟨m, Dm, e1, e2, e3⟩ := H.beh r hr v hv
      exact ⟨m, Dm, e1, e2.below hb, e3⟩, H.keys, H.has, fun c hc => ⟨(H.good c hc).1.below hb, (H.good c hc).2⟩, H.ndp, H.shut, fun r hr v hv => by
      obtain ⟨c, e1, e2, e3⟩ := H.wts r hr v hv
      exact ⟨c, e1, e2.below hb, e3⟩, H.sz, H.apart⟩
theorem Dag.hasB_mem {w : World} {bk h wt bh : Nat} {Dh Dw Db : DataW Value} {L : List PCh} (H : Dag w bk h wt bh Dh Dw Db L) {r : Int × Int} (hr : I2 r) : hasB Dh r = true ↔ r ∈ L.map PCh.ref := by
  unfold hasB
  rw [H.has r hr, Option.isSome_map]
  exact findC_mem
theorem Dag.chmap {w : World} {bk h wt bh : Nat} {Dh Dw Db : DataW Value} {L : List PCh} (H : Dag w bk h wt bh Dh Dw Db L) : ChMap Dh := fun r hr v hv => by
  rw [H.has r hr] at hv
  obtain ⟨c, hc, rfl⟩ := Option.map_eq_some_iff.1 hv
  exact ⟨c, rfl⟩
theorem Dag.inHas {w : World} {bk h wt bh : Nat} {Dh Dw Db : DataW Value} {L : List PCh} (H : Dag w bk h wt bh Dh Dw Db L) : InHas w Dh := fun r hr v hv => by
  rw [H.has r hr] at hv
  obtain ⟨c, hc, rfl⟩ := Option.map_eq_some_iff.1 hv
  have hm := (findC_some hc).1
  have hg := chE_good (H.good c hm).2
  exact ⟨c, rfl, (H.good c hm).1, ⟨by have := hg.st; omega, hg.st.2⟩, hg.ops⟩
theorem Dag.sizeDb {w : World} {bk h wt bh : Nat} {Dh Dw Db : DataW Value} {L : List PCh} (H : Dag w bk h wt bh Dh Dw Db L) : Maps.size Db ≤ Maps.size Dh :=
  size_sub H.bkm.beh H.bkm.has (fun s hs hb => by unfold hasB at *; rw [← H.keys s hs]; exact hb)
theorem Dag.deps {w : World} {bk h wt bh : Nat} {Dh Dw Db : DataW Value} {L : List PCh} (H : Dag w bk h wt bh Dh Dw Db L) {c : PCh} (hi : ∀ d ∈ c.deps, I2 d) (hr : readyB Dh c.deps = true) : (∀ d ∈ c.deps, d ∈ L.map PCh.ref) ∧ ∀ d ∈ c.deps, (mget Db d).isSome = true := by
  unfold readyB at hr
  have h1 : ∀ d ∈ c.deps, hasB Dh d = true := by
    intro d hd
    simp at hr
    exact hr d.1 d.2 hd
  refine ⟨fun d hd => (H.hasB_mem (hi d hd)).1 (h1 d hd), fun d hd => ?_⟩
  rw [H.keys d (hi d hd)]
  exact h1 d hd

/-- Behind put. -/
theorem Dag.put {w w' : World} {bk h wt bh m : Nat} {Dh Dw Db Dm : DataW Value} {L : List PCh} {c : PCh} (H : Dag w bk h wt bh Dh Dw Db L) (hc : InC w c) (hg : chE c.ch = 0) (hn : hasB Dh c.ref = false) (hnw : hasB Dw c.ref = false) (hd : ∀ d ∈ c.deps, d ∈ L.map PCh.ref)
    (hsz : Maps.size Dh + Maps.size Dw < 120)
    (hb : BkM w' bk h wt bh (Dh.put (rlit c.ref) (.held c.value)) Dw (Db.put (rlit c.ref) (.held (.map (some m))))) (hm : OM w' m Dm) (hwm : w.heap.size ≤ m) (hk : Cont Dh c.ref Dm) (ho : Only (fun i => i = h ∨ i = bh) w w') :
    Dag w' bk h wt bh (Dh.put (rlit c.ref) (.held c.value)) Dw (Db.put (rlit c.ref) (.held (.map (some m)))) (L ++ [c]) := by
  have hr := (chE_good hg).i2
  have hnr : c.ref ∉ L.map PCh.ref := fun e => by rw [(H.hasB_mem hr).2 e] at hn; cases hn
  have gh : ∀ s, I2 s → mget (Dh.put (rlit c.ref) (.held c.value)) s = if s = c.ref then some c.value else mget Dh s := fun s hs => H.bkm.has.get_put hr hs _
  have gb : ∀ s, I2 s → mget (Db.put (rlit c.ref) (.held (.map (some m)))) s = if s = c.ref then some (.map (some m)) else mget Db s := fun s hs => H.bkm.beh.get_put hr hs _
  have hS : ∀ i, (i = h ∨ i = bh) → IsMapB w i := fun i e => by
    rcases e with rfl | rfl
    · exact H.bkm.has.isMapB
    · exact H.bkm.beh.isMapB
  have hh : ∀ s, I2 s → hasB Dh s = true → hasB (Dh.put (rlit c.ref) (.held c.value)) s = true := fun s hs e => by
    unfold hasB at *
    rw [gh s hs]
    split
    · rfl
    · exact e
  refine ⟨hb, ?_, ?_, ?_, ?_, ?_, ?_, ?_, ?_, ?_⟩
  · intro r hr' v hv
    rw [gb r hr'] at hv
    split at hv
    · rename_i e
      have := Option.some.inj hv
      have l1 := H.bkm.has.lt
      have l2 := H.bkm.wts.lt
      have l3 := H.bkm.beh.lt
      refine ⟨m, Dm, this.symm, hm, by omega, by omega, by omega, fun s hs u hu => ?_⟩
      obtain ⟨k1, k2⟩ := hk s hs u hu
      refine ⟨k1, ?_⟩
      rcases k2 with rfl | k2
      · unfold hasB
        rw [gh _ hs, if_pos rfl]; rfl
      · exact hh s hs k2
    · obtain ⟨m', Dm', e1, e2, e3, e4, e5, e6⟩ := H.beh r hr' v hv
      exact ⟨m', Dm', e1, e2.only ho (fun e => by rcases e with e | e; exact e3 e; exact e5 e), e3, e4, e5, fun s hs u hu => ⟨(e6 s hs u hu).1, hh s hs (e6 s hs u hu).2⟩⟩
  · intro r hr'
    rw [gh r hr', gb r hr']
    split
    · rfl
    · exact H.keys r hr'
  · intro r hr'
    rw [gh r hr', findC_append hnr]
    split
    · rfl
    · exact H.has r hr'
  · intro x hx
    rcases List.mem_append.1 hx with hx | hx
    · exact ⟨(H.good x hx).1.maps ho hS, (H.good x hx).2⟩
    · rw [List.mem_singleton] at hx
      subst hx
      exact ⟨hc.maps ho hS, hg⟩
  · rw [List.map_append, List.nodup_append]
    refine ⟨H.ndp, by simp, fun a ha b hb' e => ?_⟩
    simp at hb'
    subst hb'
    exact hnr (e ▸ ha)
  · intro L1 x L2 he
    rcases List.eq_nil_or_concat L2 with rfl | ⟨L3, y, rfl⟩
    · have := List.append_inj' he rfl
      have h2 := this.2
      injection h2 with h2 _
      subst h2
      rw [← this.1]
      exact hd
    · have he2 : L ++ [c] = (L1 ++ x :: L3) ++ [y] := by rw [he]; simp
      have := (List.append_inj' he2 rfl).1
      exact H.shut L1 x L3 this
  · intro r hr' v hv
    obtain ⟨x, e1, e2, e3⟩ := H.wts r hr' v hv
    exact ⟨x, e1, e2.maps ho hS, e3⟩
  · have := H.bkm.has.size_put c.ref (.held c.value)
    omega
  · intro r hr' hw
    unfold hasB
    rw [gh r hr']
    split
    · rename_i e
      subst e
      rw [hnw] at hw
      cases hw
    · exact H.apart r hr' hw
/-- A change that waits. -/
theorem Dag.wait {w w' : World} {bk h wt bh : Nat} {Dh Dw Db : DataW Value} {L : List PCh} {c : PCh} (H : Dag w bk h wt bh Dh Dw Db L) (hc : InC w c) (hg : chE c.ch = 0) (hn : hasB Dh c.ref = false) (hsz : Maps.size Dh + Maps.size Dw < 120)
    (hm : OM w' wt (Dw.put (rlit c.ref) (.held c.value))) (ho : Only (fun i => i = wt) w w') : Dag w' bk h wt bh Dh (Dw.put (rlit c.ref) (.held c.value)) Db L := by
  have hr := (chE_good hg).i2
  have hS : ∀ i, i = wt → IsMapB w i := fun i e => by subst e; exact H.bkm.wts.isMapB
  have hnb := H.bkm.nbk
  refine ⟨⟨H.bkm.blk.only ho hnb.2.1, H.bkm.has.only ho H.bkm.n1, hm, H.bkm.beh.only ho (fun e => H.bkm.n3 e.symm), H.bkm.n1, H.bkm.n2, H.bkm.n3⟩, ?_, H.keys, H.has, fun x hx => ⟨(H.good x hx).1.maps ho hS, (H.good x hx).2⟩, H.ndp, H.shut, ?_, ?_, ?_⟩
  · intro r hr' v hv
    obtain ⟨m', Dm', e1, e2, e3, e4, e5, e6⟩ := H.beh r hr' v hv
    exact ⟨m', Dm', e1, e2.only ho e4, e3, e4, e5, e6⟩
  · intro r hr' v hv
    rw [H.bkm.wts.get_put hr hr'] at hv
    split at hv
    · rename_i e
      exact ⟨c, (Option.some.inj hv).symm, hc.maps ho hS, hg, e.symm⟩
    · obtain ⟨x, e1, e2, e3⟩ := H.wts r hr' v hv
      exact ⟨x, e1, e2.maps ho hS, e3⟩
  · have := H.bkm.wts.size_put c.ref (.held c.value)
    omega
  · intro r hr' hw
    unfold hasB at hw
    rw [H.bkm.wts.get_put hr hr'] at hw
    split at hw
    · rename_i e
      rw [e]
      exact hn
    · exact H.apart r hr' hw
/-- One that waits no more. -/
theorem Dag.free {w w' : World} {bk h wt bh : Nat} {Dh Dw Db : DataW Value} {L : List PCh} {r : Int × Int} (H : Dag w bk h wt bh Dh Dw Db L) (hr : I2 r)
    (hm : OM w' wt (Dw.del (rlit r))) (ho : Only (fun i => i = wt) w w') (hh : hasB Dw r = true) : Dag w' bk h wt bh Dh (Dw.del (rlit r)) Db L ∧ Maps.size Dh + Maps.size (Dw.del (rlit r)) < 120 ∧ Maps.size (Dw.del (rlit r)) < Maps.size Dw := by
  have hS : ∀ i, i = wt → IsMapB w i := fun i e => by subst e; exact H.bkm.wts.isMapB
  have hnb := H.bkm.nbk
  have hs := H.bkm.wts.size_del hr hh
  have hz := H.sz
  refine ⟨⟨⟨H.bkm.blk.only ho hnb.2.1, H.bkm.has.only ho H.bkm.n1, hm, H.bkm.beh.only ho (fun e => H.bkm.n3 e.symm), H.bkm.n1, H.bkm.n2, H.bkm.n3⟩, ?_, H.keys, H.has, fun x hx => ⟨(H.good x hx).1.maps ho hS, (H.good x hx).2⟩, H.ndp, H.shut, ?_, by omega, ?_⟩, by omega, by omega⟩
  · intro r' hr' v hv
    obtain ⟨m', Dm', e1, e2, e3, e4, e5, e6⟩ := H.beh r' hr' v hv
    exact ⟨m', Dm', e1, e2.only ho e4, e3, e4, e5, e6⟩
  · intro r' hr' v hv
    rw [mget_del pairRef hr hr'] at hv
    split at hv
    · cases hv
    · obtain ⟨x, e1, e2, e3⟩ := H.wts r' hr' v hv
      exact ⟨x, e1, e2.maps ho hS, e3⟩
  · intro r' hr' hw
    unfold hasB at hw
    rw [mget_del pairRef hr hr'] at hw
    split at hw
    · cases hw
    · exact H.apart r' hr' hw
end Go.Proofs.YteknflimfdkhoaaGreat
