/- fits, Take of a change that hangs on nothing and does nothing: contracts. -/
import Derived.Test.YtdenaejhfgmihaaDagTake
namespace Go.Proofs.Ytdenaejhfgmihaa
open Go.RowKit Go.Maps Go.WideShapes
set_option linter.unusedVariables false
set_option linter.unusedSimpArgs false

set_option maxRecDepth 100000 in
set_option maxHeartbeats 2000000 in
theorem fits_none (bp : Value) (a st : Int) (dA oA : Option Addr) (dc oc : Nat) (w : World) :
    Calls Try.prog 17 #[bp, .agg #[.int .i64 a, .int .i64 1, .int .i64 st, .slice dA 0 dc, .slice oA 0 oc]] w fun e w' => e = .returned (.bool true) ∧ Below w.heap.size w w' := by
  have hmm := @run_makeMap Try.prog
  obtain ⟨W0, hW0⟩ : ∃ W0, W0 = w.alloc (.cells #[.int .i64 a, .int .i64 1, .int .i64 st, .slice dA 0 dc, .slice oA 0 oc] 31) := ⟨_, rfl⟩
  have hB0 : Blk W0 w.heap.size 31 #[.int .i64 a, .int .i64 1, .int .i64 st, .slice dA 0 dc, .slice oA 0 oc] := by rw [hW0]; exact Blk.new _ _ _
  have hb0 : Below w.heap.size w W0 := by rw [hW0]; exact (Below.refl _ _).alloc (Nat.le_refl _) _
  obtain ⟨W4, hW4⟩ : ∃ W4, W4 = W0.alloc (.map #[] 0) := ⟨_, rfl⟩
  have hb4 : Below W0.heap.size W0 W4 := by rw [hW4]; exact (Below.refl _ _).alloc (Nat.le_refl _) _
  have hm4 : W4.ownsMap Try.prog 34 anyElem W0.heap.size 0 (.map []) := by rw [hW4]; exact World.ownsMap_made W0 _ _ _
  obtain ⟨m, hm⟩ : ∃ m, m = W0.heap.size := ⟨_, rfl⟩
  have hmw : m = w.heap.size + 1 := by rw [hm, hW0]; simp
  rw [← hm] at hm4
  have HW := Lib.hid (And.intro hW0 (And.intro hW4 (And.intro hm hmw)))
  have H4 := Lib.hid (And.intro (hB0.below hb4 hB0.lt) (And.intro (hb0.trans (hb4.mono hb0.size)) hm4))
  clear hB0 hb0 hb4 hm4 hW0 hW4 hm hmw
  go_enter Try.func17, Try.ntmps17
  go_upto_region 2 with (fail)
  rw [← HW.out.1, ← HW.out.2.1, ← HW.out.2.2.2]
  have b3 : W4.cell? ⟨w.heap.size, 3, none⟩ = some (.slice dA 0 dc) := H4.out.1.cell 3
  go_wp2_with fail
  clear b3
  go_loopw [22, 7, 8] (fun iv _ _ wr => iv = .int .i64 0 ∧ wr = W4) (fun _ _ _ _ => 0)
  case atStart => exact ⟨rfl, rfl⟩
  case round =>
    obtain ⟨rfl, rfl⟩ := hrel
    have HS4 := H4
    have hml : m < wr.heap.size := World.ownsMap.lt H4.out.2.2
    have hal : Below wr.heap.size wr (wr.alloc (.map #[] 0)) := (Below.refl _ _).alloc (Nat.le_refl _) _
    have hm2 : (wr.alloc (.map #[] 0)).ownsMap Try.prog 34 anyElem m 0 (.map []) := H4.out.2.2.alloc _
    clear HS4
    go_wp2_with (first | (at_range; refine wpList_range_own _ rfl _ 52 rfl 34 4 keyedRef Try.underlying52 _ m _ _ rfl hm2 ?_; intro w1 hrg1 hg1 hs1) | fail)
    go_frame
    have hC1 : Blk w1 w.heap.size 31 #[.int .i64 a, .int .i64 1, .int .i64 st, .slice dA 0 dc, .slice oA 0 oc] := (H4.out.1.below hal H4.out.1.lt).only (only_grown0 (S := fun _ => False) hg1) (fun h => h)
    have hbl1 : Below w.heap.size w w1 := ((Only.of_below (S := fun _ => False) (H4.out.2.1.trans (hal.mono H4.out.2.1.size))).trans (only_grown0 (S := fun _ => False) hg1)).below (Nat.le_refl _) (fun _ _ h => h)
    obtain ⟨it, hit⟩ : ∃ it, it = (wr.alloc (.map #[] 0)).heap.size := ⟨_, rfl⟩
    rw [← hit] at hrg1 ⊢
    have HR := Lib.hid (And.intro hrg1 (And.intro hC1 hbl1))
    clear hrg1 hC1 hbl1 hg1 hs1 hal hm2 hit
    go_loopw [10, 11, 12, 13, 14] (fun _ _ _ _ _ wj => ∃ (left : Lit → Bool) (cnt : Nat), wj.ranges Try.prog 34 anyElem m it 0 (.map []) left cnt ∧ Blk wj w.heap.size 31 #[.int .i64 a, .int .i64 1, .int .i64 st, .slice dA 0 dc, .slice oA 0 oc] ∧ Below w.heap.size w wj) (fun _ _ _ _ _ wj => wj.rangeLeft m it)
    case atStart => exact ⟨_, _, HR.out.1, HR.out.2.1, HR.out.2.2⟩
    case round =>
      obtain ⟨left, cnt, hrg, hC, hbl⟩ := hrel
      have HC := Lib.hid (And.intro hC hbl)
      clear hC hbl
      go_wp2_with (first | (at_next; refine wpList_next_pair _ rfl _ rfl 34 pairRef m it _ (.map []) _ _ rfl hrg ?_ ?_) | fail)
      · intro hc0 hl0
        clear hc0 hl0 hrg
        have p1 : wr.cell? ⟨w.heap.size, 1, none⟩ = some (.int .i64 1) := HC.out.1.cell 1
        have p4 : wr.cell? ⟨w.heap.size, 4, none⟩ = some (.slice oA 0 oc) := HC.out.1.cell 4
        go_wp2_with fail
        clear p1 p4
        obtain ⟨W9, hW9⟩ : ∃ W9, W9 = wr := ⟨_, rfl⟩
        rw [← hW9] at HC ⊢
        clear hW9
        go_loopw [108, 15, 16, 17] (fun iv _ _ _ wj => iv = .int .i64 0 ∧ wj = W9) (fun _ _ _ _ _ => 0)
        case atStart => exact ⟨rfl, rfl⟩
        case round =>
          obtain ⟨rfl, rfl⟩ := hrel
          go_wp2_with fail
          go_ret
          exact ⟨rfl, HC.out.2⟩
      · intro x1 x2 v w2 cnt2 hx hl2 hat hrg2 hlt2 ho2 hs2 hen2
        rw [mget_empty] at hat
        cases hat

theorem fits_none2 (bp : Value) (x : PCh) (w : World) (hd : x.deps = []) (ho : x.ops = []) (hs : x.seq = 1) :
    Calls Try.prog 17 #[bp, .agg #[.int .i64 x.actor, .int .i64 x.seq, .int .i64 x.start, .slice x.dA x.deps.length x.dc, .slice x.oA x.ops.length x.oc]] w fun e w' => e = .returned (.bool true) ∧ Below w.heap.size w w' := by
  rw [hd, ho, hs]
  exact fits_none bp x.actor x.start x.dA x.oA x.dc x.oc w
/-- What Take does with a change that hangs on nothing and does nothing, where none waits. -/
def FactQ (w : World) (bk h wt bh : Nat) (r : Int × Int) (e : Ending) (w' : World) : Prop :=
  ∃ (Dh Db : DataW Value) (L : List PCh), e = .returned .nilIface ∧ Dag w' bk h wt bh Dh (.map []) Db L ∧ hasB Dh r = true ∧ Only (T3 h wt bh) w w'

set_option maxRecDepth 100000 in
set_option maxHeartbeats 4000000 in
theorem take_fact (bk h wt bh : Nat) (Dh Db : DataW Value) (L : List PCh) (c : PCh) (w : World) (H : Dag w bk h wt bh Dh (.map []) Db L) (hc : InC w c) (hE : chE c.ch = 0) (hcd : c.deps = []) (hco : c.ops = []) (hcs : c.seq = 1) (hh : hasB Dh c.ref = false) (hz : Maps.size Dh < 120) :
    Calls Try.prog 5 #[.pointer (some ⟨bk, 0, none⟩), .agg #[.int .i64 c.actor, .int .i64 c.seq, .int .i64 c.start, .slice c.dA c.deps.length c.dc, .slice c.oA c.ops.length c.oc]] w (FactQ w bk h wt bh c.ref) := by
  obtain ⟨Dw, hDw⟩ : ∃ Dw : DataW Value, Dw = .map [] := ⟨_, rfl⟩
  rw [← hDw] at H
  have HDW := Lib.hid hDw
  have HCC := Lib.hid (And.intro hcd (And.intro hco (And.intro hcs (And.intro hh hz))))
  have HE := Lib.hid hE
  clear hDw hcd hco hcs hh hz hE
  obtain ⟨W0, hW0⟩ : ∃ W0, W0 = w.alloc (.cells #[.int .i64 c.actor, .int .i64 c.seq, .int .i64 c.start, .slice c.dA c.deps.length c.dc, .slice c.oA c.ops.length c.oc] 31) := ⟨_, rfl⟩
  have hC0 : CB w c W0 := by rw [hW0]; exact ⟨(Below.refl _ _).alloc (Nat.le_refl _) _, Blk.new _ _ _⟩
  have HC0 := Lib.hid (And.intro hC0 (And.intro H hc))
  have HW0 := Lib.hid hW0
  clear hC0 H hc hW0
  go_enter Try.func5, Try.ntmps5
  go_wp2_with fail
  rw [← HW0.out]
  go_step3
  have c0 : W0.cell? ⟨w.heap.size, 0, none⟩ = some (.int .i64 c.actor) := HC0.out.1.blk.cell 0
  have c1 : W0.cell? ⟨w.heap.size, 1, none⟩ = some (.int .i64 c.seq) := HC0.out.1.blk.cell 1
  have c2 : W0.cell? ⟨w.heap.size, 2, none⟩ = some (.int .i64 c.start) := HC0.out.1.blk.cell 2
  have c3 : W0.cell? ⟨w.heap.size, 3, none⟩ = some (.slice c.dA c.deps.length c.dc) := HC0.out.1.blk.cell 3
  have c4 : W0.cell? ⟨w.heap.size, 4, none⟩ = some (.slice c.oA c.ops.length c.oc) := HC0.out.1.blk.cell 4
  go_upto_region 5 with (first
    | (go_at_call 12; (with_reducible refine (changeCheck_any c _ (HC0.out.2.2.below HC0.out.1.bel)).mono ?_); rintro e w1 ⟨rfl, hb1⟩; rw [HE.out, errC_zero]; have d0 := (HC0.out.1.new hb1).blk.cell 0; have d1 := (HC0.out.1.new hb1).blk.cell 1; have d2 := (HC0.out.1.new hb1).blk.cell 2; have d3 := (HC0.out.1.new hb1).blk.cell 3; have d4 := (HC0.out.1.new hb1).blk.cell 4; simp at d0 d1 d2 d3 d4)
    | (go_at_call 13; (with_reducible refine (changeRef_any c _).mono ?_); rintro e w2 ⟨rfl, hb2⟩; clear c0 c1 c2 c3 c4))
  have HC1 := Lib.hid (HC0.out.1.new hb1)
  clear hb1 d0 d1 d2 d3 d4
  obtain ⟨W3, hW3⟩ : ∃ W3, W3 = w2.alloc (.cells #[.int .i64 c.actor, .int .i64 c.seq] 34) := ⟨_, rfl⟩
  rw [← hW3]
  have hb3 : Below w1.heap.size w1 W3 := by rw [hW3]; exact hb2.alloc hb2.size _
  have hC3 := HC1.out.new hb3
  have hR3 : Blk W3 w2.heap.size 34 #[.int .i64 c.actor, .int .i64 c.seq] := by rw [hW3]; exact Blk.new _ _ _
  have hD3 := HC0.out.2.1.below hC3.bel
  have hI3 := HC0.out.2.2.below hC3.bel
  have hr := (chE_good HE.out).i2
  obtain ⟨x, s, hx, hs, hxs⟩ : ∃ (x : PCh) (s : Bool), (mget Dh c.ref).getD zCh = x.value ∧ (mget Dh c.ref).isSome = s ∧ (s = true → findC L c.ref = some x) := by
    rw [hD3.has _ hr]
    cases hf : findC L c.ref with
    | none => exact ⟨zPCh, false, rfl, rfl, fun h => (by cases h)⟩
    | some x => exact ⟨x, true, rfl, rfl, fun _ => rfl⟩
  obtain ⟨rb, hrb⟩ : ∃ rb, rb = w2.heap.size := ⟨_, rfl⟩
  rw [← hrb] at hR3 ⊢
  have hrw : w.heap.size < rb := by
    have h1 := HC1.out.blk.lt
    have h2 := hb2.size
    rw [hrb]
    exact Nat.lt_of_lt_of_le h1 h2
  have hS : ∀ W, Below W3.heap.size W3 W → W.cell? ⟨bk, 0, none⟩ = some (.map (some h)) ∧ W.cell? ⟨rb, 0, none⟩ = some (.int .i64 c.actor) ∧ W.cell? ⟨rb, 1, none⟩ = some (.int .i64 c.seq) ∧ (Instr.lookup 41 (.map (some h)) (.agg #[.int .i64 c.actor, .int .i64 c.seq]) true).run Try.prog W = .ok (.tuple #[.agg #[.int .i64 x.actor, .int .i64 x.seq, .int .i64 x.start, .slice x.dA x.deps.length x.dc, .slice x.oA x.ops.length x.oc], .bool s]) W := by
    intro W hW
    have h2 := hD3.bkm.below hW
    have hR := hR3.below hW hR3.lt
    refine ⟨h2.blk.cell 0, hR.cell 0, hR.cell 1, ?_⟩
    have := run_look_ok pairRef (w := W) h2.has Try.underlying41 (zeroCh _) hr
    rw [hx, hs] at this
    exact this
  have HKS := Lib.hid hS
  obtain ⟨p0, p1, p2, p3⟩ := hS W3 (Below.refl _ _)
  have H3 := Lib.hid (And.intro hC3 (And.intro hR3 (And.intro hD3 (And.intro hI3 (And.intro hr (And.intro hs (And.intro hxs hrw)))))))
  clear hC3 hR3 hD3 hI3 hr hs hxs hx hb3 hW3 hb2 hrb hS
  go_cut [7, 8] from 19 to 27 (fun s7 s8 wx => ∃ xb, s7 = .pointer (some ⟨xb, 0, none⟩) ∧ s8 = .bool s ∧ Below W3.heap.size W3 wx ∧ W3.heap.size ≤ xb ∧ Blk wx xb 31 #[.int .i64 x.actor, .int .i64 x.seq, .int .i64 x.start, .slice x.dA x.deps.length x.dc, .slice x.oA x.ops.length x.oc])
  case first =>
    go_region_held3 (fun w' => w'.cell? ⟨bk, 0, none⟩ = some (.map (some h)) ∧ w'.cell? ⟨rb, 0, none⟩ = some (.int .i64 c.actor) ∧ w'.cell? ⟨rb, 1, none⟩ = some (.int .i64 c.seq) ∧ (Instr.lookup 41 (.map (some h)) (.agg #[.int .i64 c.actor, .int .i64 c.seq]) true).run Try.prog w' = .ok (.tuple #[.agg #[.int .i64 x.actor, .int .i64 x.seq, .int .i64 x.start, .slice x.dA x.deps.length x.dc, .slice x.oA x.ops.length x.oc], .bool s]) w')
      (first | (with_reducible exact HKS.out _ (Below.refl _ W3).drew) | (with_reducible exact HKS.out _ ((Below.refl _ W3).alloc (Nat.le_refl _) _).drew) | go_keep) (first | fail)
    all_goals
      go_wp2_with fail
      go_meet
      exact ⟨_, rfl, rfl, ((Below.refl _ _).alloc (Nat.le_refl _) _).drew, Nat.le_refl _, Blk.new W3 _ _⟩
  case rest =>
  obtain ⟨xb, rfl, rfl, hb4, hxl, hX4⟩ := hcut
  obtain ⟨W4, hW4⟩ : ∃ W4, W4 = wc := ⟨_, rfl⟩
  rw [← hW4] at hb4 hX4 ⊢
  clear hW4
  have hxr : xb ≠ rb ∧ xb ≠ w.heap.size ∧ w.heap.size ≤ xb ∧ W3.heap.size ≤ xb ∧ Below W3.heap.size W3 W4 := by
    have h1 := H3.out.2.1.lt
    have h2 := H3.out.1.blk.lt
    exact ⟨by omega, by omega, by omega, hxl, hb4⟩
  have H4 := Lib.hid (And.intro (H3.out.1.new hb4) (And.intro (H3.out.2.1.below hb4 H3.out.2.1.lt) (And.intro (H3.out.2.2.1.below hb4) (And.intro (H3.out.2.2.2.1.below hb4) (And.intro hX4 hxr)))))
  clear hX4 hxr hb4 hxl p0 p1 p2 p3
  have hs0 := H3.out.2.2.2.2.2.1
  obtain rfl : s = false := by rw [← hs0]; exact HCC.out.2.2.2.1
  clear hs0
  go_upto_if 29 with (fail)
  go_cut [8] from 28 to 38 (fun s8 wx => ∃ (y : PCh) (z : Bool), s8 = .bool z ∧ z = false ∧ Tk2 w bk h wt bh Dh Dw Db L c rb xb y z wx)
  case first =>
    go_wp2_with fail
    have hr := H3.out.2.2.2.2.1
    have hs0 := H3.out.2.2.2.2.2.1
    obtain ⟨y, s, hy, hs⟩ : ∃ (y : PCh) (s : Bool), (mget Dw c.ref).getD zCh = y.value ∧ (mget Dw c.ref).isSome = s ∧ (s = true → InC W3 y) := by
      cases hf : mget Dw c.ref with
      | none => exact ⟨zPCh, false, rfl, rfl, fun h => (by cases h)⟩
      | some v =>
        obtain ⟨y, e1, e2, e3⟩ := H3.out.2.2.1.wts _ hr v hf
        exact ⟨y, true, e1, rfl, fun _ => e2⟩
    have hbx : bk ≠ xb := by
      have h5 := H3.out.2.2.1.bkm.blk.lt
      have h6 := H4.out.2.2.2.2.2.2.2.2.1
      omega
    have hS : ∀ W, Only (· = xb) W4 W → W.cell? ⟨bk, 1, none⟩ = some (.map (some wt)) ∧ W.cell? ⟨rb, 0, none⟩ = some (.int .i64 c.actor) ∧ W.cell? ⟨rb, 1, none⟩ = some (.int .i64 c.seq) ∧ (Instr.lookup 41 (.map (some wt)) (.agg #[.int .i64 c.actor, .int .i64 c.seq]) true).run Try.prog W = .ok (.tuple #[.agg #[.int .i64 y.actor, .int .i64 y.seq, .int .i64 y.start, .slice y.dA y.deps.length y.dc, .slice y.oA y.ops.length y.oc], .bool s]) W := by
      intro W hW
      have hnm := blk_noMap H4.out.2.2.2.2.1
      have h2 : Blk W bk _ _ := H4.out.2.2.1.bkm.blk.only hW hbx
      have hR : Blk W rb _ _ := H4.out.2.1.only hW (fun e => H4.out.2.2.2.2.2.1 e.symm)
      refine ⟨h2.cell 1, hR.cell 0, hR.cell 1, ?_⟩
      have := run_look_ok pairRef (w := W) (H4.out.2.2.1.bkm.wts.only hW (fun e => hnm (by rw [← e]; exact H4.out.2.2.1.bkm.wts.isMapB))) Try.underlying41 (zeroCh _) hr
      rw [hy, hs.1] at this
      exact this
    have HKS := Lib.hid hS
    obtain ⟨p0, p1, p2, p3⟩ := hS W4 (Only.refl _ _)
    have x0 : W4.cell? ⟨xb, 0, none⟩ = some (.int .i64 x.actor) := H4.out.2.2.2.2.1.cell 0
    have x1 : W4.cell? ⟨xb, 1, none⟩ = some (.int .i64 x.seq) := H4.out.2.2.2.2.1.cell 1
    have x2 : W4.cell? ⟨xb, 2, none⟩ = some (.int .i64 x.start) := H4.out.2.2.2.2.1.cell 2
    have x3 : W4.cell? ⟨xb, 3, none⟩ = some (.slice x.dA x.deps.length x.dc) := H4.out.2.2.2.2.1.cell 3
    have x4 : W4.cell? ⟨xb, 4, none⟩ = some (.slice x.oA x.ops.length x.oc) := H4.out.2.2.2.2.1.cell 4
    have f0 : W4.frozen? ⟨xb, 0, none⟩ = false := H4.out.2.2.2.2.1.frozen 0
    have f1 : W4.frozen? ⟨xb, 1, none⟩ = false := H4.out.2.2.2.2.1.frozen 1
    have f2 : W4.frozen? ⟨xb, 2, none⟩ = false := H4.out.2.2.2.2.1.frozen 2
    have f3 : W4.frozen? ⟨xb, 3, none⟩ = false := H4.out.2.2.2.2.1.frozen 3
    have f4 : W4.frozen? ⟨xb, 4, none⟩ = false := H4.out.2.2.2.2.1.frozen 4
    have HY := Lib.hid (And.intro hs hs0)
    clear hs hy hS hbx hs0
    go_region_held3 (fun w' => w'.cell? ⟨bk, 1, none⟩ = some (.map (some wt)) ∧ w'.cell? ⟨rb, 0, none⟩ = some (.int .i64 c.actor) ∧ w'.cell? ⟨rb, 1, none⟩ = some (.int .i64 c.seq) ∧ (Instr.lookup 41 (.map (some wt)) (.agg #[.int .i64 c.actor, .int .i64 c.seq]) true).run Try.prog w' = .ok (.tuple #[.agg #[.int .i64 y.actor, .int .i64 y.seq, .int .i64 y.start, .slice y.dA y.deps.length y.dc, .slice y.oA y.ops.length y.oc], .bool s]) w')
      (first | (with_reducible exact HKS.out _ (Only.refl _ W4).drew) | (with_reducible exact HKS.out _ (only5 W4 xb _ _ _ _ _ 0 1 2 3 4).drew) | go_keep) (first | fail)
    all_goals
      go_wp2_with fail
      go_meet
      have hb45 := (only5 W4 xb (.int .i64 y.actor) (.int .i64 y.seq) (.int .i64 y.start) (.slice y.dA y.deps.length y.dc) (.slice y.oA y.ops.length y.oc) 0 1 2 3 4).drew
      have h34 := H4.out.2.2.2.2.2.2.2.2
      have hb35 := h34.2.trans (hb45.below h34.2.size (fun k hk e => by have := h34.1; omega))
      exact ⟨y, _, rfl, by rw [← HY.out.1.1, HDW.out]; rfl, H3.out.1.new hb35, H3.out.2.1.below hb35 H3.out.2.1.lt, H3.out.2.2.1.below hb35, H3.out.2.2.2.1.below hb35, blk5 _ _ _ _ _ H4.out.2.2.2.2.1, fun e => (HY.out.1.2 e).below hb35, fun e => ⟨HY.out.2, HY.out.1.1.trans e⟩⟩
  case rest =>
  obtain ⟨y, z, rfl, rfl, hT⟩ := hcut
  have HT := Lib.hid hT
  clear hT
  have c0 : wc.cell? ⟨w.heap.size, 0, none⟩ = some (.int .i64 c.actor) := HT.out.cb.blk.cell 0
  have c1 : wc.cell? ⟨w.heap.size, 1, none⟩ = some (.int .i64 c.seq) := HT.out.cb.blk.cell 1
  have c2 : wc.cell? ⟨w.heap.size, 2, none⟩ = some (.int .i64 c.start) := HT.out.cb.blk.cell 2
  have c3 : wc.cell? ⟨w.heap.size, 3, none⟩ = some (.slice c.dA c.deps.length c.dc) := HT.out.cb.blk.cell 3
  have c4 : wc.cell? ⟨w.heap.size, 4, none⟩ = some (.slice c.oA c.ops.length c.oc) := HT.out.cb.blk.cell 4
  go_wp2_with fail
  obtain ⟨n1, hn1⟩ : ∃ n, Maps.size Dh = n := ⟨_, rfl⟩
  obtain ⟨n2, hn2⟩ : ∃ n, Maps.size Dw = n := ⟨_, rfl⟩
  have hsz : n1 + n2 ≤ 120 := by have := HT.out.dag.sz; omega
  have p0 : wc.cell? ⟨bk, 0, none⟩ = some (.map (some h)) := HT.out.dag.bkm.blk.cell 0
  have p1 : wc.cell? ⟨bk, 1, none⟩ = some (.map (some wt)) := HT.out.dag.bkm.blk.cell 1
  have l1 : ∀ ty, (Builtin.len_ #[41] ty #[.map (some h)]).run Try.prog wc.drew = .ok (.int .i64 n1) wc.drew := fun ty => by
    have := World.ownsMap.len (w := wc.drew) (show wc.drew.ownsMap Try.prog 34 anyElem h (Maps.size Dh) Dh from HT.out.dag.bkm.has) Try.underlying41 ty
    rw [hn1] at this
    exact this
  have l2 : ∀ ty, (Builtin.len_ #[41] ty #[.map (some wt)]).run Try.prog wc.drew = .ok (.int .i64 n2) wc.drew := fun ty => by
    have := World.ownsMap.len (w := wc.drew) (show wc.drew.ownsMap Try.prog 34 anyElem wt (Maps.size Dw) Dw from HT.out.dag.bkm.wts) Try.underlying41 ty
    rw [hn2] at this
    exact this
  have hw : IntKind.i64.wrap ((n1 : Int) + n2) = (n1 : Int) + n2 := IntWalk.i64_in _ (by omega)
  have HN := Lib.hid (And.intro hn1 (And.intro hn2 hsz))
  obtain ⟨q, hq⟩ : ∃ q, decide ((120 : Int) ≤ (n1 : Int) + n2) = q := ⟨_, rfl⟩
  have HQ := Lib.hid hq
  clear hn1 hn2
  obtain rfl : q = false := by
    rw [← HQ.out]
    have h1 := HN.out.1
    have h2 := HN.out.2.1
    have h3 := HCC.out.2.2.2.2
    have h4 : Maps.size Dw = 0 := by rw [HDW.out]; rfl
    simp
    omega
  have hq2 : ¬ (120 : Int) ≤ (n1 : Int) + n2 := by simpa using HQ.out
  clear hsz
  go_still_tail 12, (by kernel_rfl)
  clear l1 l2 hw p0 p1
  have hg := chE_good HE.out
  have HG := Lib.hid hg
  have f0 : ∀ i, wc.drew.frozen? ⟨w.heap.size, i, none⟩ = false := HT.out.cb.blk.frozen
  go_upto_region 15 with (go_at_call 15; (with_reducible refine (cloneChange_any c _ (HT.out.inc.below (Below.refl _ _).drew) (by have := HG.out.deps; omega) (by have := HG.out.ops; omega) (fun o ho => by have := HG.out.preds o ho; omega)).mono ?_); rintro e w6 ⟨x, rfl, hx1, hx2, hx3, hb5, hnew⟩; have hb6 := (Below.refl wc.heap.size wc).drew.trans hb5; clear hb5; clear c0 c1 c2 c3 c4 f0; have HX := Lib.hid (And.intro hx1 (And.intro hx2 (And.intro hnew hb6))); have k0 := (HT.out.cb.blk.below hb6 HT.out.cb.blk.lt).cell 0; have k1 := (HT.out.cb.blk.below hb6 HT.out.cb.blk.lt).cell 1; have k2 := (HT.out.cb.blk.below hb6 HT.out.cb.blk.lt).cell 2; have k3 := (HT.out.cb.blk.below hb6 HT.out.cb.blk.lt).cell 3; have k4 := (HT.out.cb.blk.below hb6 HT.out.cb.blk.lt).cell 4; have g0 := (HT.out.cb.blk.below hb6 HT.out.cb.blk.lt).frozen 0; have g1 := (HT.out.cb.blk.below hb6 HT.out.cb.blk.lt).frozen 1; have g2 := (HT.out.cb.blk.below hb6 HT.out.cb.blk.lt).frozen 2; have g3 := (HT.out.cb.blk.below hb6 HT.out.cb.blk.lt).frozen 3; have g4 := (HT.out.cb.blk.below hb6 HT.out.cb.blk.lt).frozen 4; simp at k0 k1 k2 k3 k4; clear hx1 hx2 hx3 hb6 hnew hg)
  obtain ⟨W7, hW7⟩ : ∃ W7, W7 = (((((w6.setCell ⟨w.heap.size, 0, none⟩ (.int .i64 x.actor)).setCell ⟨w.heap.size, 1, none⟩ (.int .i64 x.seq)).setCell ⟨w.heap.size, 2, none⟩ (.int .i64 x.start)).setCell ⟨w.heap.size, 3, none⟩ (.slice x.dA x.deps.length x.dc)).setCell ⟨w.heap.size, 4, none⟩ (.slice x.oA x.ops.length x.oc)) := ⟨_, rfl⟩
  rw [← hW7]
  have hb67 : Only (· = w.heap.size) w6 W7 := by rw [hW7]; exact only5 w6 w.heap.size _ _ _ _ _ 0 1 2 3 4
  have hC6 := HT.out.cb.new HX.out.2.2.2
  have hbw7 : Below w.heap.size w W7 := hC6.bel.trans (hb67.below hC6.bel.size (fun k hk e => by omega))
  have hrw := H3.out.2.2.2.2.2.2.2
  have H7 := Lib.hid (show Tk3 w bk h wt bh Dh Dw Db L c rb x W7 from ⟨hbw7, by rw [hW7]; exact blk5 _ _ _ _ _ hC6.blk, (HT.out.rbx.below HX.out.2.2.2 HT.out.rbx.lt).only hb67 (by show rb ≠ w.heap.size; omega), HC0.out.2.1.below hbw7, HX.out.2.2.1 _ (fun b h1 h2 => hb67.block b h2 (by have h3 := HT.out.cb.blk.lt; have h4 : wc.heap.size ≤ b := h1; show b ≠ w.heap.size; omega))⟩)
  clear k0 k1 k2 k3 k4 g0 g1 g2 g3 g4 hW7 hb67 hC6 hbw7 hrw
  obtain ⟨q, hqr⟩ : ∃ q, readyB Dh x.deps = q := ⟨_, rfl⟩
  have HRD := Lib.hid hqr
  clear hqr
  have k0 : W7.cell? ⟨w.heap.size, 0, none⟩ = some (.int .i64 x.actor) := H7.out.box.cell 0
  have k1 : W7.cell? ⟨w.heap.size, 1, none⟩ = some (.int .i64 x.seq) := H7.out.box.cell 1
  have k2 : W7.cell? ⟨w.heap.size, 2, none⟩ = some (.int .i64 x.start) := H7.out.box.cell 2
  have k3 : W7.cell? ⟨w.heap.size, 3, none⟩ = some (.slice x.dA x.deps.length x.dc) := H7.out.box.cell 3
  have k4 : W7.cell? ⟨w.heap.size, 4, none⟩ = some (.slice x.oA x.ops.length x.oc) := H7.out.box.cell 4
  have HXE := Lib.hid (show x.deps = [] ∧ x.ops = [] ∧ x.seq = 1 from by
    have h1 : x.deps = c.deps := congrArg Ch.deps HX.out.1
    have h2 : x.ops.map POp.op = c.ops.map POp.op := congrArg Ch.ops HX.out.1
    have h3 : x.seq = c.seq := congrArg Ch.seq HX.out.1
    refine ⟨h1.trans HCC.out.1, ?_, h3.trans HCC.out.2.2.1⟩
    rw [HCC.out.2.1] at h2
    simpa using h2)
  obtain rfl : q = true := by rw [← HRD.out, HXE.out.1]; rfl
  have hall := fun (W : World) (hD : Dag W bk h wt bh Dh Dw Db L) (hI : InC W x) => hD.deps hI.dep HRD.out
  have hg2 : GoodC x := chE_good (by rw [HX.out.1]; exact HE.out)
  have HA := Lib.hid (And.intro hall hg2)
  clear hall hg2
  go_upto_if 78 with (first
    | (go_at_call 16; (with_reducible refine (ready_any bk h wt bh Dh Dw Db x _ H7.out.dag.bkm H7.out.dag.chmap H7.out.inc).mono ?_); rintro e w8 ⟨rfl, hb8⟩; rw [HRD.out]; have e0 := (H7.out.new hb8).box.cell 0; have e1 := (H7.out.new hb8).box.cell 1; have e2 := (H7.out.new hb8).box.cell 2; have e3 := (H7.out.new hb8).box.cell 3; have e4 := (H7.out.new hb8).box.cell 4; simp at e0 e1 e2 e3 e4)
    | (go_at_call 17; (with_reducible refine (fits_none2 _ x _ HXE.out.1 HXE.out.2.1 HXE.out.2.2).mono ?_); rintro e w9 ⟨rfl, hb9⟩; clear e0 e1 e2 e3 e4))
  clear k0 k1 k2 k3 k4
  have H9 := Lib.hid ((H7.out.new hb8).new hb9)
  clear hb8 hb9
  have e0 : w9.cell? ⟨w.heap.size, 0, none⟩ = some (.int .i64 x.actor) := H9.out.box.cell 0
  have e1 : w9.cell? ⟨w.heap.size, 1, none⟩ = some (.int .i64 x.seq) := H9.out.box.cell 1
  have e2 : w9.cell? ⟨w.heap.size, 2, none⟩ = some (.int .i64 x.start) := H9.out.box.cell 2
  have e3 : w9.cell? ⟨w.heap.size, 3, none⟩ = some (.slice x.dA x.deps.length x.dc) := H9.out.box.cell 3
  have e4 : w9.cell? ⟨w.heap.size, 4, none⟩ = some (.slice x.oA x.ops.length x.oc) := H9.out.box.cell 4
  go_wp2_with (go_at_call 18; (with_reducible refine (put_any bk h wt bh Dh Dw Db x _ H9.out.dag.bkm H9.out.dag.beh H9.out.inc HA.out.2.i2 (by have h1 := HN.out.1; have h2 := HN.out.2.2; omega) (by have h0 := H9.out.dag.sizeDb; have h1 := HN.out.1; have h2 := HN.out.2.2; omega) (HA.out.1 _ H9.out.dag H9.out.inc).2).mono ?_); rintro e w10 ⟨m, Dm, rfl, hp1, hp2, hp3, hp4, hp5⟩; have HPQ := Lib.hid (And.intro hp1 (And.intro hp2 (And.intro hp3 (And.intro hp4 hp5)))); clear hp1 hp2 hp3 hp4 hp5; clear e0 e1 e2 e3 e4)
  obtain ⟨hp1, hp2, hp3, hp4, hp5⟩ := HPQ.out
  have hq3 : Maps.size Dh + Maps.size Dw < 120 := by have h1 := HN.out.1; have h2 := HN.out.2.1; omega
  have hD10 := H9.out.dag.put H9.out.inc (by rw [HX.out.1]; exact HE.out) (by rw [HX.out.2.1]; exact (HT.out.no rfl).1) (by rw [HX.out.2.1]; exact (HT.out.no rfl).2) (HA.out.1 _ H9.out.dag H9.out.inc).1 hq3 hp1 hp2 hp3 hp4 hp5
  have hhn : hasB (Dh.put (rlit x.ref) (.held x.value)) c.ref = true := by
    unfold hasB
    rw [← HX.out.2.1, H9.out.dag.bkm.has.get_put HA.out.2.i2 HA.out.2.i2, if_pos rfl]
    rfl
  have ho10 : Only (T3 h wt bh) w w10 := (Only.of_below H9.out.bel).trans (hp5.mono (fun k _ e => by rcases e with e | e; exact .inl e; exact .inr (.inr e)))
  have HD := Lib.hid (And.intro hD10 (And.intro hhn ho10))
  have HO := Lib.hid (show w10.ownsMap Try.prog 34 anyElem wt (Maps.size Dw) Dw from hD10.bkm.wts)
  clear hp1 hp2 hp3 hp4 hp5 hq3 hD10 hhn ho10
  have p0 : w10.cell? ⟨bk, 1, none⟩ = some (.map (some wt)) := HD.out.1.bkm.blk.cell 1
  go_step3
  have HDS := Lib.hid (show Maps.size Dw = 0 by rw [HDW.out]; rfl)
  go_wp2_with (go_at_call 19; (with_reducible refine (rising_any wt _ Dw _ HO.out (by rw [HDS.out]; omega)).mono ?_); rintro e w1 ⟨l, A, cc, hk, hl, rfl, hown, hb1⟩; rw [HDS.out] at hl; obtain rfl := List.length_eq_zero_iff.1 (Nat.le_zero.1 hl); clear hk hl hown)
  clear p0
  have HB1 := Lib.hid hb1
  clear hb1
  obtain ⟨W9, hW9⟩ : ∃ W9, W9 = w1 := ⟨_, rfl⟩
  rw [← hW9] at HB1 ⊢
  clear hW9
  go_loopw [89, 10, 11] (fun iv _ _ wr => iv = .int .i64 0 ∧ wr = W9) (fun _ _ _ _ => 0)
  case atStart => exact ⟨rfl, rfl⟩
  case round =>
    obtain ⟨rfl, rfl⟩ := hrel
    go_wp2_with fail
    simp only [Exit.noGoto]
    go_ret
    exact ⟨_, _, _, rfl, by rw [← HDW.out]; exact HD.out.1.below HB1.out, HD.out.2.1, HD.out.2.2.trans (Only.of_below HB1.out)⟩
end Go.Proofs.Ytdenaejhfgmihaa
