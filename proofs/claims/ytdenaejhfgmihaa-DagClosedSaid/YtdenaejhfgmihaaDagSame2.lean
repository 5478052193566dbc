/- dag.same: a contract. -/
import Derived.Test.YtdenaejhfgmihaaDagSame
namespace Go.Proofs.Ytdenaejhfgmihaa
open Go.RowKit
set_option linter.unusedVariables false
set_option linter.unusedSimpArgs false

def sameB (a b : PCh) : Bool := (a.start == b.start) && (decide (a.deps = b.deps) && decide (a.ops.map POp.op = b.ops.map POp.op))
theorem sameB_ch {a b : PCh} (h : a.ch = b.ch) : sameB a b = true := by
  have h1 : a.start = b.start := congrArg Ch.start h
  have h2 : a.deps = b.deps := congrArg Ch.deps h
  have h3 : a.ops.map POp.op = b.ops.map POp.op := congrArg Ch.ops h
  simp [sameB, h1, h2, h3]
abbrev chCs (c : PCh) : Array Value := #[.int .i64 c.actor, .int .i64 c.seq, .int .i64 c.start, .slice c.dA c.deps.length c.dc, .slice c.oA c.ops.length c.oc]
/-- Two changes' boxes, and what has turned since. -/
structure CB2 (w : World) (a b : PCh) (W : World) : Prop where
  bel : Below w.heap.size w W
  b1 : Blk W w.heap.size 31 #[.int .i64 a.actor, .int .i64 a.seq, .int .i64 a.start, .slice a.dA a.deps.length a.dc, .slice a.oA a.ops.length a.oc]
  b2 : Blk W (w.heap.size + 1) 31 #[.int .i64 b.actor, .int .i64 b.seq, .int .i64 b.start, .slice b.dA b.deps.length b.dc, .slice b.oA b.ops.length b.oc]
theorem CB2.new {w W W' : World} {a b : PCh} (h : CB2 w a b W) (hb : Below W.heap.size W W') : CB2 w a b W' :=
  ⟨h.bel.trans (hb.mono h.bel.size), h.b1.below hb h.b1.lt, h.b2.below hb h.b2.lt⟩

set_option maxRecDepth 100000 in
set_option maxHeartbeats 2000000 in
theorem same_any (a b : PCh) (w : World) (ha : InC w a) (hb : InC w b) :
    Calls Try.prog 14 #[.agg #[.int .i64 a.actor, .int .i64 a.seq, .int .i64 a.start, .slice a.dA a.deps.length a.dc, .slice a.oA a.ops.length a.oc], .agg #[.int .i64 b.actor, .int .i64 b.seq, .int .i64 b.start, .slice b.dA b.deps.length b.dc, .slice b.oA b.ops.length b.oc]] w fun e w' => e = .returned (.bool (sameB a b)) ∧ Below w.heap.size w w' := by
  have HB := Lib.hid (show CB2 w a b ((w.alloc (.cells #[.int .i64 a.actor, .int .i64 a.seq, .int .i64 a.start, .slice a.dA a.deps.length a.dc, .slice a.oA a.ops.length a.oc] 31)).alloc (.cells #[.int .i64 b.actor, .int .i64 b.seq, .int .i64 b.start, .slice b.dA b.deps.length b.dc, .slice b.oA b.ops.length b.oc] 31)) from
    ⟨((Below.refl _ _).alloc (Nat.le_refl _) _).alloc (by simp) _, (Blk.new w _ _).alloc _, Blk.newer _ _ _ (by simp)⟩)
  have HI := Lib.hid (And.intro ha hb)
  clear ha hb
  have HD := Lib.hid (fun W (hW : CB2 w a b W) => equalRef_any a.dA b.dA a.dc b.dc a.deps b.deps W (HI.out.1.deps.below hW.bel) (HI.out.2.deps.below hW.bel) HI.out.1.dlen HI.out.2.dlen)
  have HO := Lib.hid (fun W (hW : CB2 w a b W) => equalOps_any a.oA b.oA a.oc b.oc a.ops b.ops W (HI.out.1.ops.below hW.bel) (HI.out.2.ops.below hW.bel) HI.out.1.olen HI.out.2.olen (fun o ho => ⟨(HI.out.1.preds o ho).below hW.bel, (HI.out.1.op o ho).len⟩) (fun o ho => ⟨(HI.out.2.preds o ho).below hW.bel, (HI.out.2.op o ho).len⟩))
  obtain ⟨r, hr⟩ : ∃ r, sameB a b = r := ⟨_, rfl⟩
  rw [hr]
  unfold sameB at hr
  obtain ⟨q2, h2⟩ : ∃ q, decide (a.deps = b.deps) = q := ⟨_, rfl⟩
  obtain ⟨q3, h3⟩ : ∃ q, decide (a.ops.map POp.op = b.ops.map POp.op) = q := ⟨_, rfl⟩
  obtain ⟨q1, h1⟩ : ∃ q, (a.start == b.start) = q := ⟨_, rfl⟩
  rw [h2] at HD
  rw [h3] at HO
  rw [h1, h2, h3] at hr
  clear h2 h3
  cases q1 with
  | false =>
    subst hr
    go_enter Try.func14, Try.ntmps14
    go_wp2_with fail
    go_ret
    exact ⟨rfl, HB.out.bel⟩
  | true =>
    cases q2 with
    | false =>
      subst hr
      go_enter Try.func14, Try.ntmps14
      go_wp2_with (go_at_call 31; (with_reducible refine (HD.out _ HB.out).mono ?_); rintro e w1 ⟨rfl, hb1⟩)
      go_ret
      exact ⟨rfl, HB.out.bel.trans (hb1.mono HB.out.bel.size)⟩
    | true =>
      subst hr
      go_enter Try.func14, Try.ntmps14
      go_wp2_with (first
        | (go_at_call 31
           (with_reducible refine (HD.out _ HB.out).mono ?_)
           rintro e w1 ⟨rfl, hb1⟩
           have HB1 := Lib.hid (HB.out.new hb1)
           clear hb1
           have c4 : w1.cell? ⟨w.heap.size, 4, none⟩ = some (.slice a.oA a.ops.length a.oc) := HB1.out.b1.cell 4
           have d4 : w1.cell? ⟨w.heap.size + 1, 4, none⟩ = some (.slice b.oA b.ops.length b.oc) := HB1.out.b2.cell 4)
        | (go_at_call 32
           (with_reducible refine (HO.out _ HB1.out).mono ?_)
           rintro e w2 ⟨rfl, hb2⟩
           have HB2 := Lib.hid (HB1.out.new hb2)
           clear hb2))
      go_ret
      exact ⟨by simp, HB2.out.bel⟩
end Go.Proofs.Ytdenaejhfgmihaa
