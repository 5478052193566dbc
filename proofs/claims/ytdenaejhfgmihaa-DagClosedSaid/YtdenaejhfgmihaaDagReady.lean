/- dag.Book.ready: a contract. -/
import Derived.Test.YtdenaejhfgmihaaDagBook
import Derived.Test.YtdenaejhfgmihaaDagIdx
namespace Go.Proofs.Ytdenaejhfgmihaa
open Go.RowKit Go.Maps
set_option linter.unusedVariables false
set_option linter.unusedSimpArgs false

set_option maxRecDepth 100000 in
set_option maxHeartbeats 1000000 in
theorem ready1_any (pb bk h wt bh : Nat) (Dh Dw Db : DataW Value) (r : Int × Int) (w : World) (hp : Blk w pb 23 #[.pointer (some ⟨bk, 0, none⟩)]) (H : BkM w bk h wt bh Dh Dw Db) (hs : ChMap Dh) (hr : I2 r) :
    Calls Try.prog 38 #[.agg #[.int .i64 r.1, .int .i64 r.2], .pointer (some ⟨pb, 0, none⟩)] w fun e w' => e = .returned (.bool (!hasB Dh r)) ∧ Below w.heap.size w w' := by
  have hb0 : Below w.heap.size w (w.alloc (.cells #[.int .i64 r.1, .int .i64 r.2] 34)) := (Below.refl _ _).alloc (Nat.le_refl _) _
  have HC := Lib.hid (has_any bk h wt bh Dh Dw Db r _ (H.below hb0) hs hr)
  have c0 : (w.alloc (.cells #[.int .i64 r.1, .int .i64 r.2] 34)).cell? ⟨pb, 0, none⟩ = some (.pointer (some ⟨bk, 0, none⟩)) := (hp.below hb0 hp.lt).cell 0
  have HB := Lib.hid hb0
  clear hb0 H hs hp
  go_enter Try.func38, Try.ntmps38
  go_wp2_with (go_at_call 6; refine HC.out.mono ?_; rintro e w1 ⟨rfl, hb1⟩)
  go_ret
  exact ⟨rfl, HB.out.trans (hb1.mono HB.out.size)⟩

def readyB (Dh : DataW Value) (deps : List (Int × Int)) : Bool := !(deps.any fun r => !hasB Dh r)

set_option maxRecDepth 100000 in
set_option maxHeartbeats 1000000 in
theorem ready_any (bk h wt bh : Nat) (Dh Dw Db : DataW Value) (c : PCh) (w : World) (H : BkM w bk h wt bh Dh Dw Db) (hs : ChMap Dh) (hc : InC w c) :
    Calls Try.prog 16 #[.pointer (some ⟨bk, 0, none⟩), .agg #[.int .i64 c.actor, .int .i64 c.seq, .int .i64 c.start, .slice c.dA c.deps.length c.dc, .slice c.oA c.ops.length c.oc]] w fun e w' => e = .returned (.bool (readyB Dh c.deps)) ∧ Below w.heap.size w w' := by
  obtain ⟨W0, hW0⟩ : ∃ W0, W0 = (w.alloc (.cells #[.pointer (some ⟨bk, 0, none⟩)] 23)).alloc (.cells #[.int .i64 c.actor, .int .i64 c.seq, .int .i64 c.start, .slice c.dA c.deps.length c.dc, .slice c.oA c.ops.length c.oc] 31) := ⟨_, rfl⟩
  have hb0 : Below w.heap.size w W0 := by rw [hW0]; exact ((Below.refl _ _).alloc (Nat.le_refl _) _).alloc (by simp) _
  have hp : Blk W0 w.heap.size 23 #[.pointer (some ⟨bk, 0, none⟩)] := by rw [hW0]; exact (Blk.new w _ _).alloc _
  have H0 := H.below hb0
  have HC := Lib.hid (any_ready (.pointer (some ⟨w.heap.size, 0, none⟩)) (fun r => !hasB Dh r) c.deps c.dA c.dc W0 hc.dlen (hc.deps.below hb0) (fun r hr W hW => ready1_any w.heap.size bk h wt bh Dh Dw Db r W (hp.below hW hp.lt) (H0.below hW) hs (hc.dep r hr)))
  have HB := Lib.hid hb0
  clear hb0 hp H H0 hs hc
  rw [hW0] at HC HB
  clear hW0
  go_enter Try.func16, Try.ntmps16
  go_wp2_with (go_at_call 22; refine HC.out.mono ?_; rintro e w1 ⟨rfl, hb1⟩)
  go_ret
  exact ⟨rfl, HB.out.trans (hb1.mono HB.out.size)⟩
end Go.Proofs.Ytdenaejhfgmihaa
