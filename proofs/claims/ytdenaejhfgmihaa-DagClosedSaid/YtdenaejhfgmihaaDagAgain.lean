/- dag.Book.Take of a change that is there: a contract. -/
import Derived.Test.YtdenaejhfgmihaaDagTake
namespace Go.Proofs.Ytdenaejhfgmihaa
open Go.RowKit Go.Maps Go.WideShapes
set_option linter.unusedVariables false
set_option linter.unusedSimpArgs false

set_option maxRecDepth 100000 in
set_option maxHeartbeats 4000000 in
theorem take_again (bk h wt bh : Nat) (Dh Dw Db : DataW Value) (L : List PCh) (c x : PCh) (w : World) (H : Dag w bk h wt bh Dh Dw Db L) (hc : InC w c) (hx : x ∈ L) (hch : x.ch = c.ch) :
    Calls Try.prog 5 #[.pointer (some ⟨bk, 0, none⟩), .agg #[.int .i64 c.actor, .int .i64 c.seq, .int .i64 c.start, .slice c.dA c.deps.length c.dc, .slice c.oA c.ops.length c.oc]] w fun e w' => e = .returned .nilIface ∧ Below w.heap.size w w' := by
  obtain ⟨W0, hW0⟩ : ∃ W0, W0 = w.alloc (.cells #[.int .i64 c.actor, .int .i64 c.seq, .int .i64 c.start, .slice c.dA c.deps.length c.dc, .slice c.oA c.ops.length c.oc] 31) := ⟨_, rfl⟩
  have hC0 : CB w c W0 := by rw [hW0]; exact ⟨(Below.refl _ _).alloc (Nat.le_refl _) _, Blk.new _ _ _⟩
  have HC0 := Lib.hid (And.intro hC0 (And.intro H hc))
  have href : x.ref = c.ref := by
    have h1 : x.actor = c.actor := congrArg Ch.actor hch
    have h2 : x.seq = c.seq := congrArg Ch.seq hch
    unfold PCh.ref
    rw [h1, h2]
  have HE := Lib.hid (show chE c.ch = 0 by rw [← hch]; exact (H.good x hx).2)
  have HXX := Lib.hid (And.intro hx (And.intro hch href))
  have HW0 := Lib.hid hW0
  clear hC0 H hc hW0 hx hch href
  go_enter Try.func5, Try.ntmps5
  go_wp2_with fail
  rw [← HW0.out]
  go_step3
  have c0 : W0.cell? ⟨w.heap.size, 0, none⟩ = some (.int .i64 c.actor) := HC0.out.1.blk.cell 0
  have c1 : W0.cell? ⟨w.heap.size, 1, none⟩ = some (.int .i64 c.seq) := HC0.out.1.blk.cell 1
  have c2 : W0.cell? ⟨w.heap.size, 2, none⟩ = some (.int .i64 c.start) := HC0.out.1.blk.cell 2
  have c3 : W0.cell? ⟨w.heap.size, 3, none⟩ = some (.slice c.dA c.deps.length c.dc) := HC0.out.1.blk.cell 3
  have c4 : W0.cell? ⟨w.heap.size, 4, none⟩ = some (.slice c.oA c.ops.length c.oc) := HC0.out.1.blk.cell 4
  go_upto_region 5 with (first
    | (go_at_call 12; (with_reducible refine (changeCheck_any c _ (HC0.out.2.2.below HC0.out.1.bel)).mono ?_); rintro e w1 ⟨rfl, hb1⟩; rw [HE.out, errC_zero]; have d0 := (HC0.out.1.new hb1).blk.cell 0; have d1 := (HC0.out.1.new hb1).blk.cell 1; have d2 := (HC0.out.1.new hb1).blk.cell 2; have d3 := (HC0.out.1.new hb1).blk.cell 3; have d4 := (HC0.out.1.new hb1).blk.cell 4; simp at d0 d1 d2 d3 d4)
    | (go_at_call 13; (with_reducible refine (changeRef_any c _).mono ?_); rintro e w2 ⟨rfl, hb2⟩; clear c0 c1 c2 c3 c4))
  have HC1 := Lib.hid (HC0.out.1.new hb1)
  clear hb1 d0 d1 d2 d3 d4
  obtain ⟨W3, hW3⟩ : ∃ W3, W3 = w2.alloc (.cells #[.int .i64 c.actor, .int .i64 c.seq] 34) := ⟨_, rfl⟩
  rw [← hW3]
  have hb3 : Below w1.heap.size w1 W3 := by rw [hW3]; exact hb2.alloc hb2.size _
  have hC3 := HC1.out.new hb3
  have hR3 : Blk W3 w2.heap.size 34 #[.int .i64 c.actor, .int .i64 c.seq] := by rw [hW3]; exact Blk.new _ _ _
  have hD3 := HC0.out.2.1.below hC3.bel
  have hI3 := HC0.out.2.2.below hC3.bel
  have hr := (chE_good HE.out).i2
  have hfc : findC L c.ref = some x := by rw [← HXX.out.2.2]; exact findC_of hD3.ndp HXX.out.1
  obtain ⟨s, hsT⟩ : ∃ s, s = true := ⟨_, rfl⟩
  have hx : (mget Dh c.ref).getD zCh = x.value := by rw [hD3.has _ hr, hfc]; rfl
  have hs : (mget Dh c.ref).isSome = s := by rw [hD3.has _ hr, hfc, hsT]; rfl
  have hxs : InC W3 x := (hD3.good x HXX.out.1).1
  have HSS := Lib.hid hsT
  clear hfc hsT
  obtain ⟨rb, hrb⟩ : ∃ rb, rb = w2.heap.size := ⟨_, rfl⟩
  rw [← hrb] at hR3 ⊢
  have hrw : w.heap.size < rb := by
    have h1 := HC1.out.blk.lt
    have h2 := hb2.size
    rw [hrb]
    exact Nat.lt_of_lt_of_le h1 h2
  have hS : ∀ W, Below W3.heap.size W3 W → W.cell? ⟨bk, 0, none⟩ = some (.map (some h)) ∧ W.cell? ⟨rb, 0, none⟩ = some (.int .i64 c.actor) ∧ W.cell? ⟨rb, 1, none⟩ = some (.int .i64 c.seq) ∧ (Instr.lookup 41 (.map (some h)) (.agg #[.int .i64 c.actor, .int .i64 c.seq]) true).run Try.prog W = .ok (.tuple #[.agg #[.int .i64 x.actor, .int .i64 x.seq, .int .i64 x.start, .slice x.dA x.deps.length x.dc, .slice x.oA x.ops.length x.oc], .bool s]) W := by
    intro W hW
    have h2 := hD3.bkm.below hW
    have hR := hR3.below hW hR3.lt
    refine ⟨h2.blk.cell 0, hR.cell 0, hR.cell 1, ?_⟩
    have := run_look_ok pairRef (w := W) h2.has Try.underlying41 (zeroCh _) hr
    rw [hx, hs] at this
    exact this
  have HKS := Lib.hid hS
  obtain ⟨p0, p1, p2, p3⟩ := hS W3 (Below.refl _ _)
  have H3 := Lib.hid (And.intro hC3 (And.intro hR3 (And.intro hD3 (And.intro hI3 (And.intro hr (And.intro hs (And.intro hxs hrw)))))))
  clear hC3 hR3 hD3 hI3 hr hs hxs hx hb3 hW3 hb2 hrb hS
  go_cut [7, 8] from 19 to 27 (fun s7 s8 wx => ∃ xb, s7 = .pointer (some ⟨xb, 0, none⟩) ∧ s8 = .bool s ∧ Below W3.heap.size W3 wx ∧ W3.heap.size ≤ xb ∧ Blk wx xb 31 #[.int .i64 x.actor, .int .i64 x.seq, .int .i64 x.start, .slice x.dA x.deps.length x.dc, .slice x.oA x.ops.length x.oc])
  case first =>
    go_region_held3 (fun w' => w'.cell? ⟨bk, 0, none⟩ = some (.map (some h)) ∧ w'.cell? ⟨rb, 0, none⟩ = some (.int .i64 c.actor) ∧ w'.cell? ⟨rb, 1, none⟩ = some (.int .i64 c.seq) ∧ (Instr.lookup 41 (.map (some h)) (.agg #[.int .i64 c.actor, .int .i64 c.seq]) true).run Try.prog w' = .ok (.tuple #[.agg #[.int .i64 x.actor, .int .i64 x.seq, .int .i64 x.start, .slice x.dA x.deps.length x.dc, .slice x.oA x.ops.length x.oc], .bool s]) w')
      (first | (with_reducible exact HKS.out _ (Below.refl _ W3).drew) | (with_reducible exact HKS.out _ ((Below.refl _ W3).alloc (Nat.le_refl _) _).drew) | go_keep) (first | fail)
    all_goals
      go_wp2_with fail
      go_meet
      exact ⟨_, rfl, rfl, ((Below.refl _ _).alloc (Nat.le_refl _) _).drew, Nat.le_refl _, Blk.new W3 _ _⟩
  case rest =>
  obtain ⟨xb, rfl, rfl, hb4, hxl, hX4⟩ := hcut
  obtain ⟨W4, hW4⟩ : ∃ W4, W4 = wc := ⟨_, rfl⟩
  rw [← hW4] at hb4 hX4 ⊢
  clear hW4
  have hxr : xb ≠ rb ∧ xb ≠ w.heap.size ∧ w.heap.size ≤ xb ∧ W3.heap.size ≤ xb ∧ Below W3.heap.size W3 W4 := by
    have h1 := H3.out.2.1.lt
    have h2 := H3.out.1.blk.lt
    exact ⟨by omega, by omega, by omega, hxl, hb4⟩
  have H4 := Lib.hid (And.intro (H3.out.1.new hb4) (And.intro (H3.out.2.1.below hb4 H3.out.2.1.lt) (And.intro (H3.out.2.2.1.below hb4) (And.intro (H3.out.2.2.2.1.below hb4) (And.intro hX4 hxr)))))
  clear hX4 hxr hb4 hxl p0 p1 p2 p3
  have hsT := HSS.out
  subst hsT
  obtain ⟨a1, a2, a3, a4, a5, a6⟩ := H4.out
  have hIx := H3.out.2.2.2.2.2.2.1.below a6.2.2.2.2
  have c0 : W4.cell? ⟨w.heap.size, 0, none⟩ = some (.int .i64 c.actor) := a1.blk.cell 0
  have c1 : W4.cell? ⟨w.heap.size, 1, none⟩ = some (.int .i64 c.seq) := a1.blk.cell 1
  have c2 : W4.cell? ⟨w.heap.size, 2, none⟩ = some (.int .i64 c.start) := a1.blk.cell 2
  have c3 : W4.cell? ⟨w.heap.size, 3, none⟩ = some (.slice c.dA c.deps.length c.dc) := a1.blk.cell 3
  have c4 : W4.cell? ⟨w.heap.size, 4, none⟩ = some (.slice c.oA c.ops.length c.oc) := a1.blk.cell 4
  have x0 : W4.cell? ⟨xb, 0, none⟩ = some (.int .i64 x.actor) := a5.cell 0
  have x1 : W4.cell? ⟨xb, 1, none⟩ = some (.int .i64 x.seq) := a5.cell 1
  have x2 : W4.cell? ⟨xb, 2, none⟩ = some (.int .i64 x.start) := a5.cell 2
  have x3 : W4.cell? ⟨xb, 3, none⟩ = some (.slice x.dA x.deps.length x.dc) := a5.cell 3
  have x4 : W4.cell? ⟨xb, 4, none⟩ = some (.slice x.oA x.ops.length x.oc) := a5.cell 4
  have HSB := Lib.hid (sameB_ch HXX.out.2.1)
  have HIX := Lib.hid (And.intro hIx a4)
  clear a1 a2 a3 a4 a5 a6 hIx
  go_wp2_with (go_at_call 14; (with_reducible refine (same_any x c _ HIX.out.1 HIX.out.2).mono ?_); rintro e w5 ⟨rfl, hb5⟩; rw [HSB.out])
  simp only [Exit.noGoto]
  go_ret
  exact ⟨rfl, (H4.out.1.new hb5).bel⟩
end Go.Proofs.Ytdenaejhfgmihaa
