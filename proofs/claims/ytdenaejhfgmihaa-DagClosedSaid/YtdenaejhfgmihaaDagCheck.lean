/- change.Check, change.Ref: contracts. -/
import Derived.Test.YtdenaejhfgmihaaDagOp
namespace Go.Proofs.Ytdenaejhfgmihaa
open Go.RowKit
set_option linter.unusedVariables false
set_option linter.unusedSimpArgs false

set_option maxRecDepth 100000 in
theorem changeRef_any (c : PCh) (w : World) : Calls Try.prog 13 #[.agg #[.int .i64 c.actor, .int .i64 c.seq, .int .i64 c.start, .slice c.dA c.deps.length c.dc, .slice c.oA c.ops.length c.oc]] w fun e w' => e = .returned (.agg #[.int .i64 c.actor, .int .i64 c.seq]) ∧ Below w.heap.size w w' := by
  go_enter Try.func13, Try.ntmps13
  go_wp2_with fail
  refine bodyPost_ret (v := .agg #[.int .i64 c.actor, .int .i64 c.seq]) (by simp [results, Try.results13, go_sem]) rfl ⟨rfl, ?_⟩
  exact ((Below.refl _ _).alloc (Nat.le_refl _) _).alloc (by simp) _

theorem op_any (o : POp) (w : World) (hf : o.op.Fit) (hA : SlAt w o.pA (refs o.op.preds)) : Calls Try.prog 30 #[.agg #[.int .i64 o.op.kind, .int .i64 o.op.obj.1, .int .i64 o.op.obj.2, .string o.op.key, .int .i64 o.op.elem.1, .int .i64 o.op.elem.2, .bool o.op.ins, .int .i64 o.op.val.k, .int .i64 o.op.val.n, .string o.op.val.s, .int .i64 o.op.val.o, .int .i64 o.op.val.p, .slice o.pA o.op.preds.length o.pc]] w fun e w' => e = .returned (errC (opE o.op)) ∧ Below w.heap.size w w' := by
  by_cases h : opE1 o.op = 0
  · exact op_good o.op o.pA o.pc w h hA hf.len hf.key
  · refine op_bad o.op o.pA o.pc w ?_
    unfold opE1 at h ⊢
    split at h
    · rename_i h1; rw [if_pos h1]
    · exact absurd rfl h

/-- The change's box, and what has turned since. -/
structure CB (w : World) (c : PCh) (W : World) : Prop where
  bel : Below w.heap.size w W
  blk : Blk W w.heap.size 31 #[.int .i64 c.actor, .int .i64 c.seq, .int .i64 c.start, .slice c.dA c.deps.length c.dc, .slice c.oA c.ops.length c.oc]
theorem CB.new {w W W' : World} {c : PCh} (h : CB w c W) (hb : Below W.heap.size W W') : CB w c W' :=
  ⟨h.bel.trans (hb.mono h.bel.size), h.blk.below hb h.blk.lt⟩

theorem chE_1 {c : PCh} {n : Int} (h : chE1 c.ch = n) (hn : n ≠ 0) : chE c.ch = n := by unfold chE; rw [h, if_neg hn]
theorem chE_2 {c : PCh} {n : Int} (h1 : chE1 c.ch = 0) (h : chE2 c.ch = n) : chE c.ch = n := by unfold chE; rw [if_pos h1, h]

set_option maxRecDepth 100000 in
set_option maxHeartbeats 4000000 in
theorem changeCheck_any (c : PCh) (w : World) (hc : InC w c) :
    Calls Try.prog 12 #[.agg #[.int .i64 c.actor, .int .i64 c.seq, .int .i64 c.start, .slice c.dA c.deps.length c.dc, .slice c.oA c.ops.length c.oc]] w fun e w' => e = .returned (errC (chE c.ch)) ∧ Below w.heap.size w w' := by
  have hdl : c.deps.length ≤ 9223372036854775807 := by have := hc.dlen; unfold maxLen at this; omega
  have hol : c.ops.length ≤ 9223372036854775807 := by have := hc.olen; unfold maxLen at this; omega
  have HI := Lib.hid hc
  clear hc
  have HO := Lib.hid (show CB w c (w.alloc (.cells #[.int .i64 c.actor, .int .i64 c.seq, .int .i64 c.start, .slice c.dA c.deps.length c.dc, .slice c.oA c.ops.length c.oc] 31)) from ⟨(Below.refl _ _).alloc (Nat.le_refl _) _, Blk.new w _ _⟩)
  have HR := Lib.hid (fun w => idRef_any c.actor c.seq w)
  have hE1 : chE1 c.ch = if refOk (c.actor, c.seq) = false ∨ c.start < 1 ∨ 1000000 < c.start then 1 else if 12 < c.deps.length then 4 else refsE c.deps := rfl
  have hE2 : chE2 c.ch = if 40 < c.ops.length then 4 else if 1000000 < c.start + c.ops.length - 1 then 1 else firstF ((c.ops.map POp.op).map opE) := by
    show (if 40 < (c.ops.map POp.op).length then _ else if 1000000 < c.start + (c.ops.map POp.op).length - 1 then _ else _) = _
    rw [List.length_map]; rfl
  have HE1 := Lib.hid hE1
  have HE2 := Lib.hid hE2
  clear hE1 hE2
  cases hr : refOk (c.actor, c.seq) with
  | false =>
    rw [hr] at HR
    have HN := Lib.hid (show chE c.ch = 1 from chE_1 (by rw [HE1.out, if_pos (.inl hr)]) (by decide))
    clear hr
    go_enter Try.func12, Try.ntmps12
    go_wp2_with (go_at_call 28; refine (HR.out _).mono ?_; rintro e w1 ⟨rfl, hb1⟩)
    go_ret
    exact ⟨by rw [HN.out]; rfl, HO.out.bel.trans (hb1.mono HO.out.bel.size)⟩
  | true =>
    rw [hr] at HR
    by_cases hs1 : c.start < 1
    · have d1 : decide (c.start < 1) = true := decide_eq_true hs1
      have HN := Lib.hid (show chE c.ch = 1 from chE_1 (by rw [HE1.out, if_pos (.inr (.inl hs1))]) (by decide))
      clear hr
      go_enter Try.func12, Try.ntmps12
      go_wp2_with (go_at_call 28; refine (HR.out _).mono ?_; rintro e w1 ⟨rfl, hb1⟩; have HO1 := Lib.hid (HO.out.new hb1); clear hb1; have q0 : w1.cell? ⟨w.heap.size, 0, none⟩ = some (.int .i64 c.actor) := HO1.out.blk.cell 0; have q1 : w1.cell? ⟨w.heap.size, 1, none⟩ = some (.int .i64 c.seq) := HO1.out.blk.cell 1; have q2 : w1.cell? ⟨w.heap.size, 2, none⟩ = some (.int .i64 c.start) := HO1.out.blk.cell 2; have q3 : w1.cell? ⟨w.heap.size, 3, none⟩ = some (.slice c.dA c.deps.length c.dc) := HO1.out.blk.cell 3; have q4 : w1.cell? ⟨w.heap.size, 4, none⟩ = some (.slice c.oA c.ops.length c.oc) := HO1.out.blk.cell 4)
      go_ret
      exact ⟨by rw [HN.out]; rfl, HO1.out.bel⟩
    · by_cases hs2 : 1000000 < c.start
      · have d1 : decide (c.start < 1) = false := decide_eq_false hs1
        have d2 : decide (1000000 < c.start) = true := decide_eq_true hs2
        have HN := Lib.hid (show chE c.ch = 1 from chE_1 (by rw [HE1.out, if_pos (.inr (.inr hs2))]) (by decide))
        clear hr
        go_enter Try.func12, Try.ntmps12
        go_wp2_with (go_at_call 28; refine (HR.out _).mono ?_; rintro e w1 ⟨rfl, hb1⟩; have HO1 := Lib.hid (HO.out.new hb1); clear hb1; have q0 : w1.cell? ⟨w.heap.size, 0, none⟩ = some (.int .i64 c.actor) := HO1.out.blk.cell 0; have q1 : w1.cell? ⟨w.heap.size, 1, none⟩ = some (.int .i64 c.seq) := HO1.out.blk.cell 1; have q2 : w1.cell? ⟨w.heap.size, 2, none⟩ = some (.int .i64 c.start) := HO1.out.blk.cell 2; have q3 : w1.cell? ⟨w.heap.size, 3, none⟩ = some (.slice c.dA c.deps.length c.dc) := HO1.out.blk.cell 3; have q4 : w1.cell? ⟨w.heap.size, 4, none⟩ = some (.slice c.oA c.ops.length c.oc) := HO1.out.blk.cell 4)
        go_ret
        exact ⟨by rw [HN.out]; rfl, HO1.out.bel⟩
      · have d1 : decide (c.start < 1) = false := decide_eq_false hs1
        have d2 : decide (1000000 < c.start) = false := decide_eq_false hs2
        have HN1 := Lib.hid (show chE1 c.ch = if 12 < c.deps.length then 4 else refsE c.deps by
          rw [HE1.out, if_neg (by rintro (h | h | h); (rw [hr] at h; cases h); exact hs1 h; exact hs2 h)])
        clear hr
        go_enter Try.func12, Try.ntmps12
        go_upto_region 3 with (go_at_call 28; refine (HR.out _).mono ?_; rintro e w1 ⟨rfl, hb1⟩; have HO1 := Lib.hid (HO.out.new hb1); clear hb1; have q0 : w1.cell? ⟨w.heap.size, 0, none⟩ = some (.int .i64 c.actor) := HO1.out.blk.cell 0; have q1 : w1.cell? ⟨w.heap.size, 1, none⟩ = some (.int .i64 c.seq) := HO1.out.blk.cell 1; have q2 : w1.cell? ⟨w.heap.size, 2, none⟩ = some (.int .i64 c.start) := HO1.out.blk.cell 2; have q3 : w1.cell? ⟨w.heap.size, 3, none⟩ = some (.slice c.dA c.deps.length c.dc) := HO1.out.blk.cell 3; have q4 : w1.cell? ⟨w.heap.size, 4, none⟩ = some (.slice c.oA c.ops.length c.oc) := HO1.out.blk.cell 4)
        clear d1 d2
        by_cases h12 : 12 < c.deps.length
        · have d3 : decide (12 < (c.deps.length : Int)) = true := decide_eq_true (by omega)
          have HN := Lib.hid (show chE c.ch = 4 from chE_1 (by rw [HN1.out, if_pos h12]) (by decide))
          go_wp2_with fail
          go_ret
          exact ⟨by rw [HN.out]; rfl, HO1.out.bel⟩
        · have d3 : decide (12 < (c.deps.length : Int)) = false := decide_eq_false (by omega)
          have HF := Lib.hid (refsId_any c.dA c.dc c.deps w1 (HI.out.deps.below HO1.out.bel) HI.out.dlen)
          have HN2 := Lib.hid (show chE1 c.ch = refsE c.deps by rw [HN1.out, if_neg h12])
          clear h12
          obtain ⟨n, hn⟩ : ∃ n, refsE c.deps = n := ⟨_, rfl⟩
          rw [hn] at HF HN2
          clear hn
          by_cases h0 : n = 0
          · subst h0
            rw [errC_zero] at HF
            go_upto_block 0 with (go_at_call 29; refine HF.out.mono ?_; rintro e w2 ⟨rfl, hb2⟩; have HO2 := Lib.hid (HO1.out.new hb2); clear hb2 q0 q1 q2 q3 q4; have q0 : w2.cell? ⟨w.heap.size, 0, none⟩ = some (.int .i64 c.actor) := HO2.out.blk.cell 0; have q1 : w2.cell? ⟨w.heap.size, 1, none⟩ = some (.int .i64 c.seq) := HO2.out.blk.cell 1; have q2 : w2.cell? ⟨w.heap.size, 2, none⟩ = some (.int .i64 c.start) := HO2.out.blk.cell 2; have q3 : w2.cell? ⟨w.heap.size, 3, none⟩ = some (.slice c.dA c.deps.length c.dc) := HO2.out.blk.cell 3; have q4 : w2.cell? ⟨w.heap.size, 4, none⟩ = some (.slice c.oA c.ops.length c.oc) := HO2.out.blk.cell 4)
            clear d3
            by_cases h40 : 40 < c.ops.length
            · have d4 : decide (40 < (c.ops.length : Int)) = true := decide_eq_true (by omega)
              have HN := Lib.hid (show chE c.ch = 4 from chE_2 HN2.out (by rw [HE2.out, if_pos h40]))
              go_wp2_with fail
              go_ret
              exact ⟨by rw [HN.out]; rfl, HO2.out.bel⟩
            · have d4 : decide (40 < (c.ops.length : Int)) = false := decide_eq_false (by omega)
              by_cases hm : 1000000 < c.start + c.ops.length - 1
              · have d5 : decide (1000000 < c.start + (c.ops.length : Int) - 1) = true := decide_eq_true hm
                have HN := Lib.hid (show chE c.ch = 1 from chE_2 HN2.out (by rw [HE2.out, if_neg h40, if_pos hm]))
                go_wp2_with fail
                go_ret
                exact ⟨by rw [HN.out]; rfl, HO2.out.bel⟩
              · have d5 : decide (1000000 < c.start + (c.ops.length : Int) - 1) = false := decide_eq_false hm
                have HN3 := Lib.hid (show chE2 c.ch = firstF ((c.ops.map POp.op).map opE) by rw [HE2.out, if_neg h40, if_neg hm])
                clear hm
                go_wp2_with fail
                clear d4 d5 q0 q1 q2 q3 q4
                go_loopw [55, 5, 6] (fun iv _ _ wr => ∃ k : Nat, k ≤ c.ops.length ∧ iv = .int .i64 k ∧ firstF (((c.ops.map POp.op).map opE).drop k) = chE2 c.ch ∧ CB w c wr) (fun iv _ _ _ => c.ops.length - (intOf iv).toNat)
                case atStart => exact ⟨0, Nat.zero_le _, rfl, HN3.out.symm, HO2.out⟩
                case round =>
                  obtain ⟨k, hk, rfl, hf, hO⟩ := hrel
                  by_cases hlt : k < c.ops.length
                  · obtain ⟨x, hx⟩ : ∃ x, c.ops[k]? = some x := ⟨_, List.getElem?_eq_getElem hlt⟩
                    obtain ⟨b, off, ha, hcell⟩ := (HI.out.ops.below hO.bel).op hx
                    rw [ha]
                    have o0 : wr.cell? ⟨b, off + k * 13, none⟩ = some (.int .i64 x.op.kind) := hcell 0 _ rfl
                    have o1 : wr.cell? ⟨b, off + k * 13 + 1, none⟩ = some (.int .i64 x.op.obj.1) := hcell 1 _ rfl
                    have o2 : wr.cell? ⟨b, off + k * 13 + 2, none⟩ = some (.int .i64 x.op.obj.2) := hcell 2 _ rfl
                    have o3 : wr.cell? ⟨b, off + k * 13 + 3, none⟩ = some (.string x.op.key) := hcell 3 _ rfl
                    have o4 : wr.cell? ⟨b, off + k * 13 + 4, none⟩ = some (.int .i64 x.op.elem.1) := hcell 4 _ rfl
                    have o5 : wr.cell? ⟨b, off + k * 13 + 5, none⟩ = some (.int .i64 x.op.elem.2) := hcell 5 _ rfl
                    have o6 : wr.cell? ⟨b, off + k * 13 + 6, none⟩ = some (.bool x.op.ins) := hcell 6 _ rfl
                    have o7 : wr.cell? ⟨b, off + k * 13 + 7, none⟩ = some (.int .i64 x.op.val.k) := hcell 7 _ rfl
                    have o8 : wr.cell? ⟨b, off + k * 13 + 8, none⟩ = some (.int .i64 x.op.val.n) := hcell 8 _ rfl
                    have o9 : wr.cell? ⟨b, off + k * 13 + 9, none⟩ = some (.string x.op.val.s) := hcell 9 _ rfl
                    have o10 : wr.cell? ⟨b, off + k * 13 + 10, none⟩ = some (.int .i64 x.op.val.o) := hcell 10 _ rfl
                    have o11 : wr.cell? ⟨b, off + k * 13 + 11, none⟩ = some (.int .i64 x.op.val.p) := hcell 11 _ rfl
                    have o12 : wr.cell? ⟨b, off + k * 13 + 12, none⟩ = some (.slice x.pA x.op.preds.length x.pc) := hcell 12 _ rfl
                    have hF : ((c.ops.map POp.op).map opE)[k]? = some (opE x.op) := by simp [hx]
                    have hbs := hO.bel.size
                    have HX := Lib.hid (fun W (hW : Below wr.heap.size wr W) => op_any x W (HI.out.op x (List.mem_of_getElem? hx)) ((HI.out.preds x (List.mem_of_getElem? hx)).below (hO.bel.trans (hW.mono hbs))))
                    have H := Lib.hid (And.intro hF (And.intro hf hO))
                    clear hF hf hO hx ha hcell
                    obtain ⟨n, hn⟩ : ∃ n, opE x.op = n := ⟨_, rfl⟩
                    rw [hn] at H HX
                    clear hn
                    by_cases h0 : n = 0
                    · subst h0
                      rw [errC_zero] at HX
                      have HN := Lib.hid (show firstF (((c.ops.map POp.op).map opE).drop (k + 1)) = chE2 c.ch from by rw [← H.out.2.1, firstF_zero H.out.1 rfl])
                      go_wp2_with (go_at_call 30; refine (HX.out _ ((Below.refl _ _).alloc (Nat.le_refl _) _)).mono ?_; rintro e w3 ⟨rfl, hb3⟩)
                      go_roundw
                      case rel => exact ⟨k + 1, by omega, by go_num, HN.out, H.out.2.2.new (((Below.refl _ _).alloc (Nat.le_refl _) _).trans (hb3.mono (by simp)))⟩
                      case measure => simp [intOf]; omega
                    · rw [errC_ne h0] at HX
                      have HN := Lib.hid (show chE c.ch = n from chE_2 HN2.out (by rw [← H.out.2.1, firstF_hit H.out.1 h0]))
                      have HZ := Lib.hid h0
                      clear h0
                      go_wp2_with (go_at_call 30; refine (HX.out _ ((Below.refl _ _).alloc (Nat.le_refl _) _)).mono ?_; rintro e w3 ⟨rfl, hb3⟩)
                      go_ret
                      exact ⟨by rw [HN.out, errC_ne HZ.out]; rfl, (H.out.2.2.bel.alloc hbs _).trans (hb3.mono (by simp; omega))⟩
                  · have e : k = c.ops.length := by omega
                    subst e
                    have HN := Lib.hid (show chE c.ch = 0 from chE_2 HN2.out (by rw [← hf, List.drop_eq_nil_of_le (by simp)]; rfl))
                    have HO3 := Lib.hid hO
                    clear hf hO
                    go_wp2_with fail
                    go_ret
                    exact ⟨by rw [HN.out]; rfl, HO3.out.bel⟩
          · rw [errC_ne h0] at HF
            have HN := Lib.hid (show chE c.ch = n from chE_1 HN2.out h0)
            have HZ := Lib.hid h0
            clear h0
            go_wp2_with (go_at_call 29; refine HF.out.mono ?_; rintro e w2 ⟨rfl, hb2⟩)
            go_ret
            exact ⟨by rw [HN.out, errC_ne HZ.out]; rfl, HO1.out.bel.trans (hb2.mono HO1.out.bel.size)⟩
end Go.Proofs.Ytdenaejhfgmihaa
