/- booksame.Change, Changes; bookref2.Ref, Has: contracts. -/
import Derived.Test.YtdenaejhfgmihaaEncode
import Derived.Test.YtdenaejhfgmihaaBytesIs
import Derived.Test.YtdenaejhfgmihaaDagAllP
import Derived.Outline
namespace Go.Proofs.Ytdenaejhfgmihaa
open Go.RowKit
set_option linter.unusedVariables false
set_option linter.unusedSimpArgs false

set_option maxRecDepth 100000 in
set_option maxHeartbeats 1000000 in
theorem sameChange_any (a b : PCh) (w : World) (ha : InC w a) (hb : InC w b) (ga : GoodC a) (gb : GoodC b) (h : a.ch = b.ch) :
    Calls Try.prog 25 #[.agg #[.int .i64 a.actor, .int .i64 a.seq, .int .i64 a.start, .slice a.dA a.deps.length a.dc, .slice a.oA a.ops.length a.oc], .agg #[.int .i64 b.actor, .int .i64 b.seq, .int .i64 b.start, .slice b.dA b.deps.length b.dc, .slice b.oA b.ops.length b.oc]] w fun e w' => e = .returned (.bool true) ∧ Below w.heap.size w w' := by
  obtain ⟨W0, hW0⟩ : ∃ W0, W0 = (w.alloc (.cells #[.int .i64 a.actor, .int .i64 a.seq, .int .i64 a.start, .slice a.dA a.deps.length a.dc, .slice a.oA a.ops.length a.oc] 31)).alloc (.cells #[.int .i64 b.actor, .int .i64 b.seq, .int .i64 b.start, .slice b.dA b.deps.length b.dc, .slice b.oA b.ops.length b.oc] 31) := ⟨_, rfl⟩
  have hC : CB2 w a b W0 := by rw [hW0]; exact ⟨((Below.refl _ _).alloc (Nat.le_refl _) _).alloc (by simp) _, (Blk.new w _ _).alloc _, Blk.newer _ _ _ (by simp)⟩
  have H0 := Lib.hid (And.intro hC (And.intro ha (And.intro hb (And.intro ga (And.intro gb (And.intro h hW0))))))
  have a0 := hC.b1.cell 0
  have a1 := hC.b1.cell 1
  have a2 := hC.b1.cell 2
  have a3 := hC.b1.cell 3
  have a4 := hC.b1.cell 4
  simp at a0 a1 a2 a3 a4
  clear hC ha hb ga gb h hW0
  go_enter Try.func25, Try.ntmps25
  go_upto_region 1 with (fail)
  rw [← H0.out.2.2.2.2.2.2]
  go_wp2_with fail
  refine (encode_any a W0 (H0.out.2.1.below H0.out.1.bel) H0.out.2.2.2.1).mono ?_
  rintro e w1 ⟨A1, c1, rfl, hB1, hb1⟩
  have H1 := Lib.hid (And.intro hB1 (H0.out.1.new hb1))
  clear hB1 hb1 a0 a1 a2 a3 a4
  go_upto_region 2 with (fail)
  have b0 := H1.out.2.b2.cell 0
  have b1 := H1.out.2.b2.cell 1
  have b2 := H1.out.2.b2.cell 2
  have b3 := H1.out.2.b2.cell 3
  have b4 := H1.out.2.b2.cell 4
  simp at b0 b1 b2 b3 b4
  go_wp2_with fail
  refine (encode_any b w1 (H0.out.2.2.1.below H1.out.2.bel) H0.out.2.2.2.2.1).mono ?_
  rintro e w2 ⟨A2, c2, rfl, hB2, hb2⟩
  rw [← H0.out.2.2.2.2.2.1] at hB2 ⊢
  have k1 := conv_bytes w2 A1 c1 (encI a.ch) (H1.out.1.keep hb2).at
  have k2 := conv_bytes w2 A2 c2 (encI a.ch) hB2.at
  have HB := Lib.hid (H1.out.2.new hb2).bel
  clear hB2 hb2 b0 b1 b2 b3 b4
  generalize encI a.ch = xs at *
  go_wp2_with fail
  go_ret
  exact ⟨rfl, HB.out⟩

theorem map_ch_at {la lb : List PCh} (h : la.map PCh.ch = lb.map PCh.ch) {i : Nat} {x y : PCh} (hx : la[i]? = some x) (hy : lb[i]? = some y) : x.ch = y.ch := by
  have h1 : (la.map PCh.ch)[i]? = (lb.map PCh.ch)[i]? := by rw [h]
  rw [List.getElem?_map, List.getElem?_map, hx, hy] at h1
  exact Option.some.inj h1

set_option maxRecDepth 100000 in
set_option maxHeartbeats 1000000 in
theorem sameChanges_any (la lb : List PCh) (A B : Option Addr) (ca cb : Nat) (w : World) (hA : SlAt w A (chsCells la)) (hB : SlAt w B (chsCells lb)) (ha : ∀ x ∈ la, InC w x ∧ GoodC x) (hb : ∀ x ∈ lb, InC w x ∧ GoodC x) (h : la.map PCh.ch = lb.map PCh.ch) (hn : la.length ≤ 1000) :
    Calls Try.prog 10 #[.slice A la.length ca, .slice B lb.length cb] w fun e w' => e = .returned (.bool true) ∧ Below w.heap.size w w' := by
  have hl : lb.length = la.length := by simpa using (congrArg List.length h).symm
  have H0 := Lib.hid (And.intro hA (And.intro hB (And.intro ha (And.intro hb (And.intro h hl)))))
  rw [hl]
  clear hA hB ha hb h hl
  go_enter Try.func10, Try.ntmps10
  go_wp2_with fail
  go_loopw [5, 6] (fun iv _ wr => ∃ i : Nat, iv = .int .i64 i ∧ i ≤ la.length ∧ Below w.heap.size w wr) (fun iv _ _ => la.length - (intOf iv).toNat)
  case atStart => exact ⟨0, rfl, Nat.zero_le _, Below.refl _ _⟩
  case round =>
    obtain ⟨i, rfl, hi, hbw⟩ := hrel
    by_cases hlt : i < la.length
    · have hx := List.getElem?_eq_getElem hlt
      generalize la[i] = x at hx
      obtain ⟨y, hy⟩ : ∃ y, lb[i]? = some y := ⟨_, List.getElem?_eq_getElem (by rw [H0.out.2.2.2.2.2]; exact hlt)⟩
      obtain ⟨ab, ao, hae, hac⟩ := (H0.out.1.below hbw).chg hx
      obtain ⟨bb, bo, hbe, hbc⟩ := (H0.out.2.1.below hbw).chg hy
      have x0 : wr.cell? ⟨ab, ao + i * 5, none⟩ = some (.int .i64 x.actor) := hac 0 _ rfl
      have x1 : wr.cell? ⟨ab, ao + i * 5 + 1, none⟩ = some (.int .i64 x.seq) := hac 1 _ rfl
      have x2 : wr.cell? ⟨ab, ao + i * 5 + 2, none⟩ = some (.int .i64 x.start) := hac 2 _ rfl
      have x3 : wr.cell? ⟨ab, ao + i * 5 + 3, none⟩ = some (.slice x.dA x.deps.length x.dc) := hac 3 _ rfl
      have x4 : wr.cell? ⟨ab, ao + i * 5 + 4, none⟩ = some (.slice x.oA x.ops.length x.oc) := hac 4 _ rfl
      have y0 : wr.cell? ⟨bb, bo + i * 5, none⟩ = some (.int .i64 y.actor) := hbc 0 _ rfl
      have y1 : wr.cell? ⟨bb, bo + i * 5 + 1, none⟩ = some (.int .i64 y.seq) := hbc 1 _ rfl
      have y2 : wr.cell? ⟨bb, bo + i * 5 + 2, none⟩ = some (.int .i64 y.start) := hbc 2 _ rfl
      have y3 : wr.cell? ⟨bb, bo + i * 5 + 3, none⟩ = some (.slice y.dA y.deps.length y.dc) := hbc 3 _ rfl
      have y4 : wr.cell? ⟨bb, bo + i * 5 + 4, none⟩ = some (.slice y.oA y.ops.length y.oc) := hbc 4 _ rfl
      have hdr : Below wr.heap.size wr wr.drew := (Below.refl _ _).drew
      have gx := H0.out.2.2.1 x (List.mem_of_getElem? hx)
      have gy := H0.out.2.2.2.1 y (List.mem_of_getElem? hy)
      have HC := Lib.hid (sameChange_any x y wr.drew ((gx.1.below hbw).below hdr) ((gy.1.below hbw).below hdr) gx.2 gy.2 (map_ch_at H0.out.2.2.2.2.1 hx hy))
      have HA := Lib.hid (And.intro hae (And.intro hbe hbw))
      have hi1 : (i : Int) ≤ 1000 := by omega
      clear hx hy hac hbc gx gy hdr hbw
      rw [hae, hbe]
      clear hae hbe
      go_wp2_with fail
      go_still_tail 8, (by kernel_rfl)
      go_wp2_with ((with_reducible refine HC.out.mono ?_); rintro e w3 ⟨rfl, hb3⟩)
      have HE := Lib.hid (HA.out.2.2.trans (((Below.refl _ _).drew.trans hb3).mono HA.out.2.2.size))
      clear hb3
      exact ⟨⟨i + 1, by push_cast; rfl, by omega, HE.out⟩, by simp [intOf]; omega⟩
    · obtain rfl : i = la.length := by omega
      go_wp2_with fail
      go_ret
      exact ⟨rfl, hbw⟩

set_option maxRecDepth 100000 in
set_option maxHeartbeats 1000000 in
theorem ref2_any (c : PCh) (w : World) : Calls Try.prog 8 #[.agg #[.int .i64 c.actor, .int .i64 c.seq, .int .i64 c.start, .slice c.dA c.deps.length c.dc, .slice c.oA c.ops.length c.oc]] w fun e w' => e = .returned (.agg #[.int .i64 c.actor, .int .i64 c.seq]) ∧ Below w.heap.size w w' := by
  go_enter Try.func8, Try.ntmps8
  go_wp2_with fail
  refine bodyPost_ret (results_cell_row Try.results8 _ _ (w.heap.size + 1) _ _ _ _ rfl (Blk.newer _ _ _ (by simp)) Try.underlying34 rfl (by kernel_rfl)) rfl ?_
  exact ⟨rfl, ((Below.refl _ _).alloc (Nat.le_refl _) _).alloc (by simp) _⟩

theorem pair_split (a1 a2 b1 b2 : Int) : (a1 = a2 ∧ b1 = b2) ∨ (¬ a1 = a2) ∨ (a1 = a2 ∧ ¬ b1 = b2) := by
  by_cases h1 : a1 = a2 <;> by_cases h2 : b1 = b2 <;> simp [h1, h2]

set_option maxRecDepth 100000 in
set_option maxHeartbeats 1000000 in
theorem has2_any (l : List (Int × Int)) (A : Option Addr) (c : Nat) (r : Int × Int) (w : World) (hA : SlAt w A (refs l)) (hn : l.length ≤ 1000) :
    Calls Try.prog 9 #[.slice A l.length c, .agg #[.int .i64 r.1, .int .i64 r.2]] w fun e w' => e = .returned (.bool (decide (r ∈ l))) ∧ Below w.heap.size w w' := by
  obtain ⟨W0, hW0⟩ : ∃ W0, W0 = w.alloc (.cells #[.int .i64 r.1, .int .i64 r.2] 34) := ⟨_, rfl⟩
  have hb0 : Below w.heap.size w W0 := by rw [hW0]; exact (Below.refl _ _).alloc (Nat.le_refl _) _
  have hN : Blk W0 w.heap.size 34 #[.int .i64 r.1, .int .i64 r.2] := by rw [hW0]; exact Blk.new _ _ _
  have H0 := Lib.hid (And.intro hb0 (And.intro hN (And.intro (hA.below hb0) hW0)))
  clear hb0 hN hW0 hA
  go_enter Try.func9, Try.ntmps9
  go_upto_region 1 with (fail)
  rw [← H0.out.2.2.2]
  go_wp2_with fail
  go_loopw [5] (fun iv wr => ∃ i : Nat, iv = .int .i64 i ∧ i ≤ l.length ∧ Below W0.heap.size W0 wr ∧ r ∉ l.take i) (fun iv _ => l.length - (intOf iv).toNat)
  case atStart => exact ⟨0, rfl, Nat.zero_le _, Below.refl _ _, by simp⟩
  case round =>
    obtain ⟨i, rfl, hi, hbw, hno⟩ := hrel
    have c1 : wr.cell? ⟨w.heap.size, 0, none⟩ = some (.int .i64 r.1) := (H0.out.2.1.below hbw H0.out.2.1.lt).cell 0
    have c2 : wr.cell? ⟨w.heap.size, 1, none⟩ = some (.int .i64 r.2) := (H0.out.2.1.below hbw H0.out.2.1.lt).cell 1
    by_cases hlt : i < l.length
    · obtain ⟨b, off, d, ha, hd, hx1, hx2⟩ := (H0.out.2.2.1.below hbw).ref hlt
      have HD := Lib.hid (And.intro hd (And.intro ha (And.intro hno hbw)))
      have hi1 : (i : Int) ≤ 1000 := by omega
      clear hno hd hbw
      rw [ha]
      clear ha
      have hsn : l.take (i + 1) = l.take i ++ [d] := by rw [List.take_add_one, HD.out.1, Option.toList_some]
      have HSN := Lib.hid hsn
      clear hsn
      rcases pair_split d.1 r.1 d.2 r.2 with ⟨e1, e2⟩ | e1 | ⟨e1, e2⟩
      · rw [e1] at hx1
        rw [e2] at hx2
        have HEq := Lib.hid (show d = r from Prod.ext e1 e2)
        clear e1 e2
        go_wp2_with fail
        go_still_tail 5, (by kernel_rfl)
        go_wp2_with fail
        go_ret
        refine ⟨?_, H0.out.1.trans (HD.out.2.2.2.mono H0.out.1.size).drew⟩
        have hm : r ∈ l := by rw [← HEq.out]; exact List.mem_of_getElem? HD.out.1
        rw [decide_eq_true hm]
        rfl
      · go_wp2_with fail
        have HNE := Lib.hid (show ¬ r = d from fun e => by subst e; first | exact e1 rfl | exact e2 rfl)
        go_still_tail 5, (by kernel_rfl)
        go_wp2_with fail
        refine ⟨⟨i + 1, by push_cast; rfl, by omega, HD.out.2.2.2.drew, ?_⟩, by simp [intOf]; omega⟩
        rw [HSN.out, List.mem_append]
        rintro (h | h)
        · exact HD.out.2.2.1 h
        · exact HNE.out (by simpa using h)
      · rw [e1] at hx1
        go_wp2_with fail
        have HNE := Lib.hid (show ¬ r = d from fun e => by subst e; first | exact e1 rfl | exact e2 rfl)
        go_still_tail 5, (by kernel_rfl)
        go_wp2_with fail
        refine ⟨⟨i + 1, by push_cast; rfl, by omega, HD.out.2.2.2.drew, ?_⟩, by simp [intOf]; omega⟩
        rw [HSN.out, List.mem_append]
        rintro (h | h)
        · exact HD.out.2.2.1 h
        · exact HNE.out (by simpa using h)
    · obtain rfl : i = l.length := by omega
      rw [List.take_length] at hno
      have HN := Lib.hid hno
      clear hno
      go_wp2_with fail
      go_ret
      exact ⟨by rw [decide_eq_false HN.out]; rfl, H0.out.1.trans (hbw.mono H0.out.1.size)⟩
end Go.Proofs.Ytdenaejhfgmihaa
