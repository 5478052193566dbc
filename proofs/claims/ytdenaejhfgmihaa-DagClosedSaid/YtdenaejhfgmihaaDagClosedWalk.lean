/- booklaw6.DagClosed: the walk. -/
import Derived.Test.YtdenaejhfgmihaaSameCh
import Derived.Test.YtdenaejhfgmihaaDagAll
import Derived.Test.YtdenaejhfgmihaaDagHeads
import Derived.Test.YtdenaejhfgmihaaDagFact
import Derived.Test.YtdenaejhfgmihaaDagAgain
import Derived.Outline
namespace Go.Proofs.Ytdenaejhfgmihaa
open Go.RowKit Go.Maps
set_option linter.unusedVariables false
set_option linter.unusedSimpArgs false

/-- Changes that came in. -/
def IsChanges (W : World) (v : Value) (l : List PCh) : Prop := ∃ A c, v = .slice A l.length c ∧ SlAt W A (chsCells l) ∧ (∀ x ∈ l, InC W x) ∧ l.length ≤ maxLen
def fC : PCh := ⟨1, 1, 1, none, 0, [], none, 0, []⟩
theorem fC_in (w : World) : InC w fC := ⟨.inl rfl, .inl rfl, fun o ho => (by cases ho), ⟨by decide, by decide⟩, ⟨by decide, by decide⟩, ⟨by decide, by decide⟩, fun d hd => (by cases hd), by decide, fun o ho => (by cases ho), by decide⟩
theorem fC_ok : chE fC.ch = 0 := by decide
theorem dag_new {w : World} {bk h wt bh : Nat} (H : BkM w bk h wt bh (.map []) (.map []) (.map [])) : Dag w bk h wt bh (.map []) (.map []) (.map []) [] := by
  refine ⟨H, fun r hr v hv => ?_, fun r _ => rfl, fun r hr => rfl, fun c hc => (by cases hc), List.nodup_nil, fun L1 c L2 e => ?_, fun r hr v hv => ?_, by simp [Maps.size], fun r hr e => ?_⟩
  · rw [mget_empty] at hv; cases hv
  · have := congrArg List.length e
    simp at this
  · rw [mget_empty] at hv; cases hv
  · unfold hasB at e; rw [mget_empty] at e; cases e
/-- A book of the law's own. -/
structure Bk (W : World) (bk h wt bh : Nat) (wr : World) : Prop where
  dag : ∃ Dh Dw Db L, Dag wr bk h wt bh Dh Dw Db L
  bel : Below W.heap.size W wr
  low : W.heap.size ≤ h ∧ W.heap.size ≤ wt ∧ W.heap.size ≤ bh
theorem below_T3 {W a b : World} {h wt bh : Nat} (h0 : Below W.heap.size W a) (hl : W.heap.size ≤ h ∧ W.heap.size ≤ wt ∧ W.heap.size ≤ bh) (ho : Only (T3 h wt bh) a b) : Below W.heap.size W b :=
  h0.trans (ho.below h0.size (fun k hk e => by rcases e with e | e | e <;> omega))

set_option maxRecDepth 100000 in
set_option maxHeartbeats 4000000 in
theorem dagClosed_walk (W : World) (v : Value) (l : List PCh) (hl : IsChanges W v l) : Calls Try.prog 3 #[v] W fun e W' => e = .returned (.bool true) ∧ Below W.heap.size W W' := by
  obtain ⟨A, ca, rfl, hA, hI, hln⟩ := hl
  have HL := Lib.hid (And.intro hA (And.intro hI hln))
  have hln2 : l.length ≤ 9223372036854775807 := by unfold maxLen at hln; omega
  clear hA hI hln
  go_enter Try.func3, Try.ntmps3
  go_wp2_with fail
  refine (new_any W).mono ?_
  rintro e w1 ⟨bk1, h1, wt1, bh1, rfl, hM1, hl1, hl2, hl3, hl4, hb1⟩
  have H1 := Lib.hid (And.intro (dag_new hM1) (And.intro hb1 (And.intro hl2 (And.intro hl3 hl4))))
  clear hM1 hl1 hl2 hl3 hl4 hb1
  go_wp2_with fail
  refine (take_fact bk1 h1 wt1 bh1 (.map []) (.map []) [] fC w1 H1.out.1 (fC_in _) fC_ok rfl rfl rfl rfl (by decide)).mono ?_
  rintro e w2 ⟨Dh2, Db2, L2, rfl, hD2, hh2, ho2⟩
  have H2 := Lib.hid (And.intro hD2 (And.intro hh2 (below_T3 H1.out.2.1 H1.out.2.2 ho2)))
  clear hD2 hh2 ho2
  go_wp2_with fail
  refine (has_any bk1 h1 wt1 bh1 Dh2 (.map []) Db2 (1, 1) w2 H2.out.1.bkm H2.out.1.chmap ⟨⟨by decide, by decide⟩, ⟨by decide, by decide⟩⟩).mono ?_
  rintro e w3 ⟨rfl, hb3⟩
  rw [show hasB Dh2 (1, 1) = true from H2.out.2.1]
  have H3 := Lib.hid (H2.out.2.2.trans (hb3.mono H2.out.2.2.size))
  clear hb3
  go_wp2_with fail
  refine (new_any w3).mono ?_
  rintro e w4 ⟨bk, h, wt, bh, rfl, hM4, hl1, hl2, hl3, hl4, hb4⟩
  have H4 := Lib.hid (show Bk W bk h wt bh w4 from ⟨⟨_, _, _, _, dag_new hM4⟩, H3.out.trans (hb4.mono H3.out.size), by have := H3.out.size; omega, by have := H3.out.size; omega, by have := H3.out.size; omega⟩)
  clear hM4 hl1 hl2 hl3 hl4 hb4
  go_upto_block 0 with (fail)
  go_cut [7] from 33 to 48 (fun s7 wx => Bk W bk h wt bh wx)
  case first =>
    go_wp2_with fail
    go_loopw [7] (fun iv wr => ∃ i : Nat, iv = .int .i64 i ∧ i ≤ l.length ∧ i ≤ 60 ∧ Bk W bk h wt bh wr) (fun iv _ => 60 - (intOf iv).toNat)
    case atStart => exact ⟨0, rfl, Nat.zero_le _, Nat.zero_le _, H4.out⟩
    case round =>
      obtain ⟨i, rfl, hi, hi60, hB⟩ := hrel
      have HB := Lib.hid hB
      clear hB
      by_cases hlt : i < l.length ∧ i < 60
      · obtain ⟨hlt1, hlt2⟩ := hlt
        have hx := List.getElem?_eq_getElem hlt1
        generalize l[i] = x at hx
        obtain ⟨ab, ao, hae, hac⟩ := (HL.out.1.below HB.out.bel).chg hx
        have x0 : wr.cell? ⟨ab, ao + i * 5, none⟩ = some (.int .i64 x.actor) := hac 0 _ rfl
        have x1 : wr.cell? ⟨ab, ao + i * 5 + 1, none⟩ = some (.int .i64 x.seq) := hac 1 _ rfl
        have x2 : wr.cell? ⟨ab, ao + i * 5 + 2, none⟩ = some (.int .i64 x.start) := hac 2 _ rfl
        have x3 : wr.cell? ⟨ab, ao + i * 5 + 3, none⟩ = some (.slice x.dA x.deps.length x.dc) := hac 3 _ rfl
        have x4 : wr.cell? ⟨ab, ao + i * 5 + 4, none⟩ = some (.slice x.oA x.ops.length x.oc) := hac 4 _ rfl
        obtain ⟨Dh, Dw, Db, L, hD⟩ := HB.out.dag
        have HC := Lib.hid (take_any bk h wt bh Dh Dw Db L x wr hD ((HL.out.2.1 x (List.mem_of_getElem? hx)).below HB.out.bel))
        have g1 : decide (i < l.length) = true := decide_eq_true hlt1
        have g2 : decide ((i : Int) < 60) = true := decide_eq_true (by omega)
        have HAA := Lib.hid hae
        clear hac hx hD
        rw [hae]
        clear hae
        go_wp2_with fail
        refine HC.out.mono ?_
        rintro e w5 ⟨n, Dh5, Dw5, Db5, L5, rfl, hD5, ho5⟩
        have HE := Lib.hid (show Bk W bk h wt bh w5 from ⟨⟨_, _, _, _, hD5⟩, below_T3 HB.out.bel HB.out.low ho5, HB.out.low⟩)
        clear hD5 ho5
        go_wp2_with fail
        exact ⟨⟨i + 1, by push_cast; rfl, by omega, by omega, HE.out⟩, by simp [intOf]; omega⟩
      · go_wp2_with fail
        all_goals
          go_meet
          exact HB.out
  case rest =>
  have HB := Lib.hid hcut
  clear hcut
  obtain ⟨Dh, Dw, Db, L, hD⟩ := HB.out.dag
  have HD := Lib.hid hD
  have HC := Lib.hid (all_any bk h wt bh Dh Dw Db L wc hD)
  clear hD
  go_wp2_with fail
  refine HC.out.mono ?_
  rintro e w5 ⟨al, B, cB, rfl, hal, hals, hali, hb5, hal120⟩
  have H5 := Lib.hid (And.intro hal (And.intro hals (And.intro hali (And.intro hb5 (HD.out.below hb5)))))
  clear hal hals hali hb5 HC
  go_upto_block 2 with (fail)
  have HWW := Lib.hid (HB.out.bel.trans (H5.out.2.2.2.1.mono HB.out.bel.size))
  obtain ⟨W5, hW5⟩ : ∃ W5, W5 = w5 := ⟨_, rfl⟩
  rw [← hW5] at H5 HWW ⊢
  clear hW5
  have hN : ∀ x ∈ al, GoodC x ∧ ∃ y ∈ L, y.ch = x.ch := fun x hx => by
    obtain ⟨y, hy, _, e⟩ := H5.out.1.src x hx
    have hg := (H5.out.2.2.2.2.good y hy).2
    rw [← e] at hg
    exact ⟨chE_good hg, y, hy, e.symm⟩
  have HN := Lib.hid hN
  clear hN
  go_cut [9, 10, 11, 12, 13, 14, 15] from 51 to 99 (fun s9 s10 s11 s12 s13 s14 s15 wx => Below W5.heap.size W5 wx)
  case first =>
    go_wp2_with fail
    go_loopw [9, 10, 11, 12, 13, 14, 15] (fun sv iv _ _ _ _ _ wr => ∃ (i : Nat) (S : Option Addr) (cS : Nat), sv = .slice S i cS ∧ iv = .int .i64 i ∧ i ≤ al.length ∧ Below W5.heap.size W5 wr ∧ wr.ownsRow 0 34 2 (.slice S i cS) i (refs ((al.take i).map PCh.ref)) ∧ ∀ b ∈ blkOf S, W5.heap.size ≤ b) (fun _ iv _ _ _ _ _ _ => al.length - (intOf iv).toNat)
    case atStart => exact ⟨0, none, 0, rfl, rfl, Nat.zero_le _, Below.refl _ _, ⟨rfl, .inl ⟨rfl, rfl⟩⟩, fun b hb => (by cases hb)⟩
    case round =>
      obtain ⟨i, S, cS, rfl, rfl, hi, hbw, hrow, hlow⟩ := hrel
      have HR := Lib.hid (And.intro hbw (And.intro hrow hlow))
      clear hbw hrow hlow
      by_cases hlt : i < al.length
      · have hx := List.getElem?_eq_getElem hlt
        generalize al[i] = x at hx
        have hxm := List.mem_of_getElem? hx
        obtain ⟨ab, ao, hae, hac⟩ := (H5.out.2.1.below HR.out.1).chg hx
        have x0 : wr.cell? ⟨ab, ao + i * 5, none⟩ = some (.int .i64 x.actor) := hac 0 _ rfl
        have x1 : wr.cell? ⟨ab, ao + i * 5 + 1, none⟩ = some (.int .i64 x.seq) := hac 1 _ rfl
        have x2 : wr.cell? ⟨ab, ao + i * 5 + 2, none⟩ = some (.int .i64 x.start) := hac 2 _ rfl
        have x3 : wr.cell? ⟨ab, ao + i * 5 + 3, none⟩ = some (.slice x.dA x.deps.length x.dc) := hac 3 _ rfl
        have x4 : wr.cell? ⟨ab, ao + i * 5 + 4, none⟩ = some (.slice x.oA x.ops.length x.oc) := hac 4 _ rfl
        have hi1 : (i : Int) ≤ 120 := by omega
        have hi2 : i ≤ 120 := by omega
        have HAA := Lib.hid (And.intro hae (And.intro hx hxm))
        clear hx hac hxm
        rw [hae]
        clear hae
        go_wp2_with fail
        refine (ref2_any x wr).mono ?_
        rintro e w6 ⟨rfl, hb6⟩
        obtain ⟨W7, hW7⟩ : ∃ W7, W7 = w6.alloc (.cells #[.int .i64 x.actor, .int .i64 x.seq] 34) := ⟨_, rfl⟩
        have hb7 : Below wr.heap.size wr W7 := by rw [hW7]; exact hb6.alloc hb6.size _
        have hR7 : Blk W7 w6.heap.size 34 #[.int .i64 x.actor, .int .i64 x.seq] := by rw [hW7]; exact Blk.new _ _ _
        obtain ⟨rb, hrb⟩ : ∃ rb, rb = w6.heap.size := ⟨_, rfl⟩
        rw [← hrb] at hR7
        have H7 := Lib.hid (And.intro hb7 (And.intro hR7 (own_keepD HR.out.2.1 (fun b hb hl => hb7.block b hl))))
        go_upto_region 17 with (fail)
        rw [← hW7, ← hrb]
        have r0 : W7.cell? ⟨rb, 0, none⟩ = some (.int .i64 x.actor) := hR7.cell 0
        have r1 : W7.cell? ⟨rb, 1, none⟩ = some (.int .i64 x.seq) := hR7.cell 1
        clear hb6 hW7 hb7 hR7 hrb x0 x1 x2 x3 x4
        have hlen : ((al.take i).map PCh.ref).length = i := by rw [List.length_map, List.length_take]; omega
        have hnot : decide (x.ref ∈ (al.take i).map PCh.ref) = false := by
          refine decide_eq_false (fun hm => ?_)
          obtain ⟨z, hz, hzr⟩ := List.mem_map.1 hm
          obtain ⟨q, hq, hqz⟩ := List.getElem_of_mem hz
          rw [List.length_take] at hq
          rw [List.getElem_take] at hqz
          have hnd := H5.out.1.ndp
          rw [List.Nodup, List.pairwise_map] at hnd
          obtain ⟨hi3, hie⟩ := List.getElem?_eq_some_iff.1 HAA.out.2.1
          have := (List.pairwise_iff_getElem.1 hnd) q i (by omega) hi3 (by omega)
          rw [hqz, hie] at this
          exact this hzr
        have HC17 := Lib.hid (show Calls Try.prog 9 #[.slice S i cS, .agg #[.int .i64 x.actor, .int .i64 x.seq]] W7 (fun e w' => e = .returned (.bool false) ∧ Below W7.heap.size W7 w') by
          have := has2_any ((al.take i).map PCh.ref) S cS x.ref W7 (SlAt.of_owns H7.out.2.2) (by rw [hlen]; omega)
          rw [hlen, hnot] at this
          exact this)
        have HLE := Lib.hid hlen
        clear hlen hnot
        go_wp2_with fail
        refine HC17.out.mono ?_
        rintro e w8 ⟨rfl, hb8⟩
        have hx8 : InC w8 x := (H5.out.2.2.1 x HAA.out.2.2).below (HR.out.1.trans ((H7.out.1.trans (hb8.mono H7.out.1.size)).mono HR.out.1.size))
        have H8 := Lib.hid (And.intro (H7.out.1.trans (hb8.mono H7.out.1.size)) (And.intro (H7.out.2.1.below hb8 H7.out.2.1.lt) (And.intro (own_keepD H7.out.2.2 (fun b hb hl => hb8.block b hl)) hx8)))
        clear hb8 r0 r1 HC17 hx8
        go_upto_block 4 with (fail)
        go_cut [13, 14] from 66 to 87 (fun s13 s14 wx => Below w8.heap.size w8 wx)
        case first =>
          go_wp2_with fail
          go_loopw [13, 14] (fun kv _ wk => ∃ k : Nat, kv = .int .i64 k ∧ k ≤ x.deps.length ∧ Below w8.heap.size w8 wk) (fun kv _ _ => x.deps.length - (intOf kv).toNat)
          case atStart => exact ⟨0, rfl, Nat.zero_le _, Below.refl _ _⟩
          case round =>
            obtain ⟨k, rfl, hk, hbk⟩ := hrel
            have hbk5 : Below W5.heap.size W5 wr := HR.out.1.trans ((H8.out.1.trans (hbk.mono H8.out.1.size)).mono HR.out.1.size)
            obtain ⟨ab2, ao2, hae2, hac2⟩ := (H5.out.2.1.below hbk5).chg HAA.out.2.1
            have e1 : ab = ab2 ∧ ao = ao2 := by
              have h1 := HAA.out.1
              rw [hae2] at h1
              have := Option.some.inj h1
              injection this with e1 e2 e3
              exact ⟨e1.symm, e2.symm⟩
            obtain ⟨rfl, rfl⟩ := e1
            have x3 : wr.cell? ⟨ab, ao + i * 5 + 3, none⟩ = some (.slice x.dA x.deps.length x.dc) := hac2 3 _ rfl
            have hd12 : x.deps.length ≤ 12 := (HN.out x HAA.out.2.2).1.deps
            clear hae2 hac2 hbk5
            by_cases hltk : k < x.deps.length
            · obtain ⟨db, dof, d, hda, hdd, hd1, hd2⟩ := (H8.out.2.2.2.deps.below hbk).ref hltk
              have hin : decide (d ∈ (al.take i).map PCh.ref) = true := decide_eq_true (H5.out.1.ord i x HAA.out.2.1 d (List.mem_of_getElem? hdd))
              have HC23 := Lib.hid (show Calls Try.prog 9 #[.slice S i cS, .agg #[.int .i64 d.1, .int .i64 d.2]] wr (fun e w' => e = .returned (.bool true) ∧ Below wr.heap.size wr w') by
                have := has2_any ((al.take i).map PCh.ref) S cS d wr ((SlAt.of_owns H8.out.2.2.1).below hbk) (by rw [HLE.out]; omega)
                rw [HLE.out, hin] at this
                exact this)
              have HBK := Lib.hid (And.intro hbk hda)
              have hk12 : (k : Int) ≤ 12 := by omega
              clear hbk hdd hin
              rw [hda] at x3
              clear hda
              go_wp2_with fail
              refine HC23.out.mono ?_
              rintro e wq ⟨rfl, hbq⟩
              have HE := Lib.hid (HBK.out.1.trans (hbq.mono HBK.out.1.size))
              clear hbq
              go_wp2_with fail
              exact ⟨⟨k + 1, by push_cast; rfl, by omega, HE.out⟩, by simp [intOf]; omega⟩
            · obtain rfl : k = x.deps.length := by omega
              go_wp2_with fail
              go_meet
              exact hbk
        case rest =>
          have hb9 := hcut
          clear hcut
          obtain ⟨w9, hw9⟩ : ∃ w9, w9 = wc := ⟨_, rfl⟩
          rw [← hw9] at hb9 ⊢
          clear hw9
          have hR9 := H8.out.2.1.below hb9 H8.out.2.1.lt
          have hb59 : Below W5.heap.size W5 w9 := HR.out.1.trans ((H8.out.1.trans (hb9.mono H8.out.1.size)).mono HR.out.1.size)
          have hS9 := own_keepD H8.out.2.2.1 (w' := w9) (fun b hb hl => hb9.block b hl)
          have r0 : w9.cell? ⟨rb, 0, none⟩ = some (.int .i64 x.actor) := hR9.cell 0
          have r1 : w9.cell? ⟨rb, 1, none⟩ = some (.int .i64 x.seq) := hR9.cell 1
          have hS9a := own_keepD hS9 (w' := w9.alloc (.cells #[.int .i64 x.actor, .int .i64 x.seq] 34)) (fun b hb hl => (alloc_below w9 _).block b hl)
          obtain ⟨S', cS', w10, hrun, hS10, hg10, hnew10⟩ := run_append_sl (P := Try.prog) (w9.alloc (.cells #[.int .i64 x.actor, .int .i64 x.seq] 34)) 28 0 34 Try.underlying28 infoRef rfl (by decide) S i cS _ hS9a (some ⟨w9.heap.size, 0, none⟩) 1 1 (refs [x.ref]) rfl (.inr ⟨_, 0, rfl, fun j u hu => by rw [Nat.zero_add, (Blk.new w9 _ _).cell]; simpa [refs, PCh.ref] using hu⟩) (refs_one _) (by unfold maxLen; omega) (by omega)
          have hrun2 : ∀ ty, (Builtin.append_ #[28, 28] ty #[.slice S i cS, .slice (some ⟨w9.heap.size, 0, none⟩) 1 1]).run Try.prog (w9.alloc (.cells #[.int .i64 x.actor, .int .i64 x.seq] 34)) = .ok (.slice S' (i + 1) cS') w10 := fun _ => hrun
          have HRN := Lib.hid hrun2
          have ho10 : Only (· ∈ blkOf S) (w9.alloc (.cells #[.int .i64 x.actor, .int .i64 x.seq] 34)) w10 := ⟨hg10.os, hg10.tape, hg10.output, hg10.size, fun k hk hn => hg10.block k hk (fun e => hn (own_mem e))⟩
          have hb510 : Below W5.heap.size W5 w10 := (hb59.trans ((alloc_below w9 _).mono hb59.size)).trans (ho10.below (by simp; have := hb59.size; omega) (fun k hk e => by have := HR.out.2.2 k e; omega))
          have hlow10 : ∀ b ∈ blkOf S', W5.heap.size ≤ b := fun b hb => by
            rcases hnew10 with ⟨rfl, _⟩ | rfl
            · exact HR.out.2.2 b hb
            · simp [blkOf] at hb
              have := hb59.size
              omega
          have hrow10 : w10.ownsRow 0 34 2 (.slice S' (i + 1) cS') (i + 1) (refs ((al.take (i + 1)).map PCh.ref)) := by
            rw [List.take_add_one, HAA.out.2.1, Option.toList_some, List.map_append, refs_append]
            exact hS10
          obtain ⟨yy, hyL, hych⟩ := (HN.out x HAA.out.2.2).2
          have HC27 := Lib.hid (take_again bk h wt bh Dh Dw Db L x yy w10 (H5.out.2.2.2.2.below hb510) ((H5.out.2.2.1 x HAA.out.2.2).below hb510) hyL hych)
          have H10 := Lib.hid (And.intro hb510 (And.intro hlow10 hrow10))
          obtain ⟨ab2, ao2, hae2, hac2⟩ := (H5.out.2.1.below hb510).chg HAA.out.2.1
          have e1 : ab = ab2 ∧ ao = ao2 := by
            have h1 := HAA.out.1
            rw [hae2] at h1
            have := Option.some.inj h1
            injection this with e1 e2 e3
            exact ⟨e1.symm, e2.symm⟩
          obtain ⟨rfl, rfl⟩ := e1
          have x0 : w10.cell? ⟨ab, ao + i * 5, none⟩ = some (.int .i64 x.actor) := hac2 0 _ rfl
          have x1 : w10.cell? ⟨ab, ao + i * 5 + 1, none⟩ = some (.int .i64 x.seq) := hac2 1 _ rfl
          have x2 : w10.cell? ⟨ab, ao + i * 5 + 2, none⟩ = some (.int .i64 x.start) := hac2 2 _ rfl
          have x3 : w10.cell? ⟨ab, ao + i * 5 + 3, none⟩ = some (.slice x.dA x.deps.length x.dc) := hac2 3 _ rfl
          have x4 : w10.cell? ⟨ab, ao + i * 5 + 4, none⟩ = some (.slice x.oA x.ops.length x.oc) := hac2 4 _ rfl
          clear hae2 hac2 hb9 hR9 hb59 hS9 hS9a hrun hS10 hg10 hnew10 hrun2 ho10 hb510 hlow10 hrow10 hyL hych
          go_upto_region 27 with (refine wpList_append_run (o := ⟨some 91, _, _, _, _, _⟩) rfl _ _ _ _ rfl rfl rfl (HRN.out _) ?_)
          go_wp2_with fail
          refine HC27.out.mono ?_
          rintro e w11 ⟨rfl, hb11⟩
          have HE := Lib.hid (show Below W5.heap.size W5 w11 ∧ w11.ownsRow 0 34 2 (.slice S' (i + 1) cS') (i + 1) (refs ((al.take (i + 1)).map PCh.ref)) from ⟨H10.out.1.trans (hb11.mono H10.out.1.size), own_keepD H10.out.2.2 (fun b hb hl => hb11.block b hl)⟩)
          clear hb11 x0 x1 x2 x3 x4 r0 r1
          go_wp2_with fail
          exact ⟨⟨i + 1, S', cS', rfl, by push_cast; rfl, by omega, HE.out.1, HE.out.2, H10.out.2.1⟩, by simp [intOf]; omega⟩
      · obtain rfl : i = al.length := by omega
        go_wp2_with fail
        go_meet
        exact HR.out.1
  case rest =>
  have HB6 := Lib.hid hcut
  clear hcut
  have HD6 := Lib.hid (H5.out.2.2.2.2.below HB6.out)
  go_wp2_with fail
  refine (all_any bk h wt bh Dh Dw Db L wc HD6.out).mono ?_
  rintro e w6 ⟨ag, B2, cB2, rfl, hag, hags, hagi, hb6, hag120⟩
  have hb56 := HB6.out.trans (hb6.mono HB6.out.size)
  have H6 := Lib.hid (And.intro hags (And.intro hagi (And.intro hb56 hag)))
  clear hag hags hagi hb6 hb56
  go_wp2_with fail
  refine (sameChanges_any al ag B B2 cB cB2 w6 (H5.out.2.1.below H6.out.2.2.1) H6.out.1 (fun x hx => ⟨(H5.out.2.2.1 x hx).below H6.out.2.2.1, (HN.out x hx).1⟩) (fun x hx => ⟨H6.out.2.1 x hx, (by
    obtain ⟨y, hy, _, e⟩ := H6.out.2.2.2.src x hx
    have hg := (H5.out.2.2.2.2.good y hy).2
    rw [← e] at hg
    exact chE_good hg)⟩) (AllOf.same H5.out.2.2.2.2.ndp H5.out.1 H6.out.2.2.2) (by omega)).mono ?_
  rintro e w7 ⟨rfl, hb7⟩
  have HB7 := Lib.hid (H6.out.2.2.1.trans (hb7.mono H6.out.2.2.1.size))
  clear hb7
  go_wp2_with fail
  refine (heads_any bk h wt bh Dh Dw Db L w7 (H5.out.2.2.2.2.below HB7.out)).mono ?_
  rintro e w8 ⟨HA, n, cH, rfl, hn, hn120, hb8⟩
  have HB8 := Lib.hid (HB7.out.trans (hb8.mono HB7.out.size))
  have HNN := Lib.hid hn
  clear hb8 hn
  have hlen : al.length = L.length := H5.out.1.len
  by_cases hL : L = []
  · have hn0 : n = 0 := HNN.out.2 hL
    have ha0 : al.length = 0 := by rw [hlen, hL]; rfl
    clear hlen
    subst hn0
    go_wp2_with fail
    go_ret
    exact ⟨rfl, HWW.out.trans (HB8.out.mono HWW.out.size)⟩
  · have hn0 : ¬ n = 0 := fun e => hL (HNN.out.1 e)
    have ha0 : ¬ al.length = 0 := fun e => hL (List.length_eq_zero_iff.1 (by rw [← hlen, e]))
    have e1 : ((n : Int) == 0) = false := by rw [beq_eq_false_iff_ne]; omega
    have e2 : ((al.length : Int) == 0) = false := by rw [beq_eq_false_iff_ne]; omega
    clear hlen
    go_wp2_with fail
    go_ret
    exact ⟨rfl, HWW.out.trans (HB8.out.mono HWW.out.size)⟩
end Go.Proofs.Ytdenaejhfgmihaa
