/- doc.Doc.start: a contract. doc.keyed, doc.plain, doc.object: contracts. -/
import Derived.Test.YteknflimfdkhoaaGreatDg25
import Derived.Test.YteknflimfdkhoaaGreatDg26
import Derived.Test.YteknflimfdkhoaaGreatDg22
namespace Go.Proofs.YteknflimfdkhoaaGreat
open Go.RowKit Go.Maps
set_option linter.unusedVariables false
set_option linter.unusedSimpArgs false

/-- Of the changes of a book. -/
theorem DagX.small {w : World} {F : Nat → Prop} {bk h wt bh : Nat} {Dh Dw Db : DataW Value} {L Wl : List PCh} (H : DagX w F bk h wt bh Dh Dw Db L Wl) {al : List PCh} (ha : AllOf L al) : ∀ c ∈ al, chE c.ch = 0 := fun c hc => by
  obtain ⟨y, hy, _, e⟩ := ha.src c hc
  rw [e]
  exact (H.good y hy).2
theorem ch_small {c : PCh} (h : chE c.ch = 0) : c.ch.start ≤ 1000000 ∧ c.ch.ops.length ≤ 40 ∧ c.ch.seq ≤ 1000000 := by
  have g := chE_good h
  have h1 : refOk (c.actor, c.seq) = true := g.ref
  simp [refOk] at h1
  exact ⟨g.st.2, by show (c.ops.map POp.op).length ≤ 40; rw [List.length_map]; exact g.ops, h1.2.2⟩
theorem take_map {l : List PCh} {k : Nat} {c : PCh} (h : l[k]? = some c) : (l.take (k + 1)).map PCh.ch = (l.take k).map PCh.ch ++ [c.ch] := by
  rw [List.take_add_one, h, List.map_append]
  rfl
set_option maxRecDepth 100000 in
set_option maxHeartbeats 1000000 in
theorem docStart_any (K : Nat → Prop) (db : Nat) (D : DocV) (w : World) (H : DocA w K db D) :
    Calls Tryz.prog 19 #[.pointer (some ⟨db, 0, none⟩)] w fun e w' => e = .returned (.tuple #[.int .i64 D.start.1, .int .i64 D.start.2]) ∧ Below w.heap.size w w' := by
  obtain ⟨F, bk, h, wt, bh, Dh, Dw, Db, L, Wl, A, cp, ps, H, e1, e2, e3, e4⟩ := H
  obtain ⟨actor, hac⟩ : ∃ a, a = D.actor := ⟨_, rfl⟩
  rw [← hac] at H
  have b1 : w.cell? ⟨db, 1, none⟩ = some (.pointer (some ⟨bk, 0, none⟩)) := H.blk.cell 1
  have HH := Lib.hid (And.intro H (And.intro e1 hac))
  have HA := Lib.hid (all_is bk h wt bh Dh Dw Db L w H.dag.toDag)
  clear H e1 e2 e3 e4 hac
  go_enter Tryz.func19, Tryz.ntmps19
  go_wp2_with (go_at_call 17; (with_reducible refine HA.out.mono ?_); rintro e w1 ⟨al, B, cB, rfl, hao, hb1, hal, hin⟩; have HB := Lib.hid (And.intro hao (And.intro hb1 (And.intro hal (hin w1 (fun _ _ _ => rfl))))); clear hao hb1 hin)
  have hd1 : Blk w1 db 57 #[.int .i64 actor, .pointer (some ⟨bk, 0, none⟩), .slice A ps.length cp] := HH.out.1.blk.below HB.out.2.1 HH.out.1.blk.lt
  have HD1 := Lib.hid hd1
  clear hd1 b1
  go_loopw [12, 2, 3, 5] (fun iv s2 s3 _ wr => ∃ k : Nat, iv = .int .i64 k ∧ k ≤ al.length ∧ s2 = .int .i64 (startV actor ((al.take k).map PCh.ch)).1 ∧ s3 = .int .i64 (startV actor ((al.take k).map PCh.ch)).2 ∧ Below w1.heap.size w1 wr) (fun iv _ _ _ _ => al.length - (intOf iv).toNat)
  case atStart => exact ⟨0, rfl, Nat.zero_le _, rfl, rfl, Below.refl _ _⟩
  case round =>
    obtain ⟨k, rfl, hk, rfl, rfl, hb⟩ := hrel
    obtain ⟨p1, hp1⟩ : ∃ p, (startV actor ((al.take k).map PCh.ch)).1 = p := ⟨_, rfl⟩
    obtain ⟨p2, hp2⟩ : ∃ p, (startV actor ((al.take k).map PCh.ch)).2 = p := ⟨_, rfl⟩
    rw [hp1, hp2]
    by_cases hlt : k < al.length
    · obtain ⟨c, hc⟩ : ∃ c, al[k]? = some c := ⟨_, List.getElem?_eq_getElem hlt⟩
      have hcm := List.mem_of_getElem? hc
      obtain ⟨b, off, ha, hcell⟩ := (HB.out.2.2.2.1.below hb).chg hc
      have c0 : wr.cell? ⟨b, off + k * 5, none⟩ = some (.int .i64 c.actor) := hcell 0 _ rfl
      have c1 : wr.cell? ⟨b, off + k * 5 + 1, none⟩ = some (.int .i64 c.seq) := hcell 1 _ rfl
      have c2 : wr.cell? ⟨b, off + k * 5 + 2, none⟩ = some (.int .i64 c.start) := hcell 2 _ rfl
      have c3 : wr.cell? ⟨b, off + k * 5 + 3, none⟩ = some (.slice c.dA c.deps.length c.dc) := hcell 3 _ rfl
      have c4 : wr.cell? ⟨b, off + k * 5 + 4, none⟩ = some (.slice c.oA c.ops.length c.oc) := hcell 4 _ rfl
      have hsm := ch_small (HH.out.1.dag.small HB.out.1 c hcm)
      have hol : c.ops.length ≤ 40 := by have := hsm.2.1; show _ ≤ 40; exact (show (c.ops.map POp.op).length ≤ 40 from this) |> fun h => by rwa [List.length_map] at h
      have hg := chE_good (HH.out.1.dag.small HB.out.1 c hcm)
      have hst := hg.st
      have hsq : c.seq ≤ 1000000 := hsm.2.2
      have hs1 := hg.seq
      have hw1 : IntKind.i64.wrap (c.start + (c.ops.length : Int)) = c.start + (c.ops.length : Int) := by rw [IntKind.wrap_i64]; omega
      have hw2 : IntKind.i64.wrap (c.seq + 1) = c.seq + 1 := by rw [IntKind.wrap_i64]; omega
      obtain ⟨W5, hW5⟩ : ∃ W5, W5 = wr.alloc (.cells #[.int .i64 c.actor, .int .i64 c.seq, .int .i64 c.start, .slice c.dA c.deps.length c.dc, .slice c.oA c.ops.length c.oc] 65) := ⟨_, rfl⟩
      have hb5 : Below wr.heap.size wr W5 := by rw [hW5]; exact (Below.refl _ _).alloc (Nat.le_refl _) _
      have hB5 : Blk W5 wr.heap.size 65 #[.int .i64 c.actor, .int .i64 c.seq, .int .i64 c.start, .slice c.dA c.deps.length c.dc, .slice c.oA c.ops.length c.oc] := by rw [hW5]; exact Blk.new _ _ _
      have hD5 : Blk W5 db 57 #[.int .i64 actor, .pointer (some ⟨bk, 0, none⟩), .slice A ps.length cp] := (HD1.out.below hb HD1.out.lt).below hb5 (by have := HD1.out.lt; have := hb.size; omega)
      have hnx : startV actor ((al.take (k + 1)).map PCh.ch) = (max p1 (c.start + (c.ops.length : Int)), if c.actor = actor then max p2 (c.seq + 1) else p2) := by
        rw [take_map hc, startV_snoc]
        unfold startF
        rw [hp1, hp2]
        show (max p1 (c.start + ((c.ops.map POp.op).length : Int)), _) = _
        rw [List.length_map]
        rfl
      have HX := Lib.hid (And.intro hnx (hb.trans (hb5.mono hb.size)))
      have HAA := Lib.hid ha
      have q2 : W5.cell? ⟨wr.heap.size, 2, none⟩ = some (.int .i64 c.start) := hB5.cell 2
      have q4 : W5.cell? ⟨wr.heap.size, 4, none⟩ = some (.slice c.oA c.ops.length c.oc) := hB5.cell 4
      have q0 : W5.cell? ⟨wr.heap.size, 0, none⟩ = some (.int .i64 c.actor) := hB5.cell 0
      have q1 : W5.cell? ⟨wr.heap.size, 1, none⟩ = some (.int .i64 c.seq) := hB5.cell 1
      have d0 : W5.cell? ⟨db, 0, none⟩ = some (.int .i64 actor) := hD5.cell 0
      clear hp1 hp2 hc hcm hcell hsm hg hst hsq hs1 hb5 hB5 hD5 hnx hb
      rw [ha]
      clear ha
      go_upto_region 5 with (fail)
      rw [← hW5]
      clear hW5 c0 c1 c2 c3 c4
      by_cases hca : c.actor = actor
      · have hca2 : (c.actor == actor) = true := by simpa using hca
        have HCA := Lib.hid hca
        clear hca
        go_upto_region 6 with (fail)
        go_region_held3 (fun w' => w'.cell? ⟨wr.heap.size, 0, none⟩ = some (.int .i64 c.actor) ∧ w'.cell? ⟨db, 0, none⟩ = some (.int .i64 actor)) (first | (with_reducible exact ⟨q0, d0⟩) | go_keep) (first | fail)
        all_goals
          go_wp2_with fail
          refine ⟨⟨k + 1, by push_cast; rfl, by omega, ?_, ?_, HX.out.2.drew⟩, by simp [intOf]; omega⟩
          · rw [HX.out.1]
          · rw [HX.out.1, if_pos HCA.out]
      · have hca2 : (c.actor == actor) = false := by simpa using hca
        have HCA := Lib.hid hca
        clear hca
        go_upto_region 6 with (fail)
        go_region_held3 (fun w' => w'.cell? ⟨wr.heap.size, 0, none⟩ = some (.int .i64 c.actor) ∧ w'.cell? ⟨db, 0, none⟩ = some (.int .i64 actor)) (first | (with_reducible exact ⟨q0, d0⟩) | go_keep) (first | fail)
        all_goals
          go_wp2_with fail
          refine ⟨⟨k + 1, by push_cast; rfl, by omega, ?_, ?_, HX.out.2.drew⟩, by simp [intOf]; omega⟩
          · rw [HX.out.1]
          · rw [HX.out.1, if_neg HCA.out]
    · obtain rfl : k = al.length := by omega
      rw [← hp1, ← hp2, List.take_length]
      have hfin : startV actor (al.map PCh.ch) = D.start := by
        rw [HB.out.1.eq HH.out.1.dag.ndp, ← HH.out.2.1, HH.out.2.2]
        rfl
      have HF := Lib.hid (And.intro hfin (HB.out.2.1.trans (hb.mono HB.out.2.1.size)))
      clear hfin hb hp1 hp2
      go_wp2_with fail
      go_ret2
      exact ⟨by rw [HF.out.1]; rfl, HF.out.2⟩
end Go.Proofs.YteknflimfdkhoaaGreat
namespace Go.Proofs.YteknflimfdkhoaaGreat
open Go.RowKit Go.Maps
set_option linter.unusedVariables false
set_option linter.unusedSimpArgs false

theorem zeroInt (w : World) : (zeroValue 3).run Tryz.prog w = .ok (.int .i64 0) w := by kernel_rfl
/-- The kind of an object, looked up. -/
theorem StM.look_kind {w : World} {B sb kb vb ib lb N : Nat} {s : Sta} (h : StM w B sb kb vb ib lb N s) {n : Int × Int} (hn : I2 n) :
    (Instr.lookup 71 (.map (some kb)) (.agg #[.int .i64 n.1, .int .i64 n.2]) true).run Tryz.prog w = .ok (.tuple #[.int .i64 ((s.kinds n).getD 0), .bool (s.kinds n).isSome]) w := by
  obtain ⟨Dk, k1, k2, k3⟩ := h.ks
  have := run_look_ok pairId k1 Tryz.underlying71 (zeroInt w) hn
  rw [k2 n hn] at this
  cases e : s.kinds n with
  | none => rw [e] at this; exact this
  | some k => rw [e] at this; exact this
set_option maxRecDepth 100000 in
set_option maxHeartbeats 1000000 in
theorem keyed_any (B sb kb vb ib lb N : Nat) (s : Sta) (obj : Int × Int) (key : ByteArray) (w : World) (H : StM w B sb kb vb ib lb N s) (hn : I2 obj) (hk : key.size ≤ maxLen) :
    Calls Tryz.prog 57 #[.pointer (some ⟨sb, 0, none⟩), .agg #[.int .i64 obj.1, .int .i64 obj.2], .string key] w fun e w' => e = .returned (errC (keyedE s obj key)) ∧ Below w.heap.size w w' := by
  obtain ⟨W0, hW0⟩ : ∃ W0, W0 = w.alloc (.cells #[.int .i64 obj.1, .int .i64 obj.2] 24) := ⟨_, rfl⟩
  have hb0 : Below w.heap.size w W0 := by rw [hW0]; exact (Below.refl _ _).alloc (Nat.le_refl _) _
  have H1 := H.below hb0
  have hN : Blk W0 w.heap.size 24 #[.int .i64 obj.1, .int .i64 obj.2] := by rw [hW0]; exact Blk.new _ _ _
  obtain ⟨kk, hkk⟩ : ∃ kk, s.kinds obj = kk := ⟨_, rfl⟩
  have hS : ∀ W, Below W0.heap.size W0 W → W.cell? ⟨sb, 0, none⟩ = some (.map (some kb)) ∧ W.cell? ⟨w.heap.size, 0, none⟩ = some (.int .i64 obj.1) ∧ W.cell? ⟨w.heap.size, 1, none⟩ = some (.int .i64 obj.2) ∧
      (Instr.lookup 71 (.map (some kb)) (.agg #[.int .i64 obj.1, .int .i64 obj.2]) true).run Tryz.prog W = .ok (.tuple #[.int .i64 (kk.getD 0), .bool kk.isSome]) W := by
    intro W hW
    have h2 := H1.below hW
    have hN2 := hN.below hW hN.lt
    refine ⟨h2.blk.cell 0, hN2.cell 0, hN2.cell 1, ?_⟩
    rw [← hkk]
    exact h2.look_kind hn
  have HB := Lib.hid hb0
  have HKS := Lib.hid hS
  have hS0 := hS W0 (Below.refl _ _)
  have hE : keyedE s obj key = kindE kk key := by
    unfold keyedE
    rw [hkk]
  have HE := Lib.hid hE
  clear H H1 hb0 hS hN hkk hE
  obtain ⟨p1, p2, p3, p4⟩ := hS0
  unfold maxLen at hk
  cases kk with
  | none =>
    have hke : keyedE s obj key = 6 := by rw [HE.out]; rfl
    rw [hke]
    clear HE hke
    go_enter Tryz.func57, Tryz.ntmps57
    go_wp2_with fail
    rw [← hW0]
    clear hW0
    go_region_held3 (fun w' => w'.cell? ⟨sb, 0, none⟩ = some (.map (some kb)) ∧ w'.cell? ⟨w.heap.size, 0, none⟩ = some (.int .i64 obj.1) ∧ w'.cell? ⟨w.heap.size, 1, none⟩ = some (.int .i64 obj.2) ∧ (Instr.lookup 71 (.map (some kb)) (.agg #[.int .i64 obj.1, .int .i64 obj.2]) true).run Tryz.prog w' = .ok (.tuple #[.int .i64 ((none : Option Int).getD 0), .bool (none : Option Int).isSome]) w')
      (first | (with_reducible exact HKS.out _ (Below.refl _ W0).drew) | go_keep) (first | fail)
    all_goals
      go_wp2_with fail
      go_ret
      exact ⟨rfl, HB.out.drew⟩
  | some k =>
    by_cases hk5 : k = 5
    · subst hk5
      obtain ⟨z, hz⟩ : ∃ z, key.toList.isEmpty = z := ⟨_, rfl⟩
      cases z with
      | true =>
        have hke : keyedE s obj key = 1 := by rw [HE.out]; exact kindE_key rfl hz
        rw [hke]
        clear HE
        go_enter Tryz.func57, Tryz.ntmps57
        go_wp2_with fail
        rw [← hW0]
        clear hW0
        go_region_held3 (fun w' => w'.cell? ⟨sb, 0, none⟩ = some (.map (some kb)) ∧ w'.cell? ⟨w.heap.size, 0, none⟩ = some (.int .i64 obj.1) ∧ w'.cell? ⟨w.heap.size, 1, none⟩ = some (.int .i64 obj.2) ∧ (Instr.lookup 71 (.map (some kb)) (.agg #[.int .i64 obj.1, .int .i64 obj.2]) true).run Tryz.prog w' = .ok (.tuple #[.int .i64 ((some (5 : Int)).getD 0), .bool (some (5 : Int)).isSome]) w')
          (first | (with_reducible exact HKS.out _ (Below.refl _ W0).drew) | go_keep) (first | fail)
        all_goals
          go_wp2_with fail
          go_ret
          exact ⟨rfl, HB.out.drew⟩
      | false =>
        have hkn : ¬ key.toList.isEmpty = true := by rw [hz]; decide
        have hw : IntKind.i64.wrap (key.size : Int) = (key.size : Int) := by rw [IntKind.wrap_i64]; omega
        by_cases hl : 20 < key.size
        · have hke : keyedE s obj key = 4 := by rw [HE.out]; exact kindE_long rfl hkn hl
          rw [hke]
          have hl2 : (20 : Int) < (key.size : Int) := by omega
          clear HE hkn
          go_enter Tryz.func57, Tryz.ntmps57
          go_wp2_with fail
          rw [← hW0]
          clear hW0
          go_region_held3 (fun w' => w'.cell? ⟨sb, 0, none⟩ = some (.map (some kb)) ∧ w'.cell? ⟨w.heap.size, 0, none⟩ = some (.int .i64 obj.1) ∧ w'.cell? ⟨w.heap.size, 1, none⟩ = some (.int .i64 obj.2) ∧ (Instr.lookup 71 (.map (some kb)) (.agg #[.int .i64 obj.1, .int .i64 obj.2]) true).run Tryz.prog w' = .ok (.tuple #[.int .i64 ((some (5 : Int)).getD 0), .bool (some (5 : Int)).isSome]) w')
            (first | (with_reducible exact HKS.out _ (Below.refl _ W0).drew) | go_keep) (first | fail)
          all_goals
            go_wp2_with fail
            go_ret
            exact ⟨rfl, HB.out.drew⟩
        · have hke : keyedE s obj key = 0 := by rw [HE.out]; exact kindE_ok rfl hkn hl
          rw [hke]
          have hl2 : ¬ (20 : Int) < (key.size : Int) := by omega
          clear HE hkn
          go_enter Tryz.func57, Tryz.ntmps57
          go_wp2_with fail
          rw [← hW0]
          clear hW0
          go_region_held3 (fun w' => w'.cell? ⟨sb, 0, none⟩ = some (.map (some kb)) ∧ w'.cell? ⟨w.heap.size, 0, none⟩ = some (.int .i64 obj.1) ∧ w'.cell? ⟨w.heap.size, 1, none⟩ = some (.int .i64 obj.2) ∧ (Instr.lookup 71 (.map (some kb)) (.agg #[.int .i64 obj.1, .int .i64 obj.2]) true).run Tryz.prog w' = .ok (.tuple #[.int .i64 ((some (5 : Int)).getD 0), .bool (some (5 : Int)).isSome]) w')
            (first | (with_reducible exact HKS.out _ (Below.refl _ W0).drew) | go_keep) (first | fail)
          all_goals
            go_wp2_with fail
            go_ret
            exact ⟨rfl, HB.out.drew⟩
    · have hke : keyedE s obj key = 10 := by rw [HE.out]; exact kindE_kind hk5
      rw [hke]
      have hk2 : (k != 5) = true := by simpa using hk5
      clear HE
      go_enter Tryz.func57, Tryz.ntmps57
      go_wp2_with fail
      rw [← hW0]
      clear hW0
      go_region_held3 (fun w' => w'.cell? ⟨sb, 0, none⟩ = some (.map (some kb)) ∧ w'.cell? ⟨w.heap.size, 0, none⟩ = some (.int .i64 obj.1) ∧ w'.cell? ⟨w.heap.size, 1, none⟩ = some (.int .i64 obj.2) ∧ (Instr.lookup 71 (.map (some kb)) (.agg #[.int .i64 obj.1, .int .i64 obj.2]) true).run Tryz.prog w' = .ok (.tuple #[.int .i64 ((some k).getD 0), .bool (some k).isSome]) w')
        (first | (with_reducible exact HKS.out _ (Below.refl _ W0).drew) | go_keep) (first | fail)
      all_goals
        go_wp2_with fail
        go_ret
        exact ⟨rfl, HB.out.drew⟩

/-- What plain answers. -/
def plainE (v : JV) : Int := if v.ok && !objB v.k then 0 else 1
set_option maxRecDepth 100000 in
set_option maxHeartbeats 1000000 in
theorem docPlain_any (v : JV) (w : World) : Calls Tryz.prog 15 #[.agg #[.int .i64 v.k, .int .i64 v.n, .string v.s, .int .i64 v.o, .int .i64 v.p]] w fun e w' => e = .returned (errC (plainE v)) ∧ Below w.heap.size w w' := by
  obtain ⟨W0, hW0⟩ : ∃ W0, W0 = w.alloc (.cells #[.int .i64 v.k, .int .i64 v.n, .string v.s, .int .i64 v.o, .int .i64 v.p] 31) := ⟨_, rfl⟩
  have hb0 : Below w.heap.size w W0 := by rw [hW0]; exact (Below.refl _ _).alloc (Nat.le_refl _) _
  have hN : Blk W0 w.heap.size 31 #[.int .i64 v.k, .int .i64 v.n, .string v.s, .int .i64 v.o, .int .i64 v.p] := by rw [hW0]; exact Blk.new _ _ _
  have HB := Lib.hid (And.intro hb0 hN)
  have q0 : W0.cell? ⟨w.heap.size, 0, none⟩ = some (.int .i64 v.k) := hN.cell 0
  have q1 : W0.cell? ⟨w.heap.size, 1, none⟩ = some (.int .i64 v.n) := hN.cell 1
  have q2 : W0.cell? ⟨w.heap.size, 2, none⟩ = some (.string v.s) := hN.cell 2
  have q3 : W0.cell? ⟨w.heap.size, 3, none⟩ = some (.int .i64 v.o) := hN.cell 3
  have q4 : W0.cell? ⟨w.heap.size, 4, none⟩ = some (.int .i64 v.p) := hN.cell 4
  have hvc : ∀ W, Calls Tryz.prog 34 #[.agg #[.int .i64 v.k, .int .i64 v.n, .string v.s, .int .i64 v.o, .int .i64 v.p]] W fun e w' => e = .returned (errIf v.ok) ∧ Below W.heap.size W w' := fun W => valueCheck_any v W
  have HVC := Lib.hid hvc
  clear hb0 hN hvc
  obtain ⟨z1, h1⟩ : ∃ z, v.ok = z := ⟨_, rfl⟩
  obtain ⟨z2, h2⟩ : ∃ z, objB v.k = z := ⟨_, rfl⟩
  have HP := Lib.hid (show plainE v = if z1 && !z2 then 0 else 1 from by unfold plainE; rw [h1, h2])
  have H1 := Lib.hid h1
  have H2 := Lib.hid h2
  rw [HP.out]
  clear h1 h2 HP
  cases z1 with
  | false =>
    go_enter Tryz.func15, Tryz.ntmps15
    go_upto_region 1 with (fail)
    rw [← hW0]
    clear hW0
    go_wp2_with (first
      | (go_at_call 34; (with_reducible refine (HVC.out _).mono ?_); rintro e w1 ⟨rfl, hb1⟩; rw [H1.out, errIf_false]))
    go_ret
    exact ⟨rfl, HB.out.1.trans (hb1.mono HB.out.1.size)⟩
  | true =>
    cases z2 with
    | false =>
      go_enter Tryz.func15, Tryz.ntmps15
      go_upto_region 1 with (fail)
      rw [← hW0]
      clear hW0
      go_wp2_with (first
        | (go_at_call 34; (with_reducible refine (HVC.out _).mono ?_); (rintro e w1 ⟨rfl, hb1⟩); rw [H1.out, errIf_true]; (have hN1 := HB.out.2.below hb1 HB.out.2.lt); (have r0 := hN1.cell 0); (have r1 := hN1.cell 1); (have r2 := hN1.cell 2); (have r3 := hN1.cell 3); (have r4 := hN1.cell 4); simp at r0 r1 r2 r3 r4)
        | (go_at_call 35; (with_reducible refine (object_any v _).mono ?_); rintro e w2 ⟨rfl, hb2⟩; rw [H2.out]))
      go_ret
      exact ⟨rfl, (HB.out.1.trans (hb1.mono HB.out.1.size)).trans (hb2.mono (Nat.le_trans HB.out.1.size hb1.size))⟩
    | true =>
      go_enter Tryz.func15, Tryz.ntmps15
      go_upto_region 1 with (fail)
      rw [← hW0]
      clear hW0
      go_wp2_with (first
        | (go_at_call 34; (with_reducible refine (HVC.out _).mono ?_); (rintro e w1 ⟨rfl, hb1⟩); rw [H1.out, errIf_true]; (have hN1 := HB.out.2.below hb1 HB.out.2.lt); (have r0 := hN1.cell 0); (have r1 := hN1.cell 1); (have r2 := hN1.cell 2); (have r3 := hN1.cell 3); (have r4 := hN1.cell 4); simp at r0 r1 r2 r3 r4)
        | (go_at_call 35; (with_reducible refine (object_any v _).mono ?_); rintro e w2 ⟨rfl, hb2⟩; rw [H2.out]))
      go_ret
      exact ⟨rfl, (HB.out.1.trans (hb1.mono HB.out.1.size)).trans (hb2.mono (Nat.le_trans HB.out.1.size hb1.size))⟩

/-- What object answers. -/
def objectE (k : Int) : Int := if objB k then 0 else 1
theorem docObject_any (k : Int) (w : World) : Calls Tryz.prog 30 #[.int .i64 k] w fun e w' => e = .returned (errC (objectE k)) ∧ Below w.heap.size w w' := by
  by_cases h5 : k = 5
  · subst h5
    go_enter Tryz.func30, Tryz.ntmps30
    go_wp2_with fail
    go_ret
    exact ⟨rfl, Below.refl _ _⟩
  · by_cases h6 : k = 6
    · subst h6
      go_enter Tryz.func30, Tryz.ntmps30
      go_wp2_with fail
      go_ret
      exact ⟨rfl, Below.refl _ _⟩
    · have e : objectE k = 1 := by unfold objectE objB; simp [h5, h6]
      rw [e]
      have h5' : (k != 5) = true := by simpa using h5
      have h6' : (k != 6) = true := by simpa using h6
      go_enter Tryz.func30, Tryz.ntmps30
      go_wp2_with fail
      go_ret
      exact ⟨rfl, Below.refl _ _⟩
end Go.Proofs.YteknflimfdkhoaaGreat
