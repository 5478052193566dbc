/- doc.Doc.Merge, doc.Doc.Fork: contracts. doc.Doc.Fork: a contract. -/
import Derived.Test.YteknflimfdkhoaaGreatDg35
import Derived.Test.YteknflimfdkhoaaGreatDg27
import Derived.BigQuiet
namespace Go.Proofs.YteknflimfdkhoaaGreat
open Go.RowKit Go.Maps Go.Sort
set_option linter.unusedVariables false
set_option linter.unusedSimpArgs false

/-- A book takes some changes, those that it has left aside. -/
inductive MergeR : List Ch → List Ch → Int → List Ch → Int → Int → List Ch → List Ch → Prop
  | done {L W : List Ch} {n : Int} : MergeR L W n [] n 0 L W
  | skip {L W L' W' l : List Ch} {c : Ch} {n n' e : Int} : c.ref ∈ L.map Ch.ref → MergeR L W n l n' e L' W' → MergeR L W n (c :: l) n' e L' W'
  | fail {L W L1 W1 l : List Ch} {c : Ch} {n e : Int} : c.ref ∉ L.map Ch.ref → Takes L W c e L1 W1 → e ≠ 0 → MergeR L W n (c :: l) 0 e L1 W1
  | step {L W L1 W1 L' W' l : List Ch} {c : Ch} {n n' e : Int} : c.ref ∉ L.map Ch.ref → Takes L W c 0 L1 W1 → MergeR L1 W1 (n + 1) l n' e L' W' → MergeR L W n (c :: l) n' e L' W'
/-- What Merge answers. -/
def MergeQ (w : World) (K : Nat → Prop) (db : Nat) (D E : DocV) (e : Ending) (w' : World) : Prop :=
  ∃ (n' er : Int) (L' W' : List Ch), (if D.pend = [] then MergeR D.L D.W 0 E.all n' er L' W' else n' = 0 ∧ er = 7 ∧ L' = D.L ∧ W' = D.W) ∧ e = .returned (.tuple #[.int .i64 n', errC er]) ∧ DocA w' (fun i => K i ∨ w.heap.size ≤ i) db { D with L := L', W := W' } ∧ Only K w w'
/-- What holds at each round of Merge. -/
def MergeI (w w1 : World) (K : Nat → Prop) (db : Nat) (D : DocV) (all : List Ch) (k : Nat) (n : Int) (W : World) : Prop :=
  ∃ (L1 W1 : List Ch), DocA W (fun i => (K i ∧ i < w.heap.size) ∨ w1.heap.size ≤ i) db { D with L := L1, W := W1 } ∧ 0 ≤ n ∧ n ≤ k ∧ Only (fun i => (K i ∧ i < w.heap.size) ∨ w1.heap.size ≤ i) w1 W ∧ (∀ n' e L' W', MergeR L1 W1 n (all.drop k) n' e L' W' → MergeR D.L D.W 0 all n' e L' W')
theorem DocA.bnd {w : World} {K : Nat → Prop} {db : Nat} {D : DocV} (H : DocA w K db D) : DocA w (fun i => K i ∧ i < w.heap.size) db D := H.mono (fun i hi k => ⟨k, hi⟩)
theorem drop_ch {al : List PCh} {k : Nat} {c : PCh} (hc : al[k]? = some c) : (al.map PCh.ch).drop k = c.ch :: (al.map PCh.ch).drop (k + 1) := by
  have hlt := (List.getElem?_eq_some_iff.1 hc).1
  rw [List.drop_eq_getElem_cons (by rw [List.length_map]; exact hlt)]
  congr 1
  rw [List.getElem_map]
  congr 1
  exact (List.getElem?_eq_some_iff.1 hc).2
theorem merge_take {w w1 wr W5 w6 : World} {K : Nat → Prop} {db z : Nat} {D : DocV} (hz1 : w.heap.size ≤ w1.heap.size) (ho : Only (fun i => (K i ∧ i < w.heap.size) ∨ w1.heap.size ≤ i) w1 wr) (hb5 : Below wr.heap.size wr W5)
    (hD6 : DocA w6 (fun i => ((((K i ∧ i < w.heap.size) ∨ w1.heap.size ≤ i) ∧ i < wr.heap.size) ∧ i < z) ∨ W5.heap.size ≤ i) db D) (ho6 : Only (fun i => ((((K i ∧ i < w.heap.size) ∨ w1.heap.size ≤ i) ∧ i < wr.heap.size) ∧ i < z) ∧ i ≠ db) W5 w6) :
    DocA w6 (fun i => (K i ∧ i < w.heap.size) ∨ w1.heap.size ≤ i) db D ∧ Only (fun i => (K i ∧ i < w.heap.size) ∨ w1.heap.size ≤ i) w1 w6 := by
  have hzr := ho.size
  have hz5 := hb5.size
  refine ⟨hD6.mono (fun i _ e => ?_), (ho.trans (Only.of_below hb5)).trans (ho6.mono (fun i _ e => e.1.1.1))⟩
  rcases e with e | e
  · exact e.1.1
  · exact .inr (by omega)
/-- Behind a change that was taken. -/
theorem MergeI.step {w w1 W : World} {K : Nat → Prop} {db : Nat} {D : DocV} {all : List Ch} {k : Nat} {n : Int} {L1 W1 L2 W2 : List Ch} {c : Ch} (hD : DocA W (fun i => (K i ∧ i < w.heap.size) ∨ w1.heap.size ≤ i) db { D with L := L2, W := W2 })
    (ho : Only (fun i => (K i ∧ i < w.heap.size) ∨ w1.heap.size ≤ i) w1 W) (hn0 : 0 ≤ n) (hnk : n ≤ k) (hst : ∀ n' e L' W', MergeR L1 W1 n (all.drop k) n' e L' W' → MergeR D.L D.W 0 all n' e L' W')
    (hdr : all.drop k = c :: all.drop (k + 1)) (hc : c.ref ∉ L1.map Ch.ref) (hT : Takes L1 W1 c 0 L2 W2) : MergeI w w1 K db D all (k + 1) (n + 1) W := by
  refine ⟨L2, W2, hD, by omega, by push_cast; omega, ho, fun n' e L' W' h => hst _ _ _ _ ?_⟩
  rw [hdr]
  exact .step hc hT h
theorem MergeI.skip {w w1 wr W5 : World} {K : Nat → Prop} {db : Nat} {D : DocV} {all : List Ch} {k : Nat} {n : Int} {L1 W1 : List Ch} {c : Ch} (hD : DocA wr (fun i => (K i ∧ i < w.heap.size) ∨ w1.heap.size ≤ i) db { D with L := L1, W := W1 })
    (ho : Only (fun i => (K i ∧ i < w.heap.size) ∨ w1.heap.size ≤ i) w1 wr) (hb5 : Below wr.heap.size wr W5) (hn0 : 0 ≤ n) (hnk : n ≤ k) (hst : ∀ n' e L' W', MergeR L1 W1 n (all.drop k) n' e L' W' → MergeR D.L D.W 0 all n' e L' W')
    (hdr : all.drop k = c :: all.drop (k + 1)) (hc : c.ref ∈ L1.map Ch.ref) : MergeI w w1 K db D all (k + 1) n W5 := by
  refine ⟨L1, W1, hD.below hb5, hn0, by push_cast; omega, ho.trans (Only.of_below hb5), fun n' e L' W' h => hst _ _ _ _ ?_⟩
  rw [hdr]
  exact .skip hc h
theorem merge_out {w w1 W : World} {K : Nat → Prop} {db : Nat} {D : DocV} (hb1 : Below w.heap.size w w1) (hD : DocA W (fun i => (K i ∧ i < w.heap.size) ∨ w1.heap.size ≤ i) db D) (ho : Only (fun i => (K i ∧ i < w.heap.size) ∨ w1.heap.size ≤ i) w1 W) : DocA W (fun i => K i ∨ w.heap.size ≤ i) db D ∧ Only K w W := by
  have hz := hb1.size
  refine ⟨hD.mono (fun i _ e => ?_), (Only.of_below (S := K) hb1).chain ho (fun i hi e => ?_)⟩
  · rcases e with e | e
    · exact .inl e.1
    · exact .inr (Nat.le_trans hz e)
  · rcases e with e | e
    · exact e.1
    · omega
set_option maxRecDepth 100000 in
set_option maxHeartbeats 4000000 in
theorem docMerge_any (K K2 : Nat → Prop) (db eb : Nat) (D E : DocV) (w : World) (H : DocA w K db D) (HE : DocA w K2 eb E) :
    Calls Tryz.prog 7 #[.pointer (some ⟨db, 0, none⟩), .pointer (some ⟨eb, 0, none⟩)] w (MergeQ w K db D E) := by
  obtain ⟨F2, bk2, h2, wt2, bh2, Dh2, Dw2, Db2, L2, Wl2, A2, cp2, ps2, HE, f1, f2, f3, f4⟩ := HE
  have HDA := Lib.hid H
  obtain ⟨F, bk, h, wt, bh, Dh, Dw, Db, L, Wl, A, cp, ps, H, e1, e2, e3, e4⟩ := H
  have b2 : w.cell? ⟨db, 2, none⟩ = some (.slice A ps.length cp) := H.blk.cell 2
  have c1 : w.cell? ⟨eb, 1, none⟩ = some (.pointer (some ⟨bk2, 0, none⟩)) := HE.blk.cell 1
  have hpe : D.pend = [] ↔ ps.length = 0 := by rw [e3]; simp
  have hpl : ps.length ≤ 9223372036854775807 := by have := H.len; omega
  have HPE := Lib.hid hpe
  have HA := Lib.hid (all_is bk2 h2 wt2 bh2 Dh2 Dw2 Db2 L2 w HE.dag.toDag)
  have HX := Lib.hid (And.intro HE.dag (And.intro f1 HE.dag.ndp))
  clear H HE e1 e2 e3 e4 f1 f2 f3 f4 hpe
  by_cases h0 : ps.length = 0
  · rw [h0] at b2
    have hD0 : D.pend = [] := HPE.out.2 h0
    have HP0 := Lib.hid hD0
    clear h0 hD0 hpl
    go_enter Tryz.func7, Tryz.ntmps7
    go_wp2_with (go_at_call 17; (with_reducible refine HA.out.mono ?_); (rintro e w1 ⟨al, B, cB, rfl, hao, hb1, hal, hin⟩); (have HB := Lib.hid (And.intro hao (And.intro hb1 (And.intro hal hin)))); (clear hao hb1 hin))
    have HAL := Lib.hid (show al.map PCh.ch = E.all from by rw [HB.out.1.eq HX.out.2.2, ← HX.out.2.1]; rfl)
    have hI0 : MergeI w w1 K db D (al.map PCh.ch) 0 0 w1 := ⟨D.L, D.W, (HDA.out.bnd.below HB.out.2.1).mono (fun i _ k => .inl k), Int.le_refl _, Int.le_refl _, Only.refl _ _, fun n' e L' W' hm => by simpa using hm⟩
    have HI := Lib.hid hI0
    clear b2 c1 hI0
    go_loopw [23, 6, 8, 9] (fun iv nv _ _ wr => ∃ (k : Nat) (n : Int), iv = .int .i64 k ∧ nv = .int .i64 n ∧ k ≤ al.length ∧ MergeI w w1 K db D (al.map PCh.ch) k n wr) (fun iv _ _ _ _ => al.length - (intOf iv).toNat)
    case atStart => exact ⟨0, 0, rfl, rfl, Nat.zero_le _, HI.out⟩
    case round =>
      obtain ⟨k, n, rfl, rfl, hk, L1, W1, hD, hn0, hnk, ho, hst⟩ := hrel
      have hz1 := HB.out.2.1.size
      have hzr := ho.size
      have hin := HB.out.2.2.2 wr (fun b h1 h2 => ho.block b h2 (fun e => by rcases e with e | e; have := e.2; omega; omega))
      by_cases hlt : k < al.length
      · obtain ⟨c, hc⟩ : ∃ c, al[k]? = some c := ⟨_, List.getElem?_eq_getElem hlt⟩
        have hcm := List.mem_of_getElem? hc
        have hce := HX.out.1.small HB.out.1 c hcm
        have hcI := hin.2 c hcm
        obtain ⟨b, off, ha, hcell⟩ := hin.1.chg hc
        have c0 : wr.cell? ⟨b, off + k * 5, none⟩ = some (.int .i64 c.actor) := hcell 0 _ rfl
        have c1 : wr.cell? ⟨b, off + k * 5 + 1, none⟩ = some (.int .i64 c.seq) := hcell 1 _ rfl
        have c2 : wr.cell? ⟨b, off + k * 5 + 2, none⟩ = some (.int .i64 c.start) := hcell 2 _ rfl
        have c3 : wr.cell? ⟨b, off + k * 5 + 3, none⟩ = some (.slice c.dA c.deps.length c.dc) := hcell 3 _ rfl
        have c4 : wr.cell? ⟨b, off + k * 5 + 4, none⟩ = some (.slice c.oA c.ops.length c.oc) := hcell 4 _ rfl
        obtain ⟨W5, hW5⟩ : ∃ W5, W5 = wr.alloc (.cells #[.int .i64 c.actor, .int .i64 c.seq, .int .i64 c.start, .slice c.dA c.deps.length c.dc, .slice c.oA c.ops.length c.oc] 65) := ⟨_, rfl⟩
        have hb5 : Below wr.heap.size wr W5 := by rw [hW5]; exact (Below.refl _ _).alloc (Nat.le_refl _) _
        have hB5 : Blk W5 wr.heap.size 65 #[.int .i64 c.actor, .int .i64 c.seq, .int .i64 c.start, .slice c.dA c.deps.length c.dc, .slice c.oA c.ops.length c.oc] := by rw [hW5]; exact Blk.new _ _ _
        have hD5 := hD.bnd.below hb5
        obtain ⟨bk', V', hdb, hTk, hHas⟩ := hD5.books
        have hdbl := hdb.lt
        have HCS := Lib.hid (show ∀ W, Below W5.heap.size W5 W → W.cell? ⟨db, 1, none⟩ = some (.pointer (some ⟨bk', 0, none⟩)) ∧ W.cell? ⟨wr.heap.size, 0, none⟩ = some (.int .i64 c.actor) ∧ W.cell? ⟨wr.heap.size, 1, none⟩ = some (.int .i64 c.seq) ∧ W.cell? ⟨wr.heap.size, 2, none⟩ = some (.int .i64 c.start) ∧ W.cell? ⟨wr.heap.size, 3, none⟩ = some (.slice c.dA c.deps.length c.dc) ∧ W.cell? ⟨wr.heap.size, 4, none⟩ = some (.slice c.oA c.ops.length c.oc) from fun W hW => by
          have q1 := hdb.below hW hdb.lt
          have q2 := hB5.below hW hB5.lt
          exact ⟨q1.cell 1, q2.cell 0, q2.cell 1, q2.cell 2, q2.cell 3, q2.cell 4⟩)
        have HAA := Lib.hid ha
        have H5 := Lib.hid (And.intro hb5 (And.intro hD5 (And.intro (hcI.below hb5) (And.intro (drop_ch hc) (And.intro hst (And.intro hn0 (And.intro hnk (And.intro ho (And.intro hce (And.intro hD hzr))))))))))
        have HHS := Lib.hid (show ∀ w1, Below W5.heap.size W5 w1 → Calls Tryz.prog 22 #[.pointer (some ⟨bk', 0, none⟩), .agg #[.int .i64 c.actor, .int .i64 c.seq]] w1 fun e w' => e = .returned (.bool (decide (c.ref ∈ L1.map Ch.ref))) ∧ Below w1.heap.size w1 w' from fun w1 hw1 => hHas w1 c.ref (chE_good hce).i2 hw1)
        have HTK := Lib.hid hTk
        have HDB := Lib.hid (And.intro hdb hB5)
        have hn120 : n ≤ 120 := by omega
        obtain ⟨s0, s1, s2, s3, s4, s5⟩ := HCS.out W5 (Below.refl _ _)
        clear hcm hcell hcI hce hb5 hB5 hD5 hst hD hin hc hdb hTk hHas hdbl ho hzr
        rw [ha]
        clear ha
        go_upto_region 7 with (fail)
        rw [← hW5]
        clear hW5 c0 c1 c2 c3 c4
        obtain ⟨zh, hzh⟩ : ∃ z, decide (c.ref ∈ L1.map Ch.ref) = z := ⟨_, rfl⟩
        have HZH := Lib.hid hzh
        clear hzh
        go_region_held3 (fun W => W.cell? ⟨db, 1, none⟩ = some (.pointer (some ⟨bk', 0, none⟩)) ∧ W.cell? ⟨wr.heap.size, 0, none⟩ = some (.int .i64 c.actor) ∧ W.cell? ⟨wr.heap.size, 1, none⟩ = some (.int .i64 c.seq) ∧ W.cell? ⟨wr.heap.size, 2, none⟩ = some (.int .i64 c.start) ∧ W.cell? ⟨wr.heap.size, 3, none⟩ = some (.slice c.dA c.deps.length c.dc) ∧ W.cell? ⟨wr.heap.size, 4, none⟩ = some (.slice c.oA c.ops.length c.oc))
          (first | (with_reducible exact HCS.out _ (Below.refl _ W5).drew) | (with_reducible exact HCS.out _ hb6) | (with_reducible exact HCS.out _ hb7) | go_keep) (first
          | (go_simp
             go_at_call 21
             (with_reducible refine (changeRef_any c _).mono ?_)
             (rintro e w6 ⟨rfl, hb6⟩)
             have hb6 : Below W5.heap.size W5 w6 := (Below.refl W5.heap.size W5).drew.trans hb6)
          | (go_simp
             go_at_call 22
             (with_reducible refine (HHS.out _ hb6).mono ?_)
             (rintro e w7 ⟨rfl, hb7⟩)
             rw [HZH.out]
             have hb7 : Below W5.heap.size W5 w7 := hb6.trans (hb7.mono hb6.size)))
        clear s0 s1 s2 s3 s4 s5
        have H7 := Lib.hid hb7
        clear hb6 hb7
        cases zh with
        | true =>
          go_wp2_with fail
          have hm : c.ch.ref ∈ L1.map Ch.ref := of_decide_eq_true HZH.out
          have hsk := MergeI.skip H5.out.2.2.2.2.2.2.2.2.2.1 H5.out.2.2.2.2.2.2.2.1 (H5.out.1.trans (H7.out.mono H5.out.1.size)) H5.out.2.2.2.2.2.1 H5.out.2.2.2.2.2.2.1 H5.out.2.2.2.2.1 H5.out.2.2.2.1 hm
          exact ⟨⟨k + 1, n, by push_cast; rfl, rfl, by omega, hsk⟩, by simp [intOf]; omega⟩
        | false =>
          have hb7 := H7.out.drew
          have HTT := Lib.hid (HTK.out w7.drew c hb7 (H5.out.2.2.1.below hb7))
          have HCT := Lib.hid (show ∀ W, Only (fun i => (((K i ∧ i < w.heap.size ∨ w1.heap.size ≤ i) ∧ i < wr.heap.size) ∧ i < W5.heap.size) ∧ i ≠ db) w7.drew W → (W.cell? ⟨db, 1, none⟩ = some (.pointer (some ⟨bk', 0, none⟩)) ∧ W.cell? ⟨wr.heap.size, 0, none⟩ = some (.int .i64 c.actor) ∧ W.cell? ⟨wr.heap.size, 1, none⟩ = some (.int .i64 c.seq) ∧ W.cell? ⟨wr.heap.size, 2, none⟩ = some (.int .i64 c.start) ∧ W.cell? ⟨wr.heap.size, 3, none⟩ = some (.slice c.dA c.deps.length c.dc) ∧ W.cell? ⟨wr.heap.size, 4, none⟩ = some (.slice c.oA c.ops.length c.oc)) from fun W hW => by
            have q1 := (HDB.out.1.below hb7 HDB.out.1.lt).only hW (fun e => e.2 rfl)
            have q2 := (HDB.out.2.below hb7 HDB.out.2.lt).only hW (fun e => by have := e.1.1.2; omega)
            exact ⟨q1.cell 1, q2.cell 0, q2.cell 1, q2.cell 2, q2.cell 3, q2.cell 4⟩)
          have HB7 := Lib.hid hb7
          obtain ⟨s0, s1, s2, s3, s4, s5⟩ := HCS.out w7 H7.out
          clear hb7
          go_upto_region 8 with (fail)
          go_region_held3 (fun W => W.cell? ⟨db, 1, none⟩ = some (.pointer (some ⟨bk', 0, none⟩)) ∧ W.cell? ⟨wr.heap.size, 0, none⟩ = some (.int .i64 c.actor) ∧ W.cell? ⟨wr.heap.size, 1, none⟩ = some (.int .i64 c.seq) ∧ W.cell? ⟨wr.heap.size, 2, none⟩ = some (.int .i64 c.start) ∧ W.cell? ⟨wr.heap.size, 3, none⟩ = some (.slice c.dA c.deps.length c.dc) ∧ W.cell? ⟨wr.heap.size, 4, none⟩ = some (.slice c.oA c.ops.length c.oc))
            (first | (with_reducible exact HCT.out _ (Only.refl _ _)) | (with_reducible exact HCT.out _ ho8) | go_keep) (first
            | (go_simp
               go_at_call 20
               (with_reducible refine HTT.out.mono ?_)
               (rintro e w8 ⟨nE, L2, W2, rfl, hT8, hD8, ho8⟩)))
          clear s0 s1 s2 s3 s4 s5
          have H8 := Lib.hid (And.intro hT8 (And.intro hD8 ho8))
          clear hT8 hD8 ho8
          have hnm : c.ch.ref ∉ L1.map Ch.ref := of_decide_eq_false HZH.out
          have HNM := Lib.hid hnm
          clear hnm
          by_cases hE0 : nE = 0
          · subst hE0
            rw [errC_zero]
            have hw1 : IntKind.i64.wrap (n + 1) = n + 1 := by have := H5.out.2.2.2.2.2.1; rw [IntKind.wrap_i64]; omega
            go_wp2_with fail
            obtain ⟨m1, m2⟩ := merge_take (D := { D with L := L2, W := W2 }) HB.out.2.1.size H5.out.2.2.2.2.2.2.2.1 (H5.out.1.trans (HB7.out.mono H5.out.1.size)) H8.out.2.1 H8.out.2.2
            have hsk := MergeI.step m1 m2 H5.out.2.2.2.2.2.1 H5.out.2.2.2.2.2.2.1 H5.out.2.2.2.2.1 H5.out.2.2.2.1 HNM.out H8.out.1
            exact ⟨⟨k + 1, n + 1, by push_cast; rfl, rfl, by omega, hsk⟩, by simp [intOf]; omega⟩
          · have hEn : errC nE = .iface 59 (.int .i64 nE) := errC_ne hE0
            have HE := Lib.hid (And.intro hE0 hEn)
            rw [hEn]
            clear hE0 hEn
            go_wp2_with fail
            go_ret2
            obtain ⟨m1, m2⟩ := merge_take (D := { D with L := L2, W := W2 }) HB.out.2.1.size H5.out.2.2.2.2.2.2.2.1 (H5.out.1.trans (HB7.out.mono H5.out.1.size)) H8.out.2.1 H8.out.2.2
            obtain ⟨m3, m4⟩ := merge_out HB.out.2.1 m1 m2
            refine ⟨0, nE, L2, W2, ?_, by rw [HE.out.2]; rfl, m3, m4⟩
            rw [if_pos HP0.out, ← HAL.out]
            refine H5.out.2.2.2.2.1 _ _ _ _ ?_
            rw [H5.out.2.2.2.1]
            exact .fail HNM.out H8.out.1 HE.out.1
      · obtain rfl : k = al.length := by omega
        have HF := Lib.hid (And.intro hD (And.intro ho hst))
        clear hD ho hst hin hn0 hnk hz1 hzr
        go_wp2_with fail
        go_ret2
        obtain ⟨m3, m4⟩ := merge_out HB.out.2.1 HF.out.1 HF.out.2.1
        refine ⟨n, 0, L1, W1, ?_, rfl, m3, m4⟩
        rw [if_pos HP0.out, ← HAL.out]
        refine HF.out.2.2 _ _ _ _ ?_
        rw [List.drop_eq_nil_of_le (by rw [List.length_map]; exact Nat.le_refl _)]
        exact .done
  · have hD0 : ¬ D.pend = [] := fun e => h0 (HPE.out.1 e)
    have HP0 := Lib.hid hD0
    have hpos : (0 : Int) < (ps.length : Int) := by omega
    clear h0 hD0
    go_enter Tryz.func7, Tryz.ntmps7
    go_wp2_with fail
    go_ret2
    refine ⟨0, 7, D.L, D.W, by rw [if_neg HP0.out]; exact ⟨rfl, rfl, rfl, rfl⟩, rfl, ?_, Only.refl _ _⟩
    exact HDA.out.mono (fun i _ k => .inl k)
end Go.Proofs.YteknflimfdkhoaaGreat
namespace Go.Proofs.YteknflimfdkhoaaGreat
open Go.RowKit Go.Maps Go.Sort
set_option linter.unusedVariables false
set_option linter.unusedSimpArgs false

theorem below_dF {B : Nat} {w w' : World} (h : Below B w w') (n : Nat) : Below B w (w'.drewN n) := ⟨h.os, h.tape, h.output, h.size, h.block⟩
theorem fork1_any (ab : Nat) (actor : Int) (c : PCh) (w : World) (hab : Blk w ab 3 #[.int .i64 actor]) :
    Calls Tryz.prog 32 #[.agg #[.int .i64 c.actor, .int .i64 c.seq, .int .i64 c.start, .slice c.dA c.deps.length c.dc, .slice c.oA c.ops.length c.oc], .pointer (some ⟨ab, 0, none⟩)] w fun e w' => e = .returned (.bool (c.actor == actor)) ∧ Below w.heap.size w w' := by
  obtain ⟨W0, hW0⟩ : ∃ W0, W0 = w.alloc (.cells #[.int .i64 c.actor, .int .i64 c.seq, .int .i64 c.start, .slice c.dA c.deps.length c.dc, .slice c.oA c.ops.length c.oc] 65) := ⟨_, rfl⟩
  have hb0 : Below w.heap.size w W0 := by rw [hW0]; exact (Below.refl _ _).alloc (Nat.le_refl _) _
  have hB0 : Blk W0 w.heap.size 65 #[.int .i64 c.actor, .int .i64 c.seq, .int .i64 c.start, .slice c.dA c.deps.length c.dc, .slice c.oA c.ops.length c.oc] := by rw [hW0]; exact Blk.new _ _ _
  have p0 : W0.cell? ⟨w.heap.size, 0, none⟩ = some (.int .i64 c.actor) := hB0.cell 0
  have p1 : W0.cell? ⟨ab, 0, none⟩ = some (.int .i64 actor) := (hab.below hb0 hab.lt).cell 0
  have HB := Lib.hid (And.intro hb0 hW0)
  clear hb0 hW0 hB0 hab
  go_enter Tryz.func32, Tryz.ntmps32
  go_upto_region 1 with (fail)
  rw [← HB.out.2]
  go_wp2_with fail
  go_ret
  exact ⟨rfl, HB.out.1⟩
def idxC (p : PCh → Bool) (l : List PCh) (i : Int) : Prop := decide (0 ≤ i) = l.any p
set_option maxRecDepth 100000 in
set_option maxHeartbeats 2000000 in
theorem idx_fork (ab : Nat) (actor : Int) (l : List PCh) (A : Option Addr) (cp : Nat) (w : World) (hl : l.length ≤ 120) (hA : SlAt w A (chsCells l)) (hab : Blk w ab 3 #[.int .i64 actor]) :
    Calls Tryz.prog 59 #[.slice A l.length cp, (.func (.func 32) #[] #[.pointer (some ⟨ab, 0, none⟩)])] w fun e w' => ∃ i, e = .returned (.int .i64 i) ∧ idxC (fun c => c.actor == actor) l i ∧ Below w.heap.size w w' := by
  have hml : l.length ≤ 9223372036854775807 := by omega
  have HH := Lib.hid (And.intro hA hab)
  clear hA hab
  go_enter Tryz.func59, Tryz.ntmps59
  go_wp2_with fail
  go_loopw [8, 5] (fun iv _ wr => ∃ k : Nat, iv = .int .i64 k ∧ k ≤ l.length ∧ (∀ x ∈ l.take k, (x.actor == actor) = false) ∧ Below w.heap.size w wr) (fun iv _ _ => l.length - (intOf iv).toNat)
  case atStart => exact ⟨0, rfl, by omega, by simp, Below.refl _ _⟩
  case round =>
    obtain ⟨k, rfl, hk, ht, hb⟩ := hrel
    by_cases hlt : k < l.length
    · obtain ⟨c, hc⟩ : ∃ c, l[k]? = some c := ⟨_, List.getElem?_eq_getElem hlt⟩
      obtain ⟨b, off, rfl, hcell⟩ := (HH.out.1.below hb).chg hc
      have c0 : wr.cell? ⟨b, off + k * 5, none⟩ = some (.int .i64 c.actor) := hcell 0 _ rfl
      have c1 : wr.cell? ⟨b, off + k * 5 + 1, none⟩ = some (.int .i64 c.seq) := hcell 1 _ rfl
      have c2 : wr.cell? ⟨b, off + k * 5 + 2, none⟩ = some (.int .i64 c.start) := hcell 2 _ rfl
      have c3 : wr.cell? ⟨b, off + k * 5 + 3, none⟩ = some (.slice c.dA c.deps.length c.dc) := hcell 3 _ rfl
      have c4 : wr.cell? ⟨b, off + k * 5 + 4, none⟩ = some (.slice c.oA c.ops.length c.oc) := hcell 4 _ rfl
      have HC := Lib.hid (fork1_any ab actor c wr (HH.out.2.below hb HH.out.2.lt))
      have HT := Lib.hid (And.intro ht (And.intro hc hb))
      clear ht hc hb hcell
      cases hp : (c.actor == actor) with
      | true =>
        rw [hp] at HC
        have HP := Lib.hid hp
        clear hp
        go_wp2_with (go_at_call 32; (with_reducible refine HC.out.mono ?_); rintro e w2 ⟨rfl, hb2⟩)
        go_ret
        refine ⟨k, rfl, ?_, HT.out.2.2.trans (hb2.mono HT.out.2.2.size)⟩
        unfold idxC
        rw [List.any_eq_true.2 ⟨c, List.mem_of_getElem? HT.out.2.1, HP.out⟩]
        exact decide_eq_true (by omega)
      | false =>
        rw [hp] at HC
        have HP := Lib.hid hp
        clear hp
        go_wp2_with (go_at_call 32; (with_reducible refine HC.out.mono ?_); rintro e w2 ⟨rfl, hb2⟩)
        refine ⟨⟨k + 1, by push_cast; rfl, by omega, ?_, HT.out.2.2.trans (hb2.mono HT.out.2.2.size)⟩, by simp [intOf]; omega⟩
        intro x hx
        rw [List.take_add_one, HT.out.2.1] at hx
        rcases List.mem_append.1 hx with hx | hx
        · exact HT.out.1 x hx
        · simp at hx; rw [hx]; exact HP.out
    · obtain rfl : k = l.length := by omega
      have HT := Lib.hid (And.intro ht hb)
      clear ht hb
      go_wp2_with fail
      go_ret
      refine ⟨-1, rfl, ?_, HT.out.2⟩
      unfold idxC
      have h := HT.out.1
      rw [List.take_length] at h
      rw [List.any_eq_false.2 (fun x hx => by rw [h x hx]; decide)]
      rfl
set_option maxRecDepth 100000 in
set_option maxHeartbeats 2000000 in
theorem contains_fork (ab : Nat) (actor : Int) (l : List PCh) (A : Option Addr) (cp : Nat) (w : World) (hl : l.length ≤ 120) (hA : SlAt w A (chsCells l)) (hab : Blk w ab 3 #[.int .i64 actor]) :
    Calls Tryz.prog 31 #[.slice A l.length cp, (.func (.func 32) #[] #[.pointer (some ⟨ab, 0, none⟩)])] w fun e w' => e = .returned (.bool (l.any fun c => c.actor == actor)) ∧ Below w.heap.size w w' := by
  have HI := Lib.hid (idx_fork ab actor l A cp w hl hA hab)
  clear hA hab
  go_enter Tryz.func31, Tryz.ntmps31
  go_wp2_with (go_at_call 59; (with_reducible refine HI.out.mono ?_); (rintro e w2 ⟨i, rfl, hi, hb2⟩); (have HX := Lib.hid (And.intro hi hb2)); clear hi hb2)
  go_ret
  refine ⟨?_, HX.out.2⟩
  have h := HX.out.1
  unfold idxC at h
  rw [← h]
  rfl
/-- A book takes some changes, one after the other, till one is refused. -/
inductive TakeAll : List Ch → List Ch → List Ch → Int → List Ch → List Ch → Prop
  | done {L W : List Ch} : TakeAll L W [] 0 L W
  | fail {L W L1 W1 l : List Ch} {c : Ch} {e : Int} : Takes L W c e L1 W1 → e ≠ 0 → TakeAll L W (c :: l) e L1 W1
  | step {L W L1 W1 L' W' l : List Ch} {c : Ch} {e : Int} : Takes L W c 0 L1 W1 → TakeAll L1 W1 l e L' W' → TakeAll L W (c :: l) e L' W'
/-- What Fork answers. -/
def ForkQ (w : World) (D : DocV) (actor : Int) (e : Ending) (w' : World) : Prop :=
  Below w.heap.size w w' ∧ if actor = D.actor ∨ (D.all.any fun c => c.actor == actor) = true then e = .returned (.tuple #[.pointer none, errC 8])
    else ∃ n L' W', TakeAll [] [] D.all n L' W' ∧ if n ≠ 0 then e = .returned (.tuple #[.pointer none, errC n])
      else ∃ ob : Nat, e = .returned (.tuple #[.pointer (some ⟨ob, 0, none⟩), .nilIface]) ∧ DocA w' (fun i => w.heap.size ≤ i) ob ⟨actor, L', W', []⟩
end Go.Proofs.YteknflimfdkhoaaGreat
