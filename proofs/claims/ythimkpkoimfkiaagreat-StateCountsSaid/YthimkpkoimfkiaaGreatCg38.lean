/- doc.Doc.Fork: the walk. doc.Doc.Get: a contract. -/
import Derived.Test.YthimkpkoimfkiaaGreatCg37
import Derived.Test.YthimkpkoimfkiaaGreatCg30
import Derived.Test.YthimkpkoimfkiaaGreatCg27
import Derived.Test.YthimkpkoimfkiaaGreatCg31
namespace Go.Proofs.YthimkpkoimfkiaaGreat
open Go.RowKit Go.Maps Go.Sort
set_option linter.unusedVariables false
set_option linter.unusedSimpArgs false

/-- What holds at each round. -/
def ForkI (w1 w2 : World) (z : Nat) (ob : Nat) (actor : Int) (all : List Ch) (k : Nat) (W : World) : Prop :=
  ∃ (L1 W1 : List Ch), DocA W (fun i => (z ≤ i ∧ i < w1.heap.size) ∨ w2.heap.size ≤ i) ob ⟨actor, L1, W1, []⟩ ∧ Only (fun i => (z ≤ i ∧ i < w1.heap.size) ∨ w2.heap.size ≤ i) w2 W ∧ (∀ e L' W', TakeAll L1 W1 (all.drop k) e L' W' → TakeAll [] [] all e L' W')
set_option maxRecDepth 100000 in
set_option maxHeartbeats 4000000 in
theorem docFork_any (K : Nat → Prop) (db : Nat) (D : DocV) (actor : Int) (w : World) (H : DocA w K db D) (ha1 : 1 ≤ actor) (ha2 : actor ≤ 99) :
    Calls Tryz.prog 14 #[.pointer (some ⟨db, 0, none⟩), .int .i64 actor] w (ForkQ w D actor) := by
  have HDA := Lib.hid H
  obtain ⟨F, bk, h, wt, bh, Dh, Dw, Db, L, Wl, A, cp, ps, H, e1, e2, e3, e4⟩ := H
  obtain ⟨W0, hW0⟩ : ∃ W0, W0 = w.alloc (.cells #[.int .i64 actor] 3) := ⟨_, rfl⟩
  have hb0 : Below w.heap.size w W0 := by rw [hW0]; exact (Below.refl _ _).alloc (Nat.le_refl _) _
  have hA0 : Blk W0 w.heap.size 3 #[.int .i64 actor] := by rw [hW0]; exact Blk.new _ _ _
  have a0 : W0.cell? ⟨w.heap.size, 0, none⟩ = some (.int .i64 actor) := hA0.cell 0
  have HNW := Lib.hid (docNew_any actor W0 ha1 ha2)
  have HH := Lib.hid (And.intro H (And.intro e1 (And.intro hb0 hA0)))
  have HW0 := Lib.hid hW0
  clear H e1 e2 e3 e4 hb0 hA0 hW0 ha1 ha2
  go_enter Tryz.func14, Tryz.ntmps14
  go_upto_region 1 with (fail)
  rw [← HW0.out]
  go_upto_region 4 with (go_at_call 12; (with_reducible refine HNW.out.mono ?_); (rintro e w1 ⟨ob, rfl, hO1, hb1⟩); (have H1 := Lib.hid (And.intro hO1 (And.intro hb1 (And.intro (HH.out.2.2.1.trans (hb1.mono HH.out.2.2.1.size)) (HH.out.2.2.2.below hb1 HH.out.2.2.2.lt))))); clear hO1 hb1)
  clear a0
  have hd1 : Blk w1 db 59 #[.int .i64 D.actor, .pointer (some ⟨bk, 0, none⟩), .slice A ps.length cp] := HH.out.1.blk.below H1.out.2.2.1 HH.out.1.blk.lt
  have d1 : w1.cell? ⟨db, 1, none⟩ = some (.pointer (some ⟨bk, 0, none⟩)) := hd1.cell 1
  have HA := Lib.hid (all_is bk h wt bh Dh Dw Db L w1 (HH.out.1.dag.toDag.below H1.out.2.2.1))
  have HD1 := Lib.hid hd1
  clear hd1
  go_upto_region 5 with (go_at_call 18; (with_reducible refine HA.out.mono ?_); (rintro e w2 ⟨al, B, cB, rfl, hao, hb2, hal, hin⟩); (have HB := Lib.hid (And.intro hao (And.intro hb2 (And.intro hal hin)))); (clear hao hb2 hin))
  clear d1
  have HAL := Lib.hid (show al.map PCh.ch = D.all from by rw [HB.out.1.eq HH.out.1.dag.ndp, ← HH.out.2.1]; rfl)
  have hA2 : Blk w2 w.heap.size 3 #[.int .i64 actor] := H1.out.2.2.2.below HB.out.2.1 H1.out.2.2.2.lt
  have hd2 := HD1.out.below HB.out.2.1 HD1.out.lt
  have HCS := Lib.hid (show ∀ W, Below w2.heap.size w2 W → W.cell? ⟨db, 0, none⟩ = some (.int .i64 D.actor) ∧ W.cell? ⟨w.heap.size, 0, none⟩ = some (.int .i64 actor) from fun W hW => ⟨(hd2.below hW hd2.lt).cell 0, (hA2.below hW hA2.lt).cell 0⟩)
  have HA2 := Lib.hid hA2
  have HBW := Lib.hid (show Below w.heap.size w w2 from H1.out.2.2.1.trans (HB.out.2.1.mono H1.out.2.2.1.size))
  have hin2 := HB.out.2.2.2 w2 (fun _ _ _ => rfl)
  have HIN2 := Lib.hid hin2
  obtain ⟨s0, s1⟩ := HCS.out w2 (Below.refl _ _)
  clear hA2 hd2 hin2
  by_cases hac : actor = D.actor
  · have hacb : (actor == D.actor) = true := by simpa using hac
    have HAC := Lib.hid hac
    clear hac
    go_quiet (fail)
    all_goals
      go_wp2_with fail
      go_ret2
      refine ⟨below_dF HBW.out _, ?_⟩
      rw [if_pos (.inl HAC.out)]
      rfl
  · have hacb : (actor == D.actor) = false := by simpa using hac
    have HAC := Lib.hid hac
    clear hac
    obtain ⟨zc, hzc⟩ : ∃ z, (al.any fun c => c.actor == actor) = z := ⟨_, rfl⟩
    have HZC := Lib.hid hzc
    have HZD := Lib.hid (show (D.all.any fun c => c.actor == actor) = zc from by rw [← HAL.out, List.any_map, ← hzc]; rfl)
    clear hzc
    have HCO := Lib.hid (contains_fork w.heap.size actor al B cB w2.drew HB.out.2.2.1 HIN2.out.1.drew HA2.out)
    go_region_held3 (fun W => W.cell? ⟨db, 0, none⟩ = some (.int .i64 D.actor) ∧ W.cell? ⟨w.heap.size, 0, none⟩ = some (.int .i64 actor))
      (first | (with_reducible exact HCS.out _ (Below.refl _ w2).drew) | (with_reducible exact HCS.out _ hb3) | go_keep) (first
      | (go_simp
         go_at_call 29
         (with_reducible refine HCO.out.mono ?_)
         (rintro e w3 ⟨rfl, hb3⟩)
         have hb3 : Below w2.heap.size w2 w3 := (Below.refl w2.heap.size w2).drew.trans hb3
         rw [HZC.out]))
    clear s0 s1
    have HB3 := Lib.hid hb3
    clear hb3
    cases zc with
    | true =>
      go_wp2_with fail
      go_ret2
      refine ⟨HBW.out.trans (HB3.out.mono HBW.out.size), ?_⟩
      rw [if_pos (.inr HZD.out)]
      rfl
    | false =>
      go_wp2_with fail
      have hI0 : ForkI w1 w2 W0.heap.size ob actor (al.map PCh.ch) 0 w3 := ⟨[], [], ((H1.out.1.bnd.below HB.out.2.1).below HB3.out).mono (fun i _ k => .inl k), Only.of_below HB3.out, fun e L' W' hm => by simpa using hm⟩
      have HI := Lib.hid hI0
      clear hI0
      have HZZ := Lib.hid (show (w.heap.size ≤ W0.heap.size ∧ W0.heap.size ≤ w1.heap.size ∧ w1.heap.size ≤ w2.heap.size) from ⟨HH.out.2.2.1.size, H1.out.2.1.size, HB.out.2.1.size⟩)
      have HOUT := Lib.hid (show ∀ (W : World) (L1 W1 : List Ch), DocA W (fun i => (W0.heap.size ≤ i ∧ i < w1.heap.size) ∨ w2.heap.size ≤ i) ob ⟨actor, L1, W1, []⟩ → Only (fun i => (W0.heap.size ≤ i ∧ i < w1.heap.size) ∨ w2.heap.size ≤ i) w2 W → DocA W (fun i => w.heap.size ≤ i) ob ⟨actor, L1, W1, []⟩ ∧ Below w.heap.size w W from fun W L1 W1 hD ho => by
        obtain ⟨z1, z2, z3⟩ := HZZ.out
        refine ⟨hD.mono (fun i _ e => ?_), HBW.out.trans (ho.below HBW.out.size (fun k hk e => ?_))⟩
        · rcases e with e | e <;> omega
        · rcases e with e | e <;> omega)
      go_loopw [39, 10, 11] (fun iv _ _ wr => ∃ k : Nat, iv = .int .i64 k ∧ k ≤ al.length ∧ ForkI w1 w2 W0.heap.size ob actor (al.map PCh.ch) k wr) (fun iv _ _ _ => al.length - (intOf iv).toNat)
      case atStart => exact ⟨0, rfl, Nat.zero_le _, HI.out⟩
      case round =>
        obtain ⟨k, rfl, hk, L1, W1, hD, ho, hst⟩ := hrel
        have hzr := ho.size
        have hin := HB.out.2.2.2 wr (fun b h1 h2 => ho.block b h2 (fun e => by rcases e with e | e <;> omega))
        by_cases hlt : k < al.length
        · obtain ⟨c, hc⟩ : ∃ c, al[k]? = some c := ⟨_, List.getElem?_eq_getElem hlt⟩
          have hcm := List.mem_of_getElem? hc
          have hcI := hin.2 c hcm
          obtain ⟨b, off, ha, hcell⟩ := hin.1.chg hc
          have c0 : wr.cell? ⟨b, off + k * 5, none⟩ = some (.int .i64 c.actor) := hcell 0 _ rfl
          have c1 : wr.cell? ⟨b, off + k * 5 + 1, none⟩ = some (.int .i64 c.seq) := hcell 1 _ rfl
          have c2 : wr.cell? ⟨b, off + k * 5 + 2, none⟩ = some (.int .i64 c.start) := hcell 2 _ rfl
          have c3 : wr.cell? ⟨b, off + k * 5 + 3, none⟩ = some (.slice c.dA c.deps.length c.dc) := hcell 3 _ rfl
          have c4 : wr.cell? ⟨b, off + k * 5 + 4, none⟩ = some (.slice c.oA c.ops.length c.oc) := hcell 4 _ rfl
          obtain ⟨W5, hW5⟩ : ∃ W5, W5 = wr.alloc (.cells #[.int .i64 c.actor, .int .i64 c.seq, .int .i64 c.start, .slice c.dA c.deps.length c.dc, .slice c.oA c.ops.length c.oc] 67) := ⟨_, rfl⟩
          have hb5 : Below wr.heap.size wr W5 := by rw [hW5]; exact (Below.refl _ _).alloc (Nat.le_refl _) _
          have hB5 : Blk W5 wr.heap.size 67 #[.int .i64 c.actor, .int .i64 c.seq, .int .i64 c.start, .slice c.dA c.deps.length c.dc, .slice c.oA c.ops.length c.oc] := by rw [hW5]; exact Blk.new _ _ _
          have hD5 := hD.bnd.below hb5
          obtain ⟨bk', V', hdb, hTk, hHas⟩ := hD5.books
          have hdbl := hdb.lt
          have HAA := Lib.hid ha
          have hb7 : Below W5.heap.size W5 W5.drew := (Below.refl _ _).drew
          have HTT := Lib.hid (hTk W5.drew c hb7 ((hcI.below hb5).below hb7))
          have HCT := Lib.hid (show ∀ W, Only (fun i => (((W0.heap.size ≤ i ∧ i < w1.heap.size ∨ w2.heap.size ≤ i) ∧ i < wr.heap.size) ∧ i < W5.heap.size) ∧ i ≠ ob) W5.drew W → (W.cell? ⟨ob, 1, none⟩ = some (.pointer (some ⟨bk', 0, none⟩)) ∧ W.cell? ⟨wr.heap.size, 0, none⟩ = some (.int .i64 c.actor) ∧ W.cell? ⟨wr.heap.size, 1, none⟩ = some (.int .i64 c.seq) ∧ W.cell? ⟨wr.heap.size, 2, none⟩ = some (.int .i64 c.start) ∧ W.cell? ⟨wr.heap.size, 3, none⟩ = some (.slice c.dA c.deps.length c.dc) ∧ W.cell? ⟨wr.heap.size, 4, none⟩ = some (.slice c.oA c.ops.length c.oc)) from fun W hW => by
            have q1 := (show Blk W5.drew _ _ _ from hdb).only hW (fun e => e.2 rfl)
            have q2 := (show Blk W5.drew _ _ _ from hB5).only hW (fun e => by have := e.1.1.2; omega)
            exact ⟨q1.cell 1, q2.cell 0, q2.cell 1, q2.cell 2, q2.cell 3, q2.cell 4⟩)
          have s0 : W5.cell? ⟨ob, 1, none⟩ = some (.pointer (some ⟨bk', 0, none⟩)) := hdb.cell 1
          have s1 : W5.cell? ⟨wr.heap.size, 0, none⟩ = some (.int .i64 c.actor) := hB5.cell 0
          have s2 : W5.cell? ⟨wr.heap.size, 1, none⟩ = some (.int .i64 c.seq) := hB5.cell 1
          have s3 : W5.cell? ⟨wr.heap.size, 2, none⟩ = some (.int .i64 c.start) := hB5.cell 2
          have s4 : W5.cell? ⟨wr.heap.size, 3, none⟩ = some (.slice c.dA c.deps.length c.dc) := hB5.cell 3
          have s5 : W5.cell? ⟨wr.heap.size, 4, none⟩ = some (.slice c.oA c.ops.length c.oc) := hB5.cell 4
          have H5 := Lib.hid (And.intro hb5 (And.intro (drop_ch hc) (And.intro hst ho)))
          clear hcm hcell hcI hb5 hB5 hD5 hst hD hin hc hdb hTk hHas hdbl ho hzr hb7
          rw [ha]
          clear ha
          go_upto_region 10 with (fail)
          rw [← hW5]
          clear hW5 c0 c1 c2 c3 c4
          go_region_held3 (fun W => W.cell? ⟨ob, 1, none⟩ = some (.pointer (some ⟨bk', 0, none⟩)) ∧ W.cell? ⟨wr.heap.size, 0, none⟩ = some (.int .i64 c.actor) ∧ W.cell? ⟨wr.heap.size, 1, none⟩ = some (.int .i64 c.seq) ∧ W.cell? ⟨wr.heap.size, 2, none⟩ = some (.int .i64 c.start) ∧ W.cell? ⟨wr.heap.size, 3, none⟩ = some (.slice c.dA c.deps.length c.dc) ∧ W.cell? ⟨wr.heap.size, 4, none⟩ = some (.slice c.oA c.ops.length c.oc))
            (first | (with_reducible exact HCT.out _ (Only.refl _ _)) | (with_reducible exact HCT.out _ ho8) | go_keep) (first
            | (go_simp
               go_at_call 21
               (with_reducible refine HTT.out.mono ?_)
               (rintro e w8 ⟨nE, L2, W2, rfl, hT8, hD8, ho8⟩)))
          clear s0 s1 s2 s3 s4 s5
          have H8 := Lib.hid (And.intro hT8 (And.intro hD8 ho8))
          clear hT8 hD8 ho8
          have HMT := Lib.hid (merge_take (w := w1) (K := fun i => W0.heap.size ≤ i) (D := ⟨actor, L2, W2, []⟩) HZZ.out.2.2 H5.out.2.2.2 H5.out.1.drew H8.out.2.1 H8.out.2.2)
          by_cases hE0 : nE = 0
          · subst hE0
            rw [errC_zero]
            go_wp2_with fail
            refine ⟨⟨k + 1, by push_cast; rfl, by omega, L2, W2, HMT.out.1, HMT.out.2, fun e L' W' h => H5.out.2.2.1 _ _ _ ?_⟩, by simp [intOf]; omega⟩
            rw [H5.out.2.1]
            exact .step H8.out.1 h
          · have hEn : errC nE = .iface 61 (.int .i64 nE) := errC_ne hE0
            have HE := Lib.hid (And.intro hE0 hEn)
            rw [hEn]
            clear hE0 hEn
            go_wp2_with fail
            go_ret2
            refine ⟨(HOUT.out _ _ _ HMT.out.1 HMT.out.2).2, ?_⟩
            rw [if_neg (fun hq => by rcases hq with hq | hq; exact HAC.out hq; rw [HZD.out] at hq; cases hq)]
            refine ⟨nE, L2, W2, ?_, ?_⟩
            · rw [← HAL.out]
              refine H5.out.2.2.1 _ _ _ ?_
              rw [H5.out.2.1]
              exact .fail H8.out.1 HE.out.1
            · rw [if_pos HE.out.1, HE.out.2]
              rfl
        · obtain rfl : k = al.length := by omega
          have HF := Lib.hid (And.intro hD (And.intro ho hst))
          clear hD ho hst hin hzr
          go_wp2_with fail
          go_ret2
          obtain ⟨m3, m4⟩ := HOUT.out _ _ _ HF.out.1 HF.out.2.1
          refine ⟨m4, ?_⟩
          rw [if_neg (fun hq => by rcases hq with hq | hq; exact HAC.out hq; rw [HZD.out] at hq; cases hq)]
          refine ⟨0, L1, W1, ?_, ?_⟩
          · rw [← HAL.out]
            refine HF.out.2.2 _ _ _ ?_
            rw [List.drop_eq_nil_of_le (by rw [List.length_map]; exact Nat.le_refl _)]
            exact .done
          · rw [if_neg (by simp)]
            exact ⟨ob, rfl, m3⟩
end Go.Proofs.YthimkpkoimfkiaaGreat
namespace Go.Proofs.YthimkpkoimfkiaaGreat
open Go.RowKit Go.Maps Go.Sort
set_option linter.unusedVariables false
set_option linter.unusedSimpArgs false

theorem i2_zg : I2 (0, 0) := ⟨⟨by decide, by decide⟩, ⟨by decide, by decide⟩⟩
/-- What Get answers. -/
def GetQ (w : World) (D : DocV) (obj : Int × Int) (key : ByteArray) (e : Ending) (w' : World) : Prop :=
  Below w.heap.size w w' ∧ if keyedE D.state obj key ≠ 0 then e = .returned (.tuple #[.slice none 0 0, errC (keyedE D.state obj key)])
  else ∃ (ids : List (Int × Int)) (A : Option Addr) (c : Nat), IdsOf (D.state.mv (obj, key, (0, 0))) ids ∧ e = .returned (.tuple #[.slice A ids.length c, .nilIface]) ∧ SlAt w' A (valsCells (D.state.mv (obj, key, (0, 0))) ids)
set_option maxRecDepth 100000 in
set_option maxHeartbeats 4000000 in
theorem docGet_any (K : Nat → Prop) (db : Nat) (D : DocV) (obj : Int × Int) (key : ByteArray) (w : World) (H : DocA w K db D) (hni : D.noIns) (hob : I2 obj) (hks : key.size ≤ maxLen) :
    Calls Tryz.prog 9 #[.pointer (some ⟨db, 0, none⟩), .agg #[.int .i64 obj.1, .int .i64 obj.2], .string key] w (GetQ w D obj key) := by
  obtain ⟨W0, hW0⟩ : ∃ W0, W0 = w.alloc (.cells #[.int .i64 obj.1, .int .i64 obj.2] 24) := ⟨_, rfl⟩
  have hb0 : Below w.heap.size w W0 := by rw [hW0]; exact (Below.refl _ _).alloc (Nat.le_refl _) _
  have hI0 : Blk W0 w.heap.size 24 #[.int .i64 obj.1, .int .i64 obj.2] := by rw [hW0]; exact Blk.new _ _ _
  have HD0 := Lib.hid (And.intro (H.below hb0) (And.intro hni (And.intro hob hks)))
  have HB0 := Lib.hid (And.intro hb0 hI0)
  have HWK := Lib.hid (show whOk (obj, key, (0, 0)) from ⟨hob, hks, i2_zg⟩)
  have HW0 := Lib.hid hW0
  obtain ⟨kE, hkE⟩ : ∃ n, keyedE D.state obj key = n := ⟨_, rfl⟩
  have HKE := Lib.hid hkE
  clear H hni hob hks hb0 hI0 hW0 hkE
  go_enter Tryz.func9, Tryz.ntmps9
  go_upto_region 2 with (first
    | (go_at_call 24; rw [← HW0.out]; (with_reducible refine (docState_any _ db D W0 HD0.out.1 HD0.out.2.1).mono ?_); (rintro e w1 ⟨B, sb, kb, vb, ib, lb, N, rfl, hS, hN, hB1, hb1⟩); (have H1 := Lib.hid (And.intro hS (And.intro hN (And.intro hb1 (HB0.out.2.below hb1 HB0.out.2.lt))))); (clear hS hB1 hb1)))
  have o0 : w1.cell? ⟨w.heap.size, 0, none⟩ = some (.int .i64 obj.1) := H1.out.2.2.2.cell 0
  have o1 : w1.cell? ⟨w.heap.size, 1, none⟩ = some (.int .i64 obj.2) := H1.out.2.2.2.cell 1
  go_upto_region 3 with (first
    | (go_at_call 25; (with_reducible refine (keyed_any B sb kb vb ib lb N D.state obj key w1 H1.out.1 HD0.out.2.2.1 HD0.out.2.2.2).mono ?_); (rintro e w2 ⟨rfl, hb2⟩); rw [HKE.out]; (have H2 := Lib.hid (And.intro (H1.out.1.below hb2) (And.intro (HB0.out.1.trans ((H1.out.2.2.1.trans (hb2.mono H1.out.2.2.1.size)).mono HB0.out.1.size)) (H1.out.2.2.2.below hb2 H1.out.2.2.2.lt)))); (clear hb2)))
  clear o0 o1
  by_cases hk0 : kE = 0
  · subst hk0
    rw [errC_zero]
    have o0 : w2.cell? ⟨w.heap.size, 0, none⟩ = some (.int .i64 obj.1) := H2.out.2.2.cell 0
    have o1 : w2.cell? ⟨w.heap.size, 1, none⟩ = some (.int .i64 obj.2) := H2.out.2.2.cell 1
    have hfl : ∀ (W : World) (n1 n2 m1 m2 : Nat) (a1 a2 : Option Addr), (Instr.field 75 (.agg #[.int .i64 obj.1, .int .i64 obj.2, .string key, .int .i64 0, .int .i64 0, .slice a1 n1 m1, .slice a2 n2 m2]) 3).run Tryz.prog W = .ok (.slice a1 n1 m1) W := fun W n1 n2 m1 m2 a1 a2 => by kernel_rfl
    go_wp2_with (first
      | (go_at_call 26; (with_reducible refine (stKey_any B sb kb vb ib lb N D.state obj key w2 H2.out.1 HWK.out H1.out.2.1).mono ?_); (rintro e w3 ⟨ids, A1, A2, c1, c2, rfl, h2, h3, h4, h5, h6, h7⟩); (have HE := Lib.hid (And.intro h2 (And.intro h3 h6))); clear h2 h3 h4 h5 h6 h7))
    go_ret2
    refine ⟨H2.out.2.1.trans (HE.out.2.2.mono H2.out.2.1.size), ?_⟩
    rw [HKE.out, if_neg (by simp)]
    exact ⟨ids, A1, c1, HE.out.1, rfl, HE.out.2.1⟩
  · have hkn : errC kE = .iface 61 (.int .i64 kE) := errC_ne hk0
    have HE := Lib.hid (And.intro hk0 hkn)
    rw [hkn]
    clear hk0 hkn
    go_wp2_with fail
    go_ret2
    refine ⟨H2.out.2.1, ?_⟩
    rw [HKE.out, if_pos HE.out.1, HE.out.2]
    rfl
end Go.Proofs.YthimkpkoimfkiaaGreat
