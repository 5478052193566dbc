/- doc.Doc.Fork: the walk. Steps of a hand, reckoned: plain. -/
import Derived.Test.YteknflimfdkhoaaGreatDg38
import Derived.Test.YteknflimfdkhoaaGreatDg32
import Derived.Test.YteknflimfdkhoaaGreatDg37
namespace Go.Proofs.YteknflimfdkhoaaGreat
open Go.RowKit Go.Maps Go.Sort
set_option linter.unusedVariables false
set_option linter.unusedSimpArgs false

/-- What holds at each round. -/
def ForkI (w1 w2 : World) (z : Nat) (ob : Nat) (actor : Int) (all : List Ch) (k : Nat) (W : World) : Prop :=
  ∃ (L1 W1 : List Ch), DocA W (fun i => (z ≤ i ∧ i < w1.heap.size) ∨ w2.heap.size ≤ i) ob ⟨actor, L1, W1, []⟩ ∧ Only (fun i => (z ≤ i ∧ i < w1.heap.size) ∨ w2.heap.size ≤ i) w2 W ∧ (∀ e L' W', TakeAll L1 W1 (all.drop k) e L' W' → TakeAll [] [] all e L' W')
set_option maxRecDepth 100000 in
set_option maxHeartbeats 4000000 in
theorem docFork_any (K : Nat → Prop) (db : Nat) (D : DocV) (actor : Int) (w : World) (H : DocA w K db D) (ha1 : 1 ≤ actor) (ha2 : actor ≤ 99) :
    Calls Tryz.prog 13 #[.pointer (some ⟨db, 0, none⟩), .int .i64 actor] w (ForkQ w D actor) := by
  have HDA := Lib.hid H
  obtain ⟨F, bk, h, wt, bh, Dh, Dw, Db, L, Wl, A, cp, ps, H, e1, e2, e3, e4⟩ := H
  obtain ⟨W0, hW0⟩ : ∃ W0, W0 = w.alloc (.cells #[.int .i64 actor] 3) := ⟨_, rfl⟩
  have hb0 : Below w.heap.size w W0 := by rw [hW0]; exact (Below.refl _ _).alloc (Nat.le_refl _) _
  have hA0 : Blk W0 w.heap.size 3 #[.int .i64 actor] := by rw [hW0]; exact Blk.new _ _ _
  have a0 : W0.cell? ⟨w.heap.size, 0, none⟩ = some (.int .i64 actor) := hA0.cell 0
  have HNW := Lib.hid (docNew_any actor W0 ha1 ha2)
  have HH := Lib.hid (And.intro H (And.intro e1 (And.intro hb0 hA0)))
  have HW0 := Lib.hid hW0
  clear H e1 e2 e3 e4 hb0 hA0 hW0 ha1 ha2
  go_enter Tryz.func13, Tryz.ntmps13
  go_upto_region 1 with (fail)
  rw [← HW0.out]
  go_upto_region 4 with (go_at_call 10; (with_reducible refine HNW.out.mono ?_); (rintro e w1 ⟨ob, rfl, hO1, hb1⟩); (have H1 := Lib.hid (And.intro hO1 (And.intro hb1 (And.intro (HH.out.2.2.1.trans (hb1.mono HH.out.2.2.1.size)) (HH.out.2.2.2.below hb1 HH.out.2.2.2.lt))))); clear hO1 hb1)
  clear a0
  have hd1 : Blk w1 db 57 #[.int .i64 D.actor, .pointer (some ⟨bk, 0, none⟩), .slice A ps.length cp] := HH.out.1.blk.below H1.out.2.2.1 HH.out.1.blk.lt
  have d1 : w1.cell? ⟨db, 1, none⟩ = some (.pointer (some ⟨bk, 0, none⟩)) := hd1.cell 1
  have HA := Lib.hid (all_is bk h wt bh Dh Dw Db L w1 (HH.out.1.dag.toDag.below H1.out.2.2.1))
  have HD1 := Lib.hid hd1
  clear hd1
  go_upto_region 5 with (go_at_call 17; (with_reducible refine HA.out.mono ?_); (rintro e w2 ⟨al, B, cB, rfl, hao, hb2, hal, hin⟩); (have HB := Lib.hid (And.intro hao (And.intro hb2 (And.intro hal hin)))); (clear hao hb2 hin))
  clear d1
  have HAL := Lib.hid (show al.map PCh.ch = D.all from by rw [HB.out.1.eq HH.out.1.dag.ndp, ← HH.out.2.1]; rfl)
  have hA2 : Blk w2 w.heap.size 3 #[.int .i64 actor] := H1.out.2.2.2.below HB.out.2.1 H1.out.2.2.2.lt
  have hd2 := HD1.out.below HB.out.2.1 HD1.out.lt
  have HCS := Lib.hid (show ∀ W, Below w2.heap.size w2 W → W.cell? ⟨db, 0, none⟩ = some (.int .i64 D.actor) ∧ W.cell? ⟨w.heap.size, 0, none⟩ = some (.int .i64 actor) from fun W hW => ⟨(hd2.below hW hd2.lt).cell 0, (hA2.below hW hA2.lt).cell 0⟩)
  have HA2 := Lib.hid hA2
  have HBW := Lib.hid (show Below w.heap.size w w2 from H1.out.2.2.1.trans (HB.out.2.1.mono H1.out.2.2.1.size))
  have hin2 := HB.out.2.2.2 w2 (fun _ _ _ => rfl)
  have HIN2 := Lib.hid hin2
  obtain ⟨s0, s1⟩ := HCS.out w2 (Below.refl _ _)
  clear hA2 hd2 hin2
  by_cases hac : actor = D.actor
  · have hacb : (actor == D.actor) = true := by simpa using hac
    have HAC := Lib.hid hac
    clear hac
    go_quiet (fail)
    all_goals
      go_wp2_with fail
      go_ret2
      refine ⟨below_dF HBW.out _, ?_⟩
      rw [if_pos (.inl HAC.out)]
      rfl
  · have hacb : (actor == D.actor) = false := by simpa using hac
    have HAC := Lib.hid hac
    clear hac
    obtain ⟨zc, hzc⟩ : ∃ z, (al.any fun c => c.actor == actor) = z := ⟨_, rfl⟩
    have HZC := Lib.hid hzc
    have HZD := Lib.hid (show (D.all.any fun c => c.actor == actor) = zc from by rw [← HAL.out, List.any_map, ← hzc]; rfl)
    clear hzc
    have HCO := Lib.hid (contains_fork w.heap.size actor al B cB w2.drew HB.out.2.2.1 HIN2.out.1.drew HA2.out)
    go_region_held3 (fun W => W.cell? ⟨db, 0, none⟩ = some (.int .i64 D.actor) ∧ W.cell? ⟨w.heap.size, 0, none⟩ = some (.int .i64 actor))
      (first | (with_reducible exact HCS.out _ (Below.refl _ w2).drew) | (with_reducible exact HCS.out _ hb3) | go_keep) (first
      | (go_simp
         go_at_call 31
         (with_reducible refine HCO.out.mono ?_)
         (rintro e w3 ⟨rfl, hb3⟩)
         have hb3 : Below w2.heap.size w2 w3 := (Below.refl w2.heap.size w2).drew.trans hb3
         rw [HZC.out]))
    clear s0 s1
    have HB3 := Lib.hid hb3
    clear hb3
    cases zc with
    | true =>
      go_wp2_with fail
      go_ret2
      refine ⟨HBW.out.trans (HB3.out.mono HBW.out.size), ?_⟩
      rw [if_pos (.inr HZD.out)]
      rfl
    | false =>
      go_wp2_with fail
      have hI0 : ForkI w1 w2 W0.heap.size ob actor (al.map PCh.ch) 0 w3 := ⟨[], [], ((H1.out.1.bnd.below HB.out.2.1).below HB3.out).mono (fun i _ k => .inl k), Only.of_below HB3.out, fun e L' W' hm => by simpa using hm⟩
      have HI := Lib.hid hI0
      clear hI0
      have HZZ := Lib.hid (show (w.heap.size ≤ W0.heap.size ∧ W0.heap.size ≤ w1.heap.size ∧ w1.heap.size ≤ w2.heap.size) from ⟨HH.out.2.2.1.size, H1.out.2.1.size, HB.out.2.1.size⟩)
      have HOUT := Lib.hid (show ∀ (W : World) (L1 W1 : List Ch), DocA W (fun i => (W0.heap.size ≤ i ∧ i < w1.heap.size) ∨ w2.heap.size ≤ i) ob ⟨actor, L1, W1, []⟩ → Only (fun i => (W0.heap.size ≤ i ∧ i < w1.heap.size) ∨ w2.heap.size ≤ i) w2 W → DocA W (fun i => w.heap.size ≤ i) ob ⟨actor, L1, W1, []⟩ ∧ Below w.heap.size w W from fun W L1 W1 hD ho => by
        obtain ⟨z1, z2, z3⟩ := HZZ.out
        refine ⟨hD.mono (fun i _ e => ?_), HBW.out.trans (ho.below HBW.out.size (fun k hk e => ?_))⟩
        · rcases e with e | e <;> omega
        · rcases e with e | e <;> omega)
      go_loopw [39, 10, 11] (fun iv _ _ wr => ∃ k : Nat, iv = .int .i64 k ∧ k ≤ al.length ∧ ForkI w1 w2 W0.heap.size ob actor (al.map PCh.ch) k wr) (fun iv _ _ _ => al.length - (intOf iv).toNat)
      case atStart => exact ⟨0, rfl, Nat.zero_le _, HI.out⟩
      case round =>
        obtain ⟨k, rfl, hk, L1, W1, hD, ho, hst⟩ := hrel
        have hzr := ho.size
        have hin := HB.out.2.2.2 wr (fun b h1 h2 => ho.block b h2 (fun e => by rcases e with e | e <;> omega))
        by_cases hlt : k < al.length
        · obtain ⟨c, hc⟩ : ∃ c, al[k]? = some c := ⟨_, List.getElem?_eq_getElem hlt⟩
          have hcm := List.mem_of_getElem? hc
          have hcI := hin.2 c hcm
          obtain ⟨b, off, ha, hcell⟩ := hin.1.chg hc
          have c0 : wr.cell? ⟨b, off + k * 5, none⟩ = some (.int .i64 c.actor) := hcell 0 _ rfl
          have c1 : wr.cell? ⟨b, off + k * 5 + 1, none⟩ = some (.int .i64 c.seq) := hcell 1 _ rfl
          have c2 : wr.cell? ⟨b, off + k * 5 + 2, none⟩ = some (.int .i64 c.start) := hcell 2 _ rfl
          have c3 : wr.cell? ⟨b, off + k * 5 + 3, none⟩ = some (.slice c.dA c.deps.length c.dc) := hcell 3 _ rfl
          have c4 : wr.cell? ⟨b, off + k * 5 + 4, none⟩ = some (.slice c.oA c.ops.length c.oc) := hcell 4 _ rfl
          obtain ⟨W5, hW5⟩ : ∃ W5, W5 = wr.alloc (.cells #[.int .i64 c.actor, .int .i64 c.seq, .int .i64 c.start, .slice c.dA c.deps.length c.dc, .slice c.oA c.ops.length c.oc] 65) := ⟨_, rfl⟩
          have hb5 : Below wr.heap.size wr W5 := by rw [hW5]; exact (Below.refl _ _).alloc (Nat.le_refl _) _
          have hB5 : Blk W5 wr.heap.size 65 #[.int .i64 c.actor, .int .i64 c.seq, .int .i64 c.start, .slice c.dA c.deps.length c.dc, .slice c.oA c.ops.length c.oc] := by rw [hW5]; exact Blk.new _ _ _
          have hD5 := hD.bnd.below hb5
          obtain ⟨bk', V', hdb, hTk, hHas⟩ := hD5.books
          have hdbl := hdb.lt
          have HAA := Lib.hid ha
          have hb7 : Below W5.heap.size W5 W5.drew := (Below.refl _ _).drew
          have HTT := Lib.hid (hTk W5.drew c hb7 ((hcI.below hb5).below hb7))
          have HCT := Lib.hid (show ∀ W, Only (fun i => (((W0.heap.size ≤ i ∧ i < w1.heap.size ∨ w2.heap.size ≤ i) ∧ i < wr.heap.size) ∧ i < W5.heap.size) ∧ i ≠ ob) W5.drew W → (W.cell? ⟨ob, 1, none⟩ = some (.pointer (some ⟨bk', 0, none⟩)) ∧ W.cell? ⟨wr.heap.size, 0, none⟩ = some (.int .i64 c.actor) ∧ W.cell? ⟨wr.heap.size, 1, none⟩ = some (.int .i64 c.seq) ∧ W.cell? ⟨wr.heap.size, 2, none⟩ = some (.int .i64 c.start) ∧ W.cell? ⟨wr.heap.size, 3, none⟩ = some (.slice c.dA c.deps.length c.dc) ∧ W.cell? ⟨wr.heap.size, 4, none⟩ = some (.slice c.oA c.ops.length c.oc)) from fun W hW => by
            have q1 := (show Blk W5.drew _ _ _ from hdb).only hW (fun e => e.2 rfl)
            have q2 := (show Blk W5.drew _ _ _ from hB5).only hW (fun e => by have := e.1.1.2; omega)
            exact ⟨q1.cell 1, q2.cell 0, q2.cell 1, q2.cell 2, q2.cell 3, q2.cell 4⟩)
          have s0 : W5.cell? ⟨ob, 1, none⟩ = some (.pointer (some ⟨bk', 0, none⟩)) := hdb.cell 1
          have s1 : W5.cell? ⟨wr.heap.size, 0, none⟩ = some (.int .i64 c.actor) := hB5.cell 0
          have s2 : W5.cell? ⟨wr.heap.size, 1, none⟩ = some (.int .i64 c.seq) := hB5.cell 1
          have s3 : W5.cell? ⟨wr.heap.size, 2, none⟩ = some (.int .i64 c.start) := hB5.cell 2
          have s4 : W5.cell? ⟨wr.heap.size, 3, none⟩ = some (.slice c.dA c.deps.length c.dc) := hB5.cell 3
          have s5 : W5.cell? ⟨wr.heap.size, 4, none⟩ = some (.slice c.oA c.ops.length c.oc) := hB5.cell 4
          have H5 := Lib.hid (And.intro hb5 (And.intro (drop_ch hc) (And.intro hst ho)))
          clear hcm hcell hcI hb5 hB5 hD5 hst hD hin hc hdb hTk hHas hdbl ho hzr hb7
          rw [ha]
          clear ha
          go_upto_region 10 with (fail)
          rw [← hW5]
          clear hW5 c0 c1 c2 c3 c4
          go_region_held3 (fun W => W.cell? ⟨ob, 1, none⟩ = some (.pointer (some ⟨bk', 0, none⟩)) ∧ W.cell? ⟨wr.heap.size, 0, none⟩ = some (.int .i64 c.actor) ∧ W.cell? ⟨wr.heap.size, 1, none⟩ = some (.int .i64 c.seq) ∧ W.cell? ⟨wr.heap.size, 2, none⟩ = some (.int .i64 c.start) ∧ W.cell? ⟨wr.heap.size, 3, none⟩ = some (.slice c.dA c.deps.length c.dc) ∧ W.cell? ⟨wr.heap.size, 4, none⟩ = some (.slice c.oA c.ops.length c.oc))
            (first | (with_reducible exact HCT.out _ (Only.refl _ _)) | (with_reducible exact HCT.out _ ho8) | go_keep) (first
            | (go_simp
               go_at_call 20
               (with_reducible refine HTT.out.mono ?_)
               (rintro e w8 ⟨nE, L2, W2, rfl, hT8, hD8, ho8⟩)))
          clear s0 s1 s2 s3 s4 s5
          have H8 := Lib.hid (And.intro hT8 (And.intro hD8 ho8))
          clear hT8 hD8 ho8
          have HMT := Lib.hid (merge_take (w := w1) (K := fun i => W0.heap.size ≤ i) (D := ⟨actor, L2, W2, []⟩) HZZ.out.2.2 H5.out.2.2.2 H5.out.1.drew H8.out.2.1 H8.out.2.2)
          by_cases hE0 : nE = 0
          · subst hE0
            rw [errC_zero]
            go_wp2_with fail
            refine ⟨⟨k + 1, by push_cast; rfl, by omega, L2, W2, HMT.out.1, HMT.out.2, fun e L' W' h => H5.out.2.2.1 _ _ _ ?_⟩, by simp [intOf]; omega⟩
            rw [H5.out.2.1]
            exact .step H8.out.1 h
          · have hEn : errC nE = .iface 59 (.int .i64 nE) := errC_ne hE0
            have HE := Lib.hid (And.intro hE0 hEn)
            rw [hEn]
            clear hE0 hEn
            go_wp2_with fail
            go_ret2
            refine ⟨(HOUT.out _ _ _ HMT.out.1 HMT.out.2).2, ?_⟩
            rw [if_neg (fun hq => by rcases hq with hq | hq; exact HAC.out hq; rw [HZD.out] at hq; cases hq)]
            refine ⟨nE, L2, W2, ?_, ?_⟩
            · rw [← HAL.out]
              refine H5.out.2.2.1 _ _ _ ?_
              rw [H5.out.2.1]
              exact .fail H8.out.1 HE.out.1
            · rw [if_pos HE.out.1, HE.out.2]
              rfl
        · obtain rfl : k = al.length := by omega
          have HF := Lib.hid (And.intro hD (And.intro ho hst))
          clear hD ho hst hin hzr
          go_wp2_with fail
          go_ret2
          obtain ⟨m3, m4⟩ := HOUT.out _ _ _ HF.out.1 HF.out.2.1
          refine ⟨m4, ?_⟩
          rw [if_neg (fun hq => by rcases hq with hq | hq; exact HAC.out hq; rw [HZD.out] at hq; cases hq)]
          refine ⟨0, L1, W1, ?_, ?_⟩
          · rw [← HAL.out]
            refine HF.out.2.2 _ _ _ ?_
            rw [List.drop_eq_nil_of_le (by rw [List.length_map]; exact Nat.le_refl _)]
            exact .done
          · rw [if_neg (by simp)]
            exact ⟨ob, rfl, m3⟩
end Go.Proofs.YteknflimfdkhoaaGreat
namespace Go.Proofs.YteknflimfdkhoaaGreat
open Go.RowKit Go.Maps Go.Sort
set_option linter.unusedVariables false
set_option linter.unusedSimpArgs false

theorem sortR_is {a b : List (Int × Int)} (hp : a.Perm b) (hb : b.Pairwise (fun x y => (!(ltOf cmpId) y x) = true)) : sortR a = b := by
  refine List.Perm.eq_of_pairwise (le := fun x y => (!(ltOf cmpId) y x) = true) ?_ ?_ hb ((sortR_perm a).trans hp)
  · intro x y _ _ h1 h2
    exact tot_refs x y (by simpa using h2) (by simpa using h1)
  · exact sortR_sorted a
theorem sortC_id (l : List (Int × Int)) : sortC cmpId l = sortR l := rfl
/-- The changes in their order, when the refs' order is known. -/
theorem allV_is {L : List Ch} {rs : List (Int × Int)} (h : sortR (L.map Ch.ref) = rs) : allV L = (rowR L L.length rs []).filterMap (findR L) := by unfold allV; rw [h]
theorem headsR_is {L : List Ch} {rs : List (Int × Int)} (h : sortR (L.map Ch.ref) = rs) : headsR L = rs.filter fun r => !(L.any fun c => decide (r ∈ c.deps)) := by unfold headsR; rw [h]
/-- The ids of a place, when they are known. -/
theorem IdsOf.is {f : Vm} {ids l : List (Int × Int)} (h : IdsOf f ids) (hi : ∀ n ∈ l, I2 n) (hn : l.Nodup) (hm : ∀ n, (f n).isSome = true ↔ n ∈ l) (hs : l.Pairwise (fun a b => (!(ltOf cmpDown) b a) = true)) : ids = l := by
  have hp : ids.Perm l := (List.perm_ext_iff_of_nodup h.nd hn).2 (fun n => by
    constructor
    · intro k
      exact (hm n).1 ((h.mem n (h.i2 n k)).1 k)
    · intro k
      exact (h.mem n (hi n k)).2 ((hm n).2 k))
  refine List.Perm.eq_of_pairwise (le := fun x y => (!(ltOf cmpDown) y x) = true) ?_ h.srt hs hp
  intro x y _ _ h1 h2
  exact tot_down x y (by simpa using h2) (by simpa using h1)
theorem idsOf_none {ids : List (Int × Int)} (h : IdsOf (fun _ => none) ids) : ids = [] := h.is (fun n hn => (by cases hn)) List.nodup_nil (fun n => by simp) List.Pairwise.nil
theorem idsOf_one {ids : List (Int × Int)} {n : Int × Int} {v : JV} (h : IdsOf (upd (fun _ => none) n (some v)) ids) (hi : I2 n) : ids = [n] := h.is (fun m hm => by rw [List.mem_singleton] at hm; rw [hm]; exact hi) (by simp) (fun m => by
  unfold upd
  by_cases e : m = n
  · simp [e]
  · simp [e]) (by simp)
theorem idsOf_two {ids : List (Int × Int)} {n m : Int × Int} {v u : JV} (h : IdsOf (upd (upd (fun _ => none) n (some v)) m (some u)) ids) (hn : I2 n) (hm : I2 m) (hne : m ≠ n) (hs : ltOf cmpDown n m = false) : ids = [m, n] := h.is (fun k hk => by
    rcases List.mem_cons.1 hk with e | hk
    · rw [e]; exact hm
    · rw [List.mem_singleton] at hk; rw [hk]; exact hn) (by simp [hne]) (fun k => by
  unfold upd
  by_cases e : k = m
  · simp [e]
  · by_cases e2 : k = n
    · subst e2
      simp [e]
    · simp [e, e2]) (by simp [hs])
/-- A new change that fits is taken. -/
theorem takes_new {L L' W' : List Ch} {c : Ch} {e : Int} (h : Takes L [] c e L' W') (h1 : chE c = 0) (h2 : findR L c.ref = none) (h3 : L.length < 120) (h4 : readyL L c = true) (h5 : fitsB L c = true) : e = 0 ∧ L' = L ++ [c] ∧ W' = [] := by
  unfold Takes at h
  rw [if_pos h1, h2] at h
  have h : if 120 ≤ L.length + 0 then e = 4 ∧ L' = L ∧ W' = [] else if readyL L c = true then (if fitsB L c = true then e = 0 ∧ Settles (L ++ [c]) [] L' W' else e = 7 ∧ L' = L ∧ W' = []) else e = 0 ∧ L' = L ∧ W' = [] ++ [c] := h
  rw [if_neg (by omega), if_pos h4, if_pos h5] at h
  exact ⟨h.1, h.2.none.1, h.2.none.2⟩
theorem merge_nil {L W L' W' : List Ch} {n n' e : Int} (h : MergeR L W n [] n' e L' W') : n' = n ∧ e = 0 ∧ L' = L ∧ W' = W := by
  cases h
  exact ⟨rfl, rfl, rfl, rfl⟩
theorem merge_skip {L W L' W' l : List Ch} {c : Ch} {n n' e : Int} (h : MergeR L W n (c :: l) n' e L' W') (hc : c.ref ∈ L.map Ch.ref) : MergeR L W n l n' e L' W' := by
  cases h with
  | skip _ h => exact h
  | fail k _ _ => exact absurd hc k
  | step k _ _ => exact absurd hc k
theorem merge_new {L L' W' l : List Ch} {c : Ch} {n n' e : Int} (h : MergeR L [] n (c :: l) n' e L' W') (hc : c.ref ∉ L.map Ch.ref) (h1 : chE c = 0) (h3 : L.length < 120) (h4 : readyL L c = true) (h5 : fitsB L c = true) : MergeR (L ++ [c]) [] (n + 1) l n' e L' W' := by
  have h2 : findR L c.ref = none := by
    cases hf : findR L c.ref with
    | none => rfl
    | some x =>
      have := findR_some hf
      exact absurd (List.mem_map.2 ⟨x, this.1, this.2⟩) hc
  cases h with
  | skip k _ => exact absurd k hc
  | fail _ k he => exact absurd (takes_new k h1 h2 h3 h4 h5).1 he
  | step _ k hr =>
    obtain ⟨_, e1, e2⟩ := takes_new k h1 h2 h3 h4 h5
    subst e1 e2
    exact hr
theorem takeAll_nil {L W L' W' : List Ch} {e : Int} (h : TakeAll L W [] e L' W') : e = 0 ∧ L' = L ∧ W' = W := by
  cases h
  exact ⟨rfl, rfl, rfl⟩
theorem takeAll_new {L L' W' l : List Ch} {c : Ch} {e : Int} (h : TakeAll L [] (c :: l) e L' W') (h1 : chE c = 0) (h2 : findR L c.ref = none) (h3 : L.length < 120) (h4 : readyL L c = true) (h5 : fitsB L c = true) : TakeAll (L ++ [c]) [] l e L' W' := by
  cases h with
  | fail k he => exact absurd (takes_new k h1 h2 h3 h4 h5).1 he
  | step k hr =>
    obtain ⟨_, e1, e2⟩ := takes_new k h1 h2 h3 h4 h5
    subst e1 e2
    exact hr
/-- What onKey comes to, when all is known. -/
theorem onKeyR_is {D : DocV} {o : OpV} {r : Int × (Int × Int) × List OpV} {al : List Ch} {f : Vm} {l : List (Int × Int)} (h : OnKeyR D o 0 r) (hal : D.all = al) (hE : keyedE (doOps (doChs stNew al) D.actor (startV D.actor al).1 D.pend) o.obj o.key = 0)
    (hf : (doOps (doChs stNew al) D.actor (startV D.actor al).1 D.pend).mv (o.obj, o.key, (0, 0)) = f) (hl : ∀ ids, IdsOf f ids → ids = l) : r = addV D o f l := by
  have hs : D.state = doOps (doChs stNew al) D.actor (startV D.actor al).1 D.pend := by
    unfold DocV.state DocV.start
    rw [hal]
  unfold OnKeyR at h
  rw [hs, hE, if_neg (by simp), if_neg (by simp)] at h
  obtain ⟨ids, h1, h2⟩ := h
  rw [hf] at h1 h2
  rw [h2, hl ids h1]
/-- .. and its op is added. -/
theorem onKeyR_ok {D : DocV} {o : OpV} {r : Int × (Int × Int) × List OpV} {al : List Ch} {f : Vm} {l ps : List (Int × Int)} {s : Int} (h : OnKeyR D o 0 r) (hal : D.all = al) (hE : keyedE (doOps (doChs stNew al) D.actor (startV D.actor al).1 D.pend) o.obj o.key = 0)
    (hf : (doOps (doChs stNew al) D.actor (startV D.actor al).1 D.pend).mv (o.obj, o.key, (0, 0)) = f) (hl : ∀ ids, IdsOf f ids → ids = l) (hs : (startV D.actor al).1 = s) (hp : sortC cmpId (predsV o f l) = ps) (h3 : o.kind ≠ 3) (h4 : o.kind = 4 → predsV o f l ≠ [])
    (hc : D.pend.length < 40 ∧ l.length ≤ 12 ∧ s + D.pend.length ≤ 1000000 ∧ D.L.length + D.W.length < 120) : r = (0, (s + D.pend.length, D.actor), D.pend ++ [{ o with preds := ps }]) := by
  have hst : D.start.1 = s := by unfold DocV.start; rw [hal]; exact hs
  rw [onKeyR_is h hal hE hf hl, addV_ok ⟨fun e => absurd e h3, h4⟩ (by rw [hst]; omega), hst, hp]
/-- What Commit comes to, when all is known. -/
theorem commitR_ok {D D' : DocV} {n : Int} {r : Int × Int} {al : List Ch} {hs : List (Int × Int)} {s1 s2 : Int} (h : CommitR D n r D') (hal : D.all = al) (hs1 : startV D.actor al = (s1, s2)) (hh : headsR D.L = hs) (hp : D.pend ≠ []) (hW : D.W = []) (hn : hs.length ≤ 12) (hl : D.L.length < 120)
    (h1 : chE ⟨D.actor, s2, s1, hs, D.pend⟩ = 0) (h2 : findR D.L (D.actor, s2) = none) (h4 : readyL D.L ⟨D.actor, s2, s1, hs, D.pend⟩ = true) (h5 : fitsB D.L ⟨D.actor, s2, s1, hs, D.pend⟩ = true) : n = 0 ∧ D' = ⟨D.actor, D.L ++ [⟨D.actor, s2, s1, hs, D.pend⟩], [], []⟩ := by
  have hst : D.start = (s1, s2) := by unfold DocV.start; rw [hal]; exact hs1
  unfold CommitR at h
  rw [if_neg hp, hh, hW, if_neg (by simp; omega), hst] at h
  obtain ⟨L', W', hT, hr⟩ := h
  obtain ⟨e1, e2, e3⟩ := takes_new hT h1 h2 hl h4 h5
  subst e1 e2 e3
  rw [if_neg (by simp)] at hr
  exact ⟨rfl, hr.2⟩
end Go.Proofs.YteknflimfdkhoaaGreat
