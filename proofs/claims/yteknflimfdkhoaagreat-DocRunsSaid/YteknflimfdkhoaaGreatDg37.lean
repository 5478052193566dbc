/- doc.Doc.Commit: a contract. doc.Doc.Commit: the walk. -/
import Derived.Test.YteknflimfdkhoaaGreatDg35
import Derived.Test.YteknflimfdkhoaaGreatDg27
import Derived.Test.YteknflimfdkhoaaGreatDg29
import Derived.Test.YteknflimfdkhoaaGreatDg36
import Derived.Test.YteknflimfdkhoaaGreatDg30
import Derived.BigQuiet
import Derived.Deep.DeepCutAuto
namespace Go.Proofs.YteknflimfdkhoaaGreat
open Go.RowKit Go.Maps Go.Sort
set_option linter.unusedVariables false
set_option linter.unusedSimpArgs false

theorem results_rowc2 {P : Program} {fn : Func} {p u : Tmp} {ty : TypeId} (h : fn.results = #[.cell p ty, .tmp u]) (tmps : Array Value) (w : World) (g : Nat) (t : TypeId) (cs : Array Value) (d : TypeDesc)
    (hp : tmps.getD p undef = .pointer (some ⟨g, 0, none⟩)) (hg : Blk w g t cs)
    (hu : P.underlying ty = some d) (hd : (match d with | .struct _ | .array _ _ => true | _ => false) = true) (hi : (P.info? ty).map (·.size) = some cs.size) :
    (results fn tmps).run P w = .ok (.tuple #[.agg cs, tmps.getD u undef]) w := results_rowd2 h tmps w g t cs d hp hg hu hd hi
theorem below_dN {B : Nat} {w w' : World} (h : Below B w w') (n : Nat) : Below B w (w'.drewN n) := ⟨h.os, h.tape, h.output, h.size, h.block⟩
/-- What none hangs on. -/
def headsR (L : List Ch) : List (Int × Int) := (sortR (L.map Ch.ref)).filter fun r => !(L.any fun c => decide (r ∈ c.deps))
theorem headsR_map (L : List PCh) : headsR (L.map PCh.ch) = headsF L := by
  unfold headsR headsF
  rw [map_ch_ref]
  refine List.filter_congr fun r _ => ?_
  rw [List.any_map]
  rfl
/-- What Commit does. -/
def CommitR (D : DocV) (n : Int) (r : Int × Int) (D' : DocV) : Prop :=
  if D.pend = [] then n = 6 ∧ r = (0, 0) ∧ D' = D
  else if 12 < (headsR D.L).length ∨ 120 ≤ D.L.length + D.W.length then n = 4 ∧ r = (0, 0) ∧ D' = D
  else ∃ L' W', Takes D.L D.W ⟨D.actor, D.start.2, D.start.1, headsR D.L, D.pend⟩ n L' W' ∧ if n ≠ 0 then r = (0, 0) ∧ D' = { D with L := L', W := W' } else r = (D.actor, D.start.2) ∧ D' = ⟨D.actor, L', W', []⟩
/-- What Commit answers. -/
def CommitQ (w : World) (K : Nat → Prop) (db : Nat) (D : DocV) (e : Ending) (w' : World) : Prop :=
  ∃ (n : Int) (r : Int × Int) (D' : DocV), CommitR D n r D' ∧ e = .returned (.tuple #[.agg #[.int .i64 r.1, .int .i64 r.2], errC n]) ∧ DocA w' (fun i => K i ∨ w.heap.size ≤ i) db D' ∧ Only K w w'
theorem commit_err {w W : World} {K : Nat → Prop} {db : Nat} {D : DocV} {n : Int} (H : DocA w K db D) (hb : Below w.heap.size w W) (hR : CommitR D n (0, 0) D) :
    CommitQ w K db D (.returned (.tuple #[.agg #[.int .i64 0, .int .i64 0], errC n])) ((W.setCell ⟨w.heap.size, 0, none⟩ (.int .i64 0)).setCell ⟨w.heap.size, 1, none⟩ (.int .i64 0)) := by
  have hb2 := hb.trans ((onlyS2 W w.heap.size (.int .i64 0) (.int .i64 0) 0 1).below hb.size (fun k hk e => by have e : k = w.heap.size := e; omega))
  exact ⟨n, (0, 0), D, hR, rfl, (H.below hb2).mono (fun _ _ k => .inl k), Only.of_below hb2⟩
/-- What is below stays, but its footprint is cut to what was there, and all to come. -/
theorem DocM.below {w w' : World} {F : Nat → Prop} {db bk h wt bh : Nat} {Dh Dw Db : DataW Value} {L Wl : List PCh} {actor : Int} {A : Option Addr} {cp : Nat} {ps : List POp} (H : DocM w F db bk h wt bh Dh Dw Db L Wl actor A cp ps) (hb : Below w.heap.size w w') :
    DocM w' (fun i => (F i ∧ i < w.heap.size) ∨ w'.heap.size ≤ i) db bk h wt bh Dh Dw Db L Wl actor A cp ps := H.other (S := fun _ => False) (Only.of_below hb) (fun _ _ e => e.elim)
/-- The end: a book that has taken the change, or has not. -/
theorem commit_end {w W5 w6 w8 : World} {K : Nat → Prop} {db : Nat} {D : DocV} {F : Nat → Prop} {bk h wt bh : Nat} {Dh Dw Db Dh' Dw' Db' : DataW Value} {L Wl L' Wl' : List PCh} {A : Option Addr} {cp : Nat} {ps : List POp}
    (H : DocM w F db bk h wt bh Dh Dw Db L Wl D.actor A cp ps) (e3 : D.pend = ps.map POp.op) (e4 : ∀ i, i < w.heap.size → DocK F db bk h wt bh A ps i → K i) (hb : Below w.heap.size w W5) (hz : w.heap.size < W5.heap.size)
    (hD : DagX w6 (fun i => (F i ∧ i < w.heap.size) ∨ W5.heap.size ≤ i) bk h wt bh Dh' Dw' Db' L' Wl') (ho : Only (T3 h wt bh) W5 w6) (c0 c1 : Value) :
    (DocA ((w6.setCell ⟨w.heap.size, 0, none⟩ c0).setCell ⟨w.heap.size, 1, none⟩ c1) (fun i => K i ∨ w.heap.size ≤ i) db { D with L := L'.map PCh.ch, W := Wl'.map PCh.ch } ∧ Only K w ((w6.setCell ⟨w.heap.size, 0, none⟩ c0).setCell ⟨w.heap.size, 1, none⟩ c1)) ∧
    (Below (w6.setCell ⟨db, 2, none⟩ (.slice none 0 0)).heap.size (w6.setCell ⟨db, 2, none⟩ (.slice none 0 0)) w8 → DocA ((w8.setCell ⟨w.heap.size, 0, none⟩ c0).setCell ⟨w.heap.size, 1, none⟩ c1) (fun i => K i ∨ w.heap.size ≤ i) db ⟨D.actor, L'.map PCh.ch, Wl'.map PCh.ch, []⟩ ∧ Only K w ((w8.setCell ⟨w.heap.size, 0, none⟩ c0).setCell ⟨w.heap.size, 1, none⟩ c1)) := by
  have hdb := H.blk.lt
  have l1 := H.dag.bkm.blk.lt
  have l2 := H.dag.bkm.has.lt
  have l3 := H.dag.bkm.wts.lt
  have l4 := H.dag.bkm.beh.lt
  have hAlt : ∀ b ∈ blkOf A, b < w.heap.size := row_blk_lt H.row
  have h6 := (H.below hb).take hD ho
  have hz6 := ho.size
  have hwT : Only K w W5 := Only.of_below hb
  have hw6 : Only K w w6 := hwT.chain ho (fun i hi e => e4 i hi (by
    rcases e with e | e | e
    · exact .inr (.inr (.inr (.inl e)))
    · exact .inr (.inr (.inr (.inr (.inl e))))
    · exact .inr (.inr (.inr (.inr (.inr (.inl e)))))))
  constructor
  · have hoI := onlyS2 w6 w.heap.size c0 c1 0 1
    have hsI := hoI.size
    have fin := h6.other hoI (fun i hi e k => by
      have e : i = w.heap.size := e
      subst e
      rcases k with (k | k) | k | k | k | k | k | k | ⟨o, ho2, k⟩
      · omega
      · omega
      · omega
      · omega
      · omega
      · omega
      · omega
      · have := hAlt _ k; omega
      · have := (H.pne o ho2 _ k).1; omega)
    refine ⟨⟨_, bk, h, wt, bh, Dh', Dw', Db', L', Wl', A, cp, ps, fin, rfl, rfl, e3, fun i hi k => ?_⟩, hw6.chain hoI (fun i hi e => by have e : i = w.heap.size := e; omega)⟩
    by_cases hlt : i < w.heap.size
    · left
      refine e4 i hlt ?_
      rcases k with k | k
      · rcases k with ⟨(k | k), _⟩ | k
        · exact .inl k.1
        · omega
        · omega
      · exact .inr k
    · exact .inr (Nat.le_of_not_lt hlt)
  · intro hb8
    have hos : Only (· = db) w6 (w6.setCell ⟨db, 2, none⟩ (.slice none 0 0)) := (Only.refl (· = db) w6).setCell (p := ⟨db, 2, none⟩) rfl _
    have hbl : Blk (w6.setCell ⟨db, 2, none⟩ (.slice none 0 0)) db 57 #[.int .i64 D.actor, .pointer (some ⟨bk, 0, none⟩), .slice none 0 0] := by
      have := h6.blk.set_ 2 (.slice none 0 0)
      simpa using this
    have h7 := h6.pend (A' := none) (cp' := 0) (ps' := []) (hos.mono (fun k _ e => .inl e)) hbl (World.ownsRow_nil _ _ _ _) (fun b hb => (by cases hb)) (fun o ho => (by cases ho)) (fun o ho => (by cases ho)) (fun o ho => (by cases ho)) (Nat.zero_le _)
    have h8 := h7.below hb8
    have hoI := onlyS2 w8 w.heap.size c0 c1 0 1
    have hsI := hoI.size
    have hss := hos.size
    have hs8 := hb8.size
    have fin := h8.other hoI (fun i hi e k => by
      have e : i = w.heap.size := e
      subst e
      rcases k with (k | k) | k | k | k | k | k | k | ⟨o, ho2, k⟩
      · rcases k with ⟨(⟨(k | k), _⟩ | k), _⟩ <;> omega
      · omega
      · omega
      · omega
      · omega
      · omega
      · omega
      · cases k
      · cases ho2)
    refine ⟨⟨_, bk, h, wt, bh, Dh', Dw', Db', L', Wl', none, 0, [], fin, rfl, rfl, rfl, fun i hi k => ?_⟩, ((hw6.chain hos (fun i hi e => e4 i hi (.inr (.inl e)))).chain (Only.of_below (S := fun _ => False) hb8) (fun i hi e => e.elim)).chain hoI (fun i hi e => by have e : i = w.heap.size := e; omega)⟩
    by_cases hlt : i < w.heap.size
    · left
      refine e4 i hlt ?_
      rcases k with k | k | k | k | k | k | k | ⟨o, ho2, k⟩
      · rcases k with ⟨(⟨(⟨(k | k), _⟩ | k), _⟩ | k), _⟩ | k
        · exact .inl k.1
        · omega
        · omega
        · omega
        · omega
      · exact .inr (.inl k)
      · exact .inr (.inr (.inl k))
      · exact .inr (.inr (.inr (.inl k)))
      · exact .inr (.inr (.inr (.inr (.inl k))))
      · exact .inr (.inr (.inr (.inr (.inr (.inl k)))))
      · cases k
      · cases ho2
    · exact .inr (Nat.le_of_not_lt hlt)
end Go.Proofs.YteknflimfdkhoaaGreat
namespace Go.Proofs.YteknflimfdkhoaaGreat
open Go.RowKit Go.Maps Go.Sort
set_option linter.unusedVariables false
set_option linter.unusedSimpArgs false

set_option maxRecDepth 100000 in
set_option maxHeartbeats 4000000 in
theorem docCommit_any (K : Nat → Prop) (db : Nat) (D : DocV) (w : World) (H : DocA w K db D) :
    Calls Tryz.prog 6 #[.pointer (some ⟨db, 0, none⟩)] w (CommitQ w K db D) := by
  have HDA := Lib.hid H
  obtain ⟨F, bk, h, wt, bh, Dh, Dw, Db, L, Wl, Aq, cq, ps, HM, e1, e2, e3, e4⟩ := H
  obtain ⟨n, hn⟩ : ∃ n, ps.length = n := ⟨_, rfl⟩
  have hn40 : n ≤ 40 := by rw [← hn]; exact HM.len
  have HMM := Lib.hid (And.intro HM (And.intro e1 (And.intro e2 (And.intro e3 (And.intro e4 hn)))))
  clear HM e1 e2 e3 e4 hn
  obtain ⟨W0, hW0⟩ : ∃ W0, W0 = w.alloc (.cells #[.int .i64 0, .int .i64 0] 33) := ⟨_, rfl⟩
  have hb0 : Below w.heap.size w W0 := by rw [hW0]; exact (Below.refl _ _).alloc (Nat.le_refl _) _
  have hR0 : Blk W0 w.heap.size 33 #[.int .i64 0, .int .i64 0] := by rw [hW0]; exact Blk.new _ _ _
  have hd0 : Blk W0 db 57 #[.int .i64 D.actor, .pointer (some ⟨bk, 0, none⟩), .slice Aq n cq] := by rw [← HMM.out.2.2.2.2.2]; exact HMM.out.1.blk.below hb0 HMM.out.1.blk.lt
  have HHD := Lib.hid (heads_is bk h wt bh Dh Dw Db L W0 (HMM.out.1.dag.toDag.below hb0))
  obtain ⟨hs, hhs⟩ : ∃ l, l = headsF L := ⟨_, rfl⟩
  have HHS := Lib.hid hhs
  have b1 : W0.cell? ⟨db, 1, none⟩ = some (.pointer (some ⟨bk, 0, none⟩)) := hd0.cell 1
  have H0 := Lib.hid (And.intro hb0 (And.intro hR0 hd0))
  have HW0 := Lib.hid hW0
  clear hb0 hR0 hd0 hhs hW0
  go_enter Tryz.func6, Tryz.ntmps6
  go_upto_region 1 with (fail)
  rw [← HW0.out]
  go_upto_region 2 with (go_at_call 16; (with_reducible refine HHD.out.mono ?_); (rintro e w1 ⟨A1, c1, rfl, hsl, hb1, hlow, hl120⟩); rw [← HHS.out]; (have H1 := Lib.hid (And.intro (H0.out.1.trans (hb1.mono H0.out.1.size)) (And.intro (H0.out.2.1.below hb1 H0.out.2.1.lt) (And.intro (H0.out.2.2.below hb1 H0.out.2.2.lt) (by rw [← HHS.out] at hsl hl120; exact And.intro hsl (And.intro hl120 hb1)))))); (clear hsl hb1 hlow hl120))
  clear b1
  have d2 : w1.cell? ⟨db, 2, none⟩ = some (.slice Aq n cq) := H1.out.2.2.1.cell 2
  have hn64 : n ≤ 9223372036854775807 := by omega
  have hhl : hs.length ≤ 120 := H1.out.2.2.2.2.1
  have z0 := H1.out.2.1.frozen
  have i0 := H1.out.2.1.cell 0
  have i1 := H1.out.2.1.cell 1
  simp only [List.getElem?_toArray, List.getElem?_cons_zero, List.getElem?_cons_succ] at i0 i1
  have HPE := Lib.hid (show D.pend = [] ↔ n = 0 from by rw [HMM.out.2.2.2.1, ← HMM.out.2.2.2.2.2]; simp)
  have HHR := Lib.hid (show headsR D.L = hs from by rw [HMM.out.2.1, headsR_map, HHS.out])
  have HLN := Lib.hid (show D.L.length + D.W.length = L.length + Wl.length from by rw [HMM.out.2.1, HMM.out.2.2.1, List.length_map, List.length_map])
  by_cases hn0 : n = 0
  · have hn0b : ((n : Int) == 0) = true := by rw [hn0]; rfl
    have HN0 := Lib.hid hn0
    clear hn0
    go_wp2_with fail
    refine bodyPost_ret (results_rowc2 Tryz.results6 _ _ w.heap.size _ _ _ rfl (blkS2 (.int .i64 0) (.int .i64 0) H1.out.2.1) Tryz.underlying33 rfl (by kernel_rfl)) rfl ?_
    exact commit_err HDA.out H1.out.1 (by unfold CommitR; rw [if_pos (HPE.out.2 HN0.out)]; exact ⟨rfl, rfl, rfl⟩)
  · have hn0b : ((n : Int) == 0) = false := by simp; omega
    have HN0 := Lib.hid (show ¬ D.pend = [] from fun e => hn0 (HPE.out.1 e))
    clear hn0
    have HFU := Lib.hid (show (12 < hs.length ∨ 120 ≤ L.length + Wl.length) → CommitR D 4 (0, 0) D from fun hq => by unfold CommitR; rw [if_neg HN0.out, HHR.out, HLN.out, if_pos hq]; exact ⟨rfl, rfl, rfl⟩)
    have d1 : w1.cell? ⟨db, 1, none⟩ = some (.pointer (some ⟨bk, 0, none⟩)) := H1.out.2.2.1.cell 1
    by_cases hq1 : 12 < hs.length
    · have hq1i : (12 : Int) < (hs.length : Int) := by omega
      have HQ := Lib.hid hq1
      clear hq1
      go_upto_region 4 with (fail)
      go_quiet (fail)
      all_goals
        go_wp2_with fail
        refine bodyPost_ret (results_rowc2 Tryz.results6 _ _ w.heap.size _ _ _ rfl (blkS2 (.int .i64 0) (.int .i64 0) (H1.out.2.1.drewN _)) Tryz.underlying33 rfl (by kernel_rfl)) rfl ?_
        exact commit_err HDA.out (below_dN H1.out.1 _) (HFU.out (.inl HQ.out))
    · have hq1i : ¬ (12 : Int) < (hs.length : Int) := by omega
      have HQ1 := Lib.hid hq1
      clear hq1
      obtain ⟨z4, hz4⟩ : ∃ z, decide ((120 : Int) ≤ (L.length : Int) + (Wl.length : Int)) = z := ⟨_, rfl⟩
      have HZ4 := Lib.hid hz4
      have hL1 : L.length ≤ 1000 := by have h1 := HMM.out.1.dag.sz; have h2 := HMM.out.1.dag.szh; omega
      have hW1 : Wl.length ≤ 1000 := by have h1 := HMM.out.1.dag.sz; have h2 := HMM.out.1.dag.szw; omega
      have hw4 : IntKind.i64.wrap ((L.length : Int) + (Wl.length : Int)) = (L.length : Int) + (Wl.length : Int) := by rw [IntKind.wrap_i64]; omega
      have HCS := Lib.hid (show ∀ W, Below w1.heap.size w1 W → W.cell? ⟨db, 1, none⟩ = some (.pointer (some ⟨bk, 0, none⟩)) from fun W hW => (H1.out.2.2.1.below hW H1.out.2.2.1.lt).cell 1)
      go_upto_region 4 with (fail)
      go_region_held3 (fun w' => w'.cell? ⟨db, 1, none⟩ = some (.pointer (some ⟨bk, 0, none⟩)))
        (first | (with_reducible exact HCS.out _ (Below.refl _ w1).drew) | (with_reducible exact HCS.out _ hb5) | (with_reducible exact HCS.out _ hb6) | go_keep) (first
        | (go_simp
           go_at_call 17
           (with_reducible refine (all_is bk h wt bh Dh Dw Db L _ (HMM.out.1.dag.toDag.below (H1.out.1.drew))).mono ?_)
           (rintro e w5 ⟨al, B, cB, rfl, hao, hb5, hal, hin⟩)
           have hb5 : Below w1.heap.size w1 w5 := (Below.refl w1.heap.size w1).drew.trans hb5
           rw [hao.len]
           clear hao hal hin)
        | (go_simp
           go_at_call 18
           (with_reducible refine (waiting_any F bk h wt bh Dh Dw Db L Wl _ (HMM.out.1.dag.below (H1.out.1.trans (hb5.mono H1.out.1.size)))).mono ?_)
           (rintro e w6 ⟨A6, c6, rfl, hb6⟩)
           have hb6 : Below w1.heap.size w1 w6 := hb5.trans (hb6.mono hb5.size)))
      clear z0 i0 i1 d1 d2 hw4
      have H6 := Lib.hid (And.intro (H1.out.1.trans (hb6.mono H1.out.1.size)) (And.intro (H1.out.2.1.below hb6 H1.out.2.1.lt) (And.intro (H1.out.2.2.1.below hb6 H1.out.2.2.1.lt) (H1.out.2.2.2.1.below hb6))))
      clear hb5 hb6
      cases z4 with
      | true =>
        have HQ := Lib.hid (show 120 ≤ L.length + Wl.length from by have h1 := of_decide_eq_true HZ4.out; omega)
        have z0 := H6.out.2.1.frozen
        have i0 := H6.out.2.1.cell 0
        have i1 := H6.out.2.1.cell 1
        simp only [List.getElem?_toArray, List.getElem?_cons_zero, List.getElem?_cons_succ] at i0 i1
        go_wp2_with fail
        refine bodyPost_ret (results_rowc2 Tryz.results6 _ _ w.heap.size _ _ _ rfl (blkS2 (.int .i64 0) (.int .i64 0) H6.out.2.1) Tryz.underlying33 rfl (by kernel_rfl)) rfl ?_
        exact commit_err HDA.out H6.out.1 (HFU.out (.inr HQ.out))
      | false =>
        have HQ4 := Lib.hid (show ¬ 120 ≤ L.length + Wl.length from by have h1 := of_decide_eq_false HZ4.out; omega)
        obtain ⟨st, hst⟩ : ∃ s, s = D.start.1 := ⟨_, rfl⟩
        obtain ⟨sq, hsq⟩ : ∃ s, s = D.start.2 := ⟨_, rfl⟩
        have HS := Lib.hid (And.intro hst hsq)
        have hsl := HMM.out.1.start_le HMM.out.2.1
        rw [← hst, ← hsq] at hsl
        have HSL := Lib.hid hsl
        clear hst hsq hsl
        go_upto_region 7 with (go_at_call 19; (with_reducible refine (docStart_any K db D _ (HDA.out.below H6.out.1)).mono ?_); (rintro e w3 ⟨rfl, hb3⟩); rw [← HS.out.1, ← HS.out.2]; (have H3 := Lib.hid (And.intro (H6.out.1.trans (hb3.mono H6.out.1.size)) (And.intro (H6.out.2.1.below hb3 H6.out.2.1.lt) (And.intro (H6.out.2.2.1.below hb3 H6.out.2.2.1.lt) (H6.out.2.2.2.below hb3))))); (clear hb3))
        have HKS := Lib.hid (show ∀ W, Below w3.heap.size w3 W → W.cell? ⟨db, 0, none⟩ = some (.int .i64 D.actor) ∧ W.cell? ⟨db, 2, none⟩ = some (.slice Aq n cq) from fun W hW => by
          have := H3.out.2.2.1.below hW H3.out.2.2.1.lt
          exact ⟨this.cell 0, this.cell 2⟩)
        obtain ⟨d0, d2⟩ := HKS.out w3 (Below.refl _ _)
        go_region_held3 (fun w' => w'.cell? ⟨db, 0, none⟩ = some (.int .i64 D.actor) ∧ w'.cell? ⟨db, 2, none⟩ = some (.slice Aq n cq))
          (first | (with_reducible exact HKS.out _ (Below.refl _ w3).drew) | (with_reducible exact HKS.out _ ((Below.refl _ w3).alloc (Nat.le_refl _) _).drew) | go_keep) (first | fail)
        obtain ⟨W5, hW5⟩ : ∃ W5, W5 = (w3.alloc (.cells #[.int .i64 D.actor, .int .i64 sq, .int .i64 st, .slice A1 hs.length c1, .slice Aq n cq] 65)).drew := ⟨_, rfl⟩
        rw [← hW5]
        have hb5 : Below w3.heap.size w3 W5 := by rw [hW5]; exact ((Below.refl _ _).alloc (Nat.le_refl _) _).drew
        have hC5 : Blk W5 w3.heap.size 65 #[.int .i64 D.actor, .int .i64 sq, .int .i64 st, .slice A1 hs.length c1, .slice Aq n cq] := by rw [hW5]; exact Blk.new w3 _ _
        have hd5 := H3.out.2.2.1.below hb5 H3.out.2.2.1.lt
        have hbw5 : Below w.heap.size w W5.drew := (H3.out.1.trans (hb5.mono H3.out.1.size)).drew
        have hM5 := HMM.out.1.below hbw5
        have hI2 : ∀ d ∈ hs, I2 d := fun d hd => by
          rw [HHS.out] at hd
          have h1 := (sortR_mem _ d).1 (List.mem_filter.1 hd).1
          obtain ⟨y, hy, rfl⟩ := List.mem_map.1 h1
          exact (chE_good (HMM.out.1.dag.good y hy).2).i2
        have hia : I64 D.actor := ⟨by have := hM5.act; omega, by have := hM5.act; omega⟩
        have hiq : I64 sq := ⟨by have := HSL.out; omega, by have := HSL.out; omega⟩
        have hit : I64 st := ⟨by have := HSL.out; omega, by have := HSL.out; omega⟩
        have hl1 : hs.length ≤ maxLen := by have := H1.out.2.2.2.2.1; unfold maxLen; omega
        have hl2 : ps.length ≤ maxLen := by have := hM5.len; unfold maxLen; omega
        have hIC : InC W5.drew ⟨D.actor, sq, st, A1, c1, hs, Aq, cq, ps⟩ := ⟨(H3.out.2.2.2.below hb5).drew, SlAt.of_owns hM5.row, hM5.preds, hia, hiq, hit, hI2, hl1, fun o ho => (hM5.fit o ho).1, hl2⟩
        have htk := take_is _ bk h wt bh Dh Dw Db L Wl ⟨D.actor, sq, st, A1, c1, hs, Aq, cq, ps⟩ W5.drew hM5.dag hIC
        simp only at htk
        rw [HMM.out.2.2.2.2.2] at htk
        have HTK := Lib.hid htk
        have HCH := Lib.hid (show Takes (L.map PCh.ch) (Wl.map PCh.ch) (PCh.ch ⟨D.actor, sq, st, A1, c1, hs, Aq, cq, ps⟩) = Takes D.L D.W ⟨D.actor, D.start.2, D.start.1, headsR D.L, D.pend⟩ from by
          rw [HMM.out.2.1, HMM.out.2.2.1, HMM.out.2.2.2.1, ← HS.out.1, ← HS.out.2, ← HMM.out.2.1, HHR.out]
          rfl)
        have hnT : ∀ g t cs, Blk W5.drew g t cs → ¬ T3 h wt bh g := fun g t cs hg e => by
          rcases e with rfl | rfl | rfl
          · exact blk_noMap hg hM5.dag.bkm.has.isMapB
          · exact blk_noMap hg hM5.dag.bkm.wts.isMapB
          · exact blk_noMap hg hM5.dag.bkm.beh.isMapB
        have hR5 : Blk W5 w.heap.size 33 #[.int .i64 0, .int .i64 0] := H3.out.2.1.below hb5 H3.out.2.1.lt
        have HCT := Lib.hid (show ∀ W', Only (T3 h wt bh) W5.drew W' → (W'.cell? ⟨db, 1, none⟩ = some (.pointer (some ⟨bk, 0, none⟩)) ∧ W'.cell? ⟨w3.heap.size, 0, none⟩ = some (.int .i64 D.actor) ∧ W'.cell? ⟨w3.heap.size, 1, none⟩ = some (.int .i64 sq) ∧ W'.cell? ⟨w3.heap.size, 2, none⟩ = some (.int .i64 st) ∧ W'.cell? ⟨w3.heap.size, 3, none⟩ = some (.slice A1 hs.length c1) ∧ W'.cell? ⟨w3.heap.size, 4, none⟩ = some (.slice Aq n cq)) from fun W' hW' => by
          have q1 := Blk.only (w := W5.drew) hd5 hW' (hnT _ _ _ hd5)
          have q2 := Blk.only (w := W5.drew) hC5 hW' (hnT _ _ _ hC5)
          exact ⟨q1.cell 1, q2.cell 0, q2.cell 1, q2.cell 2, q2.cell 3, q2.cell 4⟩)
        have HCB := Lib.hid (show ∀ W', Only (T3 h wt bh) W5.drew W' → Blk W' db 57 #[.int .i64 D.actor, .pointer (some ⟨bk, 0, none⟩), .slice Aq n cq] ∧ Blk W' w3.heap.size 65 #[.int .i64 D.actor, .int .i64 sq, .int .i64 st, .slice A1 hs.length c1, .slice Aq n cq] ∧ Blk W' w.heap.size 33 #[.int .i64 0, .int .i64 0] from fun W' hW' =>
          ⟨Blk.only (w := W5.drew) hd5 hW' (hnT _ _ _ hd5), Blk.only (w := W5.drew) hC5 hW' (hnT _ _ _ hC5), Blk.only (w := W5.drew) hR5 hW' (hnT _ _ _ hR5)⟩)
        have HB5 := Lib.hid (And.intro hbw5 (show w.heap.size < W5.drew.heap.size from H3.out.2.1.below hb5 H3.out.2.1.lt |>.lt))
        obtain ⟨s0, s1, s2, s3, s4, s5⟩ := HCT.out W5.drew (Only.refl _ _)
        have s0 : W5.cell? ⟨db, 1, none⟩ = some (.pointer (some ⟨bk, 0, none⟩)) := s0
        have s1 : W5.cell? ⟨w3.heap.size, 0, none⟩ = some (.int .i64 D.actor) := s1
        have s2 : W5.cell? ⟨w3.heap.size, 1, none⟩ = some (.int .i64 sq) := s2
        have s3 : W5.cell? ⟨w3.heap.size, 2, none⟩ = some (.int .i64 st) := s3
        have s4 : W5.cell? ⟨w3.heap.size, 3, none⟩ = some (.slice A1 hs.length c1) := s4
        have s5 : W5.cell? ⟨w3.heap.size, 4, none⟩ = some (.slice Aq n cq) := s5
        clear hW5 hb5 hC5 hd5 hbw5 hM5 hI2 hIC htk hnT hR5 d0 d2 hia hiq hit hl1 hl2
        go_upto_region 8 with (fail)
        go_region_held3 (fun W' => W'.cell? ⟨db, 1, none⟩ = some (.pointer (some ⟨bk, 0, none⟩)) ∧ W'.cell? ⟨w3.heap.size, 0, none⟩ = some (.int .i64 D.actor) ∧ W'.cell? ⟨w3.heap.size, 1, none⟩ = some (.int .i64 sq) ∧ W'.cell? ⟨w3.heap.size, 2, none⟩ = some (.int .i64 st) ∧ W'.cell? ⟨w3.heap.size, 3, none⟩ = some (.slice A1 hs.length c1) ∧ W'.cell? ⟨w3.heap.size, 4, none⟩ = some (.slice Aq n cq))
          (first | (with_reducible exact HCT.out _ (Only.refl _ _)) | (with_reducible exact HCT.out _ ho6) | go_keep) (first
          | (go_simp
             go_at_call 20
             (with_reducible refine HTK.out.mono ?_)
             (rintro e w6 ⟨nE, Dh', Dw', Db', L', Wl', rfl, hD6, ho6, hT6⟩)
             have HT6 := Lib.hid (And.intro hD6 (And.intro ho6 hT6))
             clear hD6 hT6))
        clear s0 s1 s2 s3 s4 s5
        have HO6 := Lib.hid ho6
        clear ho6
        have HCM := Lib.hid (show ∀ r D', (if nE ≠ 0 then r = (0, 0) ∧ D' = { D with L := L'.map PCh.ch, W := Wl'.map PCh.ch } else r = (D.actor, D.start.2) ∧ D' = ⟨D.actor, L'.map PCh.ch, Wl'.map PCh.ch, []⟩) → CommitR D nE r D' from fun r D' hrd => by
          unfold CommitR
          rw [if_neg HN0.out, HHR.out, HLN.out, if_neg (fun hq => by rcases hq with hq | hq; exact HQ1.out hq; exact HQ4.out hq)]
          have hT := HT6.out.2.2
          rw [HCH.out, HHR.out] at hT
          exact ⟨_, _, hT, hrd⟩)
        by_cases hE0 : nE = 0
        · subst hE0
          rw [errC_zero]
          have q2 : w6.cell? ⟨db, 2, none⟩ = some (.slice Aq n cq) := (HCB.out w6 HO6.out).1.cell 2
          have zq := (HCB.out w6 HO6.out).1.frozen
          have hos : Only (· = db) w6 (w6.setCell ⟨db, 2, none⟩ (.slice none 0 0)) := (Only.refl (· = db) w6).setCell (p := ⟨db, 2, none⟩) rfl _
          have hdl := HMM.out.1.blk.lt
          have hz3 := H3.out.1.size
          have HC7 := Lib.hid (And.intro ((HCB.out w6 HO6.out).2.1.only hos (fun e => by have e : w3.heap.size = db := e; omega)) ((HCB.out w6 HO6.out).2.2.only hos (fun e => by have e : w.heap.size = db := e; omega)))
          clear hos hdl hz3
          go_upto_region 12 with (fail)
          obtain ⟨W7, hW7⟩ : ∃ W7, W7 = w6.setCell ⟨db, 2, none⟩ (.slice none 0 0) := ⟨_, rfl⟩
          rw [← hW7] at HC7 ⊢
          have HW7 := Lib.hid hW7
          clear hW7 q2 zq
          have k0 : W7.cell? ⟨w3.heap.size, 0, none⟩ = some (.int .i64 D.actor) := HC7.out.1.cell 0
          have k1 : W7.cell? ⟨w3.heap.size, 1, none⟩ = some (.int .i64 sq) := HC7.out.1.cell 1
          have k2 : W7.cell? ⟨w3.heap.size, 2, none⟩ = some (.int .i64 st) := HC7.out.1.cell 2
          have k3 : W7.cell? ⟨w3.heap.size, 3, none⟩ = some (.slice A1 hs.length c1) := HC7.out.1.cell 3
          have k4 : W7.cell? ⟨w3.heap.size, 4, none⟩ = some (.slice Aq n cq) := HC7.out.1.cell 4
          have hcr : Calls Tryz.prog 21 #[.agg #[.int .i64 D.actor, .int .i64 sq, .int .i64 st, .slice A1 hs.length c1, .slice Aq n cq]] W7 fun e w' => e = .returned (.agg #[.int .i64 D.actor, .int .i64 sq]) ∧ Below W7.heap.size W7 w' := by
            have := changeRef_any ⟨D.actor, sq, st, A1, c1, hs, Aq, cq, ps⟩ W7
            simp only at this
            rw [HMM.out.2.2.2.2.2] at this
            exact this
          have HCR := Lib.hid hcr
          clear hcr
          go_wp2_with (first
            | (go_at_call 21; (with_reducible refine HCR.out.mono ?_); (rintro e w8 ⟨rfl, hb8⟩); (have HB8 := Lib.hid (And.intro hb8 (HC7.out.2.below hb8 HC7.out.2.lt))); (clear hb8); (have z0 := HB8.out.2.frozen); (have i0 := HB8.out.2.cell 0); (have i1 := HB8.out.2.cell 1); simp only [List.getElem?_toArray, List.getElem?_cons_zero, List.getElem?_cons_succ] at i0 i1))
          refine bodyPost_ret (results_rowc2 Tryz.results6 _ _ w.heap.size _ _ _ rfl (blkS2 (.int .i64 D.actor) (.int .i64 sq) HB8.out.2) Tryz.underlying33 rfl (by kernel_rfl)) rfl ?_
          have hfin := (commit_end (w8 := w8) HMM.out.1 HMM.out.2.2.2.1 HMM.out.2.2.2.2.1 HB5.out.1 HB5.out.2 HT6.out.1 HO6.out (.int .i64 D.actor) (.int .i64 sq)).2 (by rw [← HW7.out]; exact HB8.out.1)
          exact ⟨0, (D.actor, sq), _, HCM.out _ _ (by rw [if_neg (by simp), HS.out.2]; exact ⟨rfl, rfl⟩), rfl, hfin.1, hfin.2⟩
        · have hEn : errC nE = .iface 59 (.int .i64 nE) := errC_ne hE0
          have HE := Lib.hid (And.intro hE0 hEn)
          rw [hEn]
          clear hE0 hEn
          have z0 := (HCB.out w6 HO6.out).2.2.frozen
          have i0 := (HCB.out w6 HO6.out).2.2.cell 0
          have i1 := (HCB.out w6 HO6.out).2.2.cell 1
          simp only [List.getElem?_toArray, List.getElem?_cons_zero, List.getElem?_cons_succ] at i0 i1
          go_wp2_with fail
          refine bodyPost_ret (results_rowc2 Tryz.results6 _ _ w.heap.size _ _ _ rfl (blkS2 (.int .i64 0) (.int .i64 0) (HCB.out w6 HO6.out).2.2) Tryz.underlying33 rfl (by kernel_rfl)) rfl ?_
          have hfin := (commit_end (w8 := w6) HMM.out.1 HMM.out.2.2.2.1 HMM.out.2.2.2.2.1 HB5.out.1 HB5.out.2 HT6.out.1 HO6.out (.int .i64 0) (.int .i64 0)).1
          refine ⟨nE, (0, 0), _, HCM.out _ _ (by rw [if_pos HE.out.1]; exact ⟨rfl, rfl⟩), ?_, hfin.1, hfin.2⟩
          rw [HE.out.2]
          rfl
end Go.Proofs.YteknflimfdkhoaaGreat
