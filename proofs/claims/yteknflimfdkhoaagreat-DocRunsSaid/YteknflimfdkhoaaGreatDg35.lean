/- dag.Book.Take: a contract, exact. A hand's book takes a change; doc.New. -/
import Derived.Test.YteknflimfdkhoaaGreatDg19
import Derived.Test.YteknflimfdkhoaaGreatDg22
import Derived.Test.YteknflimfdkhoaaGreatDg23
import Derived.Test.YteknflimfdkhoaaGreatDg34
import Derived.Test.YteknflimfdkhoaaGreatDg25
namespace Go.Proofs.YteknflimfdkhoaaGreat
open Go.RowKit Go.Maps Go.WideShapes
set_option linter.unusedVariables false
set_option linter.unusedSimpArgs false

theorem sortR_less {l : List (Int × Int)} {i k : Nat} {a b : Int × Int} (hki : k < i) (ha : (sortR l)[k]? = some a) (hb : (sortR l)[i]? = some b) : lessId a b = true ∨ b = a := by
  obtain ⟨h1, e1⟩ := List.getElem?_eq_some_iff.1 ha
  obtain ⟨h2, e2⟩ := List.getElem?_eq_some_iff.1 hb
  have h := (List.pairwise_iff_getElem.1 (sortR_sorted l)) k i h1 h2 hki
  rw [e1, e2] at h
  have h3 : ltOf cmpId b a = false := by simpa using h
  cases h4 : ltOf cmpId a b with
  | true =>
    left
    have := cmpId_neg a b
    unfold ltOf at h4
    simp at h4
    have h5 := this.1 h4
    unfold lessId
    rcases h5 with h5 | h5
    · simp [h5]
    · simp [h5]
  | false => exact .inr (tot_refs a b h4 h3).symm
/-- What stands at each jump. -/
def TkJX (w : World) (F : Nat → Prop) (bk h wt bh : Nat) (T : Int → List Ch → List Ch → Prop) (a : Act) (W : World) : Prop :=
  ∃ (Dh Dw Db : DataW Value) (L Wl : List PCh), DagX W F bk h wt bh Dh Dw Db L Wl ∧ Only (T3 h wt bh) w W ∧ (∀ A B, Settles (L.map PCh.ch) (Wl.map PCh.ch) A B → T 0 A B) ∧
    ∃ l : List Value, a = { tmps := l.toArray, defers := [] } ∧ l.length = 115 ∧ l.getD 0 undef = .pointer (some ⟨bk, 0, none⟩)
/-- What Take does. -/
def TakeQX (w : World) (F : Nat → Prop) (bk h wt bh : Nat) (T : Int → List Ch → List Ch → Prop) (e : Ending) (w' : World) : Prop :=
  ∃ (n : Int) (Dh Dw Db : DataW Value) (L Wl : List PCh), e = .returned (errC n) ∧ DagX w' F bk h wt bh Dh Dw Db L Wl ∧ Only (T3 h wt bh) w w' ∧ T n (L.map PCh.ch) (Wl.map PCh.ch)
/-- What stands behind the look-ups. -/
structure Tk2X (w : World) (F : Nat → Prop) (bk h wt bh : Nat) (Dh Dw Db : DataW Value) (L Wl : List PCh) (c : PCh) (rb xb : Nat) (y : PCh) (z : Bool) (W : World) : Prop where
  cb : CB w c W
  rbx : Blk W rb 33 #[.int .i64 c.actor, .int .i64 c.seq]
  dag : DagX W F bk h wt bh Dh Dw Db L Wl
  inc : InC W c
  xbx : Blk W xb 65 #[.int .i64 y.actor, .int .i64 y.seq, .int .i64 y.start, .slice y.dA y.deps.length y.dc, .slice y.oA y.ops.length y.oc]
  yes : z = true → InC W y ∧ (findR (L.map PCh.ch) c.ch.ref).or (findR (Wl.map PCh.ch) c.ch.ref) = some y.ch
  no : z = false → hasB Dh c.ref = false ∧ hasB Dw c.ref = false
theorem DagX.none {w : World} {F : Nat → Prop} {bk h wt bh : Nat} {Dh Dw Db : DataW Value} {L Wl : List PCh} {r : Int × Int} (H : DagX w F bk h wt bh Dh Dw Db L Wl) (hr : I2 r) (h1 : hasB Dh r = false) (h2 : hasB Dw r = false) : findR (L.map PCh.ch) r = none ∧ findR (Wl.map PCh.ch) r = none := by
  unfold hasB at h1 h2
  rw [H.has r hr, Option.isSome_map] at h1
  rw [H.wx r hr, Option.isSome_map] at h2
  rw [findR_map, findR_map]
  cases e1 : findC L r with
  | some x => rw [e1] at h1; cases h1
  | none =>
    cases e2 : findC Wl r with
    | some x => rw [e2] at h2; cases h2
    | none => exact ⟨rfl, rfl⟩
/-- What stands behind the copy. -/
structure Tk3X (w : World) (F : Nat → Prop) (bk h wt bh : Nat) (Dh Dw Db : DataW Value) (L Wl : List PCh) (c : PCh) (rb : Nat) (x : PCh) (W : World) : Prop where
  bel : Below w.heap.size w W
  box : Blk W w.heap.size 65 #[.int .i64 x.actor, .int .i64 x.seq, .int .i64 x.start, .slice x.dA x.deps.length x.dc, .slice x.oA x.ops.length x.oc]
  rbx : Blk W rb 33 #[.int .i64 c.actor, .int .i64 c.seq]
  dag : DagX W F bk h wt bh Dh Dw Db L Wl
  inc : InC W x
  fx : Stays F W x
theorem Tk3X.new {w W W' : World} {F : Nat → Prop} {bk h wt bh : Nat} {Dh Dw Db : DataW Value} {L Wl : List PCh} {c x : PCh} {rb : Nat} (H : Tk3X w F bk h wt bh Dh Dw Db L Wl c rb x W) (hb : Below W.heap.size W W') : Tk3X w F bk h wt bh Dh Dw Db L Wl c rb x W' :=
  ⟨H.bel.trans (hb.mono H.bel.size), H.box.below hb H.box.lt, H.rbx.below hb H.rbx.lt, H.dag.below hb, H.inc.below hb, H.fx.below hb⟩
/-- What holds at each round of the last loop: of what waits all has its turn yet, or may not come in. -/
def PassW (L : List PCh) (sl : List (Int × Int)) (k : Nat) (Wl : List PCh) : Prop :=
  ∀ y ∈ Wl, ∃ i : Nat, sl[i]? = some y.ref ∧ (i < k → readyL (L.map PCh.ch) y.ch = false)
def TkRX (w : World) (F : Nat → Prop) (bk h wt bh : Nat) (Dh Dw Db : DataW Value) (L : List PCh) (T : Int → List Ch → List Ch → Prop) (A : Option Addr) (sl : List (Int × Int)) (k : Nat) (W : World) : Prop :=
  ∃ Dw' Wl', DagX W F bk h wt bh Dh Dw' Db L Wl' ∧ Only (T3 h wt bh) w W ∧ SlAt W A (refs sl) ∧ Maps.size Dw' ≤ Maps.size Dw ∧ (∀ i r, k ≤ i → sl[i]? = some r → hasB Dw' r = true) ∧ PassW L sl k Wl' ∧ (∀ A B, Settles (L.map PCh.ch) (Wl'.map PCh.ch) A B → T 0 A B)
theorem PassW.next {L : List PCh} {sl : List (Int × Int)} {k : Nat} {Wl : List PCh} {x : PCh} (h : PassW L sl k Wl) (hn : (Wl.map PCh.ref).Nodup) (hx : sl[k]? = some x.ref) (hm : x ∈ Wl) (hr : readyL (L.map PCh.ch) x.ch = false) : PassW L sl (k + 1) Wl := by
  intro y hy
  obtain ⟨i, h1, h2⟩ := h y hy
  refine ⟨i, h1, fun hi => ?_⟩
  by_cases e : i = k
  · subst e
    rw [hx] at h1
    have e2 : x.ref = y.ref := Option.some.inj h1
    have : x = y := nodup_inj hn hm hy e2
    subst this
    exact hr
  · exact h2 (by omega)
theorem PassW.out {L : List PCh} {sl : List (Int × Int)} {k : Nat} {Wl : List PCh} {r : Int × Int} (h : PassW L sl k Wl) (hx : sl[k]? = some r) : PassW L sl (k + 1) (outC Wl r) := by
  intro y hy
  obtain ⟨hy, hne⟩ := List.mem_filter.1 hy
  obtain ⟨i, h1, h2⟩ := h y hy
  refine ⟨i, h1, fun hi => ?_⟩
  by_cases e : i = k
  · subst e
    rw [hx] at h1
    have e2 : r = y.ref := Option.some.inj h1
    rw [e2] at hne
    simp at hne
  · exact h2 (by omega)
theorem PassW.first {L : List PCh} {l : List (Int × Int)} {k : Nat} {Wl : List PCh} {x : PCh} (h : PassW L (sortR l) k Wl) (hx : (sortR l)[k]? = some x.ref) (hm : x ∈ Wl) (hr : readyL (L.map PCh.ch) x.ch = true) : IsFirst (L.map PCh.ch) (Wl.map PCh.ch) x.ch := by
  refine ⟨List.mem_map_of_mem hm, hr, fun y hy hyr => ?_⟩
  obtain ⟨z, hz, rfl⟩ := List.mem_map.1 hy
  obtain ⟨i, h1, h2⟩ := h z hz
  rw [PCh.ch_ref, PCh.ch_ref]
  by_cases e : i < k
  · rw [h2 e] at hyr; cases hyr
  · by_cases e2 : i = k
    · subst e2
      rw [hx] at h1
      exact .inr (Option.some.inj h1).symm
    · exact sortR_less (by omega) hx h1
theorem PassW.done {L : List PCh} {sl : List (Int × Int)} {k : Nat} {Wl : List PCh} (h : PassW L sl k Wl) (hk : sl.length ≤ k) : Settles (L.map PCh.ch) (Wl.map PCh.ch) (L.map PCh.ch) (Wl.map PCh.ch) := by
  refine .done fun y hy => ?_
  obtain ⟨z, hz, rfl⟩ := List.mem_map.1 hy
  obtain ⟨i, h1, h2⟩ := h z hz
  exact h2 (by have := (List.getElem?_eq_some_iff.1 h1).1; omega)

set_option maxRecDepth 100000 in
set_option maxHeartbeats 4000000 in
theorem take_is (F : Nat → Prop) (bk h wt bh : Nat) (Dh Dw Db : DataW Value) (L Wl : List PCh) (c : PCh) (w : World) (H : DagX w F bk h wt bh Dh Dw Db L Wl) (hc : InC w c) :
    Calls Tryz.prog 20 #[.pointer (some ⟨bk, 0, none⟩), .agg #[.int .i64 c.actor, .int .i64 c.seq, .int .i64 c.start, .slice c.dA c.deps.length c.dc, .slice c.oA c.ops.length c.oc]] w (TakeQX w F bk h wt bh (Takes (L.map PCh.ch) (Wl.map PCh.ch) c.ch)) := by
  obtain ⟨W0, hW0⟩ : ∃ W0, W0 = w.alloc (.cells #[.int .i64 c.actor, .int .i64 c.seq, .int .i64 c.start, .slice c.dA c.deps.length c.dc, .slice c.oA c.ops.length c.oc] 65) := ⟨_, rfl⟩
  have hC0 : CB w c W0 := by rw [hW0]; exact ⟨(Below.refl _ _).alloc (Nat.le_refl _) _, Blk.new _ _ _⟩
  have HC0 := Lib.hid (And.intro hC0 (And.intro H hc))
  have HW0 := Lib.hid hW0
  clear hC0 H hc hW0
  go_enter Tryz.func20, Tryz.ntmps20
  go_wp2_with fail
  rw [← HW0.out]
  obtain ⟨T, hT⟩ : ∃ T, T = Takes (L.map PCh.ch) (Wl.map PCh.ch) c.ch := ⟨_, rfl⟩
  rw [← hT]
  have HT0 := Lib.hid hT
  clear hT
  refine wp_scope_jumps1 0 (TkJX w F bk h wt bh T) (fun _ W => entsOf W wt) rfl ?pass ?first
  case pass =>
    rintro a W ⟨Dh, Dw, Db, L, Wl, hD, hO, hTT, l0, rfl, hl0, hl1⟩
    have HTT := Lib.hid hTT
    clear hTT
    obtain ⟨f, rfl⟩ := frame_lit l0 _ hl0 hl1
    clear hl0 hl1
    have HD := Lib.hid (And.intro hD hO)
    clear hD hO
    have p0 : W.cell? ⟨bk, 1, none⟩ = some (.map (some wt)) := HD.out.1.bkm.blk.cell 1
    have HO := Lib.hid (show W.ownsMap Tryz.prog 33 anyElem wt (Maps.size Dw) Dw from HD.out.1.bkm.wts)
    go_wp2_with (go_at_call 37; (with_reducible refine (rising_any wt _ Dw _ HO.out (by have := HD.out.1.sz; omega)).mono ?_); rintro e w1 ⟨l, A, cc, hk, hl, rfl, hown, hb1⟩; have HK := Lib.hid (And.intro hk (And.intro hl (And.intro hown hb1))); clear hk hown hb1 hl; have hll : l.length ≤ 120 := by have := HD.out.1.sz; have := HK.out.2.1; omega)
    clear p0
    go_loopw [89, 10, 11] (fun iv _ _ wr => ∃ k : Nat, iv = .int .i64 k ∧ k ≤ l.length ∧ TkRX w F bk h wt bh Dh Dw Db L T A (sortR l) k wr) (fun iv _ _ _ => l.length - (intOf iv).toNat)
    case atStart =>
      obtain ⟨hk, hl, hown, hb1⟩ := HK.out
      refine ⟨0, rfl, Nat.zero_le _, Dw, Wl, HD.out.1.below hb1, HD.out.2.trans (Only.of_below hb1), SlAt.of_owns hown, Nat.le_refl _, fun i r _ hi => ?_, fun y hy => ?_, HTT.out⟩
      rotate_left
      · have hyi := (chE_good (HD.out.1.win y hy).2).i2
        have hyk : y.ref ∈ l := (hk.mem y.ref hyi).2 (by rw [HD.out.1.wx _ hyi, Option.isSome_map]; exact findC_mem.2 (List.mem_map_of_mem hy))
        obtain ⟨i, hi⟩ := List.mem_iff_getElem?.1 ((sortR_mem l y.ref).2 hyk)
        exact ⟨i, hi, fun h => absurd h (Nat.not_lt_zero i)⟩
      have hm := (sortR_mem l r).1 (List.mem_of_getElem? hi)
      exact (hk.mem r (hk.i2 r hm)).1 hm
    case round =>
      obtain ⟨k, rfl, hk, Dw', Wl', hD, hO, hA, hs, hw, hpass, hset⟩ := hrel
      have HPS := Lib.hid (And.intro hpass hset)
      clear hpass hset
      by_cases hlt : k < l.length
      · have hlt2 : k < (sortR l).length := by rw [sortR_len]; exact hlt
        obtain ⟨b, off, d, ha, hd, hx, hy⟩ := hA.ref hlt2
        have hdi := HK.out.1.i2 d ((sortR_mem l d).1 (List.mem_of_getElem? hd))
        obtain ⟨v, hv⟩ := Option.isSome_iff_exists.1 (show (mget Dw' d).isSome = true from hw k d (Nat.le_refl _) hd)
        obtain ⟨x, hvx, hxI, hxg, hxr, hxm⟩ : ∃ x : PCh, v = x.value ∧ InC wr x ∧ chE x.ch = 0 ∧ x.ref = d ∧ x ∈ Wl' := by
          rw [hD.wx d hdi] at hv
          obtain ⟨x, hx, rfl⟩ := Option.map_eq_some_iff.1 hv
          exact ⟨x, rfl, (hD.win x (findC_some hx).1).1, (hD.win x (findC_some hx).1).2, (findC_some hx).2, (findC_some hx).1⟩
        subst hvx
        have HXM := Lib.hid (And.intro hxm (show (sortR l)[k]? = some x.ref from by rw [hxr]; exact hd))
        have HXF := Lib.hid (hD.fx x (.inr hxm))
        clear hxm
        obtain ⟨W5, hW5⟩ : ∃ W5, W5 = wr.alloc (.cells #[.int .i64 d.1, .int .i64 d.2] 33) := ⟨_, rfl⟩
        have hb5 : Below wr.heap.size wr W5 := by rw [hW5]; exact (Below.refl _ _).alloc (Nat.le_refl _) _
        have hR5 : Blk W5 wr.heap.size 33 #[.int .i64 d.1, .int .i64 d.2] := by rw [hW5]; exact Blk.new _ _ _
        obtain ⟨rb, hrb⟩ : ∃ rb, rb = wr.heap.size := ⟨_, rfl⟩
        have HAA := Lib.hid ha
        have H5 := Lib.hid (And.intro (hD.below hb5) (And.intro (hO.trans (Only.of_below hb5)) (And.intro (hA.below hb5) (And.intro hs (And.intro hw (And.intro hdi (And.intro hd (And.intro (hxI.below hb5) (And.intro hxg hxr)))))))))
        have hmg : (mget Dw' d).getD zCh = x.value := by rw [hv]; rfl
        have hS : ∀ W, Below W5.heap.size W5 W → W.cell? ⟨bk, 1, none⟩ = some (.map (some wt)) ∧ W.cell? ⟨wr.heap.size, 0, none⟩ = some (.int .i64 d.1) ∧ W.cell? ⟨wr.heap.size, 1, none⟩ = some (.int .i64 d.2) ∧ (Instr.lookup 93 (.map (some wt)) (.agg #[.int .i64 d.1, .int .i64 d.2]) false).run Tryz.prog W = .ok (.agg #[.int .i64 x.actor, .int .i64 x.seq, .int .i64 x.start, .slice x.dA x.deps.length x.dc, .slice x.oA x.ops.length x.oc]) W := by
          intro W hW
          have h2 := H5.out.1.bkm.below hW
          have hR := hR5.below hW hR5.lt
          refine ⟨h2.blk.cell 1, hR.cell 0, hR.cell 1, ?_⟩
          have := run_look pairRef (w := W) h2.wts Tryz.underlying93 (zeroCh _) hdi
          rw [hmg] at this
          exact this
        have HKS := Lib.hid hS
        have HXF5 := Lib.hid (HXF.out.below hb5)
        have HR5 := Lib.hid hR5
        clear hD hO hA hs hw hdi hv hxI hxg hxr hb5 hR5 hmg hS hlt2 hd
        rw [ha]
        clear ha
        go_upto_region 24 with (fail)
        rw [← hW5]
        clear hW5 hx hy
        go_cut [11] from 93 to 98 (fun s11 wx => ∃ xb, s11 = .pointer (some ⟨xb, 0, none⟩) ∧ Below W5.heap.size W5 wx ∧ Blk wx xb 65 #[.int .i64 x.actor, .int .i64 x.seq, .int .i64 x.start, .slice x.dA x.deps.length x.dc, .slice x.oA x.ops.length x.oc])
        case first =>
          obtain ⟨p0, p1, p2, p3⟩ := HKS.out W5 (Below.refl _ _)
          go_region_held3 (fun w' => w'.cell? ⟨bk, 1, none⟩ = some (.map (some wt)) ∧ w'.cell? ⟨wr.heap.size, 0, none⟩ = some (.int .i64 d.1) ∧ w'.cell? ⟨wr.heap.size, 1, none⟩ = some (.int .i64 d.2) ∧ (Instr.lookup 93 (.map (some wt)) (.agg #[.int .i64 d.1, .int .i64 d.2]) false).run Tryz.prog w' = .ok (.agg #[.int .i64 x.actor, .int .i64 x.seq, .int .i64 x.start, .slice x.dA x.deps.length x.dc, .slice x.oA x.ops.length x.oc]) w')
            (first | (with_reducible exact HKS.out _ (Below.refl _ W5).drew) | (with_reducible exact HKS.out _ ((Below.refl _ W5).alloc (Nat.le_refl _) _).drew) | go_keep) (first | fail)
          all_goals
            go_wp2_with fail
            go_meet
            exact ⟨_, rfl, ((Below.refl _ _).alloc (Nat.le_refl _) _).drew, Blk.new W5 _ _⟩
        case rest =>
          obtain ⟨xb, rfl, hb6, hX6⟩ := hcut
          have H6 := Lib.hid (And.intro (H5.out.1.below hb6) (And.intro (H5.out.2.1.trans (Only.of_below hb6)) (And.intro (H5.out.2.2.1.below hb6) (And.intro hX6 (And.intro (HR5.out.below hb6 HR5.out.lt) (H5.out.2.2.2.2.2.2.2.1.below hb6))))))
          have HXF6 := Lib.hid (HXF5.out.below hb6)
          clear hb6 hX6
          have hg2 : GoodC x := chE_good H5.out.2.2.2.2.2.2.2.2.1
          have HG := Lib.hid hg2
          clear hg2
          have k0 : wc.cell? ⟨xb, 0, none⟩ = some (.int .i64 x.actor) := H6.out.2.2.2.1.cell 0
          have k1 : wc.cell? ⟨xb, 1, none⟩ = some (.int .i64 x.seq) := H6.out.2.2.2.1.cell 1
          have k2 : wc.cell? ⟨xb, 2, none⟩ = some (.int .i64 x.start) := H6.out.2.2.2.1.cell 2
          have k3 : wc.cell? ⟨xb, 3, none⟩ = some (.slice x.dA x.deps.length x.dc) := H6.out.2.2.2.1.cell 3
          have k4 : wc.cell? ⟨xb, 4, none⟩ = some (.slice x.oA x.ops.length x.oc) := H6.out.2.2.2.1.cell 4
          obtain ⟨q, hqr⟩ : ∃ q, readyB Dh x.deps = q := ⟨_, rfl⟩
          have HRD := Lib.hid hqr
          have HRL := Lib.hid (show readyL (L.map PCh.ch) x.ch = q from by rw [← hqr]; exact (H6.out.1.ready H6.out.2.2.2.2.2.dep).symm)
          clear hqr
          cases q with
          | false =>
            go_wp2_with (go_at_call 47; (with_reducible refine (ready_any bk h wt bh Dh Dw' Db x _ H6.out.1.bkm H6.out.1.chmap H6.out.2.2.2.2.2).mono ?_); rintro e w8 ⟨rfl, hb8⟩; rw [HRD.out])
            have HE9 := Lib.hid (show TkRX w F bk h wt bh Dh Dw Db L T A (sortR l) (k + 1) w8 from ⟨Dw', Wl', H6.out.1.below hb8, H6.out.2.1.trans (Only.of_below hb8), H6.out.2.2.1.below hb8, H5.out.2.2.2.1, fun i r hi => H5.out.2.2.2.2.1 i r (by omega), HPS.out.1.next H6.out.1.wnd HXM.out.2 HXM.out.1 HRL.out, HPS.out.2⟩)
            clear hb8
            exact ⟨⟨k + 1, by push_cast; rfl, by omega, by rw [← HAA.out]; exact HE9.out⟩, by simp [intOf]; omega⟩
          | true =>
            go_upto_region 26 with (go_at_call 47; (with_reducible refine (ready_any bk h wt bh Dh Dw' Db x _ H6.out.1.bkm H6.out.1.chmap H6.out.2.2.2.2.2).mono ?_); rintro e w8 ⟨rfl, hb8⟩; rw [HRD.out])
            clear k0 k1 k2 k3 k4
            have H8 := Lib.hid (And.intro (H6.out.1.below hb8) (And.intro (H6.out.2.1.trans (Only.of_below hb8)) (And.intro (H6.out.2.2.1.below hb8) (And.intro (H6.out.2.2.2.1.below hb8 H6.out.2.2.2.1.lt) (And.intro (H6.out.2.2.2.2.1.below hb8 H6.out.2.2.2.2.1.lt) (H6.out.2.2.2.2.2.below hb8))))))
            have HXF8 := Lib.hid (HXF6.out.below hb8)
            clear hb8
            have p0 : w8.cell? ⟨bk, 1, none⟩ = some (.map (some wt)) := H8.out.1.bkm.blk.cell 1
            have p1 : w8.cell? ⟨wr.heap.size, 0, none⟩ = some (.int .i64 d.1) := H8.out.2.2.2.2.1.cell 0
            have p2 : w8.cell? ⟨wr.heap.size, 1, none⟩ = some (.int .i64 d.2) := H8.out.2.2.2.2.1.cell 1
            go_still_tail 5, (by kernel_rfl)
            change wpList _ _ _ _ _ w8.drew
            refine wpList_del _ rfl _ _ 93 33 rfl 65 pairRef Tryz.underlying93 wt _ Dw' rfl (show w8.drew.ownsMap Tryz.prog 33 anyElem wt (Maps.size Dw') Dw' from H8.out.1.bkm.wts) d rfl H5.out.2.2.2.2.2.1 ?_
            intro W9 hm9 ho9 hs9
            clear p0 p1 p2
            have hwd : hasB Dw' d = true := H5.out.2.2.2.2.1 k d (Nat.le_refl _) H5.out.2.2.2.2.2.2.1
            have hxrd : x.ref = d := H5.out.2.2.2.2.2.2.2.2.2
            obtain ⟨hD9, hlt9, hsz9⟩ : DagX W9 F bk h wt bh Dh (Dw'.del (rlit d)) Db L (outC Wl' d) ∧ _ ∧ _ := by
              have h1 := (H8.out.1.below (Below.refl _ _).drew).free (c := x) (by rw [hxrd]; exact H5.out.2.2.2.2.2.1) (by rw [hxrd]; exact OM.of hm9) ho9 HXM.out.1
              rw [hxrd] at h1
              exact h1
            have hS9 : ∀ i, i = wt → IsMapB w8 i := fun i e => by subst e; exact H8.out.1.bkm.wts.isMapB
            have hX9 : Blk W9 xb 65 #[.int .i64 x.actor, .int .i64 x.seq, .int .i64 x.start, .slice x.dA x.deps.length x.dc, .slice x.oA x.ops.length x.oc] := (show Blk w8.drew _ _ _ from H8.out.2.2.2.1).only ho9 (fun e => blk_noMap H8.out.2.2.2.1 (hS9 _ e))
            have hw9 : ∀ i r, k + 1 ≤ i → (sortR l)[i]? = some r → hasB (Dw'.del (rlit d)) r = true := fun i r hi hr => by
              have hri := HK.out.1.i2 r ((sortR_mem l r).1 (List.mem_of_getElem? hr))
              unfold hasB
              rw [mget_del pairRef H5.out.2.2.2.2.2.1 hri]
              have hne : ¬ r = d := fun e => by
                subst e
                have hnd : (sortR l).Nodup := (sortR_perm l).nodup_iff.2 HK.out.1.nodup
                obtain ⟨h1, e1⟩ := List.getElem?_eq_some_iff.1 hr
                obtain ⟨h2, e2⟩ := List.getElem?_eq_some_iff.1 H5.out.2.2.2.2.2.2.1
                exact (List.pairwise_iff_getElem.1 hnd) k i h2 h1 (by omega) (e2.trans e1.symm)
              rw [if_neg hne]
              exact H5.out.2.2.2.2.1 i r (by omega) hr
            have HXF9 := Lib.hid ((show Stays F w8.drew x from HXF8.out).only ho9 (fun i _ e => by subst e; exact H8.out.1.fn.2.2.1))
            have hO9 : Only (T3 h wt bh) w W9 := (H8.out.2.1.drew).trans (ho9.mono (fun k _ e => .inr (.inl e)))
            have H9 := Lib.hid (And.intro hD9 (And.intro hO9 (And.intro ((show SlAt w8.drew _ _ from H8.out.2.2.1).maps ho9 hS9) (And.intro hX9 (And.intro ((H8.out.2.2.2.2.2.below (Below.refl _ _).drew).maps ho9 hS9) (And.intro hw9 (And.intro hlt9 hsz9)))))))
            clear hm9 ho9 hs9 hwd hD9 hlt9 hsz9 hS9 hX9 hw9 hO9
            have hall := fun (W : World) (hD : DagX W F bk h wt bh Dh (Dw'.del (rlit d)) Db L (outC Wl' d)) (hI : InC W x) => hD.deps hI.dep HRD.out
            have HFI := Lib.hid (HPS.out.1.first HXM.out.2 HXM.out.1 HRL.out)
            have HOM := Lib.hid (show (outC Wl' d).map PCh.ch = outR (Wl'.map PCh.ch) x.ch.ref from by rw [outC_map, PCh.ch_ref, hxrd])
            clear hxrd
            have HA := Lib.hid hall
            clear hall
            have k0 : W9.cell? ⟨xb, 0, none⟩ = some (.int .i64 x.actor) := H9.out.2.2.2.1.cell 0
            have k1 : W9.cell? ⟨xb, 1, none⟩ = some (.int .i64 x.seq) := H9.out.2.2.2.1.cell 1
            have k2 : W9.cell? ⟨xb, 2, none⟩ = some (.int .i64 x.start) := H9.out.2.2.2.1.cell 2
            have k3 : W9.cell? ⟨xb, 3, none⟩ = some (.slice x.dA x.deps.length x.dc) := H9.out.2.2.2.1.cell 3
            have k4 : W9.cell? ⟨xb, 4, none⟩ = some (.slice x.oA x.ops.length x.oc) := H9.out.2.2.2.1.cell 4
            obtain ⟨z2, hz2⟩ : ∃ z2, fitsB (L.map PCh.ch) x.ch = z2 := ⟨_, rfl⟩
            have HFB := Lib.hid hz2
            clear hz2
            go_upto_if 110 with (go_at_call 48; (with_reducible refine (bookFits_is bk h wt bh Dh (Dw'.del (rlit d)) Db L x _ H9.out.1.bkm H9.out.1.behx H9.out.1.inHas H9.out.1.has H9.out.1.good H9.out.1.fine H9.out.2.2.2.2.1 HG.out.i2 (by have h1 := H9.out.1.sz; omega) ⟨⟨by have := HG.out.st; omega, HG.out.st.2⟩, HG.out.ops⟩ HG.out.seq (HA.out _ H9.out.1 H9.out.2.2.2.2.1).2).mono ?_); rintro e w10 ⟨rfl, hb10⟩; rw [HFB.out])
            clear k0 k1 k2 k3 k4
            have H10 := Lib.hid (And.intro (H9.out.1.below hb10) (And.intro (H9.out.2.1.trans (Only.of_below hb10)) (And.intro (H9.out.2.2.1.below hb10) (And.intro (H9.out.2.2.2.1.below hb10 H9.out.2.2.2.1.lt) (H9.out.2.2.2.2.1.below hb10)))))
            have HXF10 := Lib.hid (HXF9.out.below hb10)
            clear hb10
            cases z2 with
            | false =>
              go_wp2_with fail
              have HE9 := Lib.hid (show TkRX w F bk h wt bh Dh Dw Db L T A (sortR l) (k + 1) w10 from ⟨_, _, H10.out.1, H10.out.2.1, H10.out.2.2.1, by have h1 := H9.out.2.2.2.2.2.2.2; have h2 := H5.out.2.2.2.1; omega, H9.out.2.2.2.2.2.1, HPS.out.1.out H5.out.2.2.2.2.2.2.1, fun A B hs => HPS.out.2 A B (.step HFI.out (by rw [HFB.out]; rw [HOM.out] at hs; exact hs))⟩)
              exact ⟨⟨k + 1, by push_cast; rfl, by omega, by rw [← HAA.out]; exact HE9.out⟩, by simp [intOf]; omega⟩
            | true =>
              have k0 : w10.cell? ⟨xb, 0, none⟩ = some (.int .i64 x.actor) := H10.out.2.2.2.1.cell 0
              have k1 : w10.cell? ⟨xb, 1, none⟩ = some (.int .i64 x.seq) := H10.out.2.2.2.1.cell 1
              have k2 : w10.cell? ⟨xb, 2, none⟩ = some (.int .i64 x.start) := H10.out.2.2.2.1.cell 2
              have k3 : w10.cell? ⟨xb, 3, none⟩ = some (.slice x.dA x.deps.length x.dc) := H10.out.2.2.2.1.cell 3
              have k4 : w10.cell? ⟨xb, 4, none⟩ = some (.slice x.oA x.ops.length x.oc) := H10.out.2.2.2.1.cell 4
              go_wp2_with (go_at_call 49; (with_reducible refine (put_is bk h wt bh Dh (Dw'.del (rlit d)) Db _ x _ H10.out.1.bkm H10.out.1.behx H10.out.2.2.2.2 HG.out.i2 (by have h1 := H10.out.1.sz; omega) (by have h0 := H10.out.1.sizeDb; have h1 := H10.out.1.sz; omega) (HA.out _ H10.out.1 H10.out.2.2.2.2).2).mono ?_); rintro e w11 ⟨m, Dm, rfl, hp1, hp2, hp3, hp4, hpk, hp5⟩; have HPQ := Lib.hid (And.intro hp1 (And.intro hp2 (And.intro hp3 (And.intro hp4 (And.intro hpk hp5))))); clear hp1 hp2 hp3 hp4 hpk hp5; clear k0 k1 k2 k3 k4)
              go_step3
              obtain ⟨hp1, hp2, hp3, hp4, hpk, hp5⟩ := HPQ.out
              have hxr : x.ref = d := H5.out.2.2.2.2.2.2.2.2.2
              have hwd : hasB Dw' d = true := H5.out.2.2.2.2.1 k d (Nat.le_refl _) H5.out.2.2.2.2.2.2.1
              have hD11 := H10.out.1.put HXF10.out H5.out.2.2.2.2.2.2.2.2.1 (by rw [hxr]; exact H5.out.1.apart d H5.out.2.2.2.2.2.1 hwd) (by rw [hxr]; unfold hasB; rw [mget_del pairRef H5.out.2.2.2.2.2.1 H5.out.2.2.2.2.2.1, if_pos rfl]; rfl) (HA.out _ H10.out.1 H10.out.2.2.2.2).1 H9.out.2.2.2.2.2.2.1 HFB.out hp1 hp2 hp3 hp4 hpk hp5
              have hm1 := entsOf_eq hD11.bkm.wts
              have hm2 := entsOf_eq HD.out.1.bkm.wts
              have hm3 := H9.out.2.2.2.2.2.2.2
              have hm4 := H5.out.2.2.2.1
              refine id (α := (0 : Nat) = 0 ∧ (TkJX w F bk h wt bh T _ w11 ∧ entsOf w11 wt < entsOf W wt)) ?_
              exact ⟨rfl, ⟨_, _, _, _, _, hD11, H10.out.2.1.trans (hp5.mono (fun k _ e => by rcases e with e | e; exact .inl e; exact .inr (.inr e))), (fun A B hs => HPS.out.2 A B (.step HFI.out (by rw [HFB.out, if_pos rfl]; rw [HOM.out, List.map_append] at hs; exact hs))), _, rfl, rfl, rfl⟩, by omega⟩
      · obtain rfl : k = l.length := by omega
        have HX := Lib.hid (And.intro hD hO)
        clear hD hO hA hs hw
        go_wp2_with fail
        simp only [Exit.jump]
        go_ret
        exact ⟨0, Dh, Dw', Db, L, Wl', rfl, HX.out.1, HX.out.2, HPS.out.2 _ _ (HPS.out.1.done (Nat.le_of_eq (sortR_len l)))⟩
  case first =>
    intro hP
    have HP := Lib.hid hP
    clear hP
    obtain ⟨n, hE⟩ : ∃ n, chE c.ch = n := ⟨_, rfl⟩
    have HE := Lib.hid hE
    clear hE
    have c0 : W0.cell? ⟨w.heap.size, 0, none⟩ = some (.int .i64 c.actor) := HC0.out.1.blk.cell 0
    have c1 : W0.cell? ⟨w.heap.size, 1, none⟩ = some (.int .i64 c.seq) := HC0.out.1.blk.cell 1
    have c2 : W0.cell? ⟨w.heap.size, 2, none⟩ = some (.int .i64 c.start) := HC0.out.1.blk.cell 2
    have c3 : W0.cell? ⟨w.heap.size, 3, none⟩ = some (.slice c.dA c.deps.length c.dc) := HC0.out.1.blk.cell 3
    have c4 : W0.cell? ⟨w.heap.size, 4, none⟩ = some (.slice c.oA c.ops.length c.oc) := HC0.out.1.blk.cell 4
    by_cases hn : n = 0
    · subst hn
      go_upto_region 5 with (first
        | (go_at_call 45; (with_reducible refine (changeCheck_any c _ (HC0.out.2.2.below HC0.out.1.bel)).mono ?_); rintro e w1 ⟨rfl, hb1⟩; rw [HE.out, errC_zero]; have d0 := (HC0.out.1.new hb1).blk.cell 0; have d1 := (HC0.out.1.new hb1).blk.cell 1; have d2 := (HC0.out.1.new hb1).blk.cell 2; have d3 := (HC0.out.1.new hb1).blk.cell 3; have d4 := (HC0.out.1.new hb1).blk.cell 4; simp at d0 d1 d2 d3 d4)
        | (go_at_call 21; (with_reducible refine (changeRef_any c _).mono ?_); rintro e w2 ⟨rfl, hb2⟩; clear c0 c1 c2 c3 c4))
      have HC1 := Lib.hid (HC0.out.1.new hb1)
      clear hb1 d0 d1 d2 d3 d4
      obtain ⟨W3, hW3⟩ : ∃ W3, W3 = w2.alloc (.cells #[.int .i64 c.actor, .int .i64 c.seq] 33) := ⟨_, rfl⟩
      rw [← hW3]
      have hb3 : Below w1.heap.size w1 W3 := by rw [hW3]; exact hb2.alloc hb2.size _
      have hC3 := HC1.out.new hb3
      have hR3 : Blk W3 w2.heap.size 33 #[.int .i64 c.actor, .int .i64 c.seq] := by rw [hW3]; exact Blk.new _ _ _
      have hD3 := HC0.out.2.1.below hC3.bel
      have hI3 := HC0.out.2.2.below hC3.bel
      have hr := (chE_good HE.out).i2
      obtain ⟨x, s, hx, hs, hxs⟩ : ∃ (x : PCh) (s : Bool), (mget Dh c.ref).getD zCh = x.value ∧ (mget Dh c.ref).isSome = s ∧ (s = true → findC L c.ref = some x) := by
        rw [hD3.has _ hr]
        cases hf : findC L c.ref with
        | none => exact ⟨zPCh, false, rfl, rfl, fun h => (by cases h)⟩
        | some x => exact ⟨x, true, rfl, rfl, fun _ => rfl⟩
      obtain ⟨rb, hrb⟩ : ∃ rb, rb = w2.heap.size := ⟨_, rfl⟩
      rw [← hrb] at hR3 ⊢
      have hrw : w.heap.size < rb := by
        have h1 := HC1.out.blk.lt
        have h2 := hb2.size
        rw [hrb]
        exact Nat.lt_of_lt_of_le h1 h2
      have hS : ∀ W, Below W3.heap.size W3 W → W.cell? ⟨bk, 0, none⟩ = some (.map (some h)) ∧ W.cell? ⟨rb, 0, none⟩ = some (.int .i64 c.actor) ∧ W.cell? ⟨rb, 1, none⟩ = some (.int .i64 c.seq) ∧ (Instr.lookup 93 (.map (some h)) (.agg #[.int .i64 c.actor, .int .i64 c.seq]) true).run Tryz.prog W = .ok (.tuple #[.agg #[.int .i64 x.actor, .int .i64 x.seq, .int .i64 x.start, .slice x.dA x.deps.length x.dc, .slice x.oA x.ops.length x.oc], .bool s]) W := by
        intro W hW
        have h2 := hD3.bkm.below hW
        have hR := hR3.below hW hR3.lt
        refine ⟨h2.blk.cell 0, hR.cell 0, hR.cell 1, ?_⟩
        have := run_look_ok pairRef (w := W) h2.has Tryz.underlying93 (zeroCh _) hr
        rw [hx, hs] at this
        exact this
      have HKS := Lib.hid hS
      obtain ⟨p0, p1, p2, p3⟩ := hS W3 (Below.refl _ _)
      have H3 := Lib.hid (And.intro hC3 (And.intro hR3 (And.intro hD3 (And.intro hI3 (And.intro hr (And.intro hs (And.intro hxs hrw)))))))
      clear hC3 hR3 hD3 hI3 hr hs hxs hx hb3 hW3 hb2 hrb hS
      go_cut [7, 8] from 19 to 27 (fun s7 s8 wx => ∃ xb, s7 = .pointer (some ⟨xb, 0, none⟩) ∧ s8 = .bool s ∧ Below W3.heap.size W3 wx ∧ W3.heap.size ≤ xb ∧ Blk wx xb 65 #[.int .i64 x.actor, .int .i64 x.seq, .int .i64 x.start, .slice x.dA x.deps.length x.dc, .slice x.oA x.ops.length x.oc])
      case first =>
        go_region_held3 (fun w' => w'.cell? ⟨bk, 0, none⟩ = some (.map (some h)) ∧ w'.cell? ⟨rb, 0, none⟩ = some (.int .i64 c.actor) ∧ w'.cell? ⟨rb, 1, none⟩ = some (.int .i64 c.seq) ∧ (Instr.lookup 93 (.map (some h)) (.agg #[.int .i64 c.actor, .int .i64 c.seq]) true).run Tryz.prog w' = .ok (.tuple #[.agg #[.int .i64 x.actor, .int .i64 x.seq, .int .i64 x.start, .slice x.dA x.deps.length x.dc, .slice x.oA x.ops.length x.oc], .bool s]) w')
          (first | (with_reducible exact HKS.out _ (Below.refl _ W3).drew) | (with_reducible exact HKS.out _ ((Below.refl _ W3).alloc (Nat.le_refl _) _).drew) | go_keep) (first | fail)
        all_goals
          go_wp2_with fail
          go_meet
          exact ⟨_, rfl, rfl, ((Below.refl _ _).alloc (Nat.le_refl _) _).drew, Nat.le_refl _, Blk.new W3 _ _⟩
      case rest =>
      obtain ⟨xb, rfl, rfl, hb4, hxl, hX4⟩ := hcut
      obtain ⟨W4, hW4⟩ : ∃ W4, W4 = wc := ⟨_, rfl⟩
      rw [← hW4] at hb4 hX4 ⊢
      clear hW4
      have hxr : xb ≠ rb ∧ xb ≠ w.heap.size ∧ w.heap.size ≤ xb ∧ W3.heap.size ≤ xb ∧ Below W3.heap.size W3 W4 := by
        have h1 := H3.out.2.1.lt
        have h2 := H3.out.1.blk.lt
        exact ⟨by omega, by omega, by omega, hxl, hb4⟩
      have H4 := Lib.hid (And.intro (H3.out.1.new hb4) (And.intro (H3.out.2.1.below hb4 H3.out.2.1.lt) (And.intro (H3.out.2.2.1.below hb4) (And.intro (H3.out.2.2.2.1.below hb4) (And.intro hX4 hxr)))))
      clear hX4 hxr hb4 hxl p0 p1 p2 p3
      go_upto_if 29 with (fail)
      go_cut [8] from 28 to 38 (fun s8 wx => ∃ (y : PCh) (z : Bool), s8 = .bool z ∧ Tk2X w F bk h wt bh Dh Dw Db L Wl c rb xb y z wx)
      case first =>
        have hxs' := H3.out.2.2.2.2.2.2.1
        cases s with
        | true =>
          go_wp2_with fail
          go_meet
          obtain ⟨a1, a2, a3, a4, a5, a6⟩ := H4.out
          exact ⟨x, true, rfl, a1, a2, a3, a4, a5, fun _ => ⟨(a3.good _ (findC_some (hxs' (by first | rfl | trivial))).1).1, by rw [PCh.ch_ref, findR_map, hxs' (by first | rfl | trivial)]; rfl⟩, fun h => (by cases h)⟩
        | false =>
          go_wp2_with fail
          have hr := H3.out.2.2.2.2.1
          have hs0 := H3.out.2.2.2.2.2.1
          obtain ⟨y, s, hy, hs⟩ : ∃ (y : PCh) (s : Bool), (mget Dw c.ref).getD zCh = y.value ∧ (mget Dw c.ref).isSome = s ∧ (s = true → InC W3 y ∧ findC Wl c.ref = some y) := by
            rw [H3.out.2.2.1.wx _ hr]
            cases hf : findC Wl c.ref with
            | none => exact ⟨zPCh, false, rfl, rfl, fun h => (by cases h)⟩
            | some y => exact ⟨y, true, rfl, rfl, fun _ => ⟨(H3.out.2.2.1.win y (findC_some hf).1).1, rfl⟩⟩
          have hbx : bk ≠ xb := by
            have h5 := H3.out.2.2.1.bkm.blk.lt
            have h6 := H4.out.2.2.2.2.2.2.2.2.1
            omega
          have hS : ∀ W, Only (· = xb) W4 W → W.cell? ⟨bk, 1, none⟩ = some (.map (some wt)) ∧ W.cell? ⟨rb, 0, none⟩ = some (.int .i64 c.actor) ∧ W.cell? ⟨rb, 1, none⟩ = some (.int .i64 c.seq) ∧ (Instr.lookup 93 (.map (some wt)) (.agg #[.int .i64 c.actor, .int .i64 c.seq]) true).run Tryz.prog W = .ok (.tuple #[.agg #[.int .i64 y.actor, .int .i64 y.seq, .int .i64 y.start, .slice y.dA y.deps.length y.dc, .slice y.oA y.ops.length y.oc], .bool s]) W := by
            intro W hW
            have hnm := blk_noMap H4.out.2.2.2.2.1
            have h2 : Blk W bk _ _ := H4.out.2.2.1.bkm.blk.only hW hbx
            have hR : Blk W rb _ _ := H4.out.2.1.only hW (fun e => H4.out.2.2.2.2.2.1 e.symm)
            refine ⟨h2.cell 1, hR.cell 0, hR.cell 1, ?_⟩
            have := run_look_ok pairRef (w := W) (H4.out.2.2.1.bkm.wts.only hW (fun e => hnm (by rw [← e]; exact H4.out.2.2.1.bkm.wts.isMapB))) Tryz.underlying93 (zeroCh _) hr
            rw [hy, hs.1] at this
            exact this
          have HKS := Lib.hid hS
          obtain ⟨p0, p1, p2, p3⟩ := hS W4 (Only.refl _ _)
          have x0 : W4.cell? ⟨xb, 0, none⟩ = some (.int .i64 x.actor) := H4.out.2.2.2.2.1.cell 0
          have x1 : W4.cell? ⟨xb, 1, none⟩ = some (.int .i64 x.seq) := H4.out.2.2.2.2.1.cell 1
          have x2 : W4.cell? ⟨xb, 2, none⟩ = some (.int .i64 x.start) := H4.out.2.2.2.2.1.cell 2
          have x3 : W4.cell? ⟨xb, 3, none⟩ = some (.slice x.dA x.deps.length x.dc) := H4.out.2.2.2.2.1.cell 3
          have x4 : W4.cell? ⟨xb, 4, none⟩ = some (.slice x.oA x.ops.length x.oc) := H4.out.2.2.2.2.1.cell 4
          have f0 : W4.frozen? ⟨xb, 0, none⟩ = false := H4.out.2.2.2.2.1.frozen 0
          have f1 : W4.frozen? ⟨xb, 1, none⟩ = false := H4.out.2.2.2.2.1.frozen 1
          have f2 : W4.frozen? ⟨xb, 2, none⟩ = false := H4.out.2.2.2.2.1.frozen 2
          have f3 : W4.frozen? ⟨xb, 3, none⟩ = false := H4.out.2.2.2.2.1.frozen 3
          have f4 : W4.frozen? ⟨xb, 4, none⟩ = false := H4.out.2.2.2.2.1.frozen 4
          have HY := Lib.hid (And.intro hs hs0)
          clear hs hy hS hbx hs0
          go_region_held3 (fun w' => w'.cell? ⟨bk, 1, none⟩ = some (.map (some wt)) ∧ w'.cell? ⟨rb, 0, none⟩ = some (.int .i64 c.actor) ∧ w'.cell? ⟨rb, 1, none⟩ = some (.int .i64 c.seq) ∧ (Instr.lookup 93 (.map (some wt)) (.agg #[.int .i64 c.actor, .int .i64 c.seq]) true).run Tryz.prog w' = .ok (.tuple #[.agg #[.int .i64 y.actor, .int .i64 y.seq, .int .i64 y.start, .slice y.dA y.deps.length y.dc, .slice y.oA y.ops.length y.oc], .bool s]) w')
            (first | (with_reducible exact HKS.out _ (Only.refl _ W4).drew) | (with_reducible exact HKS.out _ (only5 W4 xb _ _ _ _ _ 0 1 2 3 4).drew) | go_keep) (first | fail)
          all_goals
            go_wp2_with fail
            go_meet
            have hb45 := (only5 W4 xb (.int .i64 y.actor) (.int .i64 y.seq) (.int .i64 y.start) (.slice y.dA y.deps.length y.dc) (.slice y.oA y.ops.length y.oc) 0 1 2 3 4).drew
            have h34 := H4.out.2.2.2.2.2.2.2.2
            have hb35 := h34.2.trans (hb45.below h34.2.size (fun k hk e => by have := h34.1; omega))
            exact ⟨y, _, rfl, H3.out.1.new hb35, H3.out.2.1.below hb35 H3.out.2.1.lt, H3.out.2.2.1.below hb35, H3.out.2.2.2.1.below hb35, blk5 _ _ _ _ _ H4.out.2.2.2.2.1, fun e => ⟨(HY.out.1.2 e).1.below hb35, by rw [PCh.ch_ref, findR_map, findR_map, (HY.out.1.2 e).2, show findC L c.ref = none from by have h0 := HY.out.2; rw [H3.out.2.2.1.has _ H3.out.2.2.2.2.1, Option.isSome_map] at h0; cases hq : findC L c.ref with | none => rfl | some q => rw [hq] at h0; cases h0]; rfl⟩, fun e => ⟨HY.out.2, HY.out.1.1.trans e⟩⟩
      case rest =>
        obtain ⟨y, z, rfl, hT⟩ := hcut
        have HT := Lib.hid hT
        clear hT
        have c0 : wc.cell? ⟨w.heap.size, 0, none⟩ = some (.int .i64 c.actor) := HT.out.cb.blk.cell 0
        have c1 : wc.cell? ⟨w.heap.size, 1, none⟩ = some (.int .i64 c.seq) := HT.out.cb.blk.cell 1
        have c2 : wc.cell? ⟨w.heap.size, 2, none⟩ = some (.int .i64 c.start) := HT.out.cb.blk.cell 2
        have c3 : wc.cell? ⟨w.heap.size, 3, none⟩ = some (.slice c.dA c.deps.length c.dc) := HT.out.cb.blk.cell 3
        have c4 : wc.cell? ⟨w.heap.size, 4, none⟩ = some (.slice c.oA c.ops.length c.oc) := HT.out.cb.blk.cell 4
        cases z with
        | true =>
          have x0 : wc.cell? ⟨xb, 0, none⟩ = some (.int .i64 y.actor) := HT.out.xbx.cell 0
          have x1 : wc.cell? ⟨xb, 1, none⟩ = some (.int .i64 y.seq) := HT.out.xbx.cell 1
          have x2 : wc.cell? ⟨xb, 2, none⟩ = some (.int .i64 y.start) := HT.out.xbx.cell 2
          have x3 : wc.cell? ⟨xb, 3, none⟩ = some (.slice y.dA y.deps.length y.dc) := HT.out.xbx.cell 3
          have x4 : wc.cell? ⟨xb, 4, none⟩ = some (.slice y.oA y.ops.length y.oc) := HT.out.xbx.cell 4
          obtain ⟨b, hb⟩ : ∃ b, sameB y c = b := ⟨_, rfl⟩
          have HSB := Lib.hid hb
          clear hb
          cases b
          all_goals
            go_wp2_with (go_at_call 46; (with_reducible refine (same_any y c _ (HT.out.yes rfl).1 HT.out.inc).mono ?_); rintro e w5 ⟨rfl, hb5⟩; rw [HSB.out])
            simp only [Exit.jump]
            go_ret
            first
              | exact ⟨0, Dh, Dw, Db, L, Wl, rfl, HT.out.dag.below hb5, Only.of_below (HT.out.cb.new hb5).bel, by rw [HT0.out]; exact Takes.there HE.out (HT.out.yes rfl).2 (by rw [← sameB_eq, HSB.out]; rfl)⟩
              | exact ⟨8, Dh, Dw, Db, L, Wl, rfl, HT.out.dag.below hb5, Only.of_below (HT.out.cb.new hb5).bel, by rw [HT0.out]; exact Takes.there HE.out (HT.out.yes rfl).2 (by rw [← sameB_eq, HSB.out]; rfl)⟩
        | false =>
          go_wp2_with fail
          obtain ⟨n1, hn1⟩ : ∃ n, Maps.size Dh = n := ⟨_, rfl⟩
          obtain ⟨n2, hn2⟩ : ∃ n, Maps.size Dw = n := ⟨_, rfl⟩
          have hsz : n1 + n2 ≤ 120 := by have := HT.out.dag.sz; omega
          have p0 : wc.cell? ⟨bk, 0, none⟩ = some (.map (some h)) := HT.out.dag.bkm.blk.cell 0
          have p1 : wc.cell? ⟨bk, 1, none⟩ = some (.map (some wt)) := HT.out.dag.bkm.blk.cell 1
          have l1 : ∀ ty, (Builtin.len_ #[93] ty #[.map (some h)]).run Tryz.prog wc.drew = .ok (.int .i64 n1) wc.drew := fun ty => by
            have := World.ownsMap.len (w := wc.drew) (show wc.drew.ownsMap Tryz.prog 33 anyElem h (Maps.size Dh) Dh from HT.out.dag.bkm.has) Tryz.underlying93 ty
            rw [hn1] at this
            exact this
          have l2 : ∀ ty, (Builtin.len_ #[93] ty #[.map (some wt)]).run Tryz.prog wc.drew = .ok (.int .i64 n2) wc.drew := fun ty => by
            have := World.ownsMap.len (w := wc.drew) (show wc.drew.ownsMap Tryz.prog 33 anyElem wt (Maps.size Dw) Dw from HT.out.dag.bkm.wts) Tryz.underlying93 ty
            rw [hn2] at this
            exact this
          have hw : IntKind.i64.wrap ((n1 : Int) + n2) = (n1 : Int) + n2 := IntWalk.i64_in _ (by omega)
          have HN := Lib.hid (And.intro hn1 (And.intro hn2 hsz))
          have HLN := Lib.hid (show (L.map PCh.ch).length + (Wl.map PCh.ch).length = n1 + n2 from by rw [List.length_map, List.length_map, ← hn1, ← hn2, HT.out.dag.szh, HT.out.dag.szw])
          have HNO := Lib.hid (HT.out.dag.none H3.out.2.2.2.2.1 (HT.out.no rfl).1 (HT.out.no rfl).2)
          obtain ⟨q, hq⟩ : ∃ q, decide ((120 : Int) ≤ (n1 : Int) + n2) = q := ⟨_, rfl⟩
          have HQ := Lib.hid hq
          clear hn1 hn2
          cases q with
          | true =>
            have hq2 : (120 : Int) ≤ (n1 : Int) + n2 := by simpa using HQ.out
            clear hsz
            go_still_tail 12, (by kernel_rfl)
            go_wp2_with fail
            simp only [Exit.jump]
            go_ret
            exact ⟨4, Dh, Dw, Db, L, Wl, rfl, HT.out.dag.below (Below.refl _ _).drew, Only.of_below HT.out.cb.bel.drew, by rw [HT0.out]; exact Takes.full HE.out HNO.out.1 HNO.out.2 (by have h1 := of_decide_eq_true HQ.out; have h2 := HLN.out; omega)⟩
          | false =>
            have hq2 : ¬ (120 : Int) ≤ (n1 : Int) + n2 := by simpa using HQ.out
            clear hsz
            go_still_tail 12, (by kernel_rfl)
            clear l1 l2 hw p0 p1
            have hg := chE_good HE.out
            have HG := Lib.hid hg
            have f0 : ∀ i, wc.drew.frozen? ⟨w.heap.size, i, none⟩ = false := HT.out.cb.blk.frozen
            go_upto_region 15 with (go_at_call 43; (with_reducible refine (cloneChange_any c _ (HT.out.inc.below (Below.refl _ _).drew) (by have := HG.out.deps; omega) (by have := HG.out.ops; omega) (fun o ho => by have := HG.out.preds o ho; omega)).mono ?_); rintro e w6 ⟨x, rfl, hx1, hx2, hx3, hb5, hnew⟩; have hb6 := (Below.refl wc.heap.size wc).drew.trans hb5; clear hb5; clear c0 c1 c2 c3 c4 f0; have HX := Lib.hid (And.intro hx1 (And.intro hx2 (And.intro hnew hb6))); have k0 := (HT.out.cb.blk.below hb6 HT.out.cb.blk.lt).cell 0; have k1 := (HT.out.cb.blk.below hb6 HT.out.cb.blk.lt).cell 1; have k2 := (HT.out.cb.blk.below hb6 HT.out.cb.blk.lt).cell 2; have k3 := (HT.out.cb.blk.below hb6 HT.out.cb.blk.lt).cell 3; have k4 := (HT.out.cb.blk.below hb6 HT.out.cb.blk.lt).cell 4; have g0 := (HT.out.cb.blk.below hb6 HT.out.cb.blk.lt).frozen 0; have g1 := (HT.out.cb.blk.below hb6 HT.out.cb.blk.lt).frozen 1; have g2 := (HT.out.cb.blk.below hb6 HT.out.cb.blk.lt).frozen 2; have g3 := (HT.out.cb.blk.below hb6 HT.out.cb.blk.lt).frozen 3; have g4 := (HT.out.cb.blk.below hb6 HT.out.cb.blk.lt).frozen 4; simp at k0 k1 k2 k3 k4; clear hx1 hx2 hx3 hb6 hnew hg)
            obtain ⟨W7, hW7⟩ : ∃ W7, W7 = (((((w6.setCell ⟨w.heap.size, 0, none⟩ (.int .i64 x.actor)).setCell ⟨w.heap.size, 1, none⟩ (.int .i64 x.seq)).setCell ⟨w.heap.size, 2, none⟩ (.int .i64 x.start)).setCell ⟨w.heap.size, 3, none⟩ (.slice x.dA x.deps.length x.dc)).setCell ⟨w.heap.size, 4, none⟩ (.slice x.oA x.ops.length x.oc)) := ⟨_, rfl⟩
            rw [← hW7]
            have hb67 : Only (· = w.heap.size) w6 W7 := by rw [hW7]; exact only5 w6 w.heap.size _ _ _ _ _ 0 1 2 3 4
            have hC6 := HT.out.cb.new HX.out.2.2.2
            have hbw7 : Below w.heap.size w W7 := hC6.bel.trans (hb67.below hC6.bel.size (fun k hk e => by omega))
            have hrw := H3.out.2.2.2.2.2.2.2
            have H7 := Lib.hid (show Tk3X w F bk h wt bh Dh Dw Db L Wl c rb x W7 from ⟨hbw7, by rw [hW7]; exact blk5 _ _ _ _ _ hC6.blk, (HT.out.rbx.below HX.out.2.2.2 HT.out.rbx.lt).only hb67 (by show rb ≠ w.heap.size; omega), HC0.out.2.1.below hbw7, HX.out.2.2.1 _ (fun b h1 h2 => hb67.block b h2 (by have h3 := HT.out.cb.blk.lt; have h4 : wc.heap.size ≤ b := h1; show b ≠ w.heap.size; omega)), fun W' hW' => HX.out.2.2.1 W' (fun b h1 h2 => by have h3 := HT.out.cb.blk.lt; have h4 : wc.heap.size ≤ b := h1; exact (hW' b (HC0.out.2.1.fh b (by omega)) (Nat.lt_of_lt_of_le h2 hb67.size)).trans (hb67.block b h2 (by show b ≠ w.heap.size; omega)))⟩)
            clear k0 k1 k2 k3 k4 g0 g1 g2 g3 g4 hW7 hb67 hC6 hbw7 hrw
            obtain ⟨q, hqr⟩ : ∃ q, readyB Dh x.deps = q := ⟨_, rfl⟩
            have HRD := Lib.hid hqr
            have HRL := Lib.hid (show readyL (L.map PCh.ch) c.ch = q from by rw [← HX.out.1, ← hqr]; exact (H7.out.dag.ready H7.out.inc.dep).symm)
            have HLT := Lib.hid (show (L.map PCh.ch).length + (Wl.map PCh.ch).length < 120 from by have h1 := of_decide_eq_false HQ.out; have h2 := HLN.out; omega)
            clear hqr
            have k0 : W7.cell? ⟨w.heap.size, 0, none⟩ = some (.int .i64 x.actor) := H7.out.box.cell 0
            have k1 : W7.cell? ⟨w.heap.size, 1, none⟩ = some (.int .i64 x.seq) := H7.out.box.cell 1
            have k2 : W7.cell? ⟨w.heap.size, 2, none⟩ = some (.int .i64 x.start) := H7.out.box.cell 2
            have k3 : W7.cell? ⟨w.heap.size, 3, none⟩ = some (.slice x.dA x.deps.length x.dc) := H7.out.box.cell 3
            have k4 : W7.cell? ⟨w.heap.size, 4, none⟩ = some (.slice x.oA x.ops.length x.oc) := H7.out.box.cell 4
            cases q with
            | false =>
              go_upto_region 16 with (go_at_call 47; (with_reducible refine (ready_any bk h wt bh Dh Dw Db x _ H7.out.dag.bkm H7.out.dag.chmap H7.out.inc).mono ?_); rintro e w8 ⟨rfl, hb8⟩; rw [HRD.out]; have e0 := (H7.out.new hb8).box.cell 0; have e1 := (H7.out.new hb8).box.cell 1; have e2 := (H7.out.new hb8).box.cell 2; have e3 := (H7.out.new hb8).box.cell 3; have e4 := (H7.out.new hb8).box.cell 4; simp at e0 e1 e2 e3 e4)
              clear k0 k1 k2 k3 k4
              have H8 := Lib.hid (H7.out.new hb8)
              clear hb8
              have p0 : w8.cell? ⟨bk, 1, none⟩ = some (.map (some wt)) := H8.out.dag.bkm.blk.cell 1
              have p1 : w8.cell? ⟨rb, 0, none⟩ = some (.int .i64 c.actor) := H8.out.rbx.cell 0
              have p2 : w8.cell? ⟨rb, 1, none⟩ = some (.int .i64 c.seq) := H8.out.rbx.cell 1
              go_still_tail 6, (by kernel_rfl)
              change wpList _ _ _ _ _ w8.drew
              refine wpList_upd _ rfl _ _ _ 93 rfl 33 65 pairRef Tryz.underlying93 wt _ Dw rfl (show w8.drew.ownsMap Tryz.prog 33 anyElem wt (Maps.size Dw) Dw from H8.out.dag.bkm.wts) (by have := HN.out.2.1; have := HN.out.2.2; unfold maxLen; omega) c.ref rfl HG.out.i2 x.value rfl ?_
              intro W9 hm9 ho9 hs9
              have hm9' : OM W9 wt (Dw.put (rlit x.ref) (.held x.value)) := by rw [HX.out.2.1]; exact OM.of hm9
              have hq3 : Maps.size Dh + Maps.size Dw < 120 := by have h1 := HN.out.1; have h2 := HN.out.2.1; omega
              have hD9 := (H8.out.dag.below (Below.refl _ _).drew).wait (H8.out.fx.below (Below.refl _ _).drew) (by rw [HX.out.1]; exact HE.out) (by rw [HX.out.2.1]; exact (HT.out.no rfl).1) (by rw [HX.out.2.1]; exact (HT.out.no rfl).2) hq3 hm9' ho9
              have ho := ((Only.of_below (S := T3 h wt bh) H8.out.bel).drew).trans (ho9.mono (fun k _ e => .inr (.inl e)))
              have H9 := Lib.hid (And.intro hD9 ho)
              clear e0 e1 e2 e3 e4 p0 p1 p2 hm9 ho9 hs9 hm9' hq3 hD9 ho
              go_wp2_with fail
              simp only [Exit.jump]
              go_ret
              exact ⟨0, Dh, _, Db, L, _, rfl, H9.out.1, H9.out.2, by rw [HT0.out, List.map_append]; show Takes _ _ _ _ _ (_ ++ [x.ch]); rw [HX.out.1]; exact Takes.wait HE.out HNO.out.1 HNO.out.2 HLT.out HRL.out⟩
            | true =>
              have hall := fun (W : World) (hD : DagX W F bk h wt bh Dh Dw Db L Wl) (hI : InC W x) => hD.deps hI.dep HRD.out
              have hg2 : GoodC x := chE_good (by rw [HX.out.1]; exact HE.out)
              have HA := Lib.hid (And.intro hall hg2)
              clear hall hg2
              obtain ⟨z2, hz2⟩ : ∃ z2, fitsB (L.map PCh.ch) x.ch = z2 := ⟨_, rfl⟩
              have HFB := Lib.hid hz2
              have HFC := Lib.hid (show fitsB (L.map PCh.ch) c.ch = z2 from by rw [← HX.out.1]; exact hz2)
              clear hz2
              go_upto_if 78 with (first
                | (go_at_call 47; (with_reducible refine (ready_any bk h wt bh Dh Dw Db x _ H7.out.dag.bkm H7.out.dag.chmap H7.out.inc).mono ?_); rintro e w8 ⟨rfl, hb8⟩; rw [HRD.out]; have e0 := (H7.out.new hb8).box.cell 0; have e1 := (H7.out.new hb8).box.cell 1; have e2 := (H7.out.new hb8).box.cell 2; have e3 := (H7.out.new hb8).box.cell 3; have e4 := (H7.out.new hb8).box.cell 4; simp at e0 e1 e2 e3 e4)
                | (go_at_call 48; (with_reducible refine (bookFits_is bk h wt bh Dh Dw Db L x _ (H7.out.new hb8).dag.bkm (H7.out.new hb8).dag.behx (H7.out.new hb8).dag.inHas (H7.out.new hb8).dag.has (H7.out.new hb8).dag.good (H7.out.new hb8).dag.fine (H7.out.new hb8).inc HA.out.2.i2 (by have h1 := HN.out.1; have h2 := HN.out.2.2; omega) ⟨⟨by have := HA.out.2.st; omega, HA.out.2.st.2⟩, HA.out.2.ops⟩ HA.out.2.seq (HA.out.1 _ (H7.out.new hb8).dag (H7.out.new hb8).inc).2).mono ?_); rintro e w9 ⟨rfl, hb9⟩; rw [HFB.out]; clear e0 e1 e2 e3 e4))
              clear k0 k1 k2 k3 k4
              have H9 := Lib.hid ((H7.out.new hb8).new hb9)
              clear hb8 hb9
              cases z2 with
              | false =>
                go_wp2_with fail
                simp only [Exit.jump]
                go_ret
                exact ⟨7, Dh, Dw, Db, L, Wl, rfl, H9.out.dag, Only.of_below H9.out.bel, by rw [HT0.out]; exact Takes.misfit HE.out HNO.out.1 HNO.out.2 HLT.out HRL.out HFC.out⟩
              | true =>
                have e0 : w9.cell? ⟨w.heap.size, 0, none⟩ = some (.int .i64 x.actor) := H9.out.box.cell 0
                have e1 : w9.cell? ⟨w.heap.size, 1, none⟩ = some (.int .i64 x.seq) := H9.out.box.cell 1
                have e2 : w9.cell? ⟨w.heap.size, 2, none⟩ = some (.int .i64 x.start) := H9.out.box.cell 2
                have e3 : w9.cell? ⟨w.heap.size, 3, none⟩ = some (.slice x.dA x.deps.length x.dc) := H9.out.box.cell 3
                have e4 : w9.cell? ⟨w.heap.size, 4, none⟩ = some (.slice x.oA x.ops.length x.oc) := H9.out.box.cell 4
                go_wp2_with (go_at_call 49; (with_reducible refine (put_is bk h wt bh Dh Dw Db _ x _ H9.out.dag.bkm H9.out.dag.behx H9.out.inc HA.out.2.i2 (by have h1 := HN.out.1; have h2 := HN.out.2.2; omega) (by have h0 := H9.out.dag.sizeDb; have h1 := HN.out.1; have h2 := HN.out.2.2; omega) (HA.out.1 _ H9.out.dag H9.out.inc).2).mono ?_); rintro e w10 ⟨m, Dm, rfl, hp1, hp2, hp3, hp4, hpk, hp5⟩; have HPQ := Lib.hid (And.intro hp1 (And.intro hp2 (And.intro hp3 (And.intro hp4 (And.intro hpk hp5))))); clear hp1 hp2 hp3 hp4 hpk hp5; clear e0 e1 e2 e3 e4)
                go_step3
                simp only [Exit.then]
                refine ‹∀ (a : Act) (w : World), Code.wp _ _ _ a w → _› _ _ ?_
                obtain ⟨hp1, hp2, hp3, hp4, hpk, hp5⟩ := HPQ.out
                have hq3 : Maps.size Dh + Maps.size Dw < 120 := by have h1 := HN.out.1; have h2 := HN.out.2.1; omega
                have hD10 := H9.out.dag.put H9.out.fx (by rw [HX.out.1]; exact HE.out) (by rw [HX.out.2.1]; exact (HT.out.no rfl).1) (by rw [HX.out.2.1]; exact (HT.out.no rfl).2) (HA.out.1 _ H9.out.dag H9.out.inc).1 hq3 HFB.out hp1 hp2 hp3 hp4 hpk hp5
                exact HP.out _ _ ⟨_, _, _, _, _, hD10, (Only.of_below H9.out.bel).trans (hp5.mono (fun k _ e => by rcases e with e | e; exact .inl e; exact .inr (.inr e))), (fun A B hs => by rw [HT0.out]; rw [List.map_append] at hs; have hs : Settles (L.map PCh.ch ++ [x.ch]) _ _ _ := hs; rw [HX.out.1] at hs; exact Takes.fit HE.out HNO.out.1 HNO.out.2 HLT.out HRL.out HFC.out hs), _, rfl, rfl, rfl⟩
    · go_wp2_with (first
        | (go_at_call 45; (with_reducible refine (changeCheck_any c _ (HC0.out.2.2.below HC0.out.1.bel)).mono ?_); rintro e w1 ⟨rfl, hb1⟩; rw [HE.out, errC_ne hn]))
      simp only [Exit.jump]
      go_ret
      exact ⟨n, Dh, Dw, Db, L, Wl, by rw [errC_ne hn]; rfl, HC0.out.2.1.below (HC0.out.1.new hb1).bel, Only.of_below (HC0.out.1.new hb1).bel, by rw [HT0.out, ← HE.out]; exact Takes.bad (by rw [HE.out]; exact hn)⟩
end Go.Proofs.YteknflimfdkhoaaGreat
namespace Go.Proofs.YteknflimfdkhoaaGreat
open Go.RowKit Go.Maps
set_option linter.unusedVariables false
set_option linter.unusedSimpArgs false

theorem DocM.take {w w' : World} {F : Nat → Prop} {db bk h wt bh : Nat} {Dh Dw Db Dh' Dw' Db' : DataW Value} {L Wl L' Wl' : List PCh} {actor : Int} {A : Option Addr} {cp : Nat} {ps : List POp} (H : DocM w F db bk h wt bh Dh Dw Db L Wl actor A cp ps)
    (hD : DagX w' F bk h wt bh Dh' Dw' Db' L' Wl') (ho : Only (T3 h wt bh) w w') : DocM w' F db bk h wt bh Dh' Dw' Db' L' Wl' actor A cp ps := by
  obtain ⟨⟨a1, a2, a3, a4⟩, a5, a6⟩ := H.apart
  have hS : ∀ i, T3 h wt bh i → IsMapB w i := fun i e => by
    rcases e with rfl | rfl | rfl
    · exact H.dag.bkm.has.isMapB
    · exact H.dag.bkm.wts.isMapB
    · exact H.dag.bkm.beh.isMapB
  refine ⟨H.blk.only ho (fun e => by rcases e with e | e | e; exact a2 e; exact a3 e; exact a4 e), hD, H.act, row_keep H.row (fun b hb hl => ho.block b hl (fun e => by
    obtain ⟨_, h2, h3, h4⟩ := a6 b hb
    rcases e with e | e | e; exact h2 e; exact h3 e; exact h4 e)), H.nd, H.nA, fun o hm => (H.preds o hm).maps ho hS, fun o hm b hb => ⟨Nat.lt_of_lt_of_le (H.pne o hm b hb).1 ho.size, (H.pne o hm b hb).2⟩, H.fit, H.len⟩
/-- .. and so does the hand. -/
theorem DocA.take {w w' : World} {K F : Nat → Prop} {db bk h wt bh : Nat} {Dh Dw Db Dh' Dw' Db' : DataW Value} {L Wl L' Wl' : List PCh} {D : DocV} {A : Option Addr} {cp : Nat} {ps : List POp} (H : DocM w F db bk h wt bh Dh Dw Db L Wl D.actor A cp ps) (e3 : D.pend = ps.map POp.op) (e4 : ∀ i, i < w.heap.size → DocK F db bk h wt bh A ps i → K i)
    (hD : DagX w' F bk h wt bh Dh' Dw' Db' L' Wl') (ho : Only (T3 h wt bh) w w') : DocA w' (fun i => K i ∨ w.heap.size ≤ i) db { D with L := L'.map PCh.ch, W := Wl'.map PCh.ch } ∧ Only (fun i => K i ∧ i ≠ db) w w' := by
  obtain ⟨⟨a1, a2, a3, a4⟩, _, _⟩ := H.apart
  refine ⟨⟨F, bk, h, wt, bh, Dh', Dw', Db', L', Wl', A, cp, ps, H.take hD ho, rfl, rfl, e3, fun i hi k => ?_⟩, ho.mono (fun i hi e => ⟨e4 i hi ?_, fun h => by subst h; rcases e with e | e | e; exact a2 e; exact a3 e; exact a4 e⟩)⟩
  · by_cases hl : i < w.heap.size
    · exact .inl (e4 i hl k)
    · exact .inr (Nat.le_of_not_lt hl)
  · rcases e with e | e | e
    · exact .inr (.inr (.inr (.inl e)))
    · exact .inr (.inr (.inr (.inr (.inl e))))
    · exact .inr (.inr (.inr (.inr (.inr (.inl e)))))
/-- The book in a hand takes a change. -/
def BookTakeQ (w : World) (K : Nat → Prop) (db : Nat) (D : DocV) (c : Ch) (e : Ending) (w' : World) : Prop :=
  ∃ (n : Int) (L' W' : List Ch), e = .returned (errC n) ∧ Takes D.L D.W c n L' W' ∧ DocA w' (fun i => K i ∨ w.heap.size ≤ i) db { D with L := L', W := W' } ∧ Only (fun i => K i ∧ i ≠ db) w w'
theorem DocA.books {w : World} {K : Nat → Prop} {db : Nat} {D : DocV} (H : DocA w K db D) : ∃ (bk : Nat) (V : Value), Blk w db 57 #[.int .i64 D.actor, .pointer (some ⟨bk, 0, none⟩), V] ∧
    (∀ (w1 : World) (c : PCh), Below w.heap.size w w1 → InC w1 c → Calls Tryz.prog 20 #[.pointer (some ⟨bk, 0, none⟩), .agg #[.int .i64 c.actor, .int .i64 c.seq, .int .i64 c.start, .slice c.dA c.deps.length c.dc, .slice c.oA c.ops.length c.oc]] w1 (BookTakeQ w1 (fun i => K i ∧ i < w.heap.size) db D c.ch)) ∧
    (∀ (w1 : World) (r : Int × Int), I2 r → Below w.heap.size w w1 → Calls Tryz.prog 22 #[.pointer (some ⟨bk, 0, none⟩), .agg #[.int .i64 r.1, .int .i64 r.2]] w1 fun e w' => e = .returned (.bool (decide (r ∈ D.L.map Ch.ref))) ∧ Below w1.heap.size w1 w') := by
  obtain ⟨F, bk, h, wt, bh, Dh, Dw, Db, L, Wl, A, cp, ps, H, e1, e2, e3, e4⟩ := H
  refine ⟨bk, _, H.blk, fun w1 c hb1 hc => ?_, fun w1 r hr hb => ?_⟩
  · have H1 := H.other (S := fun _ => False) (Only.of_below hb1) (fun _ _ e => e.elim)
    refine (take_is _ bk h wt bh Dh Dw Db L Wl c w1 H1.dag hc).mono ?_
    rintro e w' ⟨n, Dh', Dw', Db', L', Wl', rfl, hD, ho, hT⟩
    obtain ⟨h1, h2⟩ := DocA.take (K := fun i => K i ∧ i < w.heap.size) H1 e3 (fun i hi k => by
      rcases H.k_lt k with (k2 | k2) | k2
      · refine ⟨e4 i k2.2 (.inl k2.1), k2.2⟩
      · omega
      · refine ⟨e4 i k2 ?_, k2⟩
        rcases k with (k | k) | k
        · exact .inl k.1
        · omega
        · exact .inr k) hD ho
    refine ⟨n, _, _, rfl, ?_, h1, h2⟩
    rw [e1, e2]
    exact hT
  · have hD := H.dag.below hb
    refine (has_any bk h wt bh Dh Dw Db r w1 hD.bkm hD.chmap hr).mono ?_
    rintro e w' ⟨rfl, hb⟩
    refine ⟨?_, hb⟩
    rw [e1, map_ch_ref]
    congr 2
    rw [Bool.eq_iff_iff, hD.hasB_mem hr, decide_eq_true_eq]
theorem DagX.empty {w : World} {bk h wt bh : Nat} (H : BkM w bk h wt bh (.map []) (.map []) (.map [])) : DagX w (fun i => w.heap.size ≤ i) bk h wt bh (.map []) (.map []) (.map []) [] [] := by
  have hn : ∀ r : Int × Int, mget (.map [] : DataW Value) r = Option.none := mget_empty
  have l1 := H.blk.lt
  have l2 := H.has.lt
  have l3 := H.wts.lt
  have l4 := H.beh.lt
  refine ⟨⟨H, fun r hr v hv => (by rw [hn] at hv; cases hv), fun r hr => rfl, fun r hr => (by rw [hn]; rfl), fun c hc => (by cases hc), List.nodup_nil, fun L1 c L2 e => (by simp at e), fun r hr v hv => (by rw [hn] at hv; cases hv), (by decide), fun r hr e => (by unfold hasB at e; rw [hn] at e; cases e)⟩,
    fun r hr v hv => (by rw [hn] at hv; cases hv), Fine.nil, fun r hr => (by rw [hn]; rfl), fun c hc => (by cases hc), List.nodup_nil, rfl, rfl, fun c hc => (by rcases hc with hc | hc <;> cases hc), fun r hr m hm => (by rw [hn] at hm; cases hm), ⟨by omega, by omega, by omega, by omega⟩, fun i hi => hi⟩
/-- What New answers. -/
def DocNewQ (w : World) (actor : Int) (e : Ending) (w' : World) : Prop :=
  ∃ db : Nat, e = .returned (.tuple #[.pointer (some ⟨db, 0, none⟩), .nilIface]) ∧ DocA w' (fun i => w.heap.size ≤ i) db ⟨actor, [], [], []⟩ ∧ Below w.heap.size w w'
set_option maxRecDepth 100000 in
set_option maxHeartbeats 1000000 in
theorem docNew_any (actor : Int) (w : World) (h1 : 1 ≤ actor) (h2 : actor ≤ 99) : Calls Tryz.prog 10 #[.int .i64 actor] w (DocNewQ w actor) := by
  go_enter Tryz.func10, Tryz.ntmps10
  go_wp2_with (go_at_call 28; (with_reducible refine (new_any _).mono ?_); (rintro e w1 ⟨bk, h, wt, bh, rfl, hB, l1, l2, l3, l4, hb1⟩); (have HB := Lib.hid (And.intro hB (And.intro l1 (And.intro l2 (And.intro l3 (And.intro l4 hb1)))))); (clear hB l1 l2 l3 l4 hb1))
  go_ret2
  obtain ⟨hB, l1, l2, l3, l4, hb1⟩ := HB.out
  have hb2 : Below w1.heap.size w1 (w1.alloc (.cells #[.int .i64 actor, .pointer (some ⟨bk, 0, none⟩), .slice none 0 0] 57)) := (Below.refl _ _).alloc (Nat.le_refl _) _
  refine ⟨w1.heap.size, rfl, ⟨_, bk, h, wt, bh, .map [], .map [], .map [], [], [], Option.none, 0, [], ⟨Blk.new _ _ _, DagX.empty (hB.below hb2), ⟨h1, h2⟩, World.ownsRow_nil _ _ _ _, by simp, fun b hb => (by cases hb), fun o ho => (by cases ho), fun o ho => (by cases ho), fun o ho => (by cases ho), Nat.zero_le _⟩, rfl, rfl, rfl, fun i hi k => ?_⟩, hb1.trans (hb2.mono hb1.size)⟩
  have hz := hb1.size
  rcases k with k | rfl | rfl | rfl | rfl | rfl | k | ⟨o, ho, _⟩
  · have k : (w1.alloc (.cells #[.int .i64 actor, .pointer (some ⟨bk, 0, none⟩), .slice none 0 0] 57)).heap.size ≤ i := k
    have := hb2.size
    show w.heap.size ≤ i
    omega
  · exact hz
  · exact l1
  · exact l2
  · exact l3
  · exact l4
  · cases k
  · cases ho
end Go.Proofs.YteknflimfdkhoaaGreat
