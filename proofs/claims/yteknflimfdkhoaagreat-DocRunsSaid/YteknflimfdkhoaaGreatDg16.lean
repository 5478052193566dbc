/- dag.Book.put: a contract. dag.op.place: a contract; a map of ops. -/
import Derived.Test.YteknflimfdkhoaaGreatDg15
namespace Go.Proofs.YteknflimfdkhoaaGreat
open Go.RowKit Go.Maps
set_option linter.unusedVariables false
set_option linter.unusedSimpArgs false

/-- What a change's past may hold: it, and what is there. -/
def Cont (Dh : DataW Value) (r : Int × Int) (Dm : DataW Value) : Prop := ∀ s, I2 s → ∀ u, mget Dm s = some u → u = .bool true ∧ (s = r ∨ hasB Dh s = true)
/-- What stands behind each change. -/
def BehOk (w : World) (h wt bh : Nat) (Dh Db : DataW Value) : Prop :=
  ∀ r, I2 r → ∀ v, mget Db r = some v → ∃ m Dm, v = .map (some m) ∧ OM w m Dm ∧ m ≠ h ∧ m ≠ wt ∧ m ≠ bh ∧ ∀ s, I2 s → ∀ u, mget Dm s = some u → u = .bool true ∧ hasB Dh s = true
theorem Cont.empty (Dh : DataW Value) (r : Int × Int) : Cont Dh r (.map []) := fun s _ u h => by rw [mget_empty] at h; cases h
theorem Cont.put {w : World} {m : Nat} {Dh Dm : DataW Value} {r x : Int × Int} (h : Cont Dh r Dm) (hm : OM w m Dm) (hx : I2 x) (hk : x = r ∨ hasB Dh x = true) : Cont Dh r (Dm.put (rlit x) (.held (.bool true))) := by
  intro s hs u hu
  rw [hm.get_put hx hs] at hu
  split at hu
  · rename_i e
    subst e
    exact ⟨(Option.some.inj hu).symm, hk⟩
  · exact h s hs u hu
theorem Cont.size {w w2 : World} {m h : Nat} {Dm Dh : DataW Value} {r : Int × Int} (hc : Cont Dh r Dm) (hm : OM w m Dm) (hh : OM w2 h Dh) : Maps.size Dm ≤ Maps.size Dh + 1 :=
  size_cont hm hh (fun s hs hb => by
    unfold hasB at hb
    obtain ⟨u, hu⟩ := Option.isSome_iff_exists.1 hb
    exact (hc s hs u hu).2)

/-- What put does. -/
def PutQ (w : World) (bk h wt bh : Nat) (Dh Dw Db : DataW Value) (c : PCh) (e : Ending) (w' : World) : Prop :=
  ∃ m Dm, e = .returned (.tuple #[]) ∧ BkM w' bk h wt bh (Dh.put (rlit c.ref) (.held c.value)) Dw (Db.put (rlit c.ref) (.held (.map (some m)))) ∧ OM w' m Dm ∧ w.heap.size ≤ m ∧ Cont Dh c.ref Dm ∧ Only (fun i => i = h ∨ i = bh) w w'

/-- What stands while put goes on. -/
structure PutB (w W : World) (bk h wt bh : Nat) (Dh Dw Db : DataW Value) (c : PCh) (rb m : Nat) : Prop where
  bkm : BkM W bk h wt bh (Dh.put (rlit c.ref) (.held c.value)) Dw Db
  rbox : Blk W rb 33 #[.int .i64 c.actor, .int .i64 c.seq]
  only : Only (fun i => i = h) w W
  mlt : m < W.heap.size
  wm : w.heap.size ≤ m
  rm : rb < m
  nm : bk ≠ m ∧ h ≠ m ∧ wt ≠ m ∧ bh ≠ m
/-- .. and what is put into the new past. -/
def PutI (W4 W : World) (Dh : DataW Value) (r : Int × Int) (m : Nat) : Prop := ∃ Dm, OM W m Dm ∧ Cont Dh r Dm ∧ Only (fun i => i = m) W4 W
theorem PutI.new {W4 W W' : World} {Dh : DataW Value} {r : Int × Int} {m : Nat} (h : PutI W4 W Dh r m) (hb : Below W.heap.size W W') : PutI W4 W' Dh r m := by
  obtain ⟨Dm, h1, h2, h3⟩ := h
  exact ⟨Dm, h1.below hb, h2, h3.trans (Only.of_below hb)⟩
theorem PutB.turn {w W4 W : World} {bk h wt bh : Nat} {Dh Dw Db : DataW Value} {c : PCh} {rb m : Nat} (H : PutB w W4 bk h wt bh Dh Dw Db c rb m) (hI : PutI W4 W Dh c.ref m) : PutB w W bk h wt bh Dh Dw Db c rb m := by
  obtain ⟨Dm, h1, h2, h3⟩ := hI
  have hrm := H.rm
  exact ⟨⟨H.bkm.blk.only h3 H.nm.1, H.bkm.has.only h3 H.nm.2.1, H.bkm.wts.only h3 H.nm.2.2.1, H.bkm.beh.only h3 H.nm.2.2.2, H.bkm.n1, H.bkm.n2, H.bkm.n3⟩, H.rbox.only h3 (by show rb ≠ m; omega),
    only_step H.only h3 (fun i hi e => by have := H.wm; omega), h1.lt, H.wm, H.rm, H.nm⟩

set_option maxRecDepth 100000 in
set_option maxHeartbeats 4000000 in
theorem put_any (bk h wt bh : Nat) (Dh Dw Db : DataW Value) (c : PCh) (w : World) (H : BkM w bk h wt bh Dh Dw Db) (hB : BehOk w h wt bh Dh Db) (hc : InC w c) (hr : I2 c.ref) (hsz : Maps.size Dh ≤ 1000) (hsb : Maps.size Db ≤ 1000)
    (hall : ∀ d ∈ c.deps, (mget Db d).isSome = true) :
    Calls Tryz.prog 49 #[.pointer (some ⟨bk, 0, none⟩), .agg #[.int .i64 c.actor, .int .i64 c.seq, .int .i64 c.start, .slice c.dA c.deps.length c.dc, .slice c.oA c.ops.length c.oc]] w (PutQ w bk h wt bh Dh Dw Db c) := by
  have hmm := @run_makeMap Tryz.prog
  obtain ⟨W0, hW0⟩ : ∃ W0, W0 = w.alloc (.cells #[.int .i64 c.actor, .int .i64 c.seq, .int .i64 c.start, .slice c.dA c.deps.length c.dc, .slice c.oA c.ops.length c.oc] 65) := ⟨_, rfl⟩
  have hb0 : CB w c W0 := by rw [hW0]; exact ⟨(Below.refl _ _).alloc (Nat.le_refl _) _, Blk.new _ _ _⟩
  have H0 := Lib.hid (And.intro hb0 (And.intro H (And.intro hB (And.intro hc (And.intro hr (And.intro hsz (And.intro hsb hall)))))))
  have HW0 := Lib.hid hW0
  clear hb0 H hB hc hr hsz hsb hall hW0
  go_enter Tryz.func49, Tryz.ntmps49
  go_wp2_with (go_at_call 21; refine (changeRef_any c _).mono ?_; rintro e w1 ⟨rfl, hb1⟩)
  rw [← HW0.out] at hb1
  have HC1 := Lib.hid (H0.out.1.new hb1)
  clear hb1
  obtain ⟨W2, hW2⟩ : ∃ W2, W2 = w1.alloc (.cells #[.int .i64 c.actor, .int .i64 c.seq] 33) := ⟨_, rfl⟩
  rw [← hW2]
  have hC2 : CB w c W2 := HC1.out.new (by rw [hW2]; exact (Below.refl _ _).alloc (Nat.le_refl _) _)
  have hR2 : Blk W2 w1.heap.size 33 #[.int .i64 c.actor, .int .i64 c.seq] := by rw [hW2]; exact Blk.new _ _ _
  have hM2 := H0.out.2.1.below hC2.bel
  have HC2 := Lib.hid (And.intro hC2 (And.intro hR2 hM2))
  have p0 : W2.cell? ⟨bk, 0, none⟩ = some (.map (some h)) := hM2.blk.cell 0
  have p1 : W2.cell? ⟨w1.heap.size, 0, none⟩ = some (.int .i64 c.actor) := hR2.cell 0
  have p2 : W2.cell? ⟨w1.heap.size, 1, none⟩ = some (.int .i64 c.seq) := hR2.cell 1
  have p3 : W2.cell? ⟨w.heap.size, 0, none⟩ = some (.int .i64 c.actor) := hC2.blk.cell 0
  have p4 : W2.cell? ⟨w.heap.size, 1, none⟩ = some (.int .i64 c.seq) := hC2.blk.cell 1
  have p5 : W2.cell? ⟨w.heap.size, 2, none⟩ = some (.int .i64 c.start) := hC2.blk.cell 2
  have p6 : W2.cell? ⟨w.heap.size, 3, none⟩ = some (.slice c.dA c.deps.length c.dc) := hC2.blk.cell 3
  have p7 : W2.cell? ⟨w.heap.size, 4, none⟩ = some (.slice c.oA c.ops.length c.oc) := hC2.blk.cell 4
  clear hC2 hR2 hM2 hW2
  go_still_tail 6, (by kernel_rfl)
  change wpList _ _ _ _ _ W2.drew
  refine wpList_upd _ rfl _ _ _ 93 rfl 33 65 pairRef Tryz.underlying93 h _ Dh rfl (show W2.drew.ownsMap Tryz.prog 33 anyElem h (Maps.size Dh) Dh from HC2.out.2.2.has) (by have := H0.out.2.2.2.2.2.1; unfold maxLen; omega) c.ref rfl H0.out.2.2.2.2.1 c.value rfl ?_
  intro W3 hm3 ho3 hs3
  clear p0 p1 p2 p3 p4 p5 p6 p7
  have hnb := HC2.out.2.2.nbk
  have hM3 : BkM W3 bk h wt bh (Dh.put (rlit c.ref) (.held c.value)) Dw Db := by
    obtain ⟨hC2, hR2, hM2⟩ := HC2.out
    refine ⟨(show Blk W2.drew bk _ _ from hM2.blk).only ho3 (by exact hnb.1), OM.of hm3, (show OM W2.drew wt Dw from hM2.wts).only ho3 (fun e => hM2.n1 e.symm), (show OM W2.drew bh Db from hM2.beh).only ho3 (fun e => hM2.n2 e.symm), hM2.n1, hM2.n2, hM2.n3⟩
  have hhl := H0.out.2.1.has.lt
  have hR3 : Blk W3 w1.heap.size 33 #[.int .i64 c.actor, .int .i64 c.seq] := (show Blk W2.drew _ _ _ from HC2.out.2.1).only ho3 (by have := HC1.out.bel.size; show w1.heap.size ≠ h; omega)
  have hC3 : Blk W3 w.heap.size 65 #[.int .i64 c.actor, .int .i64 c.seq, .int .i64 c.start, .slice c.dA c.deps.length c.dc, .slice c.oA c.ops.length c.oc] := (show Blk W2.drew _ _ _ from HC2.out.1.blk).only ho3 (by show w.heap.size ≠ h; omega)
  have hO3 : Only (fun i => i = h) w W3 := by
    have h1 : Only (fun i => i = h) w W2.drew := (Only.of_below HC2.out.1.bel).drew
    exact h1.trans ho3
  have H3 := Lib.hid (And.intro hM3 (And.intro hR3 (And.intro hC3 hO3)))
  have a1 : (W3.alloc (.map #[] 0)).cell? ⟨w1.heap.size, 0, none⟩ = some (.int .i64 c.actor) := (hR3.alloc _).cell 0
  have a2 : (W3.alloc (.map #[] 0)).cell? ⟨w1.heap.size, 1, none⟩ = some (.int .i64 c.seq) := (hR3.alloc _).cell 1
  clear hM3 hR3 hC3 hO3 hm3 ho3 hs3 hnb
  go_wp2_with (first
    | (with_reducible refine wpList_ins _ rfl _ _ _ 92 rfl 33 4 pairRef Tryz.underlying92 W3.heap.size 0 (.map []) rfl (World.ownsMap_made W3 _ _ _) (by unfold maxLen; omega) c.ref rfl H0.out.2.2.2.2.1 (.bool true) rfl ?_)
    | fail)
  intro W4 hm4 ho4 hs4
  obtain ⟨m, hme⟩ : ∃ m, m = W3.heap.size := ⟨_, rfl⟩
  rw [← hme] at hm4 ho4 ⊢
  have hP4 : PutB w W4 bk h wt bh Dh Dw Db c w1.heap.size m := by
    obtain ⟨hM3, hR3, hC3, hO3⟩ := H3.out
    have hal : Below W3.heap.size W3 (W3.alloc (.map #[] 0)) := (Below.refl _ _).alloc (Nat.le_refl _) _
    have g1 := hM3.below hal
    have l1 := hM3.has.lt
    have l2 := hM3.wts.lt
    have l3 := hM3.beh.lt
    have l4 := hM3.blk.lt
    have l5 := hR3.lt
    have l6 := H0.out.1.bel.size
    have l7 := hO3.size
    refine ⟨⟨g1.blk.only ho4 (by show bk ≠ m; omega), g1.has.only ho4 (by show h ≠ m; omega), g1.wts.only ho4 (by show wt ≠ m; omega), g1.beh.only ho4 (by show bh ≠ m; omega), g1.n1, g1.n2, g1.n3⟩, (hR3.alloc _).only ho4 (by show w1.heap.size ≠ m; omega), only_step (hO3.alloc _) ho4 (fun i hi e => by omega), by omega, by omega, by omega, by omega⟩
  have hI4 : PutI W4 W4 Dh c.ref m := by
    refine ⟨_, OM.of hm4, ?_, Only.refl _ _⟩
    have h0 : OM W3 m (.map []) ∨ True := .inr trivial
    intro s hs u hu
    rw [mget_put pairRef isMap_empty H0.out.2.2.2.2.1 hs] at hu
    split at hu
    · rename_i e; exact ⟨(Option.some.inj hu).symm, .inl e⟩
    · rw [mget_empty] at hu; cases hu
  have HP := Lib.hid (And.intro hP4 hI4)
  have hdl : c.deps.length ≤ 9223372036854775807 := by have := H0.out.2.2.2.1.dlen; unfold maxLen at this; omega
  have b3 : W4.cell? ⟨w.heap.size, 3, none⟩ = some (.slice c.dA c.deps.length c.dc) := by
    have hC4 : Blk W4 w.heap.size _ _ := (H3.out.2.2.1.alloc (.map #[] 0)).only ho4 (by have := H3.out.2.2.1.lt; show w.heap.size ≠ m; omega)
    exact hC4.cell 3
  clear hP4 hI4 hm4 ho4 hs4 a1 a2 hme hhl
  go_wp2_with fail
  clear b3
  go_loopw [23, 7, 8] (fun iv _ _ wr => ∃ k : Nat, iv = .int .i64 k ∧ k ≤ c.deps.length ∧ PutI W4 wr Dh c.ref m) (fun iv _ _ _ => c.deps.length - (intOf iv).toNat)
  case atStart => exact ⟨0, rfl, Nat.zero_le _, HP.out.2⟩
  case round =>
    obtain ⟨k, rfl, hk, hI⟩ := hrel
    by_cases hlt : k < c.deps.length
    · have hPr := HP.out.1.turn hI
      obtain ⟨b, off, d, ha, hd, hx, hy⟩ := (H0.out.2.2.2.1.deps.maps hPr.only (fun i e => by have : i = h := e; rw [this]; exact H0.out.2.1.has.isMapB)).ref hlt
      rw [ha]
      have hdm : d ∈ c.deps := List.mem_of_getElem? hd
      have hdi := H0.out.2.2.2.1.dep d hdm
      obtain ⟨v, hv⟩ := Option.isSome_iff_exists.1 (H0.out.2.2.2.2.2.2.2 d hdm)
      obtain ⟨md, Dd, rfl, hmd, hn1, hn2, hn3, hdd⟩ := H0.out.2.2.1 d hdi v hv
      have hmdl := hmd.lt
      have hmdr : OM wr md Dd := hmd.only hPr.only (fun e => hn1 e)
      obtain ⟨W5, hW5⟩ : ∃ W5, W5 = wr.alloc (.cells #[.int .i64 d.1, .int .i64 d.2] 33) := ⟨_, rfl⟩
      have hb5 : Below wr.heap.size wr W5 := by rw [hW5]; exact (Below.refl _ _).alloc (Nat.le_refl _) _
      have hI5 := hI.new hb5
      have hP5 := HP.out.1.turn hI5
      have hmd5 := hmdr.below hb5
      have hd5 : Blk W5 wr.heap.size 33 #[.int .i64 d.1, .int .i64 d.2] := by rw [hW5]; exact Blk.new _ _ _
      have HK := Lib.hid (And.intro hI5 (And.intro hP5 (And.intro hmd5 (And.intro hdd hd5))))
      have p0 : W5.cell? ⟨bk, 2, none⟩ = some (.map (some bh)) := hP5.bkm.blk.cell 2
      have p1 : W5.cell? ⟨wr.heap.size, 0, none⟩ = some (.int .i64 d.1) := hd5.cell 0
      have p2 : W5.cell? ⟨wr.heap.size, 1, none⟩ = some (.int .i64 d.2) := hd5.cell 1
      have hq : (Instr.lookup 94 (.map (some bh)) (.agg #[.int .i64 d.1, .int .i64 d.2]) false).run Tryz.prog W5.drew = .ok (.map (some md)) W5.drew := by
        have := run_look pairRef (w := W5.drew) (show W5.drew.ownsMap Tryz.prog 33 anyElem bh (Maps.size Db) Db from hP5.bkm.beh) Tryz.underlying94 (zeroMapB _) hdi
        rw [hv] at this
        exact this
      clear hI hPr hd hdm hdi hv hmd hn1 hn2 hn3 hdd hmdr hI5 hP5 hmd5 hd5 hb5
      go_wp2_with fail
      rw [← hW5]
      clear hW5 ha
      go_still_tail 6, (by kernel_rfl)
      change wpList _ _ _ _ _ W5.drew
      refine wpList_range_own _ rfl _ 92 rfl 33 4 keyedRef Tryz.underlying92 _ md _ _ rfl (show W5.drew.ownsMap Tryz.prog 33 anyElem md (Maps.size Dd) Dd from HK.out.2.2.1) ?_
      intro W6 hrg6 hg6 hs6
      obtain ⟨it, hit⟩ : ∃ it, it = W5.drew.heap.size := ⟨_, rfl⟩
      rw [← hit] at hrg6 ⊢
      have hI6 : PutI W4 W6 Dh c.ref m := by
        obtain ⟨Dm, h1, h2, h3⟩ := HK.out.1
        exact ⟨Dm, (show OM W5.drew m Dm from h1).only (only_grown0 (S := fun _ => False) hg6) (fun h => h), h2, (show Only _ W4 W5.drew from h3.drew).trans (only_grown0 hg6)⟩
      have hml : m < it := by have := HK.out.2.1.mlt; rw [hit]; exact this
      have h4it : W4.heap.size ≤ it := by
        obtain ⟨Dm, h1, h2, h3⟩ := HK.out.1
        have := h3.size
        rw [hit]; exact this
      have hmd : md ≠ m := by have := HP.out.1.wm; omega
      have HI := Lib.hid (And.intro hI6 hrg6)
      clear hrg6 hg6 hs6 hI6 p0 p1 p2 hq hit hx hy
      go_wp2_with fail
      go_frame
      go_loopw [8] (fun _ wj => ∃ (left : Lit → Bool) (cnt : Nat), wj.ranges Tryz.prog 33 anyElem md it (Maps.size Dd) Dd left cnt ∧ PutI W4 wj Dh c.ref m) (fun _ wj => wj.rangeLeft md it)
      case atStart => exact ⟨_, _, HI.out.2, HI.out.1⟩
      case round =>
        obtain ⟨left, cnt, hrg, hI⟩ := hrel
        have HR := Lib.hid hI
        clear hI
        go_wp2_with (first | (at_next; refine wpList_next_pair _ rfl _ rfl 33 pairRef md it _ Dd _ _ rfl hrg ?_ ?_) | fail)
        · intro hc0 hl0
          go_wp2_with fail
          exact ⟨⟨k + 1, by push_cast; rfl, by omega, HR.out⟩, by simp [intOf]; omega⟩
        · intro x1 x2 v w2 cnt2 hx hl2 hat hrg2 hlt2 ho2 hs2 hen2
          obtain ⟨hv, hxk⟩ := HK.out.2.2.2.1 (x1, x2) hx v hat
          have hI2 : ∃ Dm, OM w2 m Dm ∧ Cont Dh c.ref Dm ∧ Only (fun i => i = m) W4 w2 := by
            obtain ⟨Dm, h1, h2, h3⟩ := HR.out
            exact ⟨Dm, h1.only ho2 (by show m ≠ it; omega), h2, only_step h3 ho2 (fun i hi e => by have : i = it := e; omega)⟩
          obtain ⟨Dm, hm2, hc2, hon2⟩ := hI2
          have hsm : Maps.size Dm < maxLen := by
            have := hc2.size hm2 H0.out.2.1.has
            have := H0.out.2.2.2.2.2.1
            unfold maxLen
            omega
          have hm3 : OM (w2.alloc (.cells #[.int .i64 x1, .int .i64 x2] 33)) m Dm := hm2.below ((Below.refl _ _).alloc (Nat.le_refl _) _)
          have hlt := hrg.left_eq
          have HX := Lib.hid (And.intro hrg2 (And.intro hc2 (And.intro hon2 (And.intro hxk (And.intro hlt2 (And.intro hlt hm3))))))
          clear hrg hrg2 hc2 hon2 hxk hlt2 hat hl2 ho2 hs2 hlt hm2
          subst hv
          go_wp2_with (first
            | (at_mapUpdate; refine wpList_upd _ rfl _ _ _ 92 rfl 33 4 pairRef Tryz.underlying92 m _ Dm rfl hm3 hsm (x1, x2) rfl hx (.bool true) rfl ?_; intro w4 hm4 ho4 hs4; go_frame)
            | fail)
          obtain ⟨hrg2, hc2, hon2, hxk, hlt2, hlt, hm3'⟩ := HX.out
          have hrg4 := ranges_only (hrg2.alloc (.cells #[.int .i64 x1, .int .i64 x2] 33)) ho4 (by show ¬ (md = m); exact hmd) (by show ¬ (it = m); omega)
          refine ⟨⟨_, cnt2, hrg4, _, OM.of hm4, hc2.put hm3' hx (.inr hxk), (hon2.alloc _).trans ho4⟩, ?_⟩
          rw [hlt, hrg4.left_eq]
          exact hlt2
    · obtain rfl : k = c.deps.length := by omega
      have hPr := HP.out.1.turn hI
      have p0 : wr.cell? ⟨bk, 2, none⟩ = some (.map (some bh)) := hPr.bkm.blk.cell 2
      have p1 : wr.cell? ⟨w1.heap.size, 0, none⟩ = some (.int .i64 c.actor) := hPr.rbox.cell 0
      have p2 : wr.cell? ⟨w1.heap.size, 1, none⟩ = some (.int .i64 c.seq) := hPr.rbox.cell 1
      have HK := Lib.hid (And.intro hPr hI)
      clear hPr hI
      go_wp2_with fail
      go_still_tail 6, (by kernel_rfl)
      change wpList _ _ _ _ _ wr.drew
      refine wpList_upd _ rfl _ _ _ 94 rfl 33 92 pairRef Tryz.underlying94 bh _ Db rfl (show wr.drew.ownsMap Tryz.prog 33 anyElem bh (Maps.size Db) Db from HK.out.1.bkm.beh) (by have := H0.out.2.2.2.2.2.2.1; unfold maxLen; omega) c.ref rfl H0.out.2.2.2.2.1 (.map (some m)) rfl ?_
      intro W8 hm8 ho8 hs8
      obtain ⟨hPr, Dm, hm, hcm, hon⟩ := HK.out
      clear p0 p1 p2
      go_wp2_with fail
      go_end0
      have hnb := hPr.bkm.nbk
      have hbm : bh ≠ m := hPr.nm.2.2.2
      refine ⟨m, Dm, rfl, ⟨(show Blk wr.drew _ _ _ from hPr.bkm.blk).only ho8 (fun e => hnb.2.2 e), (show OM wr.drew h _ from hPr.bkm.has).only ho8 (fun e => hPr.bkm.n2 e), (show OM wr.drew wt _ from hPr.bkm.wts).only ho8 (fun e => hPr.bkm.n3 e), OM.of hm8, hPr.bkm.n1, hPr.bkm.n2, hPr.bkm.n3⟩, (show OM wr.drew m _ from hm).only ho8 (fun e => hbm e.symm), HP.out.1.wm, hcm, ?_⟩
      have h1 : Only (fun i => i = h ∨ i = bh) w wr.drew := (hPr.only.mono (fun i _ hi => .inl hi)).drew
      exact only_step h1 ho8 (fun i _ e => .inr e)
end Go.Proofs.YteknflimfdkhoaaGreat
namespace Go.Proofs.YteknflimfdkhoaaGreat
open Go.RowKit Go.Maps
set_option linter.unusedVariables false
set_option linter.unusedSimpArgs false

/-- An op that is known, with its id. -/
def opxCells (o : OpV) (pA : Option Addr) (pc : Nat) (n : Int × Int) : Array Value := #[.int .i64 o.kind, .int .i64 o.obj.1, .int .i64 o.obj.2, .string o.key, .int .i64 o.elem.1, .int .i64 o.elem.2, .bool o.ins, .int .i64 o.val.k, .int .i64 o.val.n, .string o.val.s, .int .i64 o.val.o, .int .i64 o.val.p, .slice pA o.preds.length pc, .int .i64 n.1, .int .i64 n.2]
def OpX (o : OpV) (pA : Option Addr) (pc : Nat) (n : Int × Int) : Value := .agg #[.int .i64 o.kind, .int .i64 o.obj.1, .int .i64 o.obj.2, .string o.key, .int .i64 o.elem.1, .int .i64 o.elem.2, .bool o.ins, .int .i64 o.val.k, .int .i64 o.val.n, .string o.val.s, .int .i64 o.val.o, .int .i64 o.val.p, .slice pA o.preds.length pc, .int .i64 n.1, .int .i64 n.2]
def zOpV : OpV := ⟨0, (0, 0), ⟨#[]⟩, (0, 0), false, ⟨0, 0, ⟨#[]⟩, 0, 0⟩, []⟩
theorem zeroOpX (w : World) : (zeroValue 135).run Tryz.prog w = .ok (OpX zOpV none 0 (0, 0)) w := by kernel_rfl
/-- A map of ops. -/
def OpsM (w : World) (m : Nat) (D : DataW Value) : Prop := w.ownsMap Tryz.prog 24 anyElem m (Maps.size D) D ∧ ∀ r, I2 r → ∀ v, mget D r = some v → ∃ o pA pc n, v = OpX o pA pc n
theorem OpsM.only {w w' : World} {S : Nat → Prop} {b : Nat} {D : DataW Value} (h : OpsM w b D) (ho : Only S w w') (hn : ¬ S b) : OpsM w' b D := ⟨own_only h.1 ho hn, h.2⟩
theorem OpsM.below {w w' : World} {b : Nat} {D : DataW Value} (h : OpsM w b D) (hb : Below w.heap.size w w') : OpsM w' b D := h.only (Only.of_below (S := fun _ => False) hb) (fun h => h)
theorem OpsM.get {w : World} {m : Nat} {D : DataW Value} (h : OpsM w m D) {r : Int × Int} (hr : I2 r) : ∃ o pA pc n, (mget D r).getD (OpX zOpV none 0 (0, 0)) = OpX o pA pc n := by
  cases e : mget D r with
  | none => exact ⟨_, _, _, _, rfl⟩
  | some v => obtain ⟨o, pA, pc, n, hv⟩ := h.2 r hr v e; exact ⟨o, pA, pc, n, hv⟩
theorem OpsM.put {w w' : World} {m k : Nat} {D : DataW Value} (h : OpsM w m D) {r : Int × Int} (hr : I2 r) {o : OpV} {pA : Option Addr} {pc : Nat} {n : Int × Int}
    (h2 : w'.ownsMap Tryz.prog 24 anyElem m k (D.put (rlit r) (.held (OpX o pA pc n)))) : OpsM w' m (D.put (rlit r) (.held (OpX o pA pc n))) := by
  refine ⟨own_tight h2, fun s hs v hv => ?_⟩
  rw [mget_put pairId (World.ownsMap.isMap h.1) hr hs] at hv
  split at hv
  · exact ⟨o, pA, pc, n, (Option.some.inj hv).symm⟩
  · exact h.2 s hs v hv

/-- An op's place. -/
def PlaceE (a b : Int) (s : ByteArray) (c d : Int) (w : World) (e : Ending) (w' : World) : Prop := e = .returned (.agg #[.int .i64 a, .int .i64 b, .string s, .int .i64 c, .int .i64 d]) ∧ Below w.heap.size w w'
set_option maxRecDepth 100000 in
set_option maxHeartbeats 1000000 in
theorem place_any (o : OpV) (pA : Option Addr) (pc : Nat) (n : Int × Int) : ∃ (a b : Int) (s : ByteArray) (c d : Int), ∀ w, Calls Tryz.prog 89 #[OpX o pA pc n] w (PlaceE a b s c d w) := by
  unfold OpX
  cases hi : o.ins
  · refine ⟨o.obj.1, o.obj.2, o.key, o.elem.1, o.elem.2, fun w => ?_⟩
    go_enter Tryz.func89, Tryz.ntmps89
    go_wp2_with fail
    refine bodyPost_ret (results_cell_row Tryz.results89 _ _ (w.heap.size + 1) _ _ _ _ rfl ((Blk.newer _ _ _ (by simp)).alloc _) Tryz.underlying150 rfl (by kernel_rfl)) rfl ?_
    refine ⟨rfl, ?_⟩
    exact (((Below.refl _ _).alloc (Nat.le_refl _) _).alloc (by simp) _).alloc (by simp; omega) _
  · refine ⟨o.obj.1, o.obj.2, o.key, n.1, n.2, fun w => ?_⟩
    go_enter Tryz.func89, Tryz.ntmps89
    go_wp2_with fail
    refine bodyPost_ret (results_cell_row Tryz.results89 _ _ (w.heap.size + 1) _ _ _ _ rfl ((Blk.newer _ _ _ (by simp)).alloc _) Tryz.underlying150 rfl (by kernel_rfl)) rfl ?_
    refine ⟨rfl, ?_⟩
    exact (((Below.refl _ _).alloc (Nat.le_refl _) _).alloc (by simp) _).alloc (by simp; omega) _
theorem place_split (a1 a2 b1 b2 c1 c2 d1 d2 : Int) (s t : ByteArray) : (a1 = a2 ∧ b1 = b2 ∧ s = t ∧ c1 = c2 ∧ d1 = d2) ∨ (¬ a1 = a2) ∨ (a1 = a2 ∧ ¬ b1 = b2) ∨ (a1 = a2 ∧ b1 = b2 ∧ ¬ s.toList = t.toList ∧ ¬ s = t ∧ decide (s = t) = false) ∨ (a1 = a2 ∧ b1 = b2 ∧ s = t ∧ ¬ c1 = c2) ∨ (a1 = a2 ∧ b1 = b2 ∧ s = t ∧ c1 = c2 ∧ ¬ d1 = d2) := by
  by_cases h1 : a1 = a2 <;> by_cases h2 : b1 = b2 <;> by_cases h3 : s = t <;> by_cases h4 : c1 = c2 <;> by_cases h5 : d1 = d2 <;> simp [h1, h2, h3, h4, h5]
  all_goals exact fun e => h3 (Go.WideShapes.bytes_inj (by simpa [ByteArray.toList_eq] using e))
end Go.Proofs.YteknflimfdkhoaaGreat
