/- dag.Book.Take: a contract. A state in memory: its kinds, its values. -/
import Derived.Test.YthimkpkoimfkiaaGreatCg18
import Derived.ScopeJumps
import Derived.WalkMore
import Derived.IntWalk
import Derived.Test.YthimkpkoimfkiaaGreatCg5
namespace Go.Proofs.YthimkpkoimfkiaaGreat
open Go.RowKit Go.Maps Go.WideShapes
set_option linter.unusedVariables false
set_option linter.unusedSimpArgs false

/-- A scope in which the run jumps back to one label: what stands behind the label is walked once. -/
theorem wp_scope_jumps1 {P : Program} {a : Act} {w : World} {Q : Exit → Act → World → Prop} {c X : Code} (l : Nat) (J : Act → World → Prop) (μ : Act → World → Nat) (hf : findLabel c l = some (Code.skip.seq X))
    (pass : ∀ a w, J a w → X.wp P (Exit.jump l (fun a' w' => J a' w' ∧ μ a' w' < μ a w) Q) a w)
    (first : (∀ a w, J a w → X.wp P (Exit.jump l J Q) a w) → c.wp P (Exit.jump l J Q) a w) : (Code.scope c).wp P Q a w := by
  refine wp_scope_jumps l J μ hf (first (fun a w h => ?_)) (fun a w h => wp_seq (wp_skip (pass a w h)))
  intro b k cs
  obtain ⟨e, a', w', hq, harr⟩ := pass a w h b k cs
  refine ⟨e, a', w', ?_, harr⟩
  cases e with
  | goto l' => exact ⟨hq.1, hq.2.1⟩
  | normal => exact hq
  | exit id => exact hq
  | ret => exact hq
  | panic ch => exact hq
  | outgrown => exact hq

/-- 'delete(m, k)'. -/
theorem wpList_del {P : Program} (w : World) {ops : Array Oper} {rest : List Oper} {o : Oper} {a : Act} {Q : Exit → Act → World → Prop} (hg : o.guard = none) (m x : Operand) (t k : TypeId)
    (hop : o.op = .call { callee := .builtin .delete, args := #[m, x], argTypes := #[t, k] }) (e : TypeId) (K : PairK P k) (ht : P.underlying t = some (.map k e))
    (b n : Nat) (D : DataW Value) (hm : a.eval m = .map (some b)) (hown : w.ownsMap P k anyElem b n D) (r : Int × Int) (hx : a.eval x = refV r) (hr : I2 r)
    (hK : ∀ w', w'.ownsMap P k anyElem b n (D.del (rlit r)) → Only (fun i => i = b) w w' → w'.heap.size = w.heap.size → wpList P ops Q rest (a.put o.dst (.tuple #[])) w') : wpList P ops Q (o :: rest) a w := by
  refine wpList_plain hg fun K' hK' => ?_
  obtain ⟨w', hrun, r1, r2⟩ := hown.drop K.keyed ht (K.of_ r hr) o.type
  have hs : w'.heap.size = w.heap.size := by
    obtain ⟨es, clock, es', clock', _, rfl⟩ := r2
    simp [Go.ChangeMaps.setBlock]
  unfold Oper.wp execOp
  simp only [hop, resolve, invoke, builtin, Sem.run_bind, Sem.run_pure, Result.andThen_ok, List.map_toArray, List.map_cons, List.map_nil, hm, hx]
  rw [show refV r = .agg #[.int .i64 r.1, .int .i64 r.2] from rfl] at hrun ⊢
  simp only [hrun]
  exact hK' _ _ (hK w' r1 (only_turned r2) hs)

def T3 (h wt bh : Nat) : Nat → Prop := fun i => i = h ∨ i = wt ∨ i = bh
/-- How many entries a map has. -/
def entsOf (W : World) (b : Nat) : Nat := match W.heap[b]? with | some (.map es _) => es.size | _ => 0
theorem entsOf_eq {W : World} {b : Nat} {D : DataW Value} (h : OM W b D) : entsOf W b = Maps.size D := by
  obtain ⟨es, ck, hb, F, hs, rfl⟩ := h
  unfold entsOf
  rw [hb]
  simp [Maps.size, length_sorted]
/-- What stands at each jump. -/
def TkJ (w : World) (bk h wt bh : Nat) (a : Act) (W : World) : Prop :=
  ∃ (Dh Dw Db : DataW Value) (L : List PCh), Dag W bk h wt bh Dh Dw Db L ∧ Only (T3 h wt bh) w W ∧
    ∃ l : List Value, a = { tmps := l.toArray, defers := [] } ∧ l.length = 115 ∧ l.getD 0 undef = .pointer (some ⟨bk, 0, none⟩)
theorem frame_lit (l : List Value) (v : Value) (h : l.length = 115) (h0 : l.getD 0 undef = v) : ∃ f : Nat → Value, l = [v, f 1, f 2, f 3, f 4, f 5, f 6, f 7, f 8, f 9, f 10, f 11, f 12, f 13, f 14, f 15, f 16, f 17, f 18, f 19, f 20, f 21, f 22, f 23, f 24, f 25, f 26, f 27, f 28, f 29, f 30, f 31, f 32, f 33, f 34, f 35, f 36, f 37, f 38, f 39, f 40, f 41, f 42, f 43, f 44, f 45, f 46, f 47, f 48, f 49, f 50, f 51, f 52, f 53, f 54, f 55, f 56, f 57, f 58, f 59, f 60, f 61, f 62, f 63, f 64, f 65, f 66, f 67, f 68, f 69, f 70, f 71, f 72, f 73, f 74, f 75, f 76, f 77, f 78, f 79, f 80, f 81, f 82, f 83, f 84, f 85, f 86, f 87, f 88, f 89, f 90, f 91, f 92, f 93, f 94, f 95, f 96, f 97, f 98, f 99, f 100, f 101, f 102, f 103, f 104, f 105, f 106, f 107, f 108, f 109, f 110, f 111, f 112, f 113, f 114] := by
  refine ⟨fun i => l.getD i undef, ?_⟩
  have e : l = (List.range 115).map (fun i => l.getD i undef) := by
    rw [← h]
    apply List.ext_getElem
    · simp
    · intro i h1 h2
      simp [List.getD_eq_getElem?_getD, h1]
  rw [← h0]
  exact e
/-- What Take does. -/
def TakeQ (w : World) (bk h wt bh : Nat) (e : Ending) (w' : World) : Prop :=
  ∃ (n : Int) (Dh Dw Db : DataW Value) (L : List PCh), e = .returned (errC n) ∧ Dag w' bk h wt bh Dh Dw Db L ∧ Only (T3 h wt bh) w w'
/-- What stands behind the look-ups. -/
structure Tk2 (w : World) (bk h wt bh : Nat) (Dh Dw Db : DataW Value) (L : List PCh) (c : PCh) (rb xb : Nat) (y : PCh) (z : Bool) (W : World) : Prop where
  cb : CB w c W
  rbx : Blk W rb 33 #[.int .i64 c.actor, .int .i64 c.seq]
  dag : Dag W bk h wt bh Dh Dw Db L
  inc : InC W c
  xbx : Blk W xb 67 #[.int .i64 y.actor, .int .i64 y.seq, .int .i64 y.start, .slice y.dA y.deps.length y.dc, .slice y.oA y.ops.length y.oc]
  yes : z = true → InC W y
  no : z = false → hasB Dh c.ref = false ∧ hasB Dw c.ref = false
/-- What stands behind the copy. -/
structure Tk3 (w : World) (bk h wt bh : Nat) (Dh Dw Db : DataW Value) (L : List PCh) (c : PCh) (rb : Nat) (x : PCh) (W : World) : Prop where
  bel : Below w.heap.size w W
  box : Blk W w.heap.size 67 #[.int .i64 x.actor, .int .i64 x.seq, .int .i64 x.start, .slice x.dA x.deps.length x.dc, .slice x.oA x.ops.length x.oc]
  rbx : Blk W rb 33 #[.int .i64 c.actor, .int .i64 c.seq]
  dag : Dag W bk h wt bh Dh Dw Db L
  inc : InC W x
theorem Tk3.new {w W W' : World} {bk h wt bh : Nat} {Dh Dw Db : DataW Value} {L : List PCh} {c x : PCh} {rb : Nat} (H : Tk3 w bk h wt bh Dh Dw Db L c rb x W) (hb : Below W.heap.size W W') : Tk3 w bk h wt bh Dh Dw Db L c rb x W' :=
  ⟨H.bel.trans (hb.mono H.bel.size), H.box.below hb H.box.lt, H.rbx.below hb H.rbx.lt, H.dag.below hb, H.inc.below hb⟩
/-- What holds at each round of the last loop. -/
def TkR (w : World) (bk h wt bh : Nat) (Dh Dw Db : DataW Value) (L : List PCh) (A : Option Addr) (sl : List (Int × Int)) (k : Nat) (W : World) : Prop :=
  ∃ Dw', Dag W bk h wt bh Dh Dw' Db L ∧ Only (T3 h wt bh) w W ∧ SlAt W A (refs sl) ∧ Maps.size Dw' ≤ Maps.size Dw ∧ ∀ i r, k ≤ i → sl[i]? = some r → hasB Dw' r = true
theorem T3_map {w : World} {bk h wt bh : Nat} {Dh Dw Db : DataW Value} {L : List PCh} (H : Dag w bk h wt bh Dh Dw Db L) : ∀ i, T3 h wt bh i → IsMapB w i := fun i e => by
  rcases e with rfl | rfl | rfl
  · exact H.bkm.has.isMapB
  · exact H.bkm.wts.isMapB
  · exact H.bkm.beh.isMapB

set_option maxRecDepth 100000 in
set_option maxHeartbeats 4000000 in
theorem take_any (bk h wt bh : Nat) (Dh Dw Db : DataW Value) (L : List PCh) (c : PCh) (w : World) (H : Dag w bk h wt bh Dh Dw Db L) (hc : InC w c) :
    Calls Tryz.prog 21 #[.pointer (some ⟨bk, 0, none⟩), .agg #[.int .i64 c.actor, .int .i64 c.seq, .int .i64 c.start, .slice c.dA c.deps.length c.dc, .slice c.oA c.ops.length c.oc]] w (TakeQ w bk h wt bh) := by
  obtain ⟨W0, hW0⟩ : ∃ W0, W0 = w.alloc (.cells #[.int .i64 c.actor, .int .i64 c.seq, .int .i64 c.start, .slice c.dA c.deps.length c.dc, .slice c.oA c.ops.length c.oc] 67) := ⟨_, rfl⟩
  have hC0 : CB w c W0 := by rw [hW0]; exact ⟨(Below.refl _ _).alloc (Nat.le_refl _) _, Blk.new _ _ _⟩
  have HC0 := Lib.hid (And.intro hC0 (And.intro H hc))
  have HW0 := Lib.hid hW0
  clear hC0 H hc hW0
  go_enter Tryz.func21, Tryz.ntmps21
  go_wp2_with fail
  rw [← HW0.out]
  refine wp_scope_jumps1 0 (TkJ w bk h wt bh) (fun _ W => entsOf W wt) rfl ?pass ?first
  case pass =>
    rintro a W ⟨Dh, Dw, Db, L, hD, hO, l0, rfl, hl0, hl1⟩
    obtain ⟨f, rfl⟩ := frame_lit l0 _ hl0 hl1
    clear hl0 hl1
    have HD := Lib.hid (And.intro hD hO)
    clear hD hO
    have p0 : W.cell? ⟨bk, 1, none⟩ = some (.map (some wt)) := HD.out.1.bkm.blk.cell 1
    have HO := Lib.hid (show W.ownsMap Tryz.prog 33 anyElem wt (Maps.size Dw) Dw from HD.out.1.bkm.wts)
    go_wp2_with (go_at_call 35; (with_reducible refine (rising_any wt _ Dw _ HO.out (by have := HD.out.1.sz; omega)).mono ?_); rintro e w1 ⟨l, A, cc, hk, hl, rfl, hown, hb1⟩; have HK := Lib.hid (And.intro hk (And.intro hl (And.intro hown hb1))); clear hk hown hb1 hl; have hll : l.length ≤ 120 := by have := HD.out.1.sz; have := HK.out.2.1; omega)
    clear p0
    go_loopw [89, 10, 11] (fun iv _ _ wr => ∃ k : Nat, iv = .int .i64 k ∧ k ≤ l.length ∧ TkR w bk h wt bh Dh Dw Db L A (sortR l) k wr) (fun iv _ _ _ => l.length - (intOf iv).toNat)
    case atStart =>
      obtain ⟨hk, hl, hown, hb1⟩ := HK.out
      refine ⟨0, rfl, Nat.zero_le _, Dw, HD.out.1.below hb1, HD.out.2.trans (Only.of_below hb1), SlAt.of_owns hown, Nat.le_refl _, fun i r _ hi => ?_⟩
      have hm := (sortR_mem l r).1 (List.mem_of_getElem? hi)
      exact (hk.mem r (hk.i2 r hm)).1 hm
    case round =>
      obtain ⟨k, rfl, hk, Dw', hD, hO, hA, hs, hw⟩ := hrel
      by_cases hlt : k < l.length
      · have hlt2 : k < (sortR l).length := by rw [sortR_len]; exact hlt
        obtain ⟨b, off, d, ha, hd, hx, hy⟩ := hA.ref hlt2
        have hdi := HK.out.1.i2 d ((sortR_mem l d).1 (List.mem_of_getElem? hd))
        obtain ⟨v, hv⟩ := Option.isSome_iff_exists.1 (show (mget Dw' d).isSome = true from hw k d (Nat.le_refl _) hd)
        obtain ⟨x, hvx, hxI, hxg, hxr⟩ := hD.wts d hdi v hv
        subst hvx
        obtain ⟨W5, hW5⟩ : ∃ W5, W5 = wr.alloc (.cells #[.int .i64 d.1, .int .i64 d.2] 33) := ⟨_, rfl⟩
        have hb5 : Below wr.heap.size wr W5 := by rw [hW5]; exact (Below.refl _ _).alloc (Nat.le_refl _) _
        have hR5 : Blk W5 wr.heap.size 33 #[.int .i64 d.1, .int .i64 d.2] := by rw [hW5]; exact Blk.new _ _ _
        obtain ⟨rb, hrb⟩ : ∃ rb, rb = wr.heap.size := ⟨_, rfl⟩
        have HAA := Lib.hid ha
        have H5 := Lib.hid (And.intro (hD.below hb5) (And.intro (hO.trans (Only.of_below hb5)) (And.intro (hA.below hb5) (And.intro hs (And.intro hw (And.intro hdi (And.intro hd (And.intro (hxI.below hb5) (And.intro hxg hxr)))))))))
        have hmg : (mget Dw' d).getD zCh = x.value := by rw [hv]; rfl
        have hS : ∀ W, Below W5.heap.size W5 W → W.cell? ⟨bk, 1, none⟩ = some (.map (some wt)) ∧ W.cell? ⟨wr.heap.size, 0, none⟩ = some (.int .i64 d.1) ∧ W.cell? ⟨wr.heap.size, 1, none⟩ = some (.int .i64 d.2) ∧ (Instr.lookup 84 (.map (some wt)) (.agg #[.int .i64 d.1, .int .i64 d.2]) false).run Tryz.prog W = .ok (.agg #[.int .i64 x.actor, .int .i64 x.seq, .int .i64 x.start, .slice x.dA x.deps.length x.dc, .slice x.oA x.ops.length x.oc]) W := by
          intro W hW
          have h2 := H5.out.1.bkm.below hW
          have hR := hR5.below hW hR5.lt
          refine ⟨h2.blk.cell 1, hR.cell 0, hR.cell 1, ?_⟩
          have := run_look pairRef (w := W) h2.wts Tryz.underlying84 (zeroCh _) hdi
          rw [hmg] at this
          exact this
        have HKS := Lib.hid hS
        have HR5 := Lib.hid hR5
        clear hD hO hA hs hw hdi hv hxI hxg hxr hb5 hR5 hmg hS hlt2 hd
        rw [ha]
        clear ha
        go_upto_region 24 with (fail)
        rw [← hW5]
        clear hW5 hx hy
        go_cut [11] from 93 to 98 (fun s11 wx => ∃ xb, s11 = .pointer (some ⟨xb, 0, none⟩) ∧ Below W5.heap.size W5 wx ∧ Blk wx xb 67 #[.int .i64 x.actor, .int .i64 x.seq, .int .i64 x.start, .slice x.dA x.deps.length x.dc, .slice x.oA x.ops.length x.oc])
        case first =>
          obtain ⟨p0, p1, p2, p3⟩ := HKS.out W5 (Below.refl _ _)
          go_region_held3 (fun w' => w'.cell? ⟨bk, 1, none⟩ = some (.map (some wt)) ∧ w'.cell? ⟨wr.heap.size, 0, none⟩ = some (.int .i64 d.1) ∧ w'.cell? ⟨wr.heap.size, 1, none⟩ = some (.int .i64 d.2) ∧ (Instr.lookup 84 (.map (some wt)) (.agg #[.int .i64 d.1, .int .i64 d.2]) false).run Tryz.prog w' = .ok (.agg #[.int .i64 x.actor, .int .i64 x.seq, .int .i64 x.start, .slice x.dA x.deps.length x.dc, .slice x.oA x.ops.length x.oc]) w')
            (first | (with_reducible exact HKS.out _ (Below.refl _ W5).drew) | (with_reducible exact HKS.out _ ((Below.refl _ W5).alloc (Nat.le_refl _) _).drew) | go_keep) (first | fail)
          all_goals
            go_wp2_with fail
            go_meet
            exact ⟨_, rfl, ((Below.refl _ _).alloc (Nat.le_refl _) _).drew, Blk.new W5 _ _⟩
        case rest =>
          obtain ⟨xb, rfl, hb6, hX6⟩ := hcut
          have H6 := Lib.hid (And.intro (H5.out.1.below hb6) (And.intro (H5.out.2.1.trans (Only.of_below hb6)) (And.intro (H5.out.2.2.1.below hb6) (And.intro hX6 (And.intro (HR5.out.below hb6 HR5.out.lt) (H5.out.2.2.2.2.2.2.2.1.below hb6))))))
          clear hb6 hX6
          have hg2 : GoodC x := chE_good H5.out.2.2.2.2.2.2.2.2.1
          have HG := Lib.hid hg2
          clear hg2
          have k0 : wc.cell? ⟨xb, 0, none⟩ = some (.int .i64 x.actor) := H6.out.2.2.2.1.cell 0
          have k1 : wc.cell? ⟨xb, 1, none⟩ = some (.int .i64 x.seq) := H6.out.2.2.2.1.cell 1
          have k2 : wc.cell? ⟨xb, 2, none⟩ = some (.int .i64 x.start) := H6.out.2.2.2.1.cell 2
          have k3 : wc.cell? ⟨xb, 3, none⟩ = some (.slice x.dA x.deps.length x.dc) := H6.out.2.2.2.1.cell 3
          have k4 : wc.cell? ⟨xb, 4, none⟩ = some (.slice x.oA x.ops.length x.oc) := H6.out.2.2.2.1.cell 4
          obtain ⟨q, hqr⟩ : ∃ q, readyB Dh x.deps = q := ⟨_, rfl⟩
          have HRD := Lib.hid hqr
          clear hqr
          cases q with
          | false =>
            go_wp2_with (go_at_call 45; (with_reducible refine (ready_any bk h wt bh Dh Dw' Db x _ H6.out.1.bkm H6.out.1.chmap H6.out.2.2.2.2.2).mono ?_); rintro e w8 ⟨rfl, hb8⟩; rw [HRD.out])
            have HE9 := Lib.hid (show TkR w bk h wt bh Dh Dw Db L A (sortR l) (k + 1) w8 from ⟨Dw', H6.out.1.below hb8, H6.out.2.1.trans (Only.of_below hb8), H6.out.2.2.1.below hb8, H5.out.2.2.2.1, fun i r hi => H5.out.2.2.2.2.1 i r (by omega)⟩)
            clear hb8
            exact ⟨⟨k + 1, by push_cast; rfl, by omega, by rw [← HAA.out]; exact HE9.out⟩, by simp [intOf]; omega⟩
          | true =>
            go_upto_region 26 with (go_at_call 45; (with_reducible refine (ready_any bk h wt bh Dh Dw' Db x _ H6.out.1.bkm H6.out.1.chmap H6.out.2.2.2.2.2).mono ?_); rintro e w8 ⟨rfl, hb8⟩; rw [HRD.out])
            clear k0 k1 k2 k3 k4
            have H8 := Lib.hid (And.intro (H6.out.1.below hb8) (And.intro (H6.out.2.1.trans (Only.of_below hb8)) (And.intro (H6.out.2.2.1.below hb8) (And.intro (H6.out.2.2.2.1.below hb8 H6.out.2.2.2.1.lt) (And.intro (H6.out.2.2.2.2.1.below hb8 H6.out.2.2.2.2.1.lt) (H6.out.2.2.2.2.2.below hb8))))))
            clear hb8
            have p0 : w8.cell? ⟨bk, 1, none⟩ = some (.map (some wt)) := H8.out.1.bkm.blk.cell 1
            have p1 : w8.cell? ⟨wr.heap.size, 0, none⟩ = some (.int .i64 d.1) := H8.out.2.2.2.2.1.cell 0
            have p2 : w8.cell? ⟨wr.heap.size, 1, none⟩ = some (.int .i64 d.2) := H8.out.2.2.2.2.1.cell 1
            go_still_tail 5, (by kernel_rfl)
            change wpList _ _ _ _ _ w8.drew
            refine wpList_del _ rfl _ _ 84 33 rfl 67 pairRef Tryz.underlying84 wt _ Dw' rfl (show w8.drew.ownsMap Tryz.prog 33 anyElem wt (Maps.size Dw') Dw' from H8.out.1.bkm.wts) d rfl H5.out.2.2.2.2.2.1 ?_
            intro W9 hm9 ho9 hs9
            clear p0 p1 p2
            have hwd : hasB Dw' d = true := H5.out.2.2.2.2.1 k d (Nat.le_refl _) H5.out.2.2.2.2.2.2.1
            obtain ⟨hD9, hlt9, hsz9⟩ := (H8.out.1.below (Below.refl _ _).drew).free H5.out.2.2.2.2.2.1 (OM.of hm9) ho9 hwd
            have hS9 : ∀ i, i = wt → IsMapB w8 i := fun i e => by subst e; exact H8.out.1.bkm.wts.isMapB
            have hX9 : Blk W9 xb 67 #[.int .i64 x.actor, .int .i64 x.seq, .int .i64 x.start, .slice x.dA x.deps.length x.dc, .slice x.oA x.ops.length x.oc] := (show Blk w8.drew _ _ _ from H8.out.2.2.2.1).only ho9 (fun e => blk_noMap H8.out.2.2.2.1 (hS9 _ e))
            have hw9 : ∀ i r, k + 1 ≤ i → (sortR l)[i]? = some r → hasB (Dw'.del (rlit d)) r = true := fun i r hi hr => by
              have hri := HK.out.1.i2 r ((sortR_mem l r).1 (List.mem_of_getElem? hr))
              unfold hasB
              rw [mget_del pairRef H5.out.2.2.2.2.2.1 hri]
              have hne : ¬ r = d := fun e => by
                subst e
                have hnd : (sortR l).Nodup := (sortR_perm l).nodup_iff.2 HK.out.1.nodup
                obtain ⟨h1, e1⟩ := List.getElem?_eq_some_iff.1 hr
                obtain ⟨h2, e2⟩ := List.getElem?_eq_some_iff.1 H5.out.2.2.2.2.2.2.1
                exact (List.pairwise_iff_getElem.1 hnd) k i h2 h1 (by omega) (e2.trans e1.symm)
              rw [if_neg hne]
              exact H5.out.2.2.2.2.1 i r (by omega) hr
            have hO9 : Only (T3 h wt bh) w W9 := (H8.out.2.1.drew).trans (ho9.mono (fun k _ e => .inr (.inl e)))
            have H9 := Lib.hid (And.intro hD9 (And.intro hO9 (And.intro ((show SlAt w8.drew _ _ from H8.out.2.2.1).maps ho9 hS9) (And.intro hX9 (And.intro ((H8.out.2.2.2.2.2.below (Below.refl _ _).drew).maps ho9 hS9) (And.intro hw9 (And.intro hlt9 hsz9)))))))
            clear hm9 ho9 hs9 hwd hD9 hlt9 hsz9 hS9 hX9 hw9 hO9
            have hall := fun (W : World) (hD : Dag W bk h wt bh Dh (Dw'.del (rlit d)) Db L) (hI : InC W x) => hD.deps hI.dep HRD.out
            have HA := Lib.hid hall
            clear hall
            have k0 : W9.cell? ⟨xb, 0, none⟩ = some (.int .i64 x.actor) := H9.out.2.2.2.1.cell 0
            have k1 : W9.cell? ⟨xb, 1, none⟩ = some (.int .i64 x.seq) := H9.out.2.2.2.1.cell 1
            have k2 : W9.cell? ⟨xb, 2, none⟩ = some (.int .i64 x.start) := H9.out.2.2.2.1.cell 2
            have k3 : W9.cell? ⟨xb, 3, none⟩ = some (.slice x.dA x.deps.length x.dc) := H9.out.2.2.2.1.cell 3
            have k4 : W9.cell? ⟨xb, 4, none⟩ = some (.slice x.oA x.ops.length x.oc) := H9.out.2.2.2.1.cell 4
            go_upto_if 110 with (go_at_call 46; (with_reducible refine (bookFits_any bk h wt bh Dh (Dw'.del (rlit d)) Db x _ H9.out.1.bkm H9.out.1.beh H9.out.1.inHas H9.out.2.2.2.2.1 HG.out.i2 (by have h1 := H9.out.1.sz; omega) ⟨⟨by have := HG.out.st; omega, HG.out.st.2⟩, HG.out.ops⟩ HG.out.seq (HA.out _ H9.out.1 H9.out.2.2.2.2.1).2).mono ?_); rintro e w10 ⟨z2, rfl, hb10⟩)
            clear k0 k1 k2 k3 k4
            have H10 := Lib.hid (And.intro (H9.out.1.below hb10) (And.intro (H9.out.2.1.trans (Only.of_below hb10)) (And.intro (H9.out.2.2.1.below hb10) (And.intro (H9.out.2.2.2.1.below hb10 H9.out.2.2.2.1.lt) (H9.out.2.2.2.2.1.below hb10)))))
            clear hb10
            cases z2 with
            | false =>
              go_wp2_with fail
              have HE9 := Lib.hid (show TkR w bk h wt bh Dh Dw Db L A (sortR l) (k + 1) w10 from ⟨_, H10.out.1, H10.out.2.1, H10.out.2.2.1, by have h1 := H9.out.2.2.2.2.2.2.2; have h2 := H5.out.2.2.2.1; omega, H9.out.2.2.2.2.2.1⟩)
              exact ⟨⟨k + 1, by push_cast; rfl, by omega, by rw [← HAA.out]; exact HE9.out⟩, by simp [intOf]; omega⟩
            | true =>
              have k0 : w10.cell? ⟨xb, 0, none⟩ = some (.int .i64 x.actor) := H10.out.2.2.2.1.cell 0
              have k1 : w10.cell? ⟨xb, 1, none⟩ = some (.int .i64 x.seq) := H10.out.2.2.2.1.cell 1
              have k2 : w10.cell? ⟨xb, 2, none⟩ = some (.int .i64 x.start) := H10.out.2.2.2.1.cell 2
              have k3 : w10.cell? ⟨xb, 3, none⟩ = some (.slice x.dA x.deps.length x.dc) := H10.out.2.2.2.1.cell 3
              have k4 : w10.cell? ⟨xb, 4, none⟩ = some (.slice x.oA x.ops.length x.oc) := H10.out.2.2.2.1.cell 4
              go_wp2_with (go_at_call 47; (with_reducible refine (put_any bk h wt bh Dh (Dw'.del (rlit d)) Db x _ H10.out.1.bkm H10.out.1.beh H10.out.2.2.2.2 HG.out.i2 (by have h1 := H10.out.1.sz; omega) (by have h0 := H10.out.1.sizeDb; have h1 := H10.out.1.sz; omega) (HA.out _ H10.out.1 H10.out.2.2.2.2).2).mono ?_); rintro e w11 ⟨m, Dm, rfl, hp1, hp2, hp3, hp4, hp5⟩; have HPQ := Lib.hid (And.intro hp1 (And.intro hp2 (And.intro hp3 (And.intro hp4 hp5)))); clear hp1 hp2 hp3 hp4 hp5; clear k0 k1 k2 k3 k4)
              go_step3
              obtain ⟨hp1, hp2, hp3, hp4, hp5⟩ := HPQ.out
              have hxr : x.ref = d := H5.out.2.2.2.2.2.2.2.2.2
              have hwd : hasB Dw' d = true := H5.out.2.2.2.2.1 k d (Nat.le_refl _) H5.out.2.2.2.2.2.2.1
              have hD11 := H10.out.1.put H10.out.2.2.2.2 H5.out.2.2.2.2.2.2.2.2.1 (by rw [hxr]; exact H5.out.1.apart d H5.out.2.2.2.2.2.1 hwd) (by rw [hxr]; unfold hasB; rw [mget_del pairRef H5.out.2.2.2.2.2.1 H5.out.2.2.2.2.2.1, if_pos rfl]; rfl) (HA.out _ H10.out.1 H10.out.2.2.2.2).1 H9.out.2.2.2.2.2.2.1 hp1 hp2 hp3 hp4 hp5
              have hm1 := entsOf_eq hD11.bkm.wts
              have hm2 := entsOf_eq HD.out.1.bkm.wts
              have hm3 := H9.out.2.2.2.2.2.2.2
              have hm4 := H5.out.2.2.2.1
              refine id (α := (0 : Nat) = 0 ∧ (TkJ w bk h wt bh _ w11 ∧ entsOf w11 wt < entsOf W wt)) ?_
              exact ⟨rfl, ⟨_, _, _, _, hD11, H10.out.2.1.trans (hp5.mono (fun k _ e => by rcases e with e | e; exact .inl e; exact .inr (.inr e))), _, rfl, rfl, rfl⟩, by omega⟩
      · obtain rfl : k = l.length := by omega
        have HX := Lib.hid (And.intro hD hO)
        clear hD hO hA hs hw
        go_wp2_with fail
        simp only [Exit.jump]
        go_ret
        exact ⟨0, Dh, Dw', Db, L, rfl, HX.out.1, HX.out.2⟩
  case first =>
    intro hP
    have HP := Lib.hid hP
    clear hP
    obtain ⟨n, hE⟩ : ∃ n, chE c.ch = n := ⟨_, rfl⟩
    have HE := Lib.hid hE
    clear hE
    have c0 : W0.cell? ⟨w.heap.size, 0, none⟩ = some (.int .i64 c.actor) := HC0.out.1.blk.cell 0
    have c1 : W0.cell? ⟨w.heap.size, 1, none⟩ = some (.int .i64 c.seq) := HC0.out.1.blk.cell 1
    have c2 : W0.cell? ⟨w.heap.size, 2, none⟩ = some (.int .i64 c.start) := HC0.out.1.blk.cell 2
    have c3 : W0.cell? ⟨w.heap.size, 3, none⟩ = some (.slice c.dA c.deps.length c.dc) := HC0.out.1.blk.cell 3
    have c4 : W0.cell? ⟨w.heap.size, 4, none⟩ = some (.slice c.oA c.ops.length c.oc) := HC0.out.1.blk.cell 4
    by_cases hn : n = 0
    · subst hn
      go_upto_region 5 with (first
        | (go_at_call 43; (with_reducible refine (changeCheck_any c _ (HC0.out.2.2.below HC0.out.1.bel)).mono ?_); rintro e w1 ⟨rfl, hb1⟩; rw [HE.out, errC_zero]; have d0 := (HC0.out.1.new hb1).blk.cell 0; have d1 := (HC0.out.1.new hb1).blk.cell 1; have d2 := (HC0.out.1.new hb1).blk.cell 2; have d3 := (HC0.out.1.new hb1).blk.cell 3; have d4 := (HC0.out.1.new hb1).blk.cell 4; simp at d0 d1 d2 d3 d4)
        | (go_at_call 22; (with_reducible refine (changeRef_any c _).mono ?_); rintro e w2 ⟨rfl, hb2⟩; clear c0 c1 c2 c3 c4))
      have HC1 := Lib.hid (HC0.out.1.new hb1)
      clear hb1 d0 d1 d2 d3 d4
      obtain ⟨W3, hW3⟩ : ∃ W3, W3 = w2.alloc (.cells #[.int .i64 c.actor, .int .i64 c.seq] 33) := ⟨_, rfl⟩
      rw [← hW3]
      have hb3 : Below w1.heap.size w1 W3 := by rw [hW3]; exact hb2.alloc hb2.size _
      have hC3 := HC1.out.new hb3
      have hR3 : Blk W3 w2.heap.size 33 #[.int .i64 c.actor, .int .i64 c.seq] := by rw [hW3]; exact Blk.new _ _ _
      have hD3 := HC0.out.2.1.below hC3.bel
      have hI3 := HC0.out.2.2.below hC3.bel
      have hr := (chE_good HE.out).i2
      obtain ⟨x, s, hx, hs, hxs⟩ : ∃ (x : PCh) (s : Bool), (mget Dh c.ref).getD zCh = x.value ∧ (mget Dh c.ref).isSome = s ∧ (s = true → findC L c.ref = some x) := by
        rw [hD3.has _ hr]
        cases hf : findC L c.ref with
        | none => exact ⟨zPCh, false, rfl, rfl, fun h => (by cases h)⟩
        | some x => exact ⟨x, true, rfl, rfl, fun _ => rfl⟩
      obtain ⟨rb, hrb⟩ : ∃ rb, rb = w2.heap.size := ⟨_, rfl⟩
      rw [← hrb] at hR3 ⊢
      have hrw : w.heap.size < rb := by
        have h1 := HC1.out.blk.lt
        have h2 := hb2.size
        rw [hrb]
        exact Nat.lt_of_lt_of_le h1 h2
      have hS : ∀ W, Below W3.heap.size W3 W → W.cell? ⟨bk, 0, none⟩ = some (.map (some h)) ∧ W.cell? ⟨rb, 0, none⟩ = some (.int .i64 c.actor) ∧ W.cell? ⟨rb, 1, none⟩ = some (.int .i64 c.seq) ∧ (Instr.lookup 84 (.map (some h)) (.agg #[.int .i64 c.actor, .int .i64 c.seq]) true).run Tryz.prog W = .ok (.tuple #[.agg #[.int .i64 x.actor, .int .i64 x.seq, .int .i64 x.start, .slice x.dA x.deps.length x.dc, .slice x.oA x.ops.length x.oc], .bool s]) W := by
        intro W hW
        have h2 := hD3.bkm.below hW
        have hR := hR3.below hW hR3.lt
        refine ⟨h2.blk.cell 0, hR.cell 0, hR.cell 1, ?_⟩
        have := run_look_ok pairRef (w := W) h2.has Tryz.underlying84 (zeroCh _) hr
        rw [hx, hs] at this
        exact this
      have HKS := Lib.hid hS
      obtain ⟨p0, p1, p2, p3⟩ := hS W3 (Below.refl _ _)
      have H3 := Lib.hid (And.intro hC3 (And.intro hR3 (And.intro hD3 (And.intro hI3 (And.intro hr (And.intro hs (And.intro hxs hrw)))))))
      clear hC3 hR3 hD3 hI3 hr hs hxs hx hb3 hW3 hb2 hrb hS
      go_cut [7, 8] from 19 to 27 (fun s7 s8 wx => ∃ xb, s7 = .pointer (some ⟨xb, 0, none⟩) ∧ s8 = .bool s ∧ Below W3.heap.size W3 wx ∧ W3.heap.size ≤ xb ∧ Blk wx xb 67 #[.int .i64 x.actor, .int .i64 x.seq, .int .i64 x.start, .slice x.dA x.deps.length x.dc, .slice x.oA x.ops.length x.oc])
      case first =>
        go_region_held3 (fun w' => w'.cell? ⟨bk, 0, none⟩ = some (.map (some h)) ∧ w'.cell? ⟨rb, 0, none⟩ = some (.int .i64 c.actor) ∧ w'.cell? ⟨rb, 1, none⟩ = some (.int .i64 c.seq) ∧ (Instr.lookup 84 (.map (some h)) (.agg #[.int .i64 c.actor, .int .i64 c.seq]) true).run Tryz.prog w' = .ok (.tuple #[.agg #[.int .i64 x.actor, .int .i64 x.seq, .int .i64 x.start, .slice x.dA x.deps.length x.dc, .slice x.oA x.ops.length x.oc], .bool s]) w')
          (first | (with_reducible exact HKS.out _ (Below.refl _ W3).drew) | (with_reducible exact HKS.out _ ((Below.refl _ W3).alloc (Nat.le_refl _) _).drew) | go_keep) (first | fail)
        all_goals
          go_wp2_with fail
          go_meet
          exact ⟨_, rfl, rfl, ((Below.refl _ _).alloc (Nat.le_refl _) _).drew, Nat.le_refl _, Blk.new W3 _ _⟩
      case rest =>
      obtain ⟨xb, rfl, rfl, hb4, hxl, hX4⟩ := hcut
      obtain ⟨W4, hW4⟩ : ∃ W4, W4 = wc := ⟨_, rfl⟩
      rw [← hW4] at hb4 hX4 ⊢
      clear hW4
      have hxr : xb ≠ rb ∧ xb ≠ w.heap.size ∧ w.heap.size ≤ xb ∧ W3.heap.size ≤ xb ∧ Below W3.heap.size W3 W4 := by
        have h1 := H3.out.2.1.lt
        have h2 := H3.out.1.blk.lt
        exact ⟨by omega, by omega, by omega, hxl, hb4⟩
      have H4 := Lib.hid (And.intro (H3.out.1.new hb4) (And.intro (H3.out.2.1.below hb4 H3.out.2.1.lt) (And.intro (H3.out.2.2.1.below hb4) (And.intro (H3.out.2.2.2.1.below hb4) (And.intro hX4 hxr)))))
      clear hX4 hxr hb4 hxl p0 p1 p2 p3
      go_upto_if 29 with (fail)
      go_cut [8] from 28 to 38 (fun s8 wx => ∃ (y : PCh) (z : Bool), s8 = .bool z ∧ Tk2 w bk h wt bh Dh Dw Db L c rb xb y z wx)
      case first =>
        have hxs' := H3.out.2.2.2.2.2.2.1
        cases s with
        | true =>
          go_wp2_with fail
          go_meet
          obtain ⟨a1, a2, a3, a4, a5, a6⟩ := H4.out
          exact ⟨x, true, rfl, a1, a2, a3, a4, a5, fun _ => (a3.good _ (findC_some (hxs' (by first | rfl | trivial))).1).1, fun h => (by cases h)⟩
        | false =>
          go_wp2_with fail
          have hr := H3.out.2.2.2.2.1
          have hs0 := H3.out.2.2.2.2.2.1
          obtain ⟨y, s, hy, hs⟩ : ∃ (y : PCh) (s : Bool), (mget Dw c.ref).getD zCh = y.value ∧ (mget Dw c.ref).isSome = s ∧ (s = true → InC W3 y) := by
            cases hf : mget Dw c.ref with
            | none => exact ⟨zPCh, false, rfl, rfl, fun h => (by cases h)⟩
            | some v =>
              obtain ⟨y, e1, e2, e3⟩ := H3.out.2.2.1.wts _ hr v hf
              exact ⟨y, true, e1, rfl, fun _ => e2⟩
          have hbx : bk ≠ xb := by
            have h5 := H3.out.2.2.1.bkm.blk.lt
            have h6 := H4.out.2.2.2.2.2.2.2.2.1
            omega
          have hS : ∀ W, Only (· = xb) W4 W → W.cell? ⟨bk, 1, none⟩ = some (.map (some wt)) ∧ W.cell? ⟨rb, 0, none⟩ = some (.int .i64 c.actor) ∧ W.cell? ⟨rb, 1, none⟩ = some (.int .i64 c.seq) ∧ (Instr.lookup 84 (.map (some wt)) (.agg #[.int .i64 c.actor, .int .i64 c.seq]) true).run Tryz.prog W = .ok (.tuple #[.agg #[.int .i64 y.actor, .int .i64 y.seq, .int .i64 y.start, .slice y.dA y.deps.length y.dc, .slice y.oA y.ops.length y.oc], .bool s]) W := by
            intro W hW
            have hnm := blk_noMap H4.out.2.2.2.2.1
            have h2 : Blk W bk _ _ := H4.out.2.2.1.bkm.blk.only hW hbx
            have hR : Blk W rb _ _ := H4.out.2.1.only hW (fun e => H4.out.2.2.2.2.2.1 e.symm)
            refine ⟨h2.cell 1, hR.cell 0, hR.cell 1, ?_⟩
            have := run_look_ok pairRef (w := W) (H4.out.2.2.1.bkm.wts.only hW (fun e => hnm (by rw [← e]; exact H4.out.2.2.1.bkm.wts.isMapB))) Tryz.underlying84 (zeroCh _) hr
            rw [hy, hs.1] at this
            exact this
          have HKS := Lib.hid hS
          obtain ⟨p0, p1, p2, p3⟩ := hS W4 (Only.refl _ _)
          have x0 : W4.cell? ⟨xb, 0, none⟩ = some (.int .i64 x.actor) := H4.out.2.2.2.2.1.cell 0
          have x1 : W4.cell? ⟨xb, 1, none⟩ = some (.int .i64 x.seq) := H4.out.2.2.2.2.1.cell 1
          have x2 : W4.cell? ⟨xb, 2, none⟩ = some (.int .i64 x.start) := H4.out.2.2.2.2.1.cell 2
          have x3 : W4.cell? ⟨xb, 3, none⟩ = some (.slice x.dA x.deps.length x.dc) := H4.out.2.2.2.2.1.cell 3
          have x4 : W4.cell? ⟨xb, 4, none⟩ = some (.slice x.oA x.ops.length x.oc) := H4.out.2.2.2.2.1.cell 4
          have f0 : W4.frozen? ⟨xb, 0, none⟩ = false := H4.out.2.2.2.2.1.frozen 0
          have f1 : W4.frozen? ⟨xb, 1, none⟩ = false := H4.out.2.2.2.2.1.frozen 1
          have f2 : W4.frozen? ⟨xb, 2, none⟩ = false := H4.out.2.2.2.2.1.frozen 2
          have f3 : W4.frozen? ⟨xb, 3, none⟩ = false := H4.out.2.2.2.2.1.frozen 3
          have f4 : W4.frozen? ⟨xb, 4, none⟩ = false := H4.out.2.2.2.2.1.frozen 4
          have HY := Lib.hid (And.intro hs hs0)
          clear hs hy hS hbx hs0
          go_region_held3 (fun w' => w'.cell? ⟨bk, 1, none⟩ = some (.map (some wt)) ∧ w'.cell? ⟨rb, 0, none⟩ = some (.int .i64 c.actor) ∧ w'.cell? ⟨rb, 1, none⟩ = some (.int .i64 c.seq) ∧ (Instr.lookup 84 (.map (some wt)) (.agg #[.int .i64 c.actor, .int .i64 c.seq]) true).run Tryz.prog w' = .ok (.tuple #[.agg #[.int .i64 y.actor, .int .i64 y.seq, .int .i64 y.start, .slice y.dA y.deps.length y.dc, .slice y.oA y.ops.length y.oc], .bool s]) w')
            (first | (with_reducible exact HKS.out _ (Only.refl _ W4).drew) | (with_reducible exact HKS.out _ (only5 W4 xb _ _ _ _ _ 0 1 2 3 4).drew) | go_keep) (first | fail)
          all_goals
            go_wp2_with fail
            go_meet
            have hb45 := (only5 W4 xb (.int .i64 y.actor) (.int .i64 y.seq) (.int .i64 y.start) (.slice y.dA y.deps.length y.dc) (.slice y.oA y.ops.length y.oc) 0 1 2 3 4).drew
            have h34 := H4.out.2.2.2.2.2.2.2.2
            have hb35 := h34.2.trans (hb45.below h34.2.size (fun k hk e => by have := h34.1; omega))
            exact ⟨y, _, rfl, H3.out.1.new hb35, H3.out.2.1.below hb35 H3.out.2.1.lt, H3.out.2.2.1.below hb35, H3.out.2.2.2.1.below hb35, blk5 _ _ _ _ _ H4.out.2.2.2.2.1, fun e => (HY.out.1.2 e).below hb35, fun e => ⟨HY.out.2, HY.out.1.1.trans e⟩⟩
      case rest =>
        obtain ⟨y, z, rfl, hT⟩ := hcut
        have HT := Lib.hid hT
        clear hT
        have c0 : wc.cell? ⟨w.heap.size, 0, none⟩ = some (.int .i64 c.actor) := HT.out.cb.blk.cell 0
        have c1 : wc.cell? ⟨w.heap.size, 1, none⟩ = some (.int .i64 c.seq) := HT.out.cb.blk.cell 1
        have c2 : wc.cell? ⟨w.heap.size, 2, none⟩ = some (.int .i64 c.start) := HT.out.cb.blk.cell 2
        have c3 : wc.cell? ⟨w.heap.size, 3, none⟩ = some (.slice c.dA c.deps.length c.dc) := HT.out.cb.blk.cell 3
        have c4 : wc.cell? ⟨w.heap.size, 4, none⟩ = some (.slice c.oA c.ops.length c.oc) := HT.out.cb.blk.cell 4
        cases z with
        | true =>
          have x0 : wc.cell? ⟨xb, 0, none⟩ = some (.int .i64 y.actor) := HT.out.xbx.cell 0
          have x1 : wc.cell? ⟨xb, 1, none⟩ = some (.int .i64 y.seq) := HT.out.xbx.cell 1
          have x2 : wc.cell? ⟨xb, 2, none⟩ = some (.int .i64 y.start) := HT.out.xbx.cell 2
          have x3 : wc.cell? ⟨xb, 3, none⟩ = some (.slice y.dA y.deps.length y.dc) := HT.out.xbx.cell 3
          have x4 : wc.cell? ⟨xb, 4, none⟩ = some (.slice y.oA y.ops.length y.oc) := HT.out.xbx.cell 4
          obtain ⟨b, hb⟩ : ∃ b, sameB y c = b := ⟨_, rfl⟩
          have HSB := Lib.hid hb
          clear hb
          cases b
          all_goals
            go_wp2_with (go_at_call 44; (with_reducible refine (same_any y c _ (HT.out.yes rfl) HT.out.inc).mono ?_); rintro e w5 ⟨rfl, hb5⟩; rw [HSB.out])
            simp only [Exit.jump]
            go_ret
            first
              | exact ⟨0, Dh, Dw, Db, L, rfl, HT.out.dag.below hb5, Only.of_below (HT.out.cb.new hb5).bel⟩
              | exact ⟨8, Dh, Dw, Db, L, rfl, HT.out.dag.below hb5, Only.of_below (HT.out.cb.new hb5).bel⟩
        | false =>
          go_wp2_with fail
          obtain ⟨n1, hn1⟩ : ∃ n, Maps.size Dh = n := ⟨_, rfl⟩
          obtain ⟨n2, hn2⟩ : ∃ n, Maps.size Dw = n := ⟨_, rfl⟩
          have hsz : n1 + n2 ≤ 120 := by have := HT.out.dag.sz; omega
          have p0 : wc.cell? ⟨bk, 0, none⟩ = some (.map (some h)) := HT.out.dag.bkm.blk.cell 0
          have p1 : wc.cell? ⟨bk, 1, none⟩ = some (.map (some wt)) := HT.out.dag.bkm.blk.cell 1
          have l1 : ∀ ty, (Builtin.len_ #[84] ty #[.map (some h)]).run Tryz.prog wc.drew = .ok (.int .i64 n1) wc.drew := fun ty => by
            have := World.ownsMap.len (w := wc.drew) (show wc.drew.ownsMap Tryz.prog 33 anyElem h (Maps.size Dh) Dh from HT.out.dag.bkm.has) Tryz.underlying84 ty
            rw [hn1] at this
            exact this
          have l2 : ∀ ty, (Builtin.len_ #[84] ty #[.map (some wt)]).run Tryz.prog wc.drew = .ok (.int .i64 n2) wc.drew := fun ty => by
            have := World.ownsMap.len (w := wc.drew) (show wc.drew.ownsMap Tryz.prog 33 anyElem wt (Maps.size Dw) Dw from HT.out.dag.bkm.wts) Tryz.underlying84 ty
            rw [hn2] at this
            exact this
          have hw : IntKind.i64.wrap ((n1 : Int) + n2) = (n1 : Int) + n2 := IntWalk.i64_in _ (by omega)
          have HN := Lib.hid (And.intro hn1 (And.intro hn2 hsz))
          obtain ⟨q, hq⟩ : ∃ q, decide ((120 : Int) ≤ (n1 : Int) + n2) = q := ⟨_, rfl⟩
          have HQ := Lib.hid hq
          clear hn1 hn2
          cases q with
          | true =>
            have hq2 : (120 : Int) ≤ (n1 : Int) + n2 := by simpa using HQ.out
            clear hsz
            go_still_tail 12, (by kernel_rfl)
            go_wp2_with fail
            simp only [Exit.jump]
            go_ret
            exact ⟨4, Dh, Dw, Db, L, rfl, HT.out.dag.below (Below.refl _ _).drew, Only.of_below HT.out.cb.bel.drew⟩
          | false =>
            have hq2 : ¬ (120 : Int) ≤ (n1 : Int) + n2 := by simpa using HQ.out
            clear hsz
            go_still_tail 12, (by kernel_rfl)
            clear l1 l2 hw p0 p1
            have hg := chE_good HE.out
            have HG := Lib.hid hg
            have f0 : ∀ i, wc.drew.frozen? ⟨w.heap.size, i, none⟩ = false := HT.out.cb.blk.frozen
            go_upto_region 15 with (go_at_call 41; (with_reducible refine (cloneChange_any c _ (HT.out.inc.below (Below.refl _ _).drew) (by have := HG.out.deps; omega) (by have := HG.out.ops; omega) (fun o ho => by have := HG.out.preds o ho; omega)).mono ?_); rintro e w6 ⟨x, rfl, hx1, hx2, hx3, hb5, hnew⟩; have hb6 := (Below.refl wc.heap.size wc).drew.trans hb5; clear hb5; clear c0 c1 c2 c3 c4 f0; have HX := Lib.hid (And.intro hx1 (And.intro hx2 (And.intro hnew hb6))); have k0 := (HT.out.cb.blk.below hb6 HT.out.cb.blk.lt).cell 0; have k1 := (HT.out.cb.blk.below hb6 HT.out.cb.blk.lt).cell 1; have k2 := (HT.out.cb.blk.below hb6 HT.out.cb.blk.lt).cell 2; have k3 := (HT.out.cb.blk.below hb6 HT.out.cb.blk.lt).cell 3; have k4 := (HT.out.cb.blk.below hb6 HT.out.cb.blk.lt).cell 4; have g0 := (HT.out.cb.blk.below hb6 HT.out.cb.blk.lt).frozen 0; have g1 := (HT.out.cb.blk.below hb6 HT.out.cb.blk.lt).frozen 1; have g2 := (HT.out.cb.blk.below hb6 HT.out.cb.blk.lt).frozen 2; have g3 := (HT.out.cb.blk.below hb6 HT.out.cb.blk.lt).frozen 3; have g4 := (HT.out.cb.blk.below hb6 HT.out.cb.blk.lt).frozen 4; simp at k0 k1 k2 k3 k4; clear hx1 hx2 hx3 hb6 hnew hg)
            obtain ⟨W7, hW7⟩ : ∃ W7, W7 = (((((w6.setCell ⟨w.heap.size, 0, none⟩ (.int .i64 x.actor)).setCell ⟨w.heap.size, 1, none⟩ (.int .i64 x.seq)).setCell ⟨w.heap.size, 2, none⟩ (.int .i64 x.start)).setCell ⟨w.heap.size, 3, none⟩ (.slice x.dA x.deps.length x.dc)).setCell ⟨w.heap.size, 4, none⟩ (.slice x.oA x.ops.length x.oc)) := ⟨_, rfl⟩
            rw [← hW7]
            have hb67 : Only (· = w.heap.size) w6 W7 := by rw [hW7]; exact only5 w6 w.heap.size _ _ _ _ _ 0 1 2 3 4
            have hC6 := HT.out.cb.new HX.out.2.2.2
            have hbw7 : Below w.heap.size w W7 := hC6.bel.trans (hb67.below hC6.bel.size (fun k hk e => by omega))
            have hrw := H3.out.2.2.2.2.2.2.2
            have H7 := Lib.hid (show Tk3 w bk h wt bh Dh Dw Db L c rb x W7 from ⟨hbw7, by rw [hW7]; exact blk5 _ _ _ _ _ hC6.blk, (HT.out.rbx.below HX.out.2.2.2 HT.out.rbx.lt).only hb67 (by show rb ≠ w.heap.size; omega), HC0.out.2.1.below hbw7, HX.out.2.2.1 _ (fun b h1 h2 => hb67.block b h2 (by have h3 := HT.out.cb.blk.lt; have h4 : wc.heap.size ≤ b := h1; show b ≠ w.heap.size; omega))⟩)
            clear k0 k1 k2 k3 k4 g0 g1 g2 g3 g4 hW7 hb67 hC6 hbw7 hrw
            obtain ⟨q, hqr⟩ : ∃ q, readyB Dh x.deps = q := ⟨_, rfl⟩
            have HRD := Lib.hid hqr
            clear hqr
            have k0 : W7.cell? ⟨w.heap.size, 0, none⟩ = some (.int .i64 x.actor) := H7.out.box.cell 0
            have k1 : W7.cell? ⟨w.heap.size, 1, none⟩ = some (.int .i64 x.seq) := H7.out.box.cell 1
            have k2 : W7.cell? ⟨w.heap.size, 2, none⟩ = some (.int .i64 x.start) := H7.out.box.cell 2
            have k3 : W7.cell? ⟨w.heap.size, 3, none⟩ = some (.slice x.dA x.deps.length x.dc) := H7.out.box.cell 3
            have k4 : W7.cell? ⟨w.heap.size, 4, none⟩ = some (.slice x.oA x.ops.length x.oc) := H7.out.box.cell 4
            cases q with
            | false =>
              go_upto_region 16 with (go_at_call 45; (with_reducible refine (ready_any bk h wt bh Dh Dw Db x _ H7.out.dag.bkm H7.out.dag.chmap H7.out.inc).mono ?_); rintro e w8 ⟨rfl, hb8⟩; rw [HRD.out]; have e0 := (H7.out.new hb8).box.cell 0; have e1 := (H7.out.new hb8).box.cell 1; have e2 := (H7.out.new hb8).box.cell 2; have e3 := (H7.out.new hb8).box.cell 3; have e4 := (H7.out.new hb8).box.cell 4; simp at e0 e1 e2 e3 e4)
              clear k0 k1 k2 k3 k4
              have H8 := Lib.hid (H7.out.new hb8)
              clear hb8
              have p0 : w8.cell? ⟨bk, 1, none⟩ = some (.map (some wt)) := H8.out.dag.bkm.blk.cell 1
              have p1 : w8.cell? ⟨rb, 0, none⟩ = some (.int .i64 c.actor) := H8.out.rbx.cell 0
              have p2 : w8.cell? ⟨rb, 1, none⟩ = some (.int .i64 c.seq) := H8.out.rbx.cell 1
              go_still_tail 6, (by kernel_rfl)
              change wpList _ _ _ _ _ w8.drew
              refine wpList_upd _ rfl _ _ _ 84 rfl 33 67 pairRef Tryz.underlying84 wt _ Dw rfl (show w8.drew.ownsMap Tryz.prog 33 anyElem wt (Maps.size Dw) Dw from H8.out.dag.bkm.wts) (by have := HN.out.2.1; have := HN.out.2.2; unfold maxLen; omega) c.ref rfl HG.out.i2 x.value rfl ?_
              intro W9 hm9 ho9 hs9
              have hm9' : OM W9 wt (Dw.put (rlit x.ref) (.held x.value)) := by rw [HX.out.2.1]; exact OM.of hm9
              have hq3 : Maps.size Dh + Maps.size Dw < 120 := by have h1 := HN.out.1; have h2 := HN.out.2.1; omega
              have hD9 := (H8.out.dag.below (Below.refl _ _).drew).wait (H8.out.inc.below (Below.refl _ _).drew) (by rw [HX.out.1]; exact HE.out) (by rw [HX.out.2.1]; exact (HT.out.no rfl).1) hq3 hm9' ho9
              have ho := ((Only.of_below (S := T3 h wt bh) H8.out.bel).drew).trans (ho9.mono (fun k _ e => .inr (.inl e)))
              have H9 := Lib.hid (And.intro hD9 ho)
              clear e0 e1 e2 e3 e4 p0 p1 p2 hm9 ho9 hs9 hm9' hq3 hD9 ho
              go_wp2_with fail
              simp only [Exit.jump]
              go_ret
              exact ⟨0, Dh, _, Db, L, rfl, H9.out.1, H9.out.2⟩
            | true =>
              have hall := fun (W : World) (hD : Dag W bk h wt bh Dh Dw Db L) (hI : InC W x) => hD.deps hI.dep HRD.out
              have hg2 : GoodC x := chE_good (by rw [HX.out.1]; exact HE.out)
              have HA := Lib.hid (And.intro hall hg2)
              clear hall hg2
              go_upto_if 78 with (first
                | (go_at_call 45; (with_reducible refine (ready_any bk h wt bh Dh Dw Db x _ H7.out.dag.bkm H7.out.dag.chmap H7.out.inc).mono ?_); rintro e w8 ⟨rfl, hb8⟩; rw [HRD.out]; have e0 := (H7.out.new hb8).box.cell 0; have e1 := (H7.out.new hb8).box.cell 1; have e2 := (H7.out.new hb8).box.cell 2; have e3 := (H7.out.new hb8).box.cell 3; have e4 := (H7.out.new hb8).box.cell 4; simp at e0 e1 e2 e3 e4)
                | (go_at_call 46; (with_reducible refine (bookFits_any bk h wt bh Dh Dw Db x _ (H7.out.new hb8).dag.bkm (H7.out.new hb8).dag.beh (H7.out.new hb8).dag.inHas (H7.out.new hb8).inc HA.out.2.i2 (by have h1 := HN.out.1; have h2 := HN.out.2.2; omega) ⟨⟨by have := HA.out.2.st; omega, HA.out.2.st.2⟩, HA.out.2.ops⟩ HA.out.2.seq (HA.out.1 _ (H7.out.new hb8).dag (H7.out.new hb8).inc).2).mono ?_); rintro e w9 ⟨z2, rfl, hb9⟩; clear e0 e1 e2 e3 e4))
              clear k0 k1 k2 k3 k4
              have H9 := Lib.hid ((H7.out.new hb8).new hb9)
              clear hb8 hb9
              cases z2 with
              | false =>
                go_wp2_with fail
                simp only [Exit.jump]
                go_ret
                exact ⟨7, Dh, Dw, Db, L, rfl, H9.out.dag, Only.of_below H9.out.bel⟩
              | true =>
                have e0 : w9.cell? ⟨w.heap.size, 0, none⟩ = some (.int .i64 x.actor) := H9.out.box.cell 0
                have e1 : w9.cell? ⟨w.heap.size, 1, none⟩ = some (.int .i64 x.seq) := H9.out.box.cell 1
                have e2 : w9.cell? ⟨w.heap.size, 2, none⟩ = some (.int .i64 x.start) := H9.out.box.cell 2
                have e3 : w9.cell? ⟨w.heap.size, 3, none⟩ = some (.slice x.dA x.deps.length x.dc) := H9.out.box.cell 3
                have e4 : w9.cell? ⟨w.heap.size, 4, none⟩ = some (.slice x.oA x.ops.length x.oc) := H9.out.box.cell 4
                go_wp2_with (go_at_call 47; (with_reducible refine (put_any bk h wt bh Dh Dw Db x _ H9.out.dag.bkm H9.out.dag.beh H9.out.inc HA.out.2.i2 (by have h1 := HN.out.1; have h2 := HN.out.2.2; omega) (by have h0 := H9.out.dag.sizeDb; have h1 := HN.out.1; have h2 := HN.out.2.2; omega) (HA.out.1 _ H9.out.dag H9.out.inc).2).mono ?_); rintro e w10 ⟨m, Dm, rfl, hp1, hp2, hp3, hp4, hp5⟩; have HPQ := Lib.hid (And.intro hp1 (And.intro hp2 (And.intro hp3 (And.intro hp4 hp5)))); clear hp1 hp2 hp3 hp4 hp5; clear e0 e1 e2 e3 e4)
                go_step3
                simp only [Exit.then]
                refine ‹∀ (a : Act) (w : World), Code.wp _ _ _ a w → _› _ _ ?_
                obtain ⟨hp1, hp2, hp3, hp4, hp5⟩ := HPQ.out
                have hq3 : Maps.size Dh + Maps.size Dw < 120 := by have h1 := HN.out.1; have h2 := HN.out.2.1; omega
                have hD10 := H9.out.dag.put H9.out.inc (by rw [HX.out.1]; exact HE.out) (by rw [HX.out.2.1]; exact (HT.out.no rfl).1) (by rw [HX.out.2.1]; exact (HT.out.no rfl).2) (HA.out.1 _ H9.out.dag H9.out.inc).1 hq3 hp1 hp2 hp3 hp4 hp5
                exact HP.out _ _ ⟨_, _, _, _, hD10, (Only.of_below H9.out.bel).trans (hp5.mono (fun k _ e => by rcases e with e | e; exact .inl e; exact .inr (.inr e))), _, rfl, rfl, rfl⟩
    · go_wp2_with (first
        | (go_at_call 43; (with_reducible refine (changeCheck_any c _ (HC0.out.2.2.below HC0.out.1.bel)).mono ?_); rintro e w1 ⟨rfl, hb1⟩; rw [HE.out, errC_ne hn]))
      simp only [Exit.jump]
      go_ret
      exact ⟨n, Dh, Dw, Db, L, by rw [errC_ne hn]; rfl, HC0.out.2.1.below (HC0.out.1.new hb1).bel, Only.of_below (HC0.out.1.new hb1).bel⟩
end Go.Proofs.YthimkpkoimfkiaaGreat
namespace Go.Proofs.YthimkpkoimfkiaaGreat
open Go.RowKit Go.Maps
set_option linter.unusedVariables false
set_option linter.unusedSimpArgs false

theorem whMK : MKey Tryz.prog 108 whV whLit whOk :=
  wh_mk Tryz.underlying108 rfl rfl rfl rfl rfl rfl rfl (by kernel_rfl) Tryz.underlying24 rfl rfl rfl rfl rfl (by kernel_rfl) Tryz.underlying9 Tryz.underlying3 (by kernel_rfl) (by kernel_rfl) (by kernel_rfl) (by kernel_rfl) (by kernel_rfl) ⟨187 - 2, by kernel_rfl⟩
    (Keyed.of_law (deep_law_laid laidOutD (m := 5) (by omega) (of_decide_eq_true (by kernel_rfl)) (by kernel_rfl) (by kernel_rfl)))
def jvV (v : JV) : Value := .agg #[.int .i64 v.k, .int .i64 v.n, .string v.s, .int .i64 v.o, .int .i64 v.p]
def zJV : JV := ⟨0, 0, ⟨#[]⟩, 0, 0⟩
theorem zeroVal (w : World) : (zeroValue 31).run Tryz.prog w = .ok (jvV zJV) w := by kernel_rfl
theorem zeroMapV (w : World) : (zeroValue 128).run Tryz.prog w = .ok (.map none) w := by kernel_rfl
/-- The values of a place. -/
def VmAt (w : World) (m : Nat) (f : Vm) (N : Nat) : Prop := ∃ Dm, w.ownsMap Tryz.prog 24 anyElem m (Maps.size Dm) Dm ∧ (∀ n, I2 n → mget Dm n = (f n).map jvV) ∧ Maps.size Dm ≤ N
theorem VmAt.only {w w' : World} {S : Nat → Prop} {m : Nat} {f : Vm} {N : Nat} (h : VmAt w m f N) (ho : Only S w w') (hn : ¬ S m) : VmAt w' m f N := by
  obtain ⟨Dm, h1, h2⟩ := h
  exact ⟨Dm, own_only h1 ho hn, h2⟩
theorem VmAt.lt {w : World} {m : Nat} {f : Vm} {N : Nat} (h : VmAt w m f N) : m < w.heap.size := by
  obtain ⟨Dm, h1, h2⟩ := h
  exact World.ownsMap.lt h1
/-- A state: what of it lies from B on. -/
structure StM (w : World) (B sb kb vb ib lb : Nat) (N : Nat) (s : Sta) : Prop where
  blk : Blk w sb 105 #[.map (some kb), .map (some vb), .map (some ib), .map (some lb)]
  ks : ∃ Dk, w.ownsMap Tryz.prog 24 anyElem kb (Maps.size Dk) Dk ∧ (∀ n, I2 n → mget Dk n = (s.kinds n).map (Value.int .i64)) ∧ Maps.size Dk ≤ N
  vs : ∃ Dv, w.ownsMap Tryz.prog 108 anyElem vb (Maps.size Dv) Dv ∧ Maps.size Dv ≤ N ∧
    (∀ x, whOk x → match s.vals x with
      | none => kget Dv (whLit x) = none
      | some f => ∃ m, kget Dv (whLit x) = some (.map (some m)) ∧ VmAt w m f N ∧ B ≤ m ∧ m ≠ sb ∧ m ≠ kb ∧ m ≠ vb) ∧
    (∀ x y m, whOk x → whOk y → kget Dv (whLit x) = some (.map (some m)) → kget Dv (whLit y) = some (.map (some m)) → x = y)
  low : B ≤ sb ∧ B ≤ kb ∧ B ≤ vb
  ne : sb ≠ kb ∧ sb ≠ vb ∧ kb ≠ vb
theorem StM.below {w w' : World} {B sb kb vb ib lb N : Nat} {s : Sta} (h : StM w B sb kb vb ib lb N s) (hb : Below w.heap.size w w') : StM w' B sb kb vb ib lb N s := by
  obtain ⟨Dk, k1, k2⟩ := h.ks
  obtain ⟨Dv, v1, v2, v3, v4⟩ := h.vs
  have ho : Only (fun _ => False) w w' := Only.of_below hb
  refine ⟨h.blk.below hb h.blk.lt, ⟨Dk, own_only k1 ho (fun h => h), k2⟩, ⟨Dv, own_only v1 ho (fun h => h), v2, fun x hx => ?_, v4⟩, h.low, h.ne⟩
  have := v3 x hx
  cases e : s.vals x with
  | none => rw [e] at this; exact this
  | some f =>
    rw [e] at this
    obtain ⟨m, m1, m2, m3⟩ := this
    exact ⟨m, m1, m2.only ho (fun h => h), m3⟩
/-- Where the values of a place are. -/
theorem StM.val {w : World} {B sb kb vb ib lb N : Nat} {s : Sta} (h : StM w B sb kb vb ib lb N s) {x : Wh} {f : Vm} (hf : s.vals x = some f) (hx : whOk x) :
    ∃ m, VmAt w m f N ∧ B ≤ m ∧ m ≠ sb ∧ m ≠ kb ∧ m ≠ vb ∧
      (∀ w1, Only (fun i => i ≠ vb) w w1 → (Instr.lookup 101 (.map (some vb)) (whV x) false).run Tryz.prog w1 = .ok (.map (some m)) w1) ∧
      (∀ (w1 : World) (f1 : Vm), Only (fun i => i = m) w w1 → VmAt w1 m f1 (N + 1) → StM w1 B sb kb vb ib lb (N + 1) { s with vals := upd s.vals x (some f1) }) := by
  obtain ⟨Dk, k1, k2, k3⟩ := h.ks
  obtain ⟨Dv, v1, v2, v3, v4⟩ := h.vs
  have hv := v3 x hx
  rw [hf] at hv
  obtain ⟨m, m1, m2, m3, m4, m5, m6⟩ := hv
  refine ⟨m, m2, m3, m4, m5, m6, fun w1 ho => ?_, fun w1 f1 ho hv1 => ?_⟩
  · have := krun_look whMK (own_only v1 ho (fun h => h rfl)) Tryz.underlying101 (zeroMapV w1) hx
    rw [m1] at this
    exact this
  · refine ⟨h.blk.only ho (fun e => m4 e.symm), ⟨Dk, own_only k1 ho (fun e => m5 e.symm), k2, by omega⟩, ⟨Dv, own_only v1 ho (fun e => m6 e.symm), by omega, fun y hy => ?_, v4⟩, h.low, h.ne⟩
    show match upd s.vals x (some f1) y with
      | none => _
      | some f => _
    by_cases e : y = x
    · subst e
      rw [upd_same]
      exact ⟨m, m1, hv1, m3, m4, m5, m6⟩
    · rw [upd_other _ _ e]
      have := v3 y hy
      cases e2 : s.vals y with
      | none => rw [e2] at this; exact this
      | some g =>
        rw [e2] at this
        obtain ⟨m', n1, ⟨Dg, g1, g2, g3⟩, n3, n4, n5, n6⟩ := this
        have hne : m' ≠ m := fun h => e (v4 y x m hy hx (h ▸ n1) m1)
        exact ⟨m', n1, ⟨Dg, own_only g1 ho hne, g2, by omega⟩, n3, n4, n5, n6⟩
/-- A place that has no values yet gets none. -/
theorem StM.fresh {w : World} {B sb kb vb ib lb N : Nat} {s : Sta} (h : StM w B sb kb vb ib lb N s) {x : Wh} (hf : s.vals x = none) (hx : whOk x) :
    (∀ w1, Only (fun i => i ≠ vb) w w1 → (Instr.lookup 101 (.map (some vb)) (whV x) false).run Tryz.prog w1 = .ok (.map none) w1) ∧
    ∃ Dv, w.ownsMap Tryz.prog 108 anyElem vb (Maps.size Dv) Dv ∧ Maps.size Dv ≤ N ∧
      ∀ (w0 w1 : World) (m : Nat), Below w.heap.size w w0 → w.heap.size ≤ m → VmAt w0 m (fun _ => none) (N + 1) → w1.ownsMap Tryz.prog 108 anyElem vb (Maps.size Dv + 1) (Dv.put (whLit x) (.held (.map (some m)))) → Only (fun i => i = vb) w0 w1 → B ≤ w.heap.size →
        StM w1 B sb kb vb ib lb (N + 1) { s with vals := upd s.vals x (some (fun _ => none)) } := by
  obtain ⟨Dk, k1, k2, k3⟩ := h.ks
  obtain ⟨Dv, v1, v2, v3, v4⟩ := h.vs
  have hv := v3 x hx
  rw [hf] at hv
  refine ⟨fun w1 ho => ?_, Dv, v1, v2, fun w0 w1 m hb hm hvm hown ho hB => ?_⟩
  · have := krun_look whMK (own_only v1 ho (fun h => h rfl)) Tryz.underlying101 (zeroMapV w1) hx
    rw [hv] at this
    exact this
  · have ho0 : Only (fun _ => False) w w0 := Only.of_below hb
    have lk := World.ownsMap.lt k1
    have lv := World.ownsMap.lt v1
    have ls := h.blk.lt
    have hD : IsMap Dv := World.ownsMap.isMap v1
    have hget : ∀ y, whOk y → kget (Dv.put (whLit x) (.held (.map (some m)))) (whLit y) = if y = x then some (.map (some m)) else kget Dv (whLit y) := fun y hy => whMK.get_put hD hx hy _
    have hlt : ∀ y, whOk y → ∀ m', kget Dv (whLit y) = some (.map (some m')) → m' < w.heap.size := fun y hy m' e => by
      have := v3 y hy
      cases e2 : s.vals y with
      | none => rw [e2] at this; rw [this] at e; cases e
      | some g =>
        rw [e2] at this
        obtain ⟨m2, n1, n2, _⟩ := this
        rw [n1] at e
        injection e with e
        injection e with e
        injection e with e
        subst e
        exact n2.lt
    refine ⟨(h.blk.only ho0 (fun h => h)).only ho h.ne.2.1, ⟨Dk, own_only (own_only k1 ho0 (fun h => h)) ho h.ne.2.2, k2, by omega⟩, ⟨_, own_tight hown, by have := own_size (own_tight hown); have := own_size hown; omega, fun y hy => ?_, fun y z m' hy hz e1 e2 => ?_⟩, h.low, h.ne⟩
    · show match upd s.vals x (some (fun _ => none)) y with
        | none => _
        | some f => _
      rw [hget y hy]
      by_cases e : y = x
      · subst e
        rw [upd_same, if_pos rfl]
        exact ⟨m, rfl, hvm.only ho (by show m ≠ vb; omega), by omega, by omega, by omega, by omega⟩
      · rw [upd_other _ _ e, if_neg e]
        have := v3 y hy
        cases e2 : s.vals y with
        | none => rw [e2] at this; exact this
        | some g =>
          rw [e2] at this
          obtain ⟨m', n1, ⟨Dg, g1, g2, g3⟩, n3, n4, n5, n6⟩ := this
          exact ⟨m', n1, ⟨Dg, own_only (own_only g1 ho0 (fun h => h)) ho n6, g2, by omega⟩, n3, n4, n5, n6⟩
    · rw [hget y hy] at e1
      rw [hget z hz] at e2
      by_cases ey : y = x <;> by_cases ez : z = x
      · rw [ey, ez]
      · rw [if_pos ey] at e1
        rw [if_neg ez] at e2
        have := hlt z hz m' e2
        injection e1 with e1
        injection e1 with e1
        injection e1 with e1
        omega
      · rw [if_neg ey] at e1
        rw [if_pos ez] at e2
        have := hlt y hy m' e1
        injection e2 with e2
        injection e2 with e2
        injection e2 with e2
        omega
      · rw [if_neg ey] at e1
        rw [if_neg ez] at e2
        exact v4 y z m' hy hz e1 e2
/-- Another kind. -/
theorem StM.kind {w : World} {B sb kb vb ib lb N : Nat} {s : Sta} (h : StM w B sb kb vb ib lb N s) {n : Int × Int} (hn : I2 n) (k : Int) :
    ∃ Dk, w.ownsMap Tryz.prog 24 anyElem kb (Maps.size Dk) Dk ∧ Maps.size Dk ≤ N ∧ (∀ w1 : World, w1.ownsMap Tryz.prog 24 anyElem kb (Maps.size Dk + 1) (Dk.put (rlit n) (.held (.int .i64 k))) → Only (fun i => i = kb) w w1 → StM w1 B sb kb vb ib lb (N + 1) { s with kinds := upd s.kinds n (some k) }) := by
  obtain ⟨Dk, k1, k2, k3⟩ := h.ks
  obtain ⟨Dv, v1, v2, v3, v4⟩ := h.vs
  refine ⟨Dk, k1, k3, fun w1 hown ho => ⟨h.blk.only ho h.ne.1, ⟨_, own_tight hown, fun r hr => ?_, by have := own_size (own_tight hown); have := own_size hown; omega⟩, ⟨Dv, own_only v1 ho (fun e => h.ne.2.2 e.symm), by omega, fun y hy => ?_, v4⟩, h.low, h.ne⟩⟩
  · rw [mget_put pairId (World.ownsMap.isMap k1) hn hr]
    show _ = (upd s.kinds n (some k) r).map _
    unfold upd
    by_cases e : r = n
    · rw [if_pos e, if_pos e]; rfl
    · rw [if_neg e, if_neg e]; exact k2 r hr
  · have := v3 y hy
    cases e2 : s.vals y with
    | none => rw [e2] at this; exact this
    | some g =>
      rw [e2] at this
      obtain ⟨m', n1, ⟨Dg, g1, g2, g3⟩, n3, n4, n5, n6⟩ := this
      exact ⟨m', n1, ⟨Dg, own_only g1 ho n5, g2, by omega⟩, n3, n4, n5, n6⟩
end Go.Proofs.YthimkpkoimfkiaaGreat
