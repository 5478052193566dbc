/- dag.Book.Take: a contract. The Inserts behind one, and in which list an element is, in memory. -/
import Derived.Test.YteknflimfdkhoaaGreatDg18
import Derived.ScopeJumps
import Derived.WalkMore
import Derived.IntWalk
import Derived.Test.YteknflimfdkhoaaGreatDg5
import Derived.WideKeyEntry
namespace Go.Proofs.YteknflimfdkhoaaGreat
open Go.RowKit Go.Maps Go.WideShapes
set_option linter.unusedVariables false
set_option linter.unusedSimpArgs false

/-- A scope in which the run jumps back to one label: what stands behind the label is walked once. -/
theorem wp_scope_jumps1 {P : Program} {a : Act} {w : World} {Q : Exit → Act → World → Prop} {c X : Code} (l : Nat) (J : Act → World → Prop) (μ : Act → World → Nat) (hf : findLabel c l = some (Code.skip.seq X))
    (pass : ∀ a w, J a w → X.wp P (Exit.jump l (fun a' w' => J a' w' ∧ μ a' w' < μ a w) Q) a w)
    (first : (∀ a w, J a w → X.wp P (Exit.jump l J Q) a w) → c.wp P (Exit.jump l J Q) a w) : (Code.scope c).wp P Q a w := by
  refine wp_scope_jumps l J μ hf (first (fun a w h => ?_)) (fun a w h => wp_seq (wp_skip (pass a w h)))
  intro b k cs
  obtain ⟨e, a', w', hq, harr⟩ := pass a w h b k cs
  refine ⟨e, a', w', ?_, harr⟩
  cases e with
  | goto l' => exact ⟨hq.1, hq.2.1⟩
  | normal => exact hq
  | exit id => exact hq
  | ret => exact hq
  | panic ch => exact hq
  | outgrown => exact hq

/-- 'delete(m, k)'. -/
theorem wpList_del {P : Program} (w : World) {ops : Array Oper} {rest : List Oper} {o : Oper} {a : Act} {Q : Exit → Act → World → Prop} (hg : o.guard = none) (m x : Operand) (t k : TypeId)
    (hop : o.op = .call { callee := .builtin .delete, args := #[m, x], argTypes := #[t, k] }) (e : TypeId) (K : PairK P k) (ht : P.underlying t = some (.map k e))
    (b n : Nat) (D : DataW Value) (hm : a.eval m = .map (some b)) (hown : w.ownsMap P k anyElem b n D) (r : Int × Int) (hx : a.eval x = refV r) (hr : I2 r)
    (hK : ∀ w', w'.ownsMap P k anyElem b n (D.del (rlit r)) → Only (fun i => i = b) w w' → w'.heap.size = w.heap.size → wpList P ops Q rest (a.put o.dst (.tuple #[])) w') : wpList P ops Q (o :: rest) a w := by
  refine wpList_plain hg fun K' hK' => ?_
  obtain ⟨w', hrun, r1, r2⟩ := hown.drop K.keyed ht (K.of_ r hr) o.type
  have hs : w'.heap.size = w.heap.size := by
    obtain ⟨es, clock, es', clock', _, rfl⟩ := r2
    simp [Go.ChangeMaps.setBlock]
  unfold Oper.wp execOp
  simp only [hop, resolve, invoke, builtin, Sem.run_bind, Sem.run_pure, Result.andThen_ok, List.map_toArray, List.map_cons, List.map_nil, hm, hx]
  rw [show refV r = .agg #[.int .i64 r.1, .int .i64 r.2] from rfl] at hrun ⊢
  simp only [hrun]
  exact hK' _ _ (hK w' r1 (only_turned r2) hs)

def T3 (h wt bh : Nat) : Nat → Prop := fun i => i = h ∨ i = wt ∨ i = bh
/-- How many entries a map has. -/
def entsOf (W : World) (b : Nat) : Nat := match W.heap[b]? with | some (.map es _) => es.size | _ => 0
theorem entsOf_eq {W : World} {b : Nat} {D : DataW Value} (h : OM W b D) : entsOf W b = Maps.size D := by
  obtain ⟨es, ck, hb, F, hs, rfl⟩ := h
  unfold entsOf
  rw [hb]
  simp [Maps.size, length_sorted]
/-- What stands at each jump. -/
def TkJ (w : World) (bk h wt bh : Nat) (a : Act) (W : World) : Prop :=
  ∃ (Dh Dw Db : DataW Value) (L : List PCh), Dag W bk h wt bh Dh Dw Db L ∧ Only (T3 h wt bh) w W ∧
    ∃ l : List Value, a = { tmps := l.toArray, defers := [] } ∧ l.length = 115 ∧ l.getD 0 undef = .pointer (some ⟨bk, 0, none⟩)
theorem frame_lit (l : List Value) (v : Value) (h : l.length = 115) (h0 : l.getD 0 undef = v) : ∃ f : Nat → Value, l = [v, f 1, f 2, f 3, f 4, f 5, f 6, f 7, f 8, f 9, f 10, f 11, f 12, f 13, f 14, f 15, f 16, f 17, f 18, f 19, f 20, f 21, f 22, f 23, f 24, f 25, f 26, f 27, f 28, f 29, f 30, f 31, f 32, f 33, f 34, f 35, f 36, f 37, f 38, f 39, f 40, f 41, f 42, f 43, f 44, f 45, f 46, f 47, f 48, f 49, f 50, f 51, f 52, f 53, f 54, f 55, f 56, f 57, f 58, f 59, f 60, f 61, f 62, f 63, f 64, f 65, f 66, f 67, f 68, f 69, f 70, f 71, f 72, f 73, f 74, f 75, f 76, f 77, f 78, f 79, f 80, f 81, f 82, f 83, f 84, f 85, f 86, f 87, f 88, f 89, f 90, f 91, f 92, f 93, f 94, f 95, f 96, f 97, f 98, f 99, f 100, f 101, f 102, f 103, f 104, f 105, f 106, f 107, f 108, f 109, f 110, f 111, f 112, f 113, f 114] := by
  refine ⟨fun i => l.getD i undef, ?_⟩
  have e : l = (List.range 115).map (fun i => l.getD i undef) := by
    rw [← h]
    apply List.ext_getElem
    · simp
    · intro i h1 h2
      simp [List.getD_eq_getElem?_getD, h1]
  rw [← h0]
  exact e
/-- What Take does. -/
def TakeQ (w : World) (bk h wt bh : Nat) (e : Ending) (w' : World) : Prop :=
  ∃ (n : Int) (Dh Dw Db : DataW Value) (L : List PCh), e = .returned (errC n) ∧ Dag w' bk h wt bh Dh Dw Db L ∧ Only (T3 h wt bh) w w'
/-- What stands behind the look-ups. -/
structure Tk2 (w : World) (bk h wt bh : Nat) (Dh Dw Db : DataW Value) (L : List PCh) (c : PCh) (rb xb : Nat) (y : PCh) (z : Bool) (W : World) : Prop where
  cb : CB w c W
  rbx : Blk W rb 33 #[.int .i64 c.actor, .int .i64 c.seq]
  dag : Dag W bk h wt bh Dh Dw Db L
  inc : InC W c
  xbx : Blk W xb 65 #[.int .i64 y.actor, .int .i64 y.seq, .int .i64 y.start, .slice y.dA y.deps.length y.dc, .slice y.oA y.ops.length y.oc]
  yes : z = true → InC W y
  no : z = false → hasB Dh c.ref = false ∧ hasB Dw c.ref = false
/-- What stands behind the copy. -/
structure Tk3 (w : World) (bk h wt bh : Nat) (Dh Dw Db : DataW Value) (L : List PCh) (c : PCh) (rb : Nat) (x : PCh) (W : World) : Prop where
  bel : Below w.heap.size w W
  box : Blk W w.heap.size 65 #[.int .i64 x.actor, .int .i64 x.seq, .int .i64 x.start, .slice x.dA x.deps.length x.dc, .slice x.oA x.ops.length x.oc]
  rbx : Blk W rb 33 #[.int .i64 c.actor, .int .i64 c.seq]
  dag : Dag W bk h wt bh Dh Dw Db L
  inc : InC W x
theorem Tk3.new {w W W' : World} {bk h wt bh : Nat} {Dh Dw Db : DataW Value} {L : List PCh} {c x : PCh} {rb : Nat} (H : Tk3 w bk h wt bh Dh Dw Db L c rb x W) (hb : Below W.heap.size W W') : Tk3 w bk h wt bh Dh Dw Db L c rb x W' :=
  ⟨H.bel.trans (hb.mono H.bel.size), H.box.below hb H.box.lt, H.rbx.below hb H.rbx.lt, H.dag.below hb, H.inc.below hb⟩
/-- What holds at each round of the last loop. -/
def TkR (w : World) (bk h wt bh : Nat) (Dh Dw Db : DataW Value) (L : List PCh) (A : Option Addr) (sl : List (Int × Int)) (k : Nat) (W : World) : Prop :=
  ∃ Dw', Dag W bk h wt bh Dh Dw' Db L ∧ Only (T3 h wt bh) w W ∧ SlAt W A (refs sl) ∧ Maps.size Dw' ≤ Maps.size Dw ∧ ∀ i r, k ≤ i → sl[i]? = some r → hasB Dw' r = true
theorem T3_map {w : World} {bk h wt bh : Nat} {Dh Dw Db : DataW Value} {L : List PCh} (H : Dag w bk h wt bh Dh Dw Db L) : ∀ i, T3 h wt bh i → IsMapB w i := fun i e => by
  rcases e with rfl | rfl | rfl
  · exact H.bkm.has.isMapB
  · exact H.bkm.wts.isMapB
  · exact H.bkm.beh.isMapB

set_option maxRecDepth 100000 in
set_option maxHeartbeats 4000000 in
theorem take_any (bk h wt bh : Nat) (Dh Dw Db : DataW Value) (L : List PCh) (c : PCh) (w : World) (H : Dag w bk h wt bh Dh Dw Db L) (hc : InC w c) :
    Calls Tryz.prog 20 #[.pointer (some ⟨bk, 0, none⟩), .agg #[.int .i64 c.actor, .int .i64 c.seq, .int .i64 c.start, .slice c.dA c.deps.length c.dc, .slice c.oA c.ops.length c.oc]] w (TakeQ w bk h wt bh) := by
  obtain ⟨W0, hW0⟩ : ∃ W0, W0 = w.alloc (.cells #[.int .i64 c.actor, .int .i64 c.seq, .int .i64 c.start, .slice c.dA c.deps.length c.dc, .slice c.oA c.ops.length c.oc] 65) := ⟨_, rfl⟩
  have hC0 : CB w c W0 := by rw [hW0]; exact ⟨(Below.refl _ _).alloc (Nat.le_refl _) _, Blk.new _ _ _⟩
  have HC0 := Lib.hid (And.intro hC0 (And.intro H hc))
  have HW0 := Lib.hid hW0
  clear hC0 H hc hW0
  go_enter Tryz.func20, Tryz.ntmps20
  go_wp2_with fail
  rw [← HW0.out]
  refine wp_scope_jumps1 0 (TkJ w bk h wt bh) (fun _ W => entsOf W wt) rfl ?pass ?first
  case pass =>
    rintro a W ⟨Dh, Dw, Db, L, hD, hO, l0, rfl, hl0, hl1⟩
    obtain ⟨f, rfl⟩ := frame_lit l0 _ hl0 hl1
    clear hl0 hl1
    have HD := Lib.hid (And.intro hD hO)
    clear hD hO
    have p0 : W.cell? ⟨bk, 1, none⟩ = some (.map (some wt)) := HD.out.1.bkm.blk.cell 1
    have HO := Lib.hid (show W.ownsMap Tryz.prog 33 anyElem wt (Maps.size Dw) Dw from HD.out.1.bkm.wts)
    go_wp2_with (go_at_call 37; (with_reducible refine (rising_any wt _ Dw _ HO.out (by have := HD.out.1.sz; omega)).mono ?_); rintro e w1 ⟨l, A, cc, hk, hl, rfl, hown, hb1⟩; have HK := Lib.hid (And.intro hk (And.intro hl (And.intro hown hb1))); clear hk hown hb1 hl; have hll : l.length ≤ 120 := by have := HD.out.1.sz; have := HK.out.2.1; omega)
    clear p0
    go_loopw [89, 10, 11] (fun iv _ _ wr => ∃ k : Nat, iv = .int .i64 k ∧ k ≤ l.length ∧ TkR w bk h wt bh Dh Dw Db L A (sortR l) k wr) (fun iv _ _ _ => l.length - (intOf iv).toNat)
    case atStart =>
      obtain ⟨hk, hl, hown, hb1⟩ := HK.out
      refine ⟨0, rfl, Nat.zero_le _, Dw, HD.out.1.below hb1, HD.out.2.trans (Only.of_below hb1), SlAt.of_owns hown, Nat.le_refl _, fun i r _ hi => ?_⟩
      have hm := (sortR_mem l r).1 (List.mem_of_getElem? hi)
      exact (hk.mem r (hk.i2 r hm)).1 hm
    case round =>
      obtain ⟨k, rfl, hk, Dw', hD, hO, hA, hs, hw⟩ := hrel
      by_cases hlt : k < l.length
      · have hlt2 : k < (sortR l).length := by rw [sortR_len]; exact hlt
        obtain ⟨b, off, d, ha, hd, hx, hy⟩ := hA.ref hlt2
        have hdi := HK.out.1.i2 d ((sortR_mem l d).1 (List.mem_of_getElem? hd))
        obtain ⟨v, hv⟩ := Option.isSome_iff_exists.1 (show (mget Dw' d).isSome = true from hw k d (Nat.le_refl _) hd)
        obtain ⟨x, hvx, hxI, hxg, hxr⟩ := hD.wts d hdi v hv
        subst hvx
        obtain ⟨W5, hW5⟩ : ∃ W5, W5 = wr.alloc (.cells #[.int .i64 d.1, .int .i64 d.2] 33) := ⟨_, rfl⟩
        have hb5 : Below wr.heap.size wr W5 := by rw [hW5]; exact (Below.refl _ _).alloc (Nat.le_refl _) _
        have hR5 : Blk W5 wr.heap.size 33 #[.int .i64 d.1, .int .i64 d.2] := by rw [hW5]; exact Blk.new _ _ _
        obtain ⟨rb, hrb⟩ : ∃ rb, rb = wr.heap.size := ⟨_, rfl⟩
        have HAA := Lib.hid ha
        have H5 := Lib.hid (And.intro (hD.below hb5) (And.intro (hO.trans (Only.of_below hb5)) (And.intro (hA.below hb5) (And.intro hs (And.intro hw (And.intro hdi (And.intro hd (And.intro (hxI.below hb5) (And.intro hxg hxr)))))))))
        have hmg : (mget Dw' d).getD zCh = x.value := by rw [hv]; rfl
        have hS : ∀ W, Below W5.heap.size W5 W → W.cell? ⟨bk, 1, none⟩ = some (.map (some wt)) ∧ W.cell? ⟨wr.heap.size, 0, none⟩ = some (.int .i64 d.1) ∧ W.cell? ⟨wr.heap.size, 1, none⟩ = some (.int .i64 d.2) ∧ (Instr.lookup 93 (.map (some wt)) (.agg #[.int .i64 d.1, .int .i64 d.2]) false).run Tryz.prog W = .ok (.agg #[.int .i64 x.actor, .int .i64 x.seq, .int .i64 x.start, .slice x.dA x.deps.length x.dc, .slice x.oA x.ops.length x.oc]) W := by
          intro W hW
          have h2 := H5.out.1.bkm.below hW
          have hR := hR5.below hW hR5.lt
          refine ⟨h2.blk.cell 1, hR.cell 0, hR.cell 1, ?_⟩
          have := run_look pairRef (w := W) h2.wts Tryz.underlying93 (zeroCh _) hdi
          rw [hmg] at this
          exact this
        have HKS := Lib.hid hS
        have HR5 := Lib.hid hR5
        clear hD hO hA hs hw hdi hv hxI hxg hxr hb5 hR5 hmg hS hlt2 hd
        rw [ha]
        clear ha
        go_upto_region 24 with (fail)
        rw [← hW5]
        clear hW5 hx hy
        go_cut [11] from 93 to 98 (fun s11 wx => ∃ xb, s11 = .pointer (some ⟨xb, 0, none⟩) ∧ Below W5.heap.size W5 wx ∧ Blk wx xb 65 #[.int .i64 x.actor, .int .i64 x.seq, .int .i64 x.start, .slice x.dA x.deps.length x.dc, .slice x.oA x.ops.length x.oc])
        case first =>
          obtain ⟨p0, p1, p2, p3⟩ := HKS.out W5 (Below.refl _ _)
          go_region_held3 (fun w' => w'.cell? ⟨bk, 1, none⟩ = some (.map (some wt)) ∧ w'.cell? ⟨wr.heap.size, 0, none⟩ = some (.int .i64 d.1) ∧ w'.cell? ⟨wr.heap.size, 1, none⟩ = some (.int .i64 d.2) ∧ (Instr.lookup 93 (.map (some wt)) (.agg #[.int .i64 d.1, .int .i64 d.2]) false).run Tryz.prog w' = .ok (.agg #[.int .i64 x.actor, .int .i64 x.seq, .int .i64 x.start, .slice x.dA x.deps.length x.dc, .slice x.oA x.ops.length x.oc]) w')
            (first | (with_reducible exact HKS.out _ (Below.refl _ W5).drew) | (with_reducible exact HKS.out _ ((Below.refl _ W5).alloc (Nat.le_refl _) _).drew) | go_keep) (first | fail)
          all_goals
            go_wp2_with fail
            go_meet
            exact ⟨_, rfl, ((Below.refl _ _).alloc (Nat.le_refl _) _).drew, Blk.new W5 _ _⟩
        case rest =>
          obtain ⟨xb, rfl, hb6, hX6⟩ := hcut
          have H6 := Lib.hid (And.intro (H5.out.1.below hb6) (And.intro (H5.out.2.1.trans (Only.of_below hb6)) (And.intro (H5.out.2.2.1.below hb6) (And.intro hX6 (And.intro (HR5.out.below hb6 HR5.out.lt) (H5.out.2.2.2.2.2.2.2.1.below hb6))))))
          clear hb6 hX6
          have hg2 : GoodC x := chE_good H5.out.2.2.2.2.2.2.2.2.1
          have HG := Lib.hid hg2
          clear hg2
          have k0 : wc.cell? ⟨xb, 0, none⟩ = some (.int .i64 x.actor) := H6.out.2.2.2.1.cell 0
          have k1 : wc.cell? ⟨xb, 1, none⟩ = some (.int .i64 x.seq) := H6.out.2.2.2.1.cell 1
          have k2 : wc.cell? ⟨xb, 2, none⟩ = some (.int .i64 x.start) := H6.out.2.2.2.1.cell 2
          have k3 : wc.cell? ⟨xb, 3, none⟩ = some (.slice x.dA x.deps.length x.dc) := H6.out.2.2.2.1.cell 3
          have k4 : wc.cell? ⟨xb, 4, none⟩ = some (.slice x.oA x.ops.length x.oc) := H6.out.2.2.2.1.cell 4
          obtain ⟨q, hqr⟩ : ∃ q, readyB Dh x.deps = q := ⟨_, rfl⟩
          have HRD := Lib.hid hqr
          clear hqr
          cases q with
          | false =>
            go_wp2_with (go_at_call 47; (with_reducible refine (ready_any bk h wt bh Dh Dw' Db x _ H6.out.1.bkm H6.out.1.chmap H6.out.2.2.2.2.2).mono ?_); rintro e w8 ⟨rfl, hb8⟩; rw [HRD.out])
            have HE9 := Lib.hid (show TkR w bk h wt bh Dh Dw Db L A (sortR l) (k + 1) w8 from ⟨Dw', H6.out.1.below hb8, H6.out.2.1.trans (Only.of_below hb8), H6.out.2.2.1.below hb8, H5.out.2.2.2.1, fun i r hi => H5.out.2.2.2.2.1 i r (by omega)⟩)
            clear hb8
            exact ⟨⟨k + 1, by push_cast; rfl, by omega, by rw [← HAA.out]; exact HE9.out⟩, by simp [intOf]; omega⟩
          | true =>
            go_upto_region 26 with (go_at_call 47; (with_reducible refine (ready_any bk h wt bh Dh Dw' Db x _ H6.out.1.bkm H6.out.1.chmap H6.out.2.2.2.2.2).mono ?_); rintro e w8 ⟨rfl, hb8⟩; rw [HRD.out])
            clear k0 k1 k2 k3 k4
            have H8 := Lib.hid (And.intro (H6.out.1.below hb8) (And.intro (H6.out.2.1.trans (Only.of_below hb8)) (And.intro (H6.out.2.2.1.below hb8) (And.intro (H6.out.2.2.2.1.below hb8 H6.out.2.2.2.1.lt) (And.intro (H6.out.2.2.2.2.1.below hb8 H6.out.2.2.2.2.1.lt) (H6.out.2.2.2.2.2.below hb8))))))
            clear hb8
            have p0 : w8.cell? ⟨bk, 1, none⟩ = some (.map (some wt)) := H8.out.1.bkm.blk.cell 1
            have p1 : w8.cell? ⟨wr.heap.size, 0, none⟩ = some (.int .i64 d.1) := H8.out.2.2.2.2.1.cell 0
            have p2 : w8.cell? ⟨wr.heap.size, 1, none⟩ = some (.int .i64 d.2) := H8.out.2.2.2.2.1.cell 1
            go_still_tail 5, (by kernel_rfl)
            change wpList _ _ _ _ _ w8.drew
            refine wpList_del _ rfl _ _ 93 33 rfl 65 pairRef Tryz.underlying93 wt _ Dw' rfl (show w8.drew.ownsMap Tryz.prog 33 anyElem wt (Maps.size Dw') Dw' from H8.out.1.bkm.wts) d rfl H5.out.2.2.2.2.2.1 ?_
            intro W9 hm9 ho9 hs9
            clear p0 p1 p2
            have hwd : hasB Dw' d = true := H5.out.2.2.2.2.1 k d (Nat.le_refl _) H5.out.2.2.2.2.2.2.1
            obtain ⟨hD9, hlt9, hsz9⟩ := (H8.out.1.below (Below.refl _ _).drew).free H5.out.2.2.2.2.2.1 (OM.of hm9) ho9 hwd
            have hS9 : ∀ i, i = wt → IsMapB w8 i := fun i e => by subst e; exact H8.out.1.bkm.wts.isMapB
            have hX9 : Blk W9 xb 65 #[.int .i64 x.actor, .int .i64 x.seq, .int .i64 x.start, .slice x.dA x.deps.length x.dc, .slice x.oA x.ops.length x.oc] := (show Blk w8.drew _ _ _ from H8.out.2.2.2.1).only ho9 (fun e => blk_noMap H8.out.2.2.2.1 (hS9 _ e))
            have hw9 : ∀ i r, k + 1 ≤ i → (sortR l)[i]? = some r → hasB (Dw'.del (rlit d)) r = true := fun i r hi hr => by
              have hri := HK.out.1.i2 r ((sortR_mem l r).1 (List.mem_of_getElem? hr))
              unfold hasB
              rw [mget_del pairRef H5.out.2.2.2.2.2.1 hri]
              have hne : ¬ r = d := fun e => by
                subst e
                have hnd : (sortR l).Nodup := (sortR_perm l).nodup_iff.2 HK.out.1.nodup
                obtain ⟨h1, e1⟩ := List.getElem?_eq_some_iff.1 hr
                obtain ⟨h2, e2⟩ := List.getElem?_eq_some_iff.1 H5.out.2.2.2.2.2.2.1
                exact (List.pairwise_iff_getElem.1 hnd) k i h2 h1 (by omega) (e2.trans e1.symm)
              rw [if_neg hne]
              exact H5.out.2.2.2.2.1 i r (by omega) hr
            have hO9 : Only (T3 h wt bh) w W9 := (H8.out.2.1.drew).trans (ho9.mono (fun k _ e => .inr (.inl e)))
            have H9 := Lib.hid (And.intro hD9 (And.intro hO9 (And.intro ((show SlAt w8.drew _ _ from H8.out.2.2.1).maps ho9 hS9) (And.intro hX9 (And.intro ((H8.out.2.2.2.2.2.below (Below.refl _ _).drew).maps ho9 hS9) (And.intro hw9 (And.intro hlt9 hsz9)))))))
            clear hm9 ho9 hs9 hwd hD9 hlt9 hsz9 hS9 hX9 hw9 hO9
            have hall := fun (W : World) (hD : Dag W bk h wt bh Dh (Dw'.del (rlit d)) Db L) (hI : InC W x) => hD.deps hI.dep HRD.out
            have HA := Lib.hid hall
            clear hall
            have k0 : W9.cell? ⟨xb, 0, none⟩ = some (.int .i64 x.actor) := H9.out.2.2.2.1.cell 0
            have k1 : W9.cell? ⟨xb, 1, none⟩ = some (.int .i64 x.seq) := H9.out.2.2.2.1.cell 1
            have k2 : W9.cell? ⟨xb, 2, none⟩ = some (.int .i64 x.start) := H9.out.2.2.2.1.cell 2
            have k3 : W9.cell? ⟨xb, 3, none⟩ = some (.slice x.dA x.deps.length x.dc) := H9.out.2.2.2.1.cell 3
            have k4 : W9.cell? ⟨xb, 4, none⟩ = some (.slice x.oA x.ops.length x.oc) := H9.out.2.2.2.1.cell 4
            go_upto_if 110 with (go_at_call 48; (with_reducible refine (bookFits_any bk h wt bh Dh (Dw'.del (rlit d)) Db x _ H9.out.1.bkm H9.out.1.beh H9.out.1.inHas H9.out.2.2.2.2.1 HG.out.i2 (by have h1 := H9.out.1.sz; omega) ⟨⟨by have := HG.out.st; omega, HG.out.st.2⟩, HG.out.ops⟩ HG.out.seq (HA.out _ H9.out.1 H9.out.2.2.2.2.1).2).mono ?_); rintro e w10 ⟨z2, rfl, hb10⟩)
            clear k0 k1 k2 k3 k4
            have H10 := Lib.hid (And.intro (H9.out.1.below hb10) (And.intro (H9.out.2.1.trans (Only.of_below hb10)) (And.intro (H9.out.2.2.1.below hb10) (And.intro (H9.out.2.2.2.1.below hb10 H9.out.2.2.2.1.lt) (H9.out.2.2.2.2.1.below hb10)))))
            clear hb10
            cases z2 with
            | false =>
              go_wp2_with fail
              have HE9 := Lib.hid (show TkR w bk h wt bh Dh Dw Db L A (sortR l) (k + 1) w10 from ⟨_, H10.out.1, H10.out.2.1, H10.out.2.2.1, by have h1 := H9.out.2.2.2.2.2.2.2; have h2 := H5.out.2.2.2.1; omega, H9.out.2.2.2.2.2.1⟩)
              exact ⟨⟨k + 1, by push_cast; rfl, by omega, by rw [← HAA.out]; exact HE9.out⟩, by simp [intOf]; omega⟩
            | true =>
              have k0 : w10.cell? ⟨xb, 0, none⟩ = some (.int .i64 x.actor) := H10.out.2.2.2.1.cell 0
              have k1 : w10.cell? ⟨xb, 1, none⟩ = some (.int .i64 x.seq) := H10.out.2.2.2.1.cell 1
              have k2 : w10.cell? ⟨xb, 2, none⟩ = some (.int .i64 x.start) := H10.out.2.2.2.1.cell 2
              have k3 : w10.cell? ⟨xb, 3, none⟩ = some (.slice x.dA x.deps.length x.dc) := H10.out.2.2.2.1.cell 3
              have k4 : w10.cell? ⟨xb, 4, none⟩ = some (.slice x.oA x.ops.length x.oc) := H10.out.2.2.2.1.cell 4
              go_wp2_with (go_at_call 49; (with_reducible refine (put_any bk h wt bh Dh (Dw'.del (rlit d)) Db x _ H10.out.1.bkm H10.out.1.beh H10.out.2.2.2.2 HG.out.i2 (by have h1 := H10.out.1.sz; omega) (by have h0 := H10.out.1.sizeDb; have h1 := H10.out.1.sz; omega) (HA.out _ H10.out.1 H10.out.2.2.2.2).2).mono ?_); rintro e w11 ⟨m, Dm, rfl, hp1, hp2, hp3, hp4, hp5⟩; have HPQ := Lib.hid (And.intro hp1 (And.intro hp2 (And.intro hp3 (And.intro hp4 hp5)))); clear hp1 hp2 hp3 hp4 hp5; clear k0 k1 k2 k3 k4)
              go_step3
              obtain ⟨hp1, hp2, hp3, hp4, hp5⟩ := HPQ.out
              have hxr : x.ref = d := H5.out.2.2.2.2.2.2.2.2.2
              have hwd : hasB Dw' d = true := H5.out.2.2.2.2.1 k d (Nat.le_refl _) H5.out.2.2.2.2.2.2.1
              have hD11 := H10.out.1.put H10.out.2.2.2.2 H5.out.2.2.2.2.2.2.2.2.1 (by rw [hxr]; exact H5.out.1.apart d H5.out.2.2.2.2.2.1 hwd) (by rw [hxr]; unfold hasB; rw [mget_del pairRef H5.out.2.2.2.2.2.1 H5.out.2.2.2.2.2.1, if_pos rfl]; rfl) (HA.out _ H10.out.1 H10.out.2.2.2.2).1 H9.out.2.2.2.2.2.2.1 hp1 hp2 hp3 hp4 hp5
              have hm1 := entsOf_eq hD11.bkm.wts
              have hm2 := entsOf_eq HD.out.1.bkm.wts
              have hm3 := H9.out.2.2.2.2.2.2.2
              have hm4 := H5.out.2.2.2.1
              refine id (α := (0 : Nat) = 0 ∧ (TkJ w bk h wt bh _ w11 ∧ entsOf w11 wt < entsOf W wt)) ?_
              exact ⟨rfl, ⟨_, _, _, _, hD11, H10.out.2.1.trans (hp5.mono (fun k _ e => by rcases e with e | e; exact .inl e; exact .inr (.inr e))), _, rfl, rfl, rfl⟩, by omega⟩
      · obtain rfl : k = l.length := by omega
        have HX := Lib.hid (And.intro hD hO)
        clear hD hO hA hs hw
        go_wp2_with fail
        simp only [Exit.jump]
        go_ret
        exact ⟨0, Dh, Dw', Db, L, rfl, HX.out.1, HX.out.2⟩
  case first =>
    intro hP
    have HP := Lib.hid hP
    clear hP
    obtain ⟨n, hE⟩ : ∃ n, chE c.ch = n := ⟨_, rfl⟩
    have HE := Lib.hid hE
    clear hE
    have c0 : W0.cell? ⟨w.heap.size, 0, none⟩ = some (.int .i64 c.actor) := HC0.out.1.blk.cell 0
    have c1 : W0.cell? ⟨w.heap.size, 1, none⟩ = some (.int .i64 c.seq) := HC0.out.1.blk.cell 1
    have c2 : W0.cell? ⟨w.heap.size, 2, none⟩ = some (.int .i64 c.start) := HC0.out.1.blk.cell 2
    have c3 : W0.cell? ⟨w.heap.size, 3, none⟩ = some (.slice c.dA c.deps.length c.dc) := HC0.out.1.blk.cell 3
    have c4 : W0.cell? ⟨w.heap.size, 4, none⟩ = some (.slice c.oA c.ops.length c.oc) := HC0.out.1.blk.cell 4
    by_cases hn : n = 0
    · subst hn
      go_upto_region 5 with (first
        | (go_at_call 45; (with_reducible refine (changeCheck_any c _ (HC0.out.2.2.below HC0.out.1.bel)).mono ?_); rintro e w1 ⟨rfl, hb1⟩; rw [HE.out, errC_zero]; have d0 := (HC0.out.1.new hb1).blk.cell 0; have d1 := (HC0.out.1.new hb1).blk.cell 1; have d2 := (HC0.out.1.new hb1).blk.cell 2; have d3 := (HC0.out.1.new hb1).blk.cell 3; have d4 := (HC0.out.1.new hb1).blk.cell 4; simp at d0 d1 d2 d3 d4)
        | (go_at_call 21; (with_reducible refine (changeRef_any c _).mono ?_); rintro e w2 ⟨rfl, hb2⟩; clear c0 c1 c2 c3 c4))
      have HC1 := Lib.hid (HC0.out.1.new hb1)
      clear hb1 d0 d1 d2 d3 d4
      obtain ⟨W3, hW3⟩ : ∃ W3, W3 = w2.alloc (.cells #[.int .i64 c.actor, .int .i64 c.seq] 33) := ⟨_, rfl⟩
      rw [← hW3]
      have hb3 : Below w1.heap.size w1 W3 := by rw [hW3]; exact hb2.alloc hb2.size _
      have hC3 := HC1.out.new hb3
      have hR3 : Blk W3 w2.heap.size 33 #[.int .i64 c.actor, .int .i64 c.seq] := by rw [hW3]; exact Blk.new _ _ _
      have hD3 := HC0.out.2.1.below hC3.bel
      have hI3 := HC0.out.2.2.below hC3.bel
      have hr := (chE_good HE.out).i2
      obtain ⟨x, s, hx, hs, hxs⟩ : ∃ (x : PCh) (s : Bool), (mget Dh c.ref).getD zCh = x.value ∧ (mget Dh c.ref).isSome = s ∧ (s = true → findC L c.ref = some x) := by
        rw [hD3.has _ hr]
        cases hf : findC L c.ref with
        | none => exact ⟨zPCh, false, rfl, rfl, fun h => (by cases h)⟩
        | some x => exact ⟨x, true, rfl, rfl, fun _ => rfl⟩
      obtain ⟨rb, hrb⟩ : ∃ rb, rb = w2.heap.size := ⟨_, rfl⟩
      rw [← hrb] at hR3 ⊢
      have hrw : w.heap.size < rb := by
        have h1 := HC1.out.blk.lt
        have h2 := hb2.size
        rw [hrb]
        exact Nat.lt_of_lt_of_le h1 h2
      have hS : ∀ W, Below W3.heap.size W3 W → W.cell? ⟨bk, 0, none⟩ = some (.map (some h)) ∧ W.cell? ⟨rb, 0, none⟩ = some (.int .i64 c.actor) ∧ W.cell? ⟨rb, 1, none⟩ = some (.int .i64 c.seq) ∧ (Instr.lookup 93 (.map (some h)) (.agg #[.int .i64 c.actor, .int .i64 c.seq]) true).run Tryz.prog W = .ok (.tuple #[.agg #[.int .i64 x.actor, .int .i64 x.seq, .int .i64 x.start, .slice x.dA x.deps.length x.dc, .slice x.oA x.ops.length x.oc], .bool s]) W := by
        intro W hW
        have h2 := hD3.bkm.below hW
        have hR := hR3.below hW hR3.lt
        refine ⟨h2.blk.cell 0, hR.cell 0, hR.cell 1, ?_⟩
        have := run_look_ok pairRef (w := W) h2.has Tryz.underlying93 (zeroCh _) hr
        rw [hx, hs] at this
        exact this
      have HKS := Lib.hid hS
      obtain ⟨p0, p1, p2, p3⟩ := hS W3 (Below.refl _ _)
      have H3 := Lib.hid (And.intro hC3 (And.intro hR3 (And.intro hD3 (And.intro hI3 (And.intro hr (And.intro hs (And.intro hxs hrw)))))))
      clear hC3 hR3 hD3 hI3 hr hs hxs hx hb3 hW3 hb2 hrb hS
      go_cut [7, 8] from 19 to 27 (fun s7 s8 wx => ∃ xb, s7 = .pointer (some ⟨xb, 0, none⟩) ∧ s8 = .bool s ∧ Below W3.heap.size W3 wx ∧ W3.heap.size ≤ xb ∧ Blk wx xb 65 #[.int .i64 x.actor, .int .i64 x.seq, .int .i64 x.start, .slice x.dA x.deps.length x.dc, .slice x.oA x.ops.length x.oc])
      case first =>
        go_region_held3 (fun w' => w'.cell? ⟨bk, 0, none⟩ = some (.map (some h)) ∧ w'.cell? ⟨rb, 0, none⟩ = some (.int .i64 c.actor) ∧ w'.cell? ⟨rb, 1, none⟩ = some (.int .i64 c.seq) ∧ (Instr.lookup 93 (.map (some h)) (.agg #[.int .i64 c.actor, .int .i64 c.seq]) true).run Tryz.prog w' = .ok (.tuple #[.agg #[.int .i64 x.actor, .int .i64 x.seq, .int .i64 x.start, .slice x.dA x.deps.length x.dc, .slice x.oA x.ops.length x.oc], .bool s]) w')
          (first | (with_reducible exact HKS.out _ (Below.refl _ W3).drew) | (with_reducible exact HKS.out _ ((Below.refl _ W3).alloc (Nat.le_refl _) _).drew) | go_keep) (first | fail)
        all_goals
          go_wp2_with fail
          go_meet
          exact ⟨_, rfl, rfl, ((Below.refl _ _).alloc (Nat.le_refl _) _).drew, Nat.le_refl _, Blk.new W3 _ _⟩
      case rest =>
      obtain ⟨xb, rfl, rfl, hb4, hxl, hX4⟩ := hcut
      obtain ⟨W4, hW4⟩ : ∃ W4, W4 = wc := ⟨_, rfl⟩
      rw [← hW4] at hb4 hX4 ⊢
      clear hW4
      have hxr : xb ≠ rb ∧ xb ≠ w.heap.size ∧ w.heap.size ≤ xb ∧ W3.heap.size ≤ xb ∧ Below W3.heap.size W3 W4 := by
        have h1 := H3.out.2.1.lt
        have h2 := H3.out.1.blk.lt
        exact ⟨by omega, by omega, by omega, hxl, hb4⟩
      have H4 := Lib.hid (And.intro (H3.out.1.new hb4) (And.intro (H3.out.2.1.below hb4 H3.out.2.1.lt) (And.intro (H3.out.2.2.1.below hb4) (And.intro (H3.out.2.2.2.1.below hb4) (And.intro hX4 hxr)))))
      clear hX4 hxr hb4 hxl p0 p1 p2 p3
      go_upto_if 29 with (fail)
      go_cut [8] from 28 to 38 (fun s8 wx => ∃ (y : PCh) (z : Bool), s8 = .bool z ∧ Tk2 w bk h wt bh Dh Dw Db L c rb xb y z wx)
      case first =>
        have hxs' := H3.out.2.2.2.2.2.2.1
        cases s with
        | true =>
          go_wp2_with fail
          go_meet
          obtain ⟨a1, a2, a3, a4, a5, a6⟩ := H4.out
          exact ⟨x, true, rfl, a1, a2, a3, a4, a5, fun _ => (a3.good _ (findC_some (hxs' (by first | rfl | trivial))).1).1, fun h => (by cases h)⟩
        | false =>
          go_wp2_with fail
          have hr := H3.out.2.2.2.2.1
          have hs0 := H3.out.2.2.2.2.2.1
          obtain ⟨y, s, hy, hs⟩ : ∃ (y : PCh) (s : Bool), (mget Dw c.ref).getD zCh = y.value ∧ (mget Dw c.ref).isSome = s ∧ (s = true → InC W3 y) := by
            cases hf : mget Dw c.ref with
            | none => exact ⟨zPCh, false, rfl, rfl, fun h => (by cases h)⟩
            | some v =>
              obtain ⟨y, e1, e2, e3⟩ := H3.out.2.2.1.wts _ hr v hf
              exact ⟨y, true, e1, rfl, fun _ => e2⟩
          have hbx : bk ≠ xb := by
            have h5 := H3.out.2.2.1.bkm.blk.lt
            have h6 := H4.out.2.2.2.2.2.2.2.2.1
            omega
          have hS : ∀ W, Only (· = xb) W4 W → W.cell? ⟨bk, 1, none⟩ = some (.map (some wt)) ∧ W.cell? ⟨rb, 0, none⟩ = some (.int .i64 c.actor) ∧ W.cell? ⟨rb, 1, none⟩ = some (.int .i64 c.seq) ∧ (Instr.lookup 93 (.map (some wt)) (.agg #[.int .i64 c.actor, .int .i64 c.seq]) true).run Tryz.prog W = .ok (.tuple #[.agg #[.int .i64 y.actor, .int .i64 y.seq, .int .i64 y.start, .slice y.dA y.deps.length y.dc, .slice y.oA y.ops.length y.oc], .bool s]) W := by
            intro W hW
            have hnm := blk_noMap H4.out.2.2.2.2.1
            have h2 : Blk W bk _ _ := H4.out.2.2.1.bkm.blk.only hW hbx
            have hR : Blk W rb _ _ := H4.out.2.1.only hW (fun e => H4.out.2.2.2.2.2.1 e.symm)
            refine ⟨h2.cell 1, hR.cell 0, hR.cell 1, ?_⟩
            have := run_look_ok pairRef (w := W) (H4.out.2.2.1.bkm.wts.only hW (fun e => hnm (by rw [← e]; exact H4.out.2.2.1.bkm.wts.isMapB))) Tryz.underlying93 (zeroCh _) hr
            rw [hy, hs.1] at this
            exact this
          have HKS := Lib.hid hS
          obtain ⟨p0, p1, p2, p3⟩ := hS W4 (Only.refl _ _)
          have x0 : W4.cell? ⟨xb, 0, none⟩ = some (.int .i64 x.actor) := H4.out.2.2.2.2.1.cell 0
          have x1 : W4.cell? ⟨xb, 1, none⟩ = some (.int .i64 x.seq) := H4.out.2.2.2.2.1.cell 1
          have x2 : W4.cell? ⟨xb, 2, none⟩ = some (.int .i64 x.start) := H4.out.2.2.2.2.1.cell 2
          have x3 : W4.cell? ⟨xb, 3, none⟩ = some (.slice x.dA x.deps.length x.dc) := H4.out.2.2.2.2.1.cell 3
          have x4 : W4.cell? ⟨xb, 4, none⟩ = some (.slice x.oA x.ops.length x.oc) := H4.out.2.2.2.2.1.cell 4
          have f0 : W4.frozen? ⟨xb, 0, none⟩ = false := H4.out.2.2.2.2.1.frozen 0
          have f1 : W4.frozen? ⟨xb, 1, none⟩ = false := H4.out.2.2.2.2.1.frozen 1
          have f2 : W4.frozen? ⟨xb, 2, none⟩ = false := H4.out.2.2.2.2.1.frozen 2
          have f3 : W4.frozen? ⟨xb, 3, none⟩ = false := H4.out.2.2.2.2.1.frozen 3
          have f4 : W4.frozen? ⟨xb, 4, none⟩ = false := H4.out.2.2.2.2.1.frozen 4
          have HY := Lib.hid (And.intro hs hs0)
          clear hs hy hS hbx hs0
          go_region_held3 (fun w' => w'.cell? ⟨bk, 1, none⟩ = some (.map (some wt)) ∧ w'.cell? ⟨rb, 0, none⟩ = some (.int .i64 c.actor) ∧ w'.cell? ⟨rb, 1, none⟩ = some (.int .i64 c.seq) ∧ (Instr.lookup 93 (.map (some wt)) (.agg #[.int .i64 c.actor, .int .i64 c.seq]) true).run Tryz.prog w' = .ok (.tuple #[.agg #[.int .i64 y.actor, .int .i64 y.seq, .int .i64 y.start, .slice y.dA y.deps.length y.dc, .slice y.oA y.ops.length y.oc], .bool s]) w')
            (first | (with_reducible exact HKS.out _ (Only.refl _ W4).drew) | (with_reducible exact HKS.out _ (only5 W4 xb _ _ _ _ _ 0 1 2 3 4).drew) | go_keep) (first | fail)
          all_goals
            go_wp2_with fail
            go_meet
            have hb45 := (only5 W4 xb (.int .i64 y.actor) (.int .i64 y.seq) (.int .i64 y.start) (.slice y.dA y.deps.length y.dc) (.slice y.oA y.ops.length y.oc) 0 1 2 3 4).drew
            have h34 := H4.out.2.2.2.2.2.2.2.2
            have hb35 := h34.2.trans (hb45.below h34.2.size (fun k hk e => by have := h34.1; omega))
            exact ⟨y, _, rfl, H3.out.1.new hb35, H3.out.2.1.below hb35 H3.out.2.1.lt, H3.out.2.2.1.below hb35, H3.out.2.2.2.1.below hb35, blk5 _ _ _ _ _ H4.out.2.2.2.2.1, fun e => (HY.out.1.2 e).below hb35, fun e => ⟨HY.out.2, HY.out.1.1.trans e⟩⟩
      case rest =>
        obtain ⟨y, z, rfl, hT⟩ := hcut
        have HT := Lib.hid hT
        clear hT
        have c0 : wc.cell? ⟨w.heap.size, 0, none⟩ = some (.int .i64 c.actor) := HT.out.cb.blk.cell 0
        have c1 : wc.cell? ⟨w.heap.size, 1, none⟩ = some (.int .i64 c.seq) := HT.out.cb.blk.cell 1
        have c2 : wc.cell? ⟨w.heap.size, 2, none⟩ = some (.int .i64 c.start) := HT.out.cb.blk.cell 2
        have c3 : wc.cell? ⟨w.heap.size, 3, none⟩ = some (.slice c.dA c.deps.length c.dc) := HT.out.cb.blk.cell 3
        have c4 : wc.cell? ⟨w.heap.size, 4, none⟩ = some (.slice c.oA c.ops.length c.oc) := HT.out.cb.blk.cell 4
        cases z with
        | true =>
          have x0 : wc.cell? ⟨xb, 0, none⟩ = some (.int .i64 y.actor) := HT.out.xbx.cell 0
          have x1 : wc.cell? ⟨xb, 1, none⟩ = some (.int .i64 y.seq) := HT.out.xbx.cell 1
          have x2 : wc.cell? ⟨xb, 2, none⟩ = some (.int .i64 y.start) := HT.out.xbx.cell 2
          have x3 : wc.cell? ⟨xb, 3, none⟩ = some (.slice y.dA y.deps.length y.dc) := HT.out.xbx.cell 3
          have x4 : wc.cell? ⟨xb, 4, none⟩ = some (.slice y.oA y.ops.length y.oc) := HT.out.xbx.cell 4
          obtain ⟨b, hb⟩ : ∃ b, sameB y c = b := ⟨_, rfl⟩
          have HSB := Lib.hid hb
          clear hb
          cases b
          all_goals
            go_wp2_with (go_at_call 46; (with_reducible refine (same_any y c _ (HT.out.yes rfl) HT.out.inc).mono ?_); rintro e w5 ⟨rfl, hb5⟩; rw [HSB.out])
            simp only [Exit.jump]
            go_ret
            first
              | exact ⟨0, Dh, Dw, Db, L, rfl, HT.out.dag.below hb5, Only.of_below (HT.out.cb.new hb5).bel⟩
              | exact ⟨8, Dh, Dw, Db, L, rfl, HT.out.dag.below hb5, Only.of_below (HT.out.cb.new hb5).bel⟩
        | false =>
          go_wp2_with fail
          obtain ⟨n1, hn1⟩ : ∃ n, Maps.size Dh = n := ⟨_, rfl⟩
          obtain ⟨n2, hn2⟩ : ∃ n, Maps.size Dw = n := ⟨_, rfl⟩
          have hsz : n1 + n2 ≤ 120 := by have := HT.out.dag.sz; omega
          have p0 : wc.cell? ⟨bk, 0, none⟩ = some (.map (some h)) := HT.out.dag.bkm.blk.cell 0
          have p1 : wc.cell? ⟨bk, 1, none⟩ = some (.map (some wt)) := HT.out.dag.bkm.blk.cell 1
          have l1 : ∀ ty, (Builtin.len_ #[93] ty #[.map (some h)]).run Tryz.prog wc.drew = .ok (.int .i64 n1) wc.drew := fun ty => by
            have := World.ownsMap.len (w := wc.drew) (show wc.drew.ownsMap Tryz.prog 33 anyElem h (Maps.size Dh) Dh from HT.out.dag.bkm.has) Tryz.underlying93 ty
            rw [hn1] at this
            exact this
          have l2 : ∀ ty, (Builtin.len_ #[93] ty #[.map (some wt)]).run Tryz.prog wc.drew = .ok (.int .i64 n2) wc.drew := fun ty => by
            have := World.ownsMap.len (w := wc.drew) (show wc.drew.ownsMap Tryz.prog 33 anyElem wt (Maps.size Dw) Dw from HT.out.dag.bkm.wts) Tryz.underlying93 ty
            rw [hn2] at this
            exact this
          have hw : IntKind.i64.wrap ((n1 : Int) + n2) = (n1 : Int) + n2 := IntWalk.i64_in _ (by omega)
          have HN := Lib.hid (And.intro hn1 (And.intro hn2 hsz))
          obtain ⟨q, hq⟩ : ∃ q, decide ((120 : Int) ≤ (n1 : Int) + n2) = q := ⟨_, rfl⟩
          have HQ := Lib.hid hq
          clear hn1 hn2
          cases q with
          | true =>
            have hq2 : (120 : Int) ≤ (n1 : Int) + n2 := by simpa using HQ.out
            clear hsz
            go_still_tail 12, (by kernel_rfl)
            go_wp2_with fail
            simp only [Exit.jump]
            go_ret
            exact ⟨4, Dh, Dw, Db, L, rfl, HT.out.dag.below (Below.refl _ _).drew, Only.of_below HT.out.cb.bel.drew⟩
          | false =>
            have hq2 : ¬ (120 : Int) ≤ (n1 : Int) + n2 := by simpa using HQ.out
            clear hsz
            go_still_tail 12, (by kernel_rfl)
            clear l1 l2 hw p0 p1
            have hg := chE_good HE.out
            have HG := Lib.hid hg
            have f0 : ∀ i, wc.drew.frozen? ⟨w.heap.size, i, none⟩ = false := HT.out.cb.blk.frozen
            go_upto_region 15 with (go_at_call 43; (with_reducible refine (cloneChange_any c _ (HT.out.inc.below (Below.refl _ _).drew) (by have := HG.out.deps; omega) (by have := HG.out.ops; omega) (fun o ho => by have := HG.out.preds o ho; omega)).mono ?_); rintro e w6 ⟨x, rfl, hx1, hx2, hx3, hb5, hnew⟩; have hb6 := (Below.refl wc.heap.size wc).drew.trans hb5; clear hb5; clear c0 c1 c2 c3 c4 f0; have HX := Lib.hid (And.intro hx1 (And.intro hx2 (And.intro hnew hb6))); have k0 := (HT.out.cb.blk.below hb6 HT.out.cb.blk.lt).cell 0; have k1 := (HT.out.cb.blk.below hb6 HT.out.cb.blk.lt).cell 1; have k2 := (HT.out.cb.blk.below hb6 HT.out.cb.blk.lt).cell 2; have k3 := (HT.out.cb.blk.below hb6 HT.out.cb.blk.lt).cell 3; have k4 := (HT.out.cb.blk.below hb6 HT.out.cb.blk.lt).cell 4; have g0 := (HT.out.cb.blk.below hb6 HT.out.cb.blk.lt).frozen 0; have g1 := (HT.out.cb.blk.below hb6 HT.out.cb.blk.lt).frozen 1; have g2 := (HT.out.cb.blk.below hb6 HT.out.cb.blk.lt).frozen 2; have g3 := (HT.out.cb.blk.below hb6 HT.out.cb.blk.lt).frozen 3; have g4 := (HT.out.cb.blk.below hb6 HT.out.cb.blk.lt).frozen 4; simp at k0 k1 k2 k3 k4; clear hx1 hx2 hx3 hb6 hnew hg)
            obtain ⟨W7, hW7⟩ : ∃ W7, W7 = (((((w6.setCell ⟨w.heap.size, 0, none⟩ (.int .i64 x.actor)).setCell ⟨w.heap.size, 1, none⟩ (.int .i64 x.seq)).setCell ⟨w.heap.size, 2, none⟩ (.int .i64 x.start)).setCell ⟨w.heap.size, 3, none⟩ (.slice x.dA x.deps.length x.dc)).setCell ⟨w.heap.size, 4, none⟩ (.slice x.oA x.ops.length x.oc)) := ⟨_, rfl⟩
            rw [← hW7]
            have hb67 : Only (· = w.heap.size) w6 W7 := by rw [hW7]; exact only5 w6 w.heap.size _ _ _ _ _ 0 1 2 3 4
            have hC6 := HT.out.cb.new HX.out.2.2.2
            have hbw7 : Below w.heap.size w W7 := hC6.bel.trans (hb67.below hC6.bel.size (fun k hk e => by omega))
            have hrw := H3.out.2.2.2.2.2.2.2
            have H7 := Lib.hid (show Tk3 w bk h wt bh Dh Dw Db L c rb x W7 from ⟨hbw7, by rw [hW7]; exact blk5 _ _ _ _ _ hC6.blk, (HT.out.rbx.below HX.out.2.2.2 HT.out.rbx.lt).only hb67 (by show rb ≠ w.heap.size; omega), HC0.out.2.1.below hbw7, HX.out.2.2.1 _ (fun b h1 h2 => hb67.block b h2 (by have h3 := HT.out.cb.blk.lt; have h4 : wc.heap.size ≤ b := h1; show b ≠ w.heap.size; omega))⟩)
            clear k0 k1 k2 k3 k4 g0 g1 g2 g3 g4 hW7 hb67 hC6 hbw7 hrw
            obtain ⟨q, hqr⟩ : ∃ q, readyB Dh x.deps = q := ⟨_, rfl⟩
            have HRD := Lib.hid hqr
            clear hqr
            have k0 : W7.cell? ⟨w.heap.size, 0, none⟩ = some (.int .i64 x.actor) := H7.out.box.cell 0
            have k1 : W7.cell? ⟨w.heap.size, 1, none⟩ = some (.int .i64 x.seq) := H7.out.box.cell 1
            have k2 : W7.cell? ⟨w.heap.size, 2, none⟩ = some (.int .i64 x.start) := H7.out.box.cell 2
            have k3 : W7.cell? ⟨w.heap.size, 3, none⟩ = some (.slice x.dA x.deps.length x.dc) := H7.out.box.cell 3
            have k4 : W7.cell? ⟨w.heap.size, 4, none⟩ = some (.slice x.oA x.ops.length x.oc) := H7.out.box.cell 4
            cases q with
            | false =>
              go_upto_region 16 with (go_at_call 47; (with_reducible refine (ready_any bk h wt bh Dh Dw Db x _ H7.out.dag.bkm H7.out.dag.chmap H7.out.inc).mono ?_); rintro e w8 ⟨rfl, hb8⟩; rw [HRD.out]; have e0 := (H7.out.new hb8).box.cell 0; have e1 := (H7.out.new hb8).box.cell 1; have e2 := (H7.out.new hb8).box.cell 2; have e3 := (H7.out.new hb8).box.cell 3; have e4 := (H7.out.new hb8).box.cell 4; simp at e0 e1 e2 e3 e4)
              clear k0 k1 k2 k3 k4
              have H8 := Lib.hid (H7.out.new hb8)
              clear hb8
              have p0 : w8.cell? ⟨bk, 1, none⟩ = some (.map (some wt)) := H8.out.dag.bkm.blk.cell 1
              have p1 : w8.cell? ⟨rb, 0, none⟩ = some (.int .i64 c.actor) := H8.out.rbx.cell 0
              have p2 : w8.cell? ⟨rb, 1, none⟩ = some (.int .i64 c.seq) := H8.out.rbx.cell 1
              go_still_tail 6, (by kernel_rfl)
              change wpList _ _ _ _ _ w8.drew
              refine wpList_upd _ rfl _ _ _ 93 rfl 33 65 pairRef Tryz.underlying93 wt _ Dw rfl (show w8.drew.ownsMap Tryz.prog 33 anyElem wt (Maps.size Dw) Dw from H8.out.dag.bkm.wts) (by have := HN.out.2.1; have := HN.out.2.2; unfold maxLen; omega) c.ref rfl HG.out.i2 x.value rfl ?_
              intro W9 hm9 ho9 hs9
              have hm9' : OM W9 wt (Dw.put (rlit x.ref) (.held x.value)) := by rw [HX.out.2.1]; exact OM.of hm9
              have hq3 : Maps.size Dh + Maps.size Dw < 120 := by have h1 := HN.out.1; have h2 := HN.out.2.1; omega
              have hD9 := (H8.out.dag.below (Below.refl _ _).drew).wait (H8.out.inc.below (Below.refl _ _).drew) (by rw [HX.out.1]; exact HE.out) (by rw [HX.out.2.1]; exact (HT.out.no rfl).1) hq3 hm9' ho9
              have ho := ((Only.of_below (S := T3 h wt bh) H8.out.bel).drew).trans (ho9.mono (fun k _ e => .inr (.inl e)))
              have H9 := Lib.hid (And.intro hD9 ho)
              clear e0 e1 e2 e3 e4 p0 p1 p2 hm9 ho9 hs9 hm9' hq3 hD9 ho
              go_wp2_with fail
              simp only [Exit.jump]
              go_ret
              exact ⟨0, Dh, _, Db, L, rfl, H9.out.1, H9.out.2⟩
            | true =>
              have hall := fun (W : World) (hD : Dag W bk h wt bh Dh Dw Db L) (hI : InC W x) => hD.deps hI.dep HRD.out
              have hg2 : GoodC x := chE_good (by rw [HX.out.1]; exact HE.out)
              have HA := Lib.hid (And.intro hall hg2)
              clear hall hg2
              go_upto_if 78 with (first
                | (go_at_call 47; (with_reducible refine (ready_any bk h wt bh Dh Dw Db x _ H7.out.dag.bkm H7.out.dag.chmap H7.out.inc).mono ?_); rintro e w8 ⟨rfl, hb8⟩; rw [HRD.out]; have e0 := (H7.out.new hb8).box.cell 0; have e1 := (H7.out.new hb8).box.cell 1; have e2 := (H7.out.new hb8).box.cell 2; have e3 := (H7.out.new hb8).box.cell 3; have e4 := (H7.out.new hb8).box.cell 4; simp at e0 e1 e2 e3 e4)
                | (go_at_call 48; (with_reducible refine (bookFits_any bk h wt bh Dh Dw Db x _ (H7.out.new hb8).dag.bkm (H7.out.new hb8).dag.beh (H7.out.new hb8).dag.inHas (H7.out.new hb8).inc HA.out.2.i2 (by have h1 := HN.out.1; have h2 := HN.out.2.2; omega) ⟨⟨by have := HA.out.2.st; omega, HA.out.2.st.2⟩, HA.out.2.ops⟩ HA.out.2.seq (HA.out.1 _ (H7.out.new hb8).dag (H7.out.new hb8).inc).2).mono ?_); rintro e w9 ⟨z2, rfl, hb9⟩; clear e0 e1 e2 e3 e4))
              clear k0 k1 k2 k3 k4
              have H9 := Lib.hid ((H7.out.new hb8).new hb9)
              clear hb8 hb9
              cases z2 with
              | false =>
                go_wp2_with fail
                simp only [Exit.jump]
                go_ret
                exact ⟨7, Dh, Dw, Db, L, rfl, H9.out.dag, Only.of_below H9.out.bel⟩
              | true =>
                have e0 : w9.cell? ⟨w.heap.size, 0, none⟩ = some (.int .i64 x.actor) := H9.out.box.cell 0
                have e1 : w9.cell? ⟨w.heap.size, 1, none⟩ = some (.int .i64 x.seq) := H9.out.box.cell 1
                have e2 : w9.cell? ⟨w.heap.size, 2, none⟩ = some (.int .i64 x.start) := H9.out.box.cell 2
                have e3 : w9.cell? ⟨w.heap.size, 3, none⟩ = some (.slice x.dA x.deps.length x.dc) := H9.out.box.cell 3
                have e4 : w9.cell? ⟨w.heap.size, 4, none⟩ = some (.slice x.oA x.ops.length x.oc) := H9.out.box.cell 4
                go_wp2_with (go_at_call 49; (with_reducible refine (put_any bk h wt bh Dh Dw Db x _ H9.out.dag.bkm H9.out.dag.beh H9.out.inc HA.out.2.i2 (by have h1 := HN.out.1; have h2 := HN.out.2.2; omega) (by have h0 := H9.out.dag.sizeDb; have h1 := HN.out.1; have h2 := HN.out.2.2; omega) (HA.out.1 _ H9.out.dag H9.out.inc).2).mono ?_); rintro e w10 ⟨m, Dm, rfl, hp1, hp2, hp3, hp4, hp5⟩; have HPQ := Lib.hid (And.intro hp1 (And.intro hp2 (And.intro hp3 (And.intro hp4 hp5)))); clear hp1 hp2 hp3 hp4 hp5; clear e0 e1 e2 e3 e4)
                go_step3
                simp only [Exit.then]
                refine ‹∀ (a : Act) (w : World), Code.wp _ _ _ a w → _› _ _ ?_
                obtain ⟨hp1, hp2, hp3, hp4, hp5⟩ := HPQ.out
                have hq3 : Maps.size Dh + Maps.size Dw < 120 := by have h1 := HN.out.1; have h2 := HN.out.2.1; omega
                have hD10 := H9.out.dag.put H9.out.inc (by rw [HX.out.1]; exact HE.out) (by rw [HX.out.2.1]; exact (HT.out.no rfl).1) (by rw [HX.out.2.1]; exact (HT.out.no rfl).2) (HA.out.1 _ H9.out.dag H9.out.inc).1 hq3 hp1 hp2 hp3 hp4 hp5
                exact HP.out _ _ ⟨_, _, _, _, hD10, (Only.of_below H9.out.bel).trans (hp5.mono (fun k _ e => by rcases e with e | e; exact .inl e; exact .inr (.inr e))), _, rfl, rfl, rfl⟩
    · go_wp2_with (first
        | (go_at_call 45; (with_reducible refine (changeCheck_any c _ (HC0.out.2.2.below HC0.out.1.bel)).mono ?_); rintro e w1 ⟨rfl, hb1⟩; rw [HE.out, errC_ne hn]))
      simp only [Exit.jump]
      go_ret
      exact ⟨n, Dh, Dw, Db, L, by rw [errC_ne hn]; rfl, HC0.out.2.1.below (HC0.out.1.new hb1).bel, Only.of_below (HC0.out.1.new hb1).bel⟩
end Go.Proofs.YteknflimfdkhoaaGreat
namespace Go.Proofs.YteknflimfdkhoaaGreat
open Go.RowKit Go.Maps
set_option linter.unusedVariables false
set_option linter.unusedSimpArgs false

theorem whMK : MKey Tryz.prog 109 whV whLit whOk :=
  wh_mk Tryz.underlying109 rfl rfl rfl rfl rfl rfl rfl (by kernel_rfl) Tryz.underlying24 rfl rfl rfl rfl rfl (by kernel_rfl) Tryz.underlying9 Tryz.underlying3 (by kernel_rfl) (by kernel_rfl) (by kernel_rfl) (by kernel_rfl) (by kernel_rfl) ⟨207 - 2, by kernel_rfl⟩
    (Keyed.of_law (deep_law_laid laidOutD (m := 5) (by omega) (of_decide_eq_true (by kernel_rfl)) (by kernel_rfl) (by kernel_rfl)))
theorem rowS_only {w w' : World} {base : Nat} {e : TypeId} {size n c : Nat} {A : Option Addr} {xs : List Value} (h : w.ownsRow base e size (.slice A n c) n xs) {X : Nat → Prop} (ho : Only X w w') (hX : ∀ a, A = some a → ¬ X a.block) : w'.ownsRow base e size (.slice A n c) n xs := by
  refine ⟨h.1, ?_⟩
  rcases h.2 with hn | ⟨g, cap, cur, hv, hb, hg, rest⟩
  · exact .inl hn
  · refine .inr ⟨g, cap, cur, hv, hb, ?_, rest⟩
    injection hv with hA' _ _
    rw [ho.block g (Array.getElem?_eq_some_iff.1 hg).1 (hX _ hA')]
    exact hg
theorem rowS_base {w : World} {base b1 : Nat} {e : TypeId} {size n c : Nat} {A : Option Addr} {xs : List Value} (h : w.ownsRow base e size (.slice A n c) n xs) (hA : ∀ a, A = some a → b1 ≤ a.block) : w.ownsRow b1 e size (.slice A n c) n xs := by
  refine ⟨h.1, h.2.imp id ?_⟩
  rintro ⟨g, cap, cur, h1, h2, h3⟩
  refine ⟨g, cap, cur, h1, ?_, h3⟩
  injection h1 with hA' _ _
  exact hA _ hA'
theorem id_push {W3 : World} {b c : Nat} {A : Option Addr} {l : List (Int × Int)} {x1 x2 : Int} (hown : W3.ownsRow b 24 2 (.slice A l.length c) l.length (refs l)) (hbase : b ≤ W3.heap.size) (hl : l.length ≤ 1000000) :
    ∃ (A' : Option Addr) (c' : Nat) (w5 : World), (∀ ty, (Builtin.append_ #[49, 49] ty #[.slice A l.length c, .slice (some ⟨W3.heap.size, 0, none⟩) 1 1]).run Tryz.prog (W3.alloc (.cells #[.int .i64 x1, .int .i64 x2] 24)) = .ok (.slice A' (l.length + 1) c') w5) ∧
      w5.ownsRow b 24 2 (.slice A' (l.length + 1) c') (l.length + 1) (refs l ++ [.int .i64 x1, .int .i64 x2]) ∧ Only (fun k => (Value.slice A l.length c).ownBlock = some k) W3 w5 ∧ (A' = A ∨ ∃ g, A' = some ⟨g, 0, none⟩ ∧ W3.heap.size ≤ g) := by
  have h0 : (W3.alloc (.cells #[.int .i64 x1, .int .i64 x2] 24)).ownsRow 0 24 2 (.slice A l.length c) l.length (refs l) := rowS_base (hown.alloc _) (fun _ _ => Nat.zero_le _)
  have hc : SlAt (W3.alloc (.cells #[.int .i64 x1, .int .i64 x2] 24)) (some ⟨W3.heap.size, 0, none⟩) [.int .i64 x1, .int .i64 x2] := .inr ⟨_, 0, rfl, fun j u hu => by
    rw [Nat.zero_add, (Blk.new W3 _ _).cell]
    simpa using hu⟩
  obtain ⟨A', c', w5, r1, r2, r3, r4⟩ := run_append_sl (P := Tryz.prog) (W3.alloc (.cells #[.int .i64 x1, .int .i64 x2] 24)) 49 0 24 Tryz.underlying49 infoId rfl (by decide) A l.length c (refs l) h0 (some ⟨W3.heap.size, 0, none⟩) 1 1 [.int .i64 x1, .int .i64 x2] rfl hc (by intro u hu; simp at hu; rcases hu with rfl | rfl <;> rfl) (by unfold maxLen; omega) (by omega)
  refine ⟨A', c', w5, fun _ => r1, rowS_base r2 ?_, ((Only.refl _ _).alloc _).trans ⟨r3.os, r3.tape, r3.output, r3.size, fun k hk hn => r3.block k hk (fun e => hn e.symm)⟩, ?_⟩
  · intro a ha
    rcases r4 with ⟨e1, _⟩ | e1
    · rw [e1] at ha
      exact (hown.lt a.block (by rw [ha]; rfl)).1
    · rw [e1] at ha
      injection ha with ha
      subst ha
      simp
      omega
  · rcases r4 with ⟨rfl, _⟩ | rfl
    · exact .inl rfl
    · exact .inr ⟨_, rfl, by simp⟩
/-- The Inserts behind one, in their order. -/
structure KidRow (w : World) (B N : Nat) (A : Option Addr) (c : Nat) (l : List (Int × Int)) : Prop where
  row : w.ownsRow B 24 2 (.slice A l.length c) l.length (refs l)
  i2 : ∀ n ∈ l, I2 n
  len : l.length ≤ N
theorem KidRow.nil (w : World) (B N : Nat) : KidRow w B N none 0 [] := ⟨⟨rfl, .inl ⟨rfl, rfl⟩⟩, fun n hn => (by cases hn), Nat.zero_le _⟩
theorem KidRow.cells {w : World} {B N : Nat} {A : Option Addr} {c : Nat} {l : List (Int × Int)} (h : KidRow w B N A c l) {a : Addr} (ha : A = some a) : ∃ cur, w.heap[a.block]? = some (.cells cur 24 (0, 0)) ∧ B ≤ a.block ∧ a = ⟨a.block, 0, none⟩ := by
  rcases h.row.2 with ⟨hn, _⟩ | ⟨g, cap, cur, hv, hb, hg, _⟩
  · injection hn with hn _ _
    rw [hn] at ha
    cases ha
  · injection hv with hA _ _
    rw [hA] at ha
    injection ha with ha
    subst ha
    exact ⟨cur, hg, hb, rfl⟩
theorem KidRow.only {w w' : World} {B N : Nat} {A : Option Addr} {c : Nat} {l : List (Int × Int)} (h : KidRow w B N A c l) {S : Nat → Prop} (ho : Only S w w') (hS : ∀ a, A = some a → ¬ S a.block) : KidRow w' B N A c l := ⟨rowS_only h.row ho hS, h.i2, h.len⟩
theorem KidRow.maps {w w' : World} {B N : Nat} {A : Option Addr} {c : Nat} {l : List (Int × Int)} (h : KidRow w B N A c l) {S : Nat → Prop} (ho : Only S w w') (hS : ∀ i, S i → IsMapB w i) : KidRow w' B N A c l := h.only ho (fun a ha hs => by
  obtain ⟨cur, h1, _⟩ := h.cells ha
  obtain ⟨es, ck, h2⟩ := hS _ hs
  rw [h1] at h2
  cases h2)
theorem KidRow.mono {w : World} {B N M : Nat} {A : Option Addr} {c : Nat} {l : List (Int × Int)} (h : KidRow w B N A c l) (hN : N ≤ M) : KidRow w B M A c l := ⟨h.row, h.i2, Nat.le_trans h.len hN⟩
/-- All Inserts, by list and element. -/
def KidsM (w : World) (B ib N : Nat) (f : Wh → Option (List (Int × Int))) : Prop :=
  ∃ Di, w.ownsMap Tryz.prog 109 anyElem ib (Maps.size Di) Di ∧ Maps.size Di ≤ N ∧
    (∀ x, whOk x → match f x with
      | none => kget Di (whLit x) = none
      | some l => ∃ A c, kget Di (whLit x) = some (.slice A l.length c) ∧ KidRow w B N A c l) ∧
    (∀ x y a n1 n2 c1 c2, whOk x → whOk y → kget Di (whLit x) = some (.slice (some a) n1 c1) → kget Di (whLit y) = some (.slice (some a) n2 c2) → x = y)
theorem KidsM.only {w w' : World} {B ib N : Nat} {f : Wh → Option (List (Int × Int))} (h : KidsM w B ib N f) {S : Nat → Prop} (ho : Only S w w') (hi : ¬ S ib) (hS : ∀ i, S i → IsMapB w i) : KidsM w' B ib N f := by
  obtain ⟨Di, h1, h2, h3, h4⟩ := h
  refine ⟨Di, own_only h1 ho hi, h2, fun x hx => ?_, h4⟩
  have := h3 x hx
  cases e : f x with
  | none => rw [e] at this; exact this
  | some l =>
    rw [e] at this
    obtain ⟨A, c, e1, e2⟩ := this
    exact ⟨A, c, e1, e2.maps ho hS⟩
/-- A row of ids. -/
def IsIdB (w : World) (i : Nat) : Prop := ∃ cs, w.heap[i]? = some (.cells cs 24 (0, 0))
theorem idB_noMap {w : World} {i : Nat} (h : IsIdB w i) : ¬ IsMapB w i := fun ⟨es, ck, h2⟩ => by
  obtain ⟨cs, h1⟩ := h
  rw [h1] at h2
  cases h2
theorem idB_blk {w : World} {i : Nat} {t : TypeId} {cs : Array Value} (h : Blk w i t cs) (ht : t ≠ 24) : ¬ IsIdB w i := fun ⟨cs2, h2⟩ => by
  have h : w.heap[i]? = _ := h
  rw [h] at h2
  injection h2 with h2
  injection h2 with _ h2 _
  exact ht h2
theorem KidsM.only2 {w w' : World} {B ib N : Nat} {f : Wh → Option (List (Int × Int))} (h : KidsM w B ib N f) {S : Nat → Prop} (ho : Only S w w') (hi : ¬ S ib) (hS : ∀ i, S i → ¬ IsIdB w i) : KidsM w' B ib N f := by
  obtain ⟨Di, h1, h2, h3, h4⟩ := h
  refine ⟨Di, own_only h1 ho hi, h2, fun x hx => ?_, h4⟩
  have := h3 x hx
  cases e : f x with
  | none => rw [e] at this; exact this
  | some l =>
    rw [e] at this
    obtain ⟨A, c, e1, e2⟩ := this
    exact ⟨A, c, e1, e2.only ho (fun a ha hs => by
      obtain ⟨cur, h5, _⟩ := e2.cells ha
      exact hS _ hs ⟨cur, h5⟩)⟩
theorem KidsM.below {w w' : World} {B ib N : Nat} {f : Wh → Option (List (Int × Int))} (h : KidsM w B ib N f) (hb : Below w.heap.size w w') : KidsM w' B ib N f := h.only (Only.of_below (S := fun _ => False) hb) (fun h => h) (fun _ h => h.elim)
theorem KidsM.mono {w : World} {B ib N M : Nat} {f : Wh → Option (List (Int × Int))} (h : KidsM w B ib N f) (hN : N ≤ M) : KidsM w B ib M f := by
  obtain ⟨Di, h1, h2, h3, h4⟩ := h
  refine ⟨Di, h1, Nat.le_trans h2 hN, fun x hx => ?_, h4⟩
  have := h3 x hx
  cases e : f x with
  | none => rw [e] at this; exact this
  | some l =>
    rw [e] at this
    obtain ⟨A, c, e1, e2⟩ := this
    exact ⟨A, c, e1, e2.mono hN⟩
theorem zeroIdsL (w : World) : (zeroValue 49).run Tryz.prog w = .ok (.slice none 0 0) w := by kernel_rfl
/-- What stands behind one. -/
theorem KidsM.look {w : World} {B ib N : Nat} {f : Wh → Option (List (Int × Int))} (h : KidsM w B ib N f) {x : Wh} (hx : whOk x) :
    ∃ A c Di, KidRow w B N A c ((f x).getD []) ∧ (∀ w1, Only (fun i => i ≠ ib) w w1 → (Instr.lookup 73 (.map (some ib)) (whV x) false).run Tryz.prog w1 = .ok (.slice A ((f x).getD []).length c) w1) ∧
      w.ownsMap Tryz.prog 109 anyElem ib (Maps.size Di) Di ∧ Maps.size Di ≤ N ∧
      ∀ (w2 w3 : World) (A' : Option Addr) (c' : Nat) (n : Int × Int), I2 n → w2.ownsRow B 24 2 (.slice A' (((f x).getD []).length + 1) c') (((f x).getD []).length + 1) (refs ((f x).getD [] ++ [n])) → Only (fun k => (Value.slice A ((f x).getD []).length c).ownBlock = some k ∨ k = ib) w w2 → IsMapB w2 ib → (A' = A ∨ ∃ g, A' = some ⟨g, 0, none⟩ ∧ w.heap.size ≤ g) →
        w3.ownsMap Tryz.prog 109 anyElem ib (Maps.size Di + 1) (Di.put (whLit x) (.held (.slice A' (((f x).getD []).length + 1) c'))) → Only (fun i => i = ib) w2 w3 → KidsM w3 B ib (N + 1) (upd f x (some ((f x).getD [] ++ [n]))) := by
  obtain ⟨Di, h1, h2, h3, h4⟩ := h
  obtain ⟨A, c, hk, hr⟩ : ∃ A c, (kget Di (whLit x)).getD (.slice none 0 0) = .slice A ((f x).getD []).length c ∧ KidRow w B N A c ((f x).getD []) := by
    have := h3 x hx
    cases e : f x with
    | none => rw [e] at this; exact ⟨none, 0, by rw [this]; rfl, KidRow.nil _ _ _⟩
    | some l =>
      rw [e] at this
      obtain ⟨A, c, e1, e2⟩ := this
      exact ⟨A, c, by rw [e1]; rfl, e2⟩
  obtain ⟨l, hl⟩ : ∃ l, (f x).getD [] = l := ⟨_, rfl⟩
  rw [hl] at hk hr ⊢
  refine ⟨A, c, Di, hr, fun w1 ho => ?_, h1, h2, fun w2 w3 A' c' n hn hrow ho2 hm2 hA hm ho3 => ?_⟩
  · rw [krun_look whMK (own_only h1 ho (fun h => h rfl)) Tryz.underlying73 (zeroIdsL w1) hx, hk]
  · have hD : IsMap Di := World.ownsMap.isMap h1
    have hget : ∀ y, whOk y → kget (Di.put (whLit x) (.held (.slice A' (l.length + 1) c'))) (whLit y) = if y = x then some (.slice A' (l.length + 1) c') else kget Di (whLit y) := fun y hy => whMK.get_put hD hx hy _
    have hcells : ∀ y, whOk y → ∀ a n2 c2, kget Di (whLit y) = some (.slice (some a) n2 c2) → a.block < w.heap.size ∧ ∃ l2 c3, f y = some l2 ∧ KidRow w B N (some a) c3 l2 := fun y hy a n2 c2 e => by
      have := h3 y hy
      cases e2 : f y with
      | none => rw [e2] at this; rw [this] at e; cases e
      | some l2 =>
        rw [e2] at this
        obtain ⟨A2, c3, e3, e4⟩ := this
        rw [e3] at e
        injection e with e
        injection e with e _ _
        subst e
        obtain ⟨cur, h5, _⟩ := e4.cells rfl
        exact ⟨(Array.getElem?_eq_some_iff.1 h5).1, l2, c3, rfl, e4⟩
    have hfar : ∀ y, whOk y → y ≠ x → ∀ a n2 c2, kget Di (whLit y) = some (.slice (some a) n2 c2) → ¬ (Value.slice A l.length c).ownBlock = some a.block ∧ A' ≠ some a := fun y hy hne a n2 c2 e => by
      obtain ⟨hlt, l2, c3, e2, e4⟩ := hcells y hy a n2 c2 e
      obtain ⟨_, _, _, ea⟩ := e4.cells rfl
      have hAa : A ≠ some a := fun hA => by
        subst hA
        cases ek : kget Di (whLit x) with
        | none => rw [ek] at hk; cases hk
        | some u =>
          rw [ek] at hk
          have hk : u = _ := hk
          subst hk
          exact hne (h4 y x a _ _ _ _ hy hx e ek)
      refine ⟨fun hb => ?_, fun hA' => ?_⟩
      · cases A with
        | none => cases hb
        | some a0 =>
          have hb : some a0.block = some a.block := hb
          injection hb with hb
          obtain ⟨_, _, _, e0⟩ := hr.cells rfl
          exact hAa (by rw [e0, ea, hb])
      · rcases hA with h | ⟨g, h, hg⟩
        · exact hAa (h ▸ hA')
        · rw [h] at hA'
          injection hA' with hA'
          rw [← hA'] at hlt
          have hlt : g < w.heap.size := hlt
          omega
    have hA'ib : ∀ a, A' = some a → ¬ a.block = ib := fun a ha e => by
      obtain ⟨cur, h5, _⟩ := (show KidRow w2 B (l.length + 1) A' c' (l ++ [n]) from ⟨by rw [List.length_append]; exact hrow, fun m hm => by
        rcases List.mem_append.1 hm with hm | hm
        · exact hr.i2 m hm
        · rw [List.mem_singleton] at hm; subst hm; exact hn, by simp⟩).cells ha
      obtain ⟨es, ck, hb⟩ := hm2
      rw [e, hb] at h5
      cases h5
    refine ⟨_, own_tight hm, by have := own_size (own_tight hm); have := own_size hm; omega, fun y hy => ?_, fun y z a n1 n2 c1 c2 hy hz e1 e2 => ?_⟩
    · rw [hget y hy]
      by_cases e : y = x
      · subst e
        rw [upd_same, if_pos rfl]
        refine ⟨A', c', by rw [List.length_append]; rfl, ⟨by rw [List.length_append]; exact rowS_only hrow ho3 (fun a ha e => hA'ib a ha e), fun m hm => ?_, ?_⟩⟩
        · rcases List.mem_append.1 hm with hm | hm
          · exact hr.i2 m hm
          · rw [List.mem_singleton] at hm; subst hm; exact hn
        · rw [List.length_append]
          have := hr.len
          simp
          omega
      · rw [upd_other _ _ e, if_neg e]
        have := h3 y hy
        cases e2 : f y with
        | none => rw [e2] at this; exact this
        | some l2 =>
          rw [e2] at this
          obtain ⟨A2, c3, e3, e4⟩ := this
          refine ⟨A2, c3, e3, ((e4.only ho2 (fun a ha => ?_)).only ho3 (fun a ha hib => ?_)).mono (by omega)⟩
          · subst ha
            intro hh
            rcases hh with hh | hh
            · exact (hfar y hy e a _ _ e3).1 hh
            · obtain ⟨cur, h5, _⟩ := e4.cells rfl
              obtain ⟨es, ck, hb, _⟩ := h1
              rw [hh, hb] at h5
              cases h5
          · subst ha
            have hib : a.block = ib := hib
            obtain ⟨cur, h5, _⟩ := e4.cells rfl
            obtain ⟨es, ck, hb, _⟩ := h1
            rw [hib, hb] at h5
            cases h5
    · rw [hget y hy] at e1
      rw [hget z hz] at e2
      by_cases ey : y = x <;> by_cases ez : z = x
      · rw [ey, ez]
      · rw [if_pos ey] at e1
        rw [if_neg ez] at e2
        injection e1 with e1
        injection e1 with e1 _ _
        exact absurd e1 (hfar z hz ez a _ _ e2).2
      · rw [if_neg ey] at e1
        rw [if_pos ez] at e2
        injection e2 with e2
        injection e2 with e2 _ _
        exact absurd e2 (hfar y hy ey a _ _ e1).2
      · rw [if_neg ey] at e1
        rw [if_neg ez] at e2
        exact h4 y z a n1 n2 c1 c2 hy hz e1 e2
/-- In which list each element is. -/
def ListsM (w : World) (lb N : Nat) (f : Int × Int → Option (Int × Int)) : Prop := ∃ Dl, w.ownsMap Tryz.prog 24 anyElem lb (Maps.size Dl) Dl ∧ (∀ n, I2 n → mget Dl n = (f n).map refV) ∧ Maps.size Dl ≤ N
theorem ListsM.only {w w' : World} {lb N : Nat} {f : Int × Int → Option (Int × Int)} (h : ListsM w lb N f) {S : Nat → Prop} (ho : Only S w w') (hS : ¬ S lb) : ListsM w' lb N f := by
  obtain ⟨Dl, h1, h2⟩ := h
  exact ⟨Dl, own_only h1 ho hS, h2⟩
theorem ListsM.below {w w' : World} {lb N : Nat} {f : Int × Int → Option (Int × Int)} (h : ListsM w lb N f) (hb : Below w.heap.size w w') : ListsM w' lb N f := h.only (Only.of_below (S := fun _ => False) hb) (fun h => h)
theorem ListsM.mono {w : World} {lb N M : Nat} {f : Int × Int → Option (Int × Int)} (h : ListsM w lb N f) (hN : N ≤ M) : ListsM w lb M f := by
  obtain ⟨Dl, h1, h2, h3⟩ := h
  exact ⟨Dl, h1, h2, Nat.le_trans h3 hN⟩
theorem ListsM.put {w w' : World} {lb N : Nat} {f : Int × Int → Option (Int × Int)} {Dl : DataW Value} (h1 : w.ownsMap Tryz.prog 24 anyElem lb (Maps.size Dl) Dl) (h2 : ∀ n, I2 n → mget Dl n = (f n).map refV) (h3 : Maps.size Dl ≤ N) {n o : Int × Int} (hn : I2 n) (hm : w'.ownsMap Tryz.prog 24 anyElem lb (Maps.size Dl + 1) (Dl.put (rlit n) (.held (refV o)))) : ListsM w' lb (N + 1) (upd f n (some o)) := by
  refine ⟨_, own_tight hm, fun r hr => ?_, by have := own_size (own_tight hm); have := own_size hm; omega⟩
  rw [mget_put pairId (World.ownsMap.isMap h1) hn hr]
  unfold upd
  by_cases e : r = n
  · rw [if_pos e, if_pos e]; rfl
  · rw [if_neg e, if_neg e]; exact h2 r hr
theorem whLaw : Go.WideMaps.KeyLaw Tryz.prog 109 := deep_law_laid laidOutD (m := 5) (by omega) (of_decide_eq_true (by kernel_rfl)) (by kernel_rfl) (by kernel_rfl)
theorem one_of {α β : Type} (f : α → β) : ∀ {l : List α}, l.Pairwise (fun a b => f a ≠ f b) → ∀ {x y : α}, x ∈ l → y ∈ l → f x = f y → x = y
  | a :: l, h, x, y, hx, hy, e => by
    rw [List.pairwise_cons] at h
    rcases List.mem_cons.1 hx with hx | hx <;> rcases List.mem_cons.1 hy with hy | hy
    · rw [hx, hy]
    · rw [hx] at e; exact absurd e (h.1 y hy)
    · rw [hy] at e; exact absurd e.symm (h.1 x hx)
    · exact one_of f h.2 hx hy e
/-- 'm[k] = append(m[k], ..)': the entry, and what is stored in it. -/
theorem own_entry {P : Program} {k : TypeId} {w : World} {b n : Nat} {D : DataW Value} (h : w.ownsMap P k anyElem b n D) (K : Go.WideMaps.KeyLaw P k) {t e : TypeId} (ht : P.underlying t = some (.map k e)) {z : Value} (hz : ∀ u : World, (zeroValue e).run P u = .ok z u) {key : Value} {kl : Lit} (hkey : keyOf P k key = some kl) (hn : n < maxLen) {v : Value} (hv : (Instr.lookup t (.map (some b)) key false).run P w = .ok v w) :
    ∃ (st : Nat) (w1 : World), (Instr.mapEntry t (.map (some b)) key).run P w = .ok (.tuple #[v, goInt st]) w1 ∧ Only (fun i => i = b) w w1 ∧ w1.heap.size = w.heap.size ∧ IsMapB w1 b ∧
      ∀ (w2 : World) (val : Value), w2.heap[b]? = w1.heap[b]? → ∃ w3, (Instr.entryStore t (.map (some b)) (goInt st) val).run P w2 = .ok () w3 ∧ w3.ownsMap P k anyElem b (n + 1) (D.put kl (.held val)) ∧ Only (fun i => i = b) w2 w3 ∧ w3.heap.size = w2.heap.size := by
  have hown := h
  obtain ⟨es, clock, hb, F, hs, rfl⟩ := h
  have hset : ∀ (u : World) (o o' : Obj), u.heap[b]? = some o → Only (fun i => i = b) u (Go.ChangeMaps.setBlock u b o') ∧ (Go.ChangeMaps.setBlock u b o').heap[b]? = some o' ∧ (Go.ChangeMaps.setBlock u b o').heap.size = u.heap.size := fun u o o' hu => by
    have hlt := (Array.getElem?_eq_some_iff.1 hu).1
    refine ⟨⟨rfl, rfl, rfl, by simp [Go.ChangeMaps.setBlock], fun i hi hne => ?_⟩, ?_, by simp [Go.ChangeMaps.setBlock]⟩
    · have hne : ¬ i = b := hne
      have hne2 : ¬ b = i := fun e => hne e.symm
      simp [Go.ChangeMaps.setBlock, Array.getElem?_setIfInBounds, hne2]
    · simp [Go.ChangeMaps.setBlock, Array.getElem?_setIfInBounds, hlt]
  obtain ⟨v0, st, es1, clock1, hrun, hv0, hst⟩ := Go.WideElems.entry_then_store K ht hz hb F hkey
  have he : v0 = v := by
    rcases Maps.fit_look false (Keyed.of_law K) ht (hz w) hb F hkey with ⟨h1, h2, _⟩ | ⟨e0, y, hm, hke, h1, _⟩
    · rw [hv] at h1
      injection h1 with h1 _
      rcases hv0 with ⟨e0, hm, hke, _⟩ | ⟨_, e⟩
      · exact absurd hke (h2 e0 hm)
      · rw [e, h1]; rfl
    · rw [hv] at h1
      injection h1 with h1 _
      rcases hv0 with ⟨e1, hm1, hke1, e⟩ | ⟨h2, _⟩
      · have hp := fit_apart (Keyed.of_law K) F
        rw [List.pairwise_map] at hp
        obtain ⟨y0, hy0⟩ := F.reads e0 hm
        obtain ⟨y1, hy1⟩ := F.reads e1 hm1
        have : e1 = e0 := one_of (fun x => (WideElems.rg P k anyElem x).1) hp hm1 hm (by
          have m0 := WideElems.rd_key hy0
          have m1 := WideElems.rd_key hy1
          show (WideElems.rg P k anyElem e1).1 = (WideElems.rg P k anyElem e0).1
          rw [WideElems.rg_of hy0, WideElems.rg_of hy1]
          rw [hke] at m0
          rw [hke1] at m1
          exact Option.some.inj (m1.symm.trans m0))
        rw [e, h1, this]; rfl
      · exact absurd hke (h2 e0 hm)
  subst he
  obtain ⟨o1, hb1, z1⟩ := hset w _ (.map es1 clock1) hb
  refine ⟨st, _, hrun, o1, z1, ⟨es1, clock1, hb1⟩, fun w2 val hw2 => ?_⟩
  rw [hb1] at hw2
  obtain ⟨es', clock', r1, r2⟩ := hst w2 val hw2
  obtain ⟨w', hr, hown', _⟩ := hown.store (Keyed.of_law K) ht hn hkey (val := val) rfl
  rw [r2] at hr
  injection hr with _ hr
  subst hr
  obtain ⟨o2, hb2, z2⟩ := hset w2 _ (.map es' clock') hw2
  refine ⟨_, r1, ?_, o2, z2⟩
  obtain ⟨esx, ckx, hbx, rest⟩ := hown'
  rw [(hset w _ (.map es' clock') hb).2.1] at hbx
  injection hbx with hbx
  exact ⟨esx, ckx, by rw [hb2, hbx], rest⟩
/-- 'append' of one id to a row of one's own. -/
theorem id_push2 {W : World} {b c g : Nat} {A : Option Addr} {l : List (Int × Int)} {x1 x2 : Int} (hown : W.ownsRow b 24 2 (.slice A l.length c) l.length (refs l)) (hc : SlAt W (some ⟨g, 0, none⟩) [.int .i64 x1, .int .i64 x2]) (hbase : b ≤ W.heap.size) (hl : l.length ≤ 1000000) :
    ∃ (A' : Option Addr) (c' : Nat) (w5 : World), (∀ ty, (Builtin.append_ #[49, 49] ty #[.slice A l.length c, .slice (some ⟨g, 0, none⟩) 1 1]).run Tryz.prog W = .ok (.slice A' (l.length + 1) c') w5) ∧
      w5.ownsRow b 24 2 (.slice A' (l.length + 1) c') (l.length + 1) (refs l ++ [.int .i64 x1, .int .i64 x2]) ∧ Only (fun k => (Value.slice A l.length c).ownBlock = some k) W w5 ∧ (A' = A ∨ ∃ g, A' = some ⟨g, 0, none⟩ ∧ W.heap.size ≤ g) := by
  have h0 : W.ownsRow 0 24 2 (.slice A l.length c) l.length (refs l) := rowS_base hown (fun _ _ => Nat.zero_le _)
  obtain ⟨A', c', w5, r1, r2, r3, r4⟩ := run_append_sl (P := Tryz.prog) W 49 0 24 Tryz.underlying49 infoId rfl (by decide) A l.length c (refs l) h0 (some ⟨g, 0, none⟩) 1 1 [.int .i64 x1, .int .i64 x2] rfl hc (by intro u hu; simp at hu; rcases hu with rfl | rfl <;> rfl) (by unfold maxLen; omega) (by omega)
  refine ⟨A', c', w5, fun _ => r1, rowS_base r2 ?_, ⟨r3.os, r3.tape, r3.output, r3.size, fun k hk hn => r3.block k hk (fun e => hn e.symm)⟩, ?_⟩
  · intro a ha
    rcases r4 with ⟨e1, _⟩ | e1
    · rw [e1] at ha
      exact (hown.lt a.block (by rw [ha]; rfl)).1
    · rw [e1] at ha
      injection ha with ha
      subst ha
      exact hbase
  · rcases r4 with ⟨rfl, _⟩ | rfl
    · exact .inl rfl
    · exact .inr ⟨_, rfl, Nat.le_refl _⟩
end Go.Proofs.YteknflimfdkhoaaGreat
