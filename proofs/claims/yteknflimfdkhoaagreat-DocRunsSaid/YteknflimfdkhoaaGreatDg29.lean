/- doc.Doc.add: what its walk stands on. dag.Book.Waiting: how many. -/
import Derived.Test.YteknflimfdkhoaaGreatDg27
import Derived.Test.YteknflimfdkhoaaGreatDg28
import Derived.Test.YteknflimfdkhoaaGreatDg23
import Derived.Test.YteknflimfdkhoaaGreatDg9
namespace Go.Proofs.YteknflimfdkhoaaGreat
open Go.RowKit Go.Maps Go.Sort
set_option linter.unusedVariables false
set_option linter.unusedSimpArgs false

theorem results_rowd2 {P : Program} {fn : Func} {p u : Tmp} {ty : TypeId} (h : fn.results = #[.cell p ty, .tmp u]) (tmps : Array Value) (w : World) (g : Nat) (t : TypeId) (cs : Array Value) (d : TypeDesc)
    (hp : tmps.getD p undef = .pointer (some ⟨g, 0, none⟩)) (hg : Blk w g t cs)
    (hu : P.underlying ty = some d) (hd : (match d with | .struct _ | .array _ _ => true | _ => false) = true) (hi : (P.info? ty).map (·.size) = some cs.size) :
    (results fn tmps).run P w = .ok (.tuple #[.agg cs, tmps.getD u undef]) w := by
  have hp' : tmps[p]?.getD undef = .pointer (some ⟨g, 0, none⟩) := by simpa using hp
  simp [results, h, hp', asAddr, run_loadVar_row w g t ty cs (0, 0) d hg hu hd hi]
theorem valsCells_len (f : Vm) (ids : List (Int × Int)) : (valsCells f ids).length = ids.length * 5 := by
  induction ids with
  | nil => rfl
  | cons x l ih => simp only [valsCells, List.flatMap_cons, List.length_append, List.length_cons] at *; rw [ih]; simp [jvCells]; omega
theorem valsCells_at (f : Vm) : ∀ (l : List (Int × Int)) (i : Nat) (n : Int × Int), l[i]? = some n → ∀ j, j < 5 → (valsCells f l)[i * 5 + j]? = (jvCells ((f n).getD zJV))[j]?
  | [], i, o, h, _, _ => by simp at h
  | x :: l, 0, o, h, j, hj => by
    simp at h
    subst h
    simp only [valsCells, List.flatMap_cons, Nat.zero_mul, Nat.zero_add]
    rw [List.getElem?_append_left (by simpa [jvCells] using hj)]
  | x :: l, i + 1, o, h, j, hj => by
    have ih := valsCells_at f l i o (by simpa using h) j hj
    simp only [valsCells, List.flatMap_cons]
    have e : (jvCells ((f x).getD zJV)).length = 5 := rfl
    rw [List.getElem?_append_right (by rw [e]; omega), e, show (i + 1) * 5 + j - 5 = i * 5 + j by omega]
    exact ih
theorem SlAt.valc {w : World} {A : Option Addr} {f : Vm} {l : List (Int × Int)} (h : SlAt w A (valsCells f l)) {i : Nat} {n : Int × Int} (hn : l[i]? = some n) :
    ∃ b off, A = some ⟨b, off, none⟩ ∧ ∀ j u, (jvCells ((f n).getD zJV))[j]? = some u → w.cell? ⟨b, off + i * 5 + j, none⟩ = some u := by
  have hi : i < l.length := (List.getElem?_eq_some_iff.1 hn).1
  rcases h with h | ⟨b, off, hA, hc⟩
  · have := valsCells_len f l; rw [h] at this; simp at this; omega
  · refine ⟨b, off, hA, fun j u hu => ?_⟩
    have hj : j < 5 := (List.getElem?_eq_some_iff.1 hu).1
    rw [Nat.add_assoc]
    exact hc _ _ (by rw [valsCells_at f l i n hn j hj]; exact hu)
theorem predsV_take {o : OpV} {f : Vm} {ids : List (Int × Int)} {k : Nat} {n : Int × Int} (h : ids[k]? = some n) : predsV o f (ids.take (k + 1)) = predsV o f (ids.take k) ++ if (decide (o.kind ≠ 4) || (((f n).getD zJV).k == 4)) = true then [n] else [] := by
  unfold predsV
  rw [List.take_add_one, h, List.filter_append]
  congr 1
  simp only [Option.toList_some, List.filter_cons, List.filter_nil]
/-- The boxes of add. -/
structure AddB (w : World) (o : OpV) (x : Wh) (v1 v2 vp : Value) (W : World) : Prop where
  bel : Below w.heap.size w W
  op : Blk W w.heap.size 51 #[.int .i64 o.kind, .int .i64 o.obj.1, .int .i64 o.obj.2, .string o.key, .int .i64 o.elem.1, .int .i64 o.elem.2, .bool o.ins, .int .i64 o.val.k, .int .i64 o.val.n, .string o.val.s, .int .i64 o.val.o, .int .i64 o.val.p, vp]
  pl : Blk W (w.heap.size + 1) 83 #[.int .i64 x.1.1, .int .i64 x.1.2, .string x.2.1, .int .i64 x.2.2.1, .int .i64 x.2.2.2, v1, v2]
  id : Blk W (w.heap.size + 2) 24 #[.int .i64 0, .int .i64 0]
theorem AddB.new {w W W' : World} {o : OpV} {x : Wh} {v1 v2 vp : Value} (h : AddB w o x v1 v2 vp W) (hb : Below W.heap.size W W') : AddB w o x v1 v2 vp W' :=
  ⟨h.bel.trans (hb.mono h.bel.size), h.op.below hb h.op.lt, h.pl.below hb h.pl.lt, h.id.below hb h.id.lt⟩
theorem AddB.turn {w W W' : World} {o : OpV} {x : Wh} {v1 v2 vp : Value} {S : Nat → Prop} (h : AddB w o x v1 v2 vp W) (ho : Only S W W') (hS : ∀ i, S i → w.heap.size + 3 ≤ i) : AddB w o x v1 v2 vp W' :=
  ⟨h.bel.trans (ho.below h.bel.size (fun k hk e => by have := hS k e; omega)), h.op.only ho (fun e => by have := hS _ e; omega), h.pl.only ho (fun e => by have := hS _ e; omega), h.id.only ho (fun e => by have := hS _ e; omega)⟩
theorem AddB.preds {w W : World} {o : OpV} {x : Wh} {v1 v2 vp : Value} (h : AddB w o x v1 v2 vp W) (v : Value) : AddB w o x v1 v2 v (W.setCell ⟨w.heap.size, 12, none⟩ v) := by
  have ho : Only (· = w.heap.size) W (W.setCell ⟨w.heap.size, 12, none⟩ v) := (Only.refl (· = w.heap.size) W).setCell (p := ⟨w.heap.size, 12, none⟩) rfl v
  refine ⟨h.bel.trans (ho.below h.bel.size (fun k hk e => by have e : k = w.heap.size := e; omega)), ?_, h.pl.only ho (fun e => by have e : w.heap.size + 1 = w.heap.size := e; omega), h.id.only ho (fun e => by have e : w.heap.size + 2 = w.heap.size := e; omega)⟩
  have := h.op.set_ 12 v
  simpa using this
theorem AddB.drewN {w W : World} {o : OpV} {x : Wh} {v1 v2 vp : Value} (h : AddB w o x v1 v2 vp W) (n : Nat) : AddB w o x v1 v2 vp (W.drewN n) := ⟨⟨h.bel.os, h.bel.tape, h.bel.output, h.bel.size, h.bel.block⟩, h.op, h.pl, h.id⟩
theorem AddB.size {w W : World} {o : OpV} {x : Wh} {v1 v2 vp : Value} (h : AddB w o x v1 v2 vp W) : w.heap.size + 3 ≤ W.heap.size := h.id.lt
/-- What holds while the preds are gathered. -/
def AddL (w : World) (o : OpV) (x : Wh) (v1 v2 : Value) (f : Vm) (ids : List (Int × Int)) (k : Nat) (W : World) : Prop :=
  ∃ (A : Option Addr) (c : Nat), AddB w o x v1 v2 (.slice A (predsV o f (ids.take k)).length c) W ∧ W.ownsRow (w.heap.size + 3) 24 2 (.slice A (predsV o f (ids.take k)).length c) (predsV o f (ids.take k)).length (refs (predsV o f (ids.take k)))
theorem AddL.new {w W W' : World} {o : OpV} {x : Wh} {v1 v2 : Value} {f : Vm} {ids : List (Int × Int)} {k : Nat} (h : AddL w o x v1 v2 f ids k W) (hb : Below W.heap.size W W') : AddL w o x v1 v2 f ids k W' := by
  obtain ⟨A, c, h1, h2⟩ := h
  exact ⟨A, c, h1.new hb, rowS_only h2 (Only.of_below (S := fun _ => False) hb) (fun _ _ h => h)⟩
theorem predsV_len (o : OpV) (f : Vm) (ids : List (Int × Int)) : (predsV o f ids).length ≤ ids.length := List.length_filter_le _ _
/-- What add answers. -/
def AddQ (w : World) (K : Nat → Prop) (db : Nat) (D : DocV) (r : Int × (Int × Int) × List OpV) (e : Ending) (w' : World) : Prop :=
  e = .returned (.tuple #[.agg #[.int .i64 r.2.1.1, .int .i64 r.2.1.2], errC r.1]) ∧ DocA w' (fun i => K i ∨ w.heap.size ≤ i) db { D with pend := r.2.2 } ∧ Only K w w'
theorem sortPreds_any (B c : Nat) (A : Option Addr) (l : List (Int × Int)) (w : World) (hO : w.ownsRow B 24 2 (.slice A l.length c) l.length (refs l)) (hl : l.length < 4611686018427387904) :
    Calls Tryz.prog 60 #[.slice A l.length c, .func (.func 61) #[] #[]] w fun e w' =>
      e = .returned (.tuple #[]) ∧ w'.ownsRow B 24 2 (.slice A l.length c) l.length (refs (sortC cmpId l)) ∧ Only (fun k => (Value.slice A l.length c).ownBlock = some k) w w' := by
  by_cases h0 : l = []
  · subst h0
    refine (sortNoneI_any _ _ _ _).mono ?_
    rintro e w2 ⟨rfl, hw2⟩
    rw [hw2]
    exact ⟨rfl, by simpa [sortC] using hO, Only.refl _ _⟩
  · obtain ⟨g, rfl⟩ : ∃ g, A = some ⟨g, 0, none⟩ := by
      rcases hO.2 with ⟨_, hn0⟩ | ⟨g, cap, cur, hv, _⟩
      · exact absurd (List.eq_nil_of_length_eq_zero hn0) h0
      · injection hv with hv; exact ⟨g, hv⟩
    refine (sortIds_any cmpId swo_refs tot_refs _ enters_cmp compareId_grow B g c l w hO hl).mono ?_
    rintro e w2 ⟨rfl, h2, h3⟩
    exact ⟨rfl, h2, ⟨h3.os, h3.tape, h3.output, h3.size, fun k hk hn => h3.block k hk (fun e => hn (by rw [e]; rfl))⟩⟩
theorem rowR_mem (L : List Ch) : ∀ (n : Nat) (left done : List (Int × Int)), ∀ c ∈ (rowR L n left done).filterMap (findR L), c ∈ L := fun n left done c hc => by
  obtain ⟨r, _, h⟩ := List.mem_filterMap.1 hc
  exact (findR_some h).1
/-- The numbers of a hand. -/
theorem DocM.start_le {w : World} {F : Nat → Prop} {db bk h wt bh : Nat} {Dh Dw Db : DataW Value} {L Wl : List PCh} {D : DocV} {actor : Int} {A : Option Addr} {cp : Nat} {ps : List POp} (H : DocM w F db bk h wt bh Dh Dw Db L Wl actor A cp ps) (e1 : D.L = L.map PCh.ch) :
    1 ≤ D.start.1 ∧ D.start.1 ≤ 1000040 ∧ 1 ≤ D.start.2 ∧ D.start.2 ≤ 1000001 := by
  refine startV_le D.actor D.all (fun c hc => ?_)
  have h1 : c ∈ D.L := rowR_mem D.L _ _ _ c hc
  rw [e1] at h1
  obtain ⟨y, hy, rfl⟩ := List.mem_map.1 h1
  exact ch_small (H.dag.good y hy).2
/-- What goes on behind the first tests. -/
def AddCut (wr : World) (k : Int) (m : Nat) (wx : World) : Prop := wx = wr ∧ (k = 3 → m ≠ 0) ∧ (k = 4 → m ≠ 0)
def zOpR : Value := .agg #[.int .i64 0, .int .i64 0, .int .i64 0, .string ⟨#[]⟩, .int .i64 0, .int .i64 0, .bool false, .int .i64 0, .int .i64 0, .string ⟨#[]⟩, .int .i64 0, .int .i64 0, .slice none 0 0]
theorem infoOpR : (Tryz.prog.info? 51).map (fun i => (i.zero, i.size, i.bytes)) = some (some zOpR, 13, 136) := by kernel_rfl
theorem pop_one (o : POp) : ∀ u ∈ o.cells, u.oneCell' = true := by
  intro u hu
  simp [POp.cells] at hu
  rcases hu with rfl | rfl | rfl | rfl | rfl | rfl | rfl | rfl | rfl | rfl | rfl | rfl | rfl <;> rfl
theorem own_memA {A : Option Addr} {n c k : Nat} (h : some k = (Value.slice A n c).ownBlock) : k ∈ blkOf A := by
  cases A with
  | none => cases h
  | some a =>
    have : k = a.block := Option.some.inj h
    simp [blkOf, this]
theorem op_push {W3 : World} {c : Nat} {A : Option Addr} {ps : List POp} (o : POp) (hown : W3.ownsRow 0 51 13 (.slice A ps.length c) ps.length (opsCells ps)) (hl : ps.length ≤ 1000000) :
    ∃ (A' : Option Addr) (c' : Nat) (w5 : World), (∀ ty, (Builtin.append_ #[55, 55] ty #[.slice A ps.length c, .slice (some ⟨W3.heap.size, 0, none⟩) 1 1]).run Tryz.prog (W3.alloc (.cells #[.int .i64 o.op.kind, .int .i64 o.op.obj.1, .int .i64 o.op.obj.2, .string o.op.key, .int .i64 o.op.elem.1, .int .i64 o.op.elem.2, .bool o.op.ins, .int .i64 o.op.val.k, .int .i64 o.op.val.n, .string o.op.val.s, .int .i64 o.op.val.o, .int .i64 o.op.val.p, .slice o.pA o.op.preds.length o.pc] 51)) = .ok (.slice A' (ps.length + 1) c') w5) ∧
      w5.ownsRow 0 51 13 (.slice A' (ps.length + 1) c') (ps.length + 1) (opsCells (ps ++ [o])) ∧ Only (fun i => i ∈ blkOf A) W3 w5 ∧ (A' = A ∨ ∃ g, A' = some ⟨g, 0, none⟩ ∧ W3.heap.size ≤ g) := by
  have hc : SlAt (W3.alloc (.cells o.cells.toArray 51)) (some ⟨W3.heap.size, 0, none⟩) o.cells := .inr ⟨_, 0, rfl, fun j u hu => by
    rw [Nat.zero_add, (Blk.new W3 _ _).cell]
    simpa using hu⟩
  obtain ⟨A', c', w5, r1, r2, r3, r4⟩ := run_append_sl (P := Tryz.prog) (W3.alloc (.cells o.cells.toArray 51)) 55 0 51 Tryz.underlying55 infoOpR rfl (by decide) A ps.length c (opsCells ps) (hown.alloc _) (some ⟨W3.heap.size, 0, none⟩) 1 1 o.cells rfl hc (pop_one o) (by unfold maxLen; omega) (by omega)
  refine ⟨A', c', w5, fun _ => r1, ?_, ((Only.refl _ _).alloc _).trans ⟨r3.os, r3.tape, r3.output, r3.size, fun k hk hn => r3.block k hk (fun e => hn (own_memA e))⟩, ?_⟩
  · rw [opsCells_append, show opsCells [o] = o.cells from by simp [opsCells]]
    exact r2
  · rcases r4 with ⟨rfl, _⟩ | rfl
    · exact .inl rfl
    · exact .inr ⟨_, rfl, by simp⟩
end Go.Proofs.YteknflimfdkhoaaGreat
namespace Go.Proofs.YteknflimfdkhoaaGreat
open Go.RowKit Go.Maps
set_option linter.unusedVariables false
set_option linter.unusedSimpArgs false

def WaitQ (w : World) (n : Nat) (e : Ending) (w' : World) : Prop := ∃ A c, e = .returned (.slice A n c) ∧ Below w.heap.size w w'
set_option maxRecDepth 100000 in
set_option maxHeartbeats 800000 in
theorem waiting_any (F : Nat → Prop) (bk h wt bh : Nat) (Dh Dw Db : DataW Value) (L Wl : List PCh) (w : World) (H : DagX w F bk h wt bh Dh Dw Db L Wl) :
    Calls Tryz.prog 18 #[.pointer (some ⟨bk, 0, none⟩)] w (WaitQ w Wl.length) := by
  have p1 : w.cell? ⟨bk, 1, none⟩ = some (.map (some wt)) := H.bkm.blk.cell 1
  have HO := Lib.hid (show w.ownsMap Tryz.prog 33 anyElem wt (Maps.size Dw) Dw from H.bkm.wts)
  have hs : Maps.size Dw ≤ 1000 := by have := H.sz; omega
  have HL := Lib.hid (show ∀ l, KeysAre Dw l → l.length = Wl.length from fun l hl => by
    have hp : l.Perm (Wl.map PCh.ref) := by
      refine (List.perm_ext_iff_of_nodup hl.nodup H.wnd).2 (fun r => ?_)
      constructor
      · intro hr
        have hi := hl.i2 r hr
        have := (hl.mem r hi).1 hr
        rw [H.wx r hi, Option.isSome_map] at this
        exact findC_mem.1 this
      · intro hr
        obtain ⟨c, hc, rfl⟩ := List.mem_map.1 hr
        have hi := (chE_good (H.win c hc).2).i2
        refine (hl.mem _ hi).2 ?_
        rw [H.wx _ hi, Option.isSome_map]
        exact findC_mem.2 hr
    have := hp.length_eq
    rwa [List.length_map] at this)
  clear H
  go_enter Tryz.func18, Tryz.ntmps18
  go_wp2_with (go_at_call 37; (with_reducible refine (rising_any wt _ Dw _ HO.out hs).mono ?_); (rintro e w1 ⟨l, A, c, hk, hl, rfl, hown, hb1⟩); (have HK := Lib.hid (And.intro (HL.out l hk) hb1)); clear hk hl hown hb1)
  go_ret
  exact ⟨A, c, by rw [HK.out.1]; rfl, HK.out.2⟩
end Go.Proofs.YteknflimfdkhoaaGreat
