/- A hand at a book: plain. dag.Book.put: a contract, exact. -/
import Derived.Test.YthimkpkoimfkiaaGreatCg19
import Derived.Test.YthimkpkoimfkiaaGreatCg20
import Derived.Test.YthimkpkoimfkiaaGreatCg21
import Derived.Test.YthimkpkoimfkiaaGreatCg16
import Derived.Test.YthimkpkoimfkiaaGreatCg4
namespace Go.Proofs.YthimkpkoimfkiaaGreat
open Go.RowKit Go.Sort
set_option linter.unusedVariables false
set_option linter.unusedSimpArgs false

/-- The changes of a book in the order in which All gives them. -/
def depsR (L : List Ch) (r : Int × Int) : List (Int × Int) := ((findR L r).map Ch.deps).getD []
def okR (L : List Ch) (done : List (Int × Int)) (r : Int × Int) : Bool := !((depsR L r).any fun d => !decide (d ∈ done))
def rowR (L : List Ch) : Nat → List (Int × Int) → List (Int × Int) → List (Int × Int)
  | 0, _, _ => []
  | n + 1, left, done => match left.findIdx? (okR L done) with
    | none => []
    | some i => left.getD i (0, 0) :: rowR L n (left.eraseIdx i) (left.getD i (0, 0) :: done)
def allV (L : List Ch) : List Ch := (rowR L L.length (sortR (L.map Ch.ref)) []).filterMap (findR L)
theorem depsR_map (L : List PCh) (r : Int × Int) : depsR (L.map PCh.ch) r = depsL L r := by
  unfold depsR depsL
  rw [findR_map, Option.map_map]
  rfl
theorem rowR_map (L : List PCh) : ∀ (n : Nat) (left done : List (Int × Int)), rowR (L.map PCh.ch) n left done = rowF L n left done
  | 0, _, _ => rfl
  | n + 1, left, done => by
    have h : okR (L.map PCh.ch) done = okIn L done := by
      funext r
      unfold okR okIn
      rw [depsR_map]
    rw [rowR, rowF, h]
    cases left.findIdx? (okIn L done) with
    | none => rfl
    | some i => exact congrArg _ (rowR_map L n _ _)
theorem AllOf.eq {L al : List PCh} (h : AllOf L al) (hn : (L.map PCh.ref).Nodup) : al.map PCh.ch = allV (L.map PCh.ch) := by
  unfold allV
  rw [List.length_map, map_ch_ref, rowR_map, ← h.row, List.filterMap_map]
  have key : ∀ l : List PCh, (∀ x ∈ l, ∃ y ∈ L, y.ref = x.ref ∧ x.ch = y.ch) → l.map PCh.ch = l.filterMap (findR (L.map PCh.ch) ∘ PCh.ref) := by
    intro l
    induction l with
    | nil => intro _; rfl
    | cons x l ih =>
      intro hl
      obtain ⟨y, hy, h1, h2⟩ := hl x List.mem_cons_self
      rw [List.map_cons, List.filterMap_cons]
      have e : (findR (L.map PCh.ch) ∘ PCh.ref) x = some x.ch := by
        show findR (L.map PCh.ch) x.ref = _
        rw [findR_map, ← h1, findC_of hn hy, h2]
        rfl
      rw [e, ih (fun z hz => hl z (List.mem_cons_of_mem _ hz))]
  exact key al h.src
theorem AllOf.mem {L al : List PCh} (h : AllOf L al) {x : PCh} (hx : x ∈ al) : x.ch ∈ L.map PCh.ch := by
  obtain ⟨y, hy, _, e⟩ := h.src x hx
  rw [e]
  exact List.mem_map_of_mem hy

/-- A hand: who, the book, what waits, what is pending. -/
structure DocV where
  actor : Int
  L : List Ch
  W : List Ch
  pend : List OpV
def DocV.all (D : DocV) : List Ch := allV D.L
/-- The number of the first pending op, and of the change. -/
def startF (actor : Int) (p : Int × Int) (c : Ch) : Int × Int := (max p.1 (c.start + c.ops.length), if c.actor = actor then max p.2 (c.seq + 1) else p.2)
def startV (actor : Int) (l : List Ch) : Int × Int := l.foldl (startF actor) (1, 1)
def DocV.start (D : DocV) : Int × Int := startV D.actor D.all
def DocV.state (D : DocV) : Sta := doOps (doChs stNew D.all) D.actor D.start.1 D.pend
/-- What is wrong with a key. -/
def kindE (k : Option Int) (key : ByteArray) : Int :=
  match k with
  | none => 6
  | some k => if k = 5 then (if key.toList.isEmpty = true then 1 else if 20 < key.size then 4 else 0) else 10
def keyedE (s : Sta) (obj : Int × Int) (key : ByteArray) : Int := kindE (s.kinds obj) key
theorem kindE_key {k : Int} {key : ByteArray} (h5 : k = 5) (h : key.toList.isEmpty = true) : kindE (some k) key = 1 := by
  unfold kindE
  dsimp only
  rw [if_pos h5, if_pos h]
theorem kindE_long {k : Int} {key : ByteArray} (h5 : k = 5) (h : ¬ key.toList.isEmpty = true) (hl : 20 < key.size) : kindE (some k) key = 4 := by
  unfold kindE
  dsimp only
  rw [if_pos h5, if_neg h, if_pos hl]
theorem kindE_ok {k : Int} {key : ByteArray} (h5 : k = 5) (h : ¬ key.toList.isEmpty = true) (hl : ¬ 20 < key.size) : kindE (some k) key = 0 := by
  unfold kindE
  dsimp only
  rw [if_pos h5, if_neg h, if_neg hl]
theorem kindE_kind {k : Int} {key : ByteArray} (h5 : ¬ k = 5) : kindE (some k) key = 10 := by
  unfold kindE
  dsimp only
  rw [if_neg h5]
/-- What an op overwrites. -/
def predsV (o : OpV) (f : Vm) (ids : List (Int × Int)) : List (Int × Int) := ids.filter fun n => decide (o.kind ≠ 4) || (((f n).getD zJV).k == 4)
/-- What add does: the error, the id, what is pending then. -/
def addV (D : DocV) (o : OpV) (f : Vm) (ids : List (Int × Int)) : Int × (Int × Int) × List OpV :=
  let ps := predsV o f ids
  if o.kind = 3 ∧ ps = [] then (6, (0, 0), D.pend)
  else if o.kind = 4 ∧ ps = [] then (10, (0, 0), D.pend)
  else if 40 ≤ D.pend.length ∨ 12 < ids.length ∨ 1000000 < D.start.1 + D.pend.length ∨ 120 ≤ D.L.length + D.W.length then (4, (0, 0), D.pend)
  else (0, (D.start.1 + D.pend.length, D.actor), D.pend ++ [{ o with preds := sortC cmpId ps }])
/-- What onKey does. -/
def onKeyV (D : DocV) (o : OpV) (ok : Int) (ids : List (Int × Int)) : Int × (Int × Int) × List OpV :=
  if keyedE D.state o.obj o.key ≠ 0 then (keyedE D.state o.obj o.key, (0, 0), D.pend)
  else if ok ≠ 0 then (ok, (0, 0), D.pend)
  else addV D o (D.state.mv (o.obj, o.key, (0, 0))) ids
/-- No op comes in. -/
structure DocV.noIns (D : DocV) : Prop where
  book : ∀ c ∈ D.L, ∀ o ∈ c.ops, o.ins = false
  pend : ∀ o ∈ D.pend, o.ins = false
theorem startV_snoc (actor : Int) (l : List Ch) (c : Ch) : startV actor (l ++ [c]) = startF actor (startV actor l) c := by
  unfold startV
  rw [List.foldl_append]
  rfl
/-- The numbers are not too great. -/
theorem startV_le (actor : Int) (l : List Ch) (h : ∀ c ∈ l, c.start ≤ 1000000 ∧ c.ops.length ≤ 40 ∧ c.seq ≤ 1000000) : 1 ≤ (startV actor l).1 ∧ (startV actor l).1 ≤ 1000040 ∧ 1 ≤ (startV actor l).2 ∧ (startV actor l).2 ≤ 1000001 := by
  revert h
  refine snocInd (P := fun l => (∀ c ∈ l, c.start ≤ 1000000 ∧ c.ops.length ≤ 40 ∧ c.seq ≤ 1000000) → 1 ≤ (startV actor l).1 ∧ (startV actor l).1 ≤ 1000040 ∧ 1 ≤ (startV actor l).2 ∧ (startV actor l).2 ≤ 1000001) (fun _ => ⟨by show (1 : Int) ≤ 1; decide, by show (1 : Int) ≤ 1000040; decide, by show (1 : Int) ≤ 1; decide, by show (1 : Int) ≤ 1000001; decide⟩) (fun l c ih h => ?_) l
  obtain ⟨h1, h2, h3, h4⟩ := ih (fun x hx => h x (List.mem_append_left _ hx))
  obtain ⟨c1, c2, c3⟩ := h c (by simp)
  rw [startV_snoc]
  unfold startF
  dsimp only
  refine ⟨Int.le_trans h1 (Int.le_max_left _ _), Int.max_le.2 ⟨h2, by omega⟩, ?_, ?_⟩
  · split
    · exact Int.le_trans h3 (Int.le_max_left _ _)
    · exact h3
  · split
    · exact Int.max_le.2 ⟨h4, by omega⟩
    · exact h4
end Go.Proofs.YthimkpkoimfkiaaGreat
namespace Go.Proofs.YthimkpkoimfkiaaGreat
open Go.RowKit Go.Maps
set_option linter.unusedVariables false
set_option linter.unusedSimpArgs false

/-- The keys of a map. -/
def KeyPred (D : DataW Value) (S : Int × Int → Prop) : Prop := ∀ s, I2 s → ((mget D s).isSome = true ↔ S s)
/-- What stands behind each change, exactly. -/
def BehX (w : World) (h wt bh : Nat) (Dh Db : DataW Value) (beh : Int × Int → List (Int × Int)) : Prop :=
  ∀ r, I2 r → ∀ v, mget Db r = some v → ∃ m Dm, v = .map (some m) ∧ OM w m Dm ∧ m ≠ h ∧ m ≠ wt ∧ m ≠ bh ∧ (∀ s, I2 s → ∀ u, mget Dm s = some u → u = .bool true ∧ hasB Dh s = true) ∧ KeyPred Dm (fun s => s ∈ beh r)
theorem BehX.ok {w : World} {h wt bh : Nat} {Dh Db : DataW Value} {beh : Int × Int → List (Int × Int)} (H : BehX w h wt bh Dh Db beh) : BehOk w h wt bh Dh Db := fun r hr v hv => by
  obtain ⟨m, Dm, e1, e2, e3, e4, e5, e6, _⟩ := H r hr v hv
  exact ⟨m, Dm, e1, e2, e3, e4, e5, e6⟩
/-- What put does. -/
def PutQX (w : World) (bk h wt bh : Nat) (Dh Dw Db : DataW Value) (beh : Int × Int → List (Int × Int)) (c : PCh) (e : Ending) (w' : World) : Prop :=
  ∃ m Dm, e = .returned (.tuple #[]) ∧ BkM w' bk h wt bh (Dh.put (rlit c.ref) (.held c.value)) Dw (Db.put (rlit c.ref) (.held (.map (some m)))) ∧ OM w' m Dm ∧ w.heap.size ≤ m ∧ Cont Dh c.ref Dm ∧ KeyPred Dm (fun s => s = c.ref ∨ ∃ d ∈ c.deps, s ∈ beh d) ∧ Only (fun i => i = h ∨ i = bh) w w'
/-- .. and what is put into the new past. -/
def PutIX (W4 W : World) (Dh : DataW Value) (r : Int × Int) (m : Nat) (S : Int × Int → Prop) : Prop := ∃ Dm, OM W m Dm ∧ Cont Dh r Dm ∧ KeyPred Dm S ∧ Only (fun i => i = m) W4 W
theorem PutIX.new {W4 W W' : World} {Dh : DataW Value} {r : Int × Int} {m : Nat} {S : Int × Int → Prop} (h : PutIX W4 W Dh r m S) (hb : Below W.heap.size W W') : PutIX W4 W' Dh r m S := by
  obtain ⟨Dm, h1, h2, hk, h3⟩ := h
  exact ⟨Dm, h1.below hb, h2, hk, h3.trans (Only.of_below hb)⟩
theorem PutIX.loose {W4 W : World} {Dh : DataW Value} {r : Int × Int} {m : Nat} {S : Int × Int → Prop} (h : PutIX W4 W Dh r m S) : PutI W4 W Dh r m := by
  obtain ⟨Dm, h1, h2, hk, h3⟩ := h
  exact ⟨Dm, h1, h2, h3⟩
theorem PutIX.imp {W4 W : World} {Dh : DataW Value} {r : Int × Int} {m : Nat} {S T : Int × Int → Prop} (h : PutIX W4 W Dh r m S) (hi : ∀ s, I2 s → (S s ↔ T s)) : PutIX W4 W Dh r m T := by
  obtain ⟨Dm, h1, h2, hk, h3⟩ := h
  exact ⟨Dm, h1, h2, fun s hs => (hk s hs).trans (hi s hs), h3⟩
/-- What is in the past that grows, behind k of those it hangs on. -/
def SK (p : Int × Int → Prop) (deps : List (Int × Int)) (beh : Int × Int → List (Int × Int)) (k : Nat) (s : Int × Int) : Prop := p s ∨ ∃ d ∈ deps.take k, s ∈ beh d
theorem SK_next {p : Int × Int → Prop} {d : Int × Int} {deps : List (Int × Int)} {beh : Int × Int → List (Int × Int)} {k : Nat} (hd : deps[k]? = some d) (s : Int × Int) : SK p deps beh (k + 1) s ↔ SK p deps beh k s ∨ s ∈ beh d := by
  unfold SK
  rw [List.take_add_one, hd]
  simp only [Option.toList_some, List.mem_append, List.mem_singleton]
  constructor
  · rintro (h | ⟨x, h | rfl, h2⟩)
    · exact .inl (.inl h)
    · exact .inl (.inr ⟨x, h, h2⟩)
    · exact .inr h2
  · rintro ((h | ⟨x, h, h2⟩) | h)
    · exact .inl h
    · exact .inr ⟨x, .inl h, h2⟩
    · exact .inr ⟨d, .inr rfl, h⟩
theorem SK_all {p : Int × Int → Prop} {deps : List (Int × Int)} {beh : Int × Int → List (Int × Int)} (s : Int × Int) : SK p deps beh deps.length s ↔ (p s ∨ ∃ d ∈ deps, s ∈ beh d) := by
  unfold SK
  rw [List.take_length]
/-- .. and part of the past of the next one. -/
def SV (S : Int × Int → Prop) (b : List (Int × Int)) (left : Lit → Bool) (s : Int × Int) : Prop := S s ∨ (s ∈ b ∧ left (rlit s) = false)
theorem PutIX.start {W4 W : World} {Dh Dd : DataW Value} {r : Int × Int} {m md : Nat} {S : Int × Int → Prop} {b : List (Int × Int)} (h : PutIX W4 W Dh r m S) {w : World} (hd : OM w md Dd) (hk : KeyPred Dd (fun s => s ∈ b)) {left : Lit → Bool} (hl : ∀ s, I2 s → left (rlit s) = hasB Dd s) : PutIX W4 W Dh r m (SV S b left) :=
  h.imp fun s hs => ⟨.inl, fun e => e.elim id (fun e => by
    rw [hl s hs] at e
    have := (hk s hs).2 e.1
    unfold hasB at e
    rw [this] at e
    exact absurd e.2 (by decide))⟩
theorem PutIX.done {W4 W : World} {Dh : DataW Value} {p : Int × Int → Prop} {r d : Int × Int} {m : Nat} {deps : List (Int × Int)} {beh : Int × Int → List (Int × Int)} {k : Nat} {left : Lit → Bool} (h : PutIX W4 W Dh r m (SV (SK p deps beh k) (beh d) left)) (hd : deps[k]? = some d) (hl : ∀ kl, left kl = false) : PutIX W4 W Dh r m (SK p deps beh (k + 1)) :=
  h.imp fun s hs => by
    rw [SK_next hd]
    unfold SV
    rw [hl]
    simp
theorem KeyPred.step {w : World} {m : Nat} {Dm : DataW Value} {S : Int × Int → Prop} {b : List (Int × Int)} {left : Lit → Bool} {x : Int × Int} (h : KeyPred Dm (SV S b left)) (hm : OM w m Dm) (hx : I2 x) (hb : x ∈ b) (v : Value) : KeyPred (Dm.put (rlit x) (.held v)) (SV S b (fun z => left z && !z.sameKey (rlit x))) := by
  intro s hs
  rw [hm.get_put hx hs]
  unfold SV
  simp only []
  rw [left_struck pairRef hx hs]
  by_cases e : s = x
  · subst e
    simp [hb]
  · rw [if_neg e]
    have := h s hs
    unfold SV at this
    rw [this]
    simp [e]

set_option maxRecDepth 100000 in
set_option maxHeartbeats 4000000 in
theorem put_is (bk h wt bh : Nat) (Dh Dw Db : DataW Value) (beh : Int × Int → List (Int × Int)) (c : PCh) (w : World) (H : BkM w bk h wt bh Dh Dw Db) (hB : BehX w h wt bh Dh Db beh) (hc : InC w c) (hr : I2 c.ref) (hsz : Maps.size Dh ≤ 1000) (hsb : Maps.size Db ≤ 1000)
    (hall : ∀ d ∈ c.deps, (mget Db d).isSome = true) :
    Calls Tryz.prog 47 #[.pointer (some ⟨bk, 0, none⟩), .agg #[.int .i64 c.actor, .int .i64 c.seq, .int .i64 c.start, .slice c.dA c.deps.length c.dc, .slice c.oA c.ops.length c.oc]] w (PutQX w bk h wt bh Dh Dw Db beh c) := by
  have hmm := @run_makeMap Tryz.prog
  obtain ⟨W0, hW0⟩ : ∃ W0, W0 = w.alloc (.cells #[.int .i64 c.actor, .int .i64 c.seq, .int .i64 c.start, .slice c.dA c.deps.length c.dc, .slice c.oA c.ops.length c.oc] 67) := ⟨_, rfl⟩
  have hb0 : CB w c W0 := by rw [hW0]; exact ⟨(Below.refl _ _).alloc (Nat.le_refl _) _, Blk.new _ _ _⟩
  have H0 := Lib.hid (And.intro hb0 (And.intro H (And.intro hB (And.intro hc (And.intro hr (And.intro hsz (And.intro hsb hall)))))))
  have HW0 := Lib.hid hW0
  clear hb0 H hB hc hr hsz hsb hall hW0
  go_enter Tryz.func47, Tryz.ntmps47
  go_wp2_with (go_at_call 22; refine (changeRef_any c _).mono ?_; rintro e w1 ⟨rfl, hb1⟩)
  rw [← HW0.out] at hb1
  have HC1 := Lib.hid (H0.out.1.new hb1)
  clear hb1
  obtain ⟨W2, hW2⟩ : ∃ W2, W2 = w1.alloc (.cells #[.int .i64 c.actor, .int .i64 c.seq] 33) := ⟨_, rfl⟩
  rw [← hW2]
  have hC2 : CB w c W2 := HC1.out.new (by rw [hW2]; exact (Below.refl _ _).alloc (Nat.le_refl _) _)
  have hR2 : Blk W2 w1.heap.size 33 #[.int .i64 c.actor, .int .i64 c.seq] := by rw [hW2]; exact Blk.new _ _ _
  have hM2 := H0.out.2.1.below hC2.bel
  have HC2 := Lib.hid (And.intro hC2 (And.intro hR2 hM2))
  have p0 : W2.cell? ⟨bk, 0, none⟩ = some (.map (some h)) := hM2.blk.cell 0
  have p1 : W2.cell? ⟨w1.heap.size, 0, none⟩ = some (.int .i64 c.actor) := hR2.cell 0
  have p2 : W2.cell? ⟨w1.heap.size, 1, none⟩ = some (.int .i64 c.seq) := hR2.cell 1
  have p3 : W2.cell? ⟨w.heap.size, 0, none⟩ = some (.int .i64 c.actor) := hC2.blk.cell 0
  have p4 : W2.cell? ⟨w.heap.size, 1, none⟩ = some (.int .i64 c.seq) := hC2.blk.cell 1
  have p5 : W2.cell? ⟨w.heap.size, 2, none⟩ = some (.int .i64 c.start) := hC2.blk.cell 2
  have p6 : W2.cell? ⟨w.heap.size, 3, none⟩ = some (.slice c.dA c.deps.length c.dc) := hC2.blk.cell 3
  have p7 : W2.cell? ⟨w.heap.size, 4, none⟩ = some (.slice c.oA c.ops.length c.oc) := hC2.blk.cell 4
  clear hC2 hR2 hM2 hW2
  go_still_tail 6, (by kernel_rfl)
  change wpList _ _ _ _ _ W2.drew
  refine wpList_upd _ rfl _ _ _ 84 rfl 33 67 pairRef Tryz.underlying84 h _ Dh rfl (show W2.drew.ownsMap Tryz.prog 33 anyElem h (Maps.size Dh) Dh from HC2.out.2.2.has) (by have := H0.out.2.2.2.2.2.1; unfold maxLen; omega) c.ref rfl H0.out.2.2.2.2.1 c.value rfl ?_
  intro W3 hm3 ho3 hs3
  clear p0 p1 p2 p3 p4 p5 p6 p7
  have hnb := HC2.out.2.2.nbk
  have hM3 : BkM W3 bk h wt bh (Dh.put (rlit c.ref) (.held c.value)) Dw Db := by
    obtain ⟨hC2, hR2, hM2⟩ := HC2.out
    refine ⟨(show Blk W2.drew bk _ _ from hM2.blk).only ho3 (by exact hnb.1), OM.of hm3, (show OM W2.drew wt Dw from hM2.wts).only ho3 (fun e => hM2.n1 e.symm), (show OM W2.drew bh Db from hM2.beh).only ho3 (fun e => hM2.n2 e.symm), hM2.n1, hM2.n2, hM2.n3⟩
  have hhl := H0.out.2.1.has.lt
  have hR3 : Blk W3 w1.heap.size 33 #[.int .i64 c.actor, .int .i64 c.seq] := (show Blk W2.drew _ _ _ from HC2.out.2.1).only ho3 (by have := HC1.out.bel.size; show w1.heap.size ≠ h; omega)
  have hC3 : Blk W3 w.heap.size 67 #[.int .i64 c.actor, .int .i64 c.seq, .int .i64 c.start, .slice c.dA c.deps.length c.dc, .slice c.oA c.ops.length c.oc] := (show Blk W2.drew _ _ _ from HC2.out.1.blk).only ho3 (by show w.heap.size ≠ h; omega)
  have hO3 : Only (fun i => i = h) w W3 := by
    have h1 : Only (fun i => i = h) w W2.drew := (Only.of_below HC2.out.1.bel).drew
    exact h1.trans ho3
  have H3 := Lib.hid (And.intro hM3 (And.intro hR3 (And.intro hC3 hO3)))
  have a1 : (W3.alloc (.map #[] 0)).cell? ⟨w1.heap.size, 0, none⟩ = some (.int .i64 c.actor) := (hR3.alloc _).cell 0
  have a2 : (W3.alloc (.map #[] 0)).cell? ⟨w1.heap.size, 1, none⟩ = some (.int .i64 c.seq) := (hR3.alloc _).cell 1
  clear hM3 hR3 hC3 hO3 hm3 ho3 hs3 hnb
  go_wp2_with (first
    | (with_reducible refine wpList_ins _ rfl _ _ _ 83 rfl 33 4 pairRef Tryz.underlying83 W3.heap.size 0 (.map []) rfl (World.ownsMap_made W3 _ _ _) (by unfold maxLen; omega) c.ref rfl H0.out.2.2.2.2.1 (.bool true) rfl ?_)
    | fail)
  intro W4 hm4 ho4 hs4
  obtain ⟨m, hme⟩ : ∃ m, m = W3.heap.size := ⟨_, rfl⟩
  rw [← hme] at hm4 ho4 ⊢
  have hP4 : PutB w W4 bk h wt bh Dh Dw Db c w1.heap.size m := by
    obtain ⟨hM3, hR3, hC3, hO3⟩ := H3.out
    have hal : Below W3.heap.size W3 (W3.alloc (.map #[] 0)) := (Below.refl _ _).alloc (Nat.le_refl _) _
    have g1 := hM3.below hal
    have l1 := hM3.has.lt
    have l2 := hM3.wts.lt
    have l3 := hM3.beh.lt
    have l4 := hM3.blk.lt
    have l5 := hR3.lt
    have l6 := H0.out.1.bel.size
    have l7 := hO3.size
    refine ⟨⟨g1.blk.only ho4 (by show bk ≠ m; omega), g1.has.only ho4 (by show h ≠ m; omega), g1.wts.only ho4 (by show wt ≠ m; omega), g1.beh.only ho4 (by show bh ≠ m; omega), g1.n1, g1.n2, g1.n3⟩, (hR3.alloc _).only ho4 (by show w1.heap.size ≠ m; omega), only_step (hO3.alloc _) ho4 (fun i hi e => by omega), by omega, by omega, by omega, by omega⟩
  have hI4 : PutIX W4 W4 Dh c.ref m (SK (fun s => s = c.ref) c.deps beh 0) := by
    refine ⟨_, OM.of hm4, ?_, fun s hs => ?_, Only.refl _ _⟩
    rotate_left
    · rw [mget_put pairRef isMap_empty H0.out.2.2.2.2.1 hs]
      unfold SK
      by_cases e : s = c.ref
      · rw [if_pos e]; simp [e]
      · rw [if_neg e, mget_empty]; simp [e]
    have h0 : OM W3 m (.map []) ∨ True := .inr trivial
    intro s hs u hu
    rw [mget_put pairRef isMap_empty H0.out.2.2.2.2.1 hs] at hu
    split at hu
    · rename_i e; exact ⟨(Option.some.inj hu).symm, .inl e⟩
    · rw [mget_empty] at hu; cases hu
  have HP := Lib.hid (And.intro hP4 hI4)
  have hdl : c.deps.length ≤ 9223372036854775807 := by have := H0.out.2.2.2.1.dlen; unfold maxLen at this; omega
  have b3 : W4.cell? ⟨w.heap.size, 3, none⟩ = some (.slice c.dA c.deps.length c.dc) := by
    have hC4 : Blk W4 w.heap.size _ _ := (H3.out.2.2.1.alloc (.map #[] 0)).only ho4 (by have := H3.out.2.2.1.lt; show w.heap.size ≠ m; omega)
    exact hC4.cell 3
  clear hP4 hI4 hm4 ho4 hs4 a1 a2 hme hhl
  go_wp2_with fail
  clear b3
  go_loopw [23, 7, 8] (fun iv _ _ wr => ∃ k : Nat, iv = .int .i64 k ∧ k ≤ c.deps.length ∧ PutIX W4 wr Dh c.ref m (SK (fun s => s = c.ref) c.deps beh k)) (fun iv _ _ _ => c.deps.length - (intOf iv).toNat)
  case atStart => exact ⟨0, rfl, Nat.zero_le _, HP.out.2⟩
  case round =>
    obtain ⟨k, rfl, hk, hI⟩ := hrel
    by_cases hlt : k < c.deps.length
    · have hPr := HP.out.1.turn hI.loose
      obtain ⟨b, off, d, ha, hd, hx, hy⟩ := (H0.out.2.2.2.1.deps.maps hPr.only (fun i e => by have : i = h := e; rw [this]; exact H0.out.2.1.has.isMapB)).ref hlt
      rw [ha]
      have hdm : d ∈ c.deps := List.mem_of_getElem? hd
      have hdi := H0.out.2.2.2.1.dep d hdm
      obtain ⟨v, hv⟩ := Option.isSome_iff_exists.1 (H0.out.2.2.2.2.2.2.2 d hdm)
      obtain ⟨md, Dd, rfl, hmd, hn1, hn2, hn3, hdd, hdk⟩ := H0.out.2.2.1 d hdi v hv
      have hmdl := hmd.lt
      have hmdr : OM wr md Dd := hmd.only hPr.only (fun e => hn1 e)
      obtain ⟨W5, hW5⟩ : ∃ W5, W5 = wr.alloc (.cells #[.int .i64 d.1, .int .i64 d.2] 33) := ⟨_, rfl⟩
      have hb5 : Below wr.heap.size wr W5 := by rw [hW5]; exact (Below.refl _ _).alloc (Nat.le_refl _) _
      have hI5 := hI.new hb5
      have hP5 := HP.out.1.turn hI5.loose
      have hmd5 := hmdr.below hb5
      have hd5 : Blk W5 wr.heap.size 33 #[.int .i64 d.1, .int .i64 d.2] := by rw [hW5]; exact Blk.new _ _ _
      have HK := Lib.hid (And.intro hI5 (And.intro hP5 (And.intro hmd5 (And.intro hdd hd5))))
      have HDK := Lib.hid (And.intro hdk hd)
      clear hdk
      have p0 : W5.cell? ⟨bk, 2, none⟩ = some (.map (some bh)) := hP5.bkm.blk.cell 2
      have p1 : W5.cell? ⟨wr.heap.size, 0, none⟩ = some (.int .i64 d.1) := hd5.cell 0
      have p2 : W5.cell? ⟨wr.heap.size, 1, none⟩ = some (.int .i64 d.2) := hd5.cell 1
      have hq : (Instr.lookup 85 (.map (some bh)) (.agg #[.int .i64 d.1, .int .i64 d.2]) false).run Tryz.prog W5.drew = .ok (.map (some md)) W5.drew := by
        have := run_look pairRef (w := W5.drew) (show W5.drew.ownsMap Tryz.prog 33 anyElem bh (Maps.size Db) Db from hP5.bkm.beh) Tryz.underlying85 (zeroMapB _) hdi
        rw [hv] at this
        exact this
      clear hI hPr hd hdm hdi hv hmd hn1 hn2 hn3 hdd hmdr hI5 hP5 hmd5 hd5 hb5
      go_wp2_with fail
      rw [← hW5]
      clear hW5 ha
      go_still_tail 6, (by kernel_rfl)
      change wpList _ _ _ _ _ W5.drew
      refine wpList_range_own _ rfl _ 83 rfl 33 4 keyedRef Tryz.underlying83 _ md _ _ rfl (show W5.drew.ownsMap Tryz.prog 33 anyElem md (Maps.size Dd) Dd from HK.out.2.2.1) ?_
      intro W6 hrg6 hg6 hs6
      obtain ⟨it, hit⟩ : ∃ it, it = W5.drew.heap.size := ⟨_, rfl⟩
      rw [← hit] at hrg6 ⊢
      have hI6 : PutIX W4 W6 Dh c.ref m (SK (fun s => s = c.ref) c.deps beh k) := by
        obtain ⟨Dm, h1, h2, h2k, h3⟩ := HK.out.1
        exact ⟨Dm, (show OM W5.drew m Dm from h1).only (only_grown0 (S := fun _ => False) hg6) (fun h => h), h2, h2k, (show Only _ W4 W5.drew from h3.drew).trans (only_grown0 hg6)⟩
      have hml : m < it := by have := HK.out.2.1.mlt; rw [hit]; exact this
      have h4it : W4.heap.size ≤ it := by
        obtain ⟨Dm, h1, h2, _, h3⟩ := HK.out.1
        have := h3.size
        rw [hit]; exact this
      have hmd : md ≠ m := by have := HP.out.1.wm; omega
      have HI := Lib.hid (And.intro hI6 hrg6)
      clear hrg6 hg6 hs6 hI6 p0 p1 p2 hq hit hx hy
      go_wp2_with fail
      go_frame
      go_loopw [8] (fun _ wj => ∃ (left : Lit → Bool) (cnt : Nat), wj.ranges Tryz.prog 33 anyElem md it (Maps.size Dd) Dd left cnt ∧ PutIX W4 wj Dh c.ref m (SV (SK (fun s => s = c.ref) c.deps beh k) (beh d) left)) (fun _ wj => wj.rangeLeft md it)
      case atStart => exact ⟨_, _, HI.out.2, HI.out.1.start HK.out.2.2.1 HDK.out.1 (fun s hs => hasD_ref HK.out.2.2.1 hs)⟩
      case round =>
        obtain ⟨left, cnt, hrg, hI⟩ := hrel
        have HR := Lib.hid hI
        clear hI
        go_wp2_with (first | (at_next; refine wpList_next_pair _ rfl _ rfl 33 pairRef md it _ Dd _ _ rfl hrg ?_ ?_) | fail)
        · intro hc0 hl0
          have HL0 := Lib.hid hl0
          clear hl0
          go_wp2_with fail
          exact ⟨⟨k + 1, by push_cast; rfl, by omega, HR.out.done HDK.out.2 HL0.out⟩, by simp [intOf]; omega⟩
        · intro x1 x2 v w2 cnt2 hx hl2 hat hrg2 hlt2 ho2 hs2 hen2
          obtain ⟨hv, hxk⟩ := HK.out.2.2.2.1 (x1, x2) hx v hat
          have hxb : (x1, x2) ∈ beh d := (HDK.out.1 _ hx).1 (by rw [hat]; rfl)
          have hI2 : ∃ Dm, OM w2 m Dm ∧ Cont Dh c.ref Dm ∧ KeyPred Dm (SV (SK (fun s => s = c.ref) c.deps beh k) (beh d) left) ∧ Only (fun i => i = m) W4 w2 := by
            obtain ⟨Dm, h1, h2, h2k, h3⟩ := HR.out
            exact ⟨Dm, h1.only ho2 (by show m ≠ it; omega), h2, h2k, only_step h3 ho2 (fun i hi e => by have : i = it := e; omega)⟩
          obtain ⟨Dm, hm2, hc2, hk2, hon2⟩ := hI2
          have HK2 := Lib.hid (And.intro hk2 hxb)
          clear hk2 hxb
          have hsm : Maps.size Dm < maxLen := by
            have := hc2.size hm2 H0.out.2.1.has
            have := H0.out.2.2.2.2.2.1
            unfold maxLen
            omega
          have hm3 : OM (w2.alloc (.cells #[.int .i64 x1, .int .i64 x2] 33)) m Dm := hm2.below ((Below.refl _ _).alloc (Nat.le_refl _) _)
          have hlt := hrg.left_eq
          have HX := Lib.hid (And.intro hrg2 (And.intro hc2 (And.intro hon2 (And.intro hxk (And.intro hlt2 (And.intro hlt hm3))))))
          clear hrg hrg2 hc2 hon2 hxk hlt2 hat hl2 ho2 hs2 hlt hm2
          subst hv
          go_wp2_with (first
            | (at_mapUpdate; refine wpList_upd _ rfl _ _ _ 83 rfl 33 4 pairRef Tryz.underlying83 m _ Dm rfl hm3 hsm (x1, x2) rfl hx (.bool true) rfl ?_; intro w4 hm4 ho4 hs4; go_frame)
            | fail)
          obtain ⟨hrg2, hc2, hon2, hxk, hlt2, hlt, hm3'⟩ := HX.out
          have hrg4 := ranges_only (hrg2.alloc (.cells #[.int .i64 x1, .int .i64 x2] 33)) ho4 (by show ¬ (md = m); exact hmd) (by show ¬ (it = m); omega)
          refine ⟨⟨_, cnt2, hrg4, _, OM.of hm4, hc2.put hm3' hx (.inr hxk), HK2.out.1.step hm3' hx HK2.out.2 _, (hon2.alloc _).trans ho4⟩, ?_⟩
          rw [hlt, hrg4.left_eq]
          exact hlt2
    · obtain rfl : k = c.deps.length := by omega
      have hPr := HP.out.1.turn hI.loose
      have p0 : wr.cell? ⟨bk, 2, none⟩ = some (.map (some bh)) := hPr.bkm.blk.cell 2
      have p1 : wr.cell? ⟨w1.heap.size, 0, none⟩ = some (.int .i64 c.actor) := hPr.rbox.cell 0
      have p2 : wr.cell? ⟨w1.heap.size, 1, none⟩ = some (.int .i64 c.seq) := hPr.rbox.cell 1
      have HK := Lib.hid (And.intro hPr hI)
      clear hPr hI
      go_wp2_with fail
      go_still_tail 6, (by kernel_rfl)
      change wpList _ _ _ _ _ wr.drew
      refine wpList_upd _ rfl _ _ _ 85 rfl 33 83 pairRef Tryz.underlying85 bh _ Db rfl (show wr.drew.ownsMap Tryz.prog 33 anyElem bh (Maps.size Db) Db from HK.out.1.bkm.beh) (by have := H0.out.2.2.2.2.2.2.1; unfold maxLen; omega) c.ref rfl H0.out.2.2.2.2.1 (.map (some m)) rfl ?_
      intro W8 hm8 ho8 hs8
      obtain ⟨hPr, Dm, hm, hcm, hks, hon⟩ := HK.out
      have HKS := Lib.hid hks
      clear hks
      clear p0 p1 p2
      go_wp2_with fail
      go_end0
      have hnb := hPr.bkm.nbk
      have hbm : bh ≠ m := hPr.nm.2.2.2
      refine ⟨m, Dm, rfl, ⟨(show Blk wr.drew _ _ _ from hPr.bkm.blk).only ho8 (fun e => hnb.2.2 e), (show OM wr.drew h _ from hPr.bkm.has).only ho8 (fun e => hPr.bkm.n2 e), (show OM wr.drew wt _ from hPr.bkm.wts).only ho8 (fun e => hPr.bkm.n3 e), OM.of hm8, hPr.bkm.n1, hPr.bkm.n2, hPr.bkm.n3⟩, (show OM wr.drew m _ from hm).only ho8 (fun e => hbm e.symm), HP.out.1.wm, hcm, fun s hs => (HKS.out s hs).trans (SK_all s), ?_⟩
      have h1 : Only (fun i => i = h ∨ i = bh) w wr.drew := (hPr.only.mono (fun i _ hi => .inl hi)).drew
      exact only_step h1 ho8 (fun i _ e => .inr e)
end Go.Proofs.YthimkpkoimfkiaaGreat
