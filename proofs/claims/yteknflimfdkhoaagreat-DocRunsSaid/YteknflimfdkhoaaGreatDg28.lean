/- id.Compare, and the falling order of state.at: contracts as SortFunc wants them. state.State.at: a contract. -/
import Derived.Test.YteknflimfdkhoaaGreatDg20
import Derived.Test.YteknflimfdkhoaaGreatDg19
import Derived.Test.YteknflimfdkhoaaGreatDg24
import Derived.Laws.IdiomRangeMap
namespace Go.Proofs.YteknflimfdkhoaaGreat
open Go.RowKit Go.Sort Go.Proofs
set_option linter.unusedVariables false
set_option linter.unusedSimpArgs false

set_option maxRecDepth 100000 in
set_option maxHeartbeats 800000 in
theorem compareId_grow (a b : Int × Int) (w : World) :
    Calls Tryz.prog 61 #[.agg #[.int .i64 a.1, .int .i64 a.2], .agg #[.int .i64 b.1, .int .i64 b.2]] w fun e w' => e = .returned (.int .i64 (cmpId a b)) ∧ ∃ q os', w' = grow (w.drewN q) os' := by
  obtain ⟨a1, a2⟩ := a
  obtain ⟨b1, b2⟩ := b
  simp only
  have hgr : ∃ q os', ((((w.alloc (.cells #[.int .i64 a1, .int .i64 a2] 24)).alloc (.cells #[.int .i64 b1, .int .i64 b2] 24)).alloc (.cells #[.int .i64 (cmpI a1 b1), .int .i64 (cmpI a2 b2)] 3)).drew) = grow (w.drewN q) os' :=
    ⟨1, _, by rw [alloc_eq_grow, alloc_eq_grow, alloc_eq_grow, grow_grow, grow_grow]; rfl⟩
  have hsl : SlAt ((((w.alloc (.cells #[.int .i64 a1, .int .i64 a2] 24)).alloc (.cells #[.int .i64 b1, .int .i64 b2] 24)).alloc (.cells #[.int .i64 (cmpI a1 b1), .int .i64 (cmpI a2 b2)] 3)).drew) (some ⟨w.heap.size + 1 + 1, 0, none⟩) (ints [cmpI a1 b1, cmpI a2 b2]) :=
    .inr ⟨_, 0, rfl, fun j u hu => by
      have hB : Blk ((((w.alloc (.cells #[.int .i64 a1, .int .i64 a2] 24)).alloc (.cells #[.int .i64 b1, .int .i64 b2] 24)).alloc (.cells #[.int .i64 (cmpI a1 b1), .int .i64 (cmpI a2 b2)] 3)).drew) (w.heap.size + 1 + 1) 3 #[.int .i64 (cmpI a1 b1), .int .i64 (cmpI a2 b2)] := Blk.newer ((w.alloc (.cells #[.int .i64 a1, .int .i64 a2] 24)).alloc (.cells #[.int .i64 b1, .int .i64 b2] 24)) _ _ (by simp)
      rw [Nat.zero_add, hB.cell]
      simpa [ints] using hu⟩
  have hor : Calls Tryz.prog 82 #[.slice (some ⟨w.heap.size + 1 + 1, 0, none⟩) 2 2] _ _ := or_any (some ⟨w.heap.size + 1 + 1, 0, none⟩) 2 [cmpI a1 b1, cmpI a2 b2] _ hsl (by simp)
  have HOR := Lib.hid hor
  have HB := Lib.hid hgr
  have HD := Lib.hid (show cmpId (a1, a2) (b1, b2) = firstNZ [cmpI a1 b1, cmpI a2 b2] from rfl)
  clear hgr hsl hor
  go_enter Tryz.func61, Tryz.ntmps61
  go_wp2_with fail
  go_region_held3 (fun w' => w'.cell? ⟨w.heap.size, 0, none⟩ = some (.int .i64 a1) ∧ w'.cell? ⟨w.heap.size, 1, none⟩ = some (.int .i64 a2) ∧ w'.cell? ⟨w.heap.size + 1, 0, none⟩ = some (.int .i64 b1) ∧ w'.cell? ⟨w.heap.size + 1, 1, none⟩ = some (.int .i64 b2)) (go_keep) (first
    | (go_simp; go_at_call 83; (with_reducible refine (compare_int _ _ _).mono ?_); rintro e w' ⟨rfl, rfl⟩)
    | (go_simp; go_at_call 82; (with_reducible refine HOR.out.mono ?_); rintro e w' ⟨rfl, rfl⟩))
  all_goals
    go_wp2_with fail
    go_ret
    exact ⟨by rw [HD.out]; rfl, HB.out⟩

set_option maxRecDepth 100000 in
set_option maxHeartbeats 800000 in
theorem at1_grow (a b : Int × Int) (w : World) :
    Calls Tryz.prog 80 #[.agg #[.int .i64 a.1, .int .i64 a.2], .agg #[.int .i64 b.1, .int .i64 b.2]] w fun e w' => e = .returned (.int .i64 (cmpDown a b)) ∧ ∃ q os', w' = grow (w.drewN q) os' := by
  have HC := Lib.hid (compareId_grow b a)
  have HD := Lib.hid (show cmpDown a b = cmpId b a from rfl)
  have hgr : ∀ q os', ∃ q2 os2, (grow ((((w.alloc (.cells #[.int .i64 a.1, .int .i64 a.2] 24)).alloc (.cells #[.int .i64 b.1, .int .i64 b.2] 24))).drewN q) os') = grow (w.drewN q2) os2 := fun q os' =>
    ⟨q, _, by rw [alloc_eq_grow, alloc_eq_grow, grow_grow]; exact grow_grow (w.drewN q) _ os'⟩
  have HG := Lib.hid hgr
  clear hgr
  go_enter Tryz.func80, Tryz.ntmps80
  go_wp2_with (go_at_call 61; (with_reducible refine (HC.out _).mono ?_); rintro e w1 ⟨rfl, q, os, rfl⟩)
  go_ret
  exact ⟨by rw [HD.out]; rfl, HG.out q os⟩
theorem enters_at1 : ∀ args w, (callFunc 80 args).run Tryz.prog w = .ok (.enter 80 args) w := enters_of Tryz.func80 (by kernel_rfl) rfl
theorem enters_cmp : ∀ args w, (callFunc 61 args).run Tryz.prog w = .ok (.enter 61 args) w := enters_of Tryz.func61 (by kernel_rfl) rfl
end Go.Proofs.YteknflimfdkhoaaGreat
namespace Go.Proofs.YteknflimfdkhoaaGreat
open Go.RowKit Go.Maps Go.Sort
set_option linter.unusedVariables false
set_option linter.unusedSimpArgs false

/-- The ids of a place's values, falling. -/
structure IdsOf (f : Vm) (ids : List (Int × Int)) : Prop where
  i2 : ∀ n ∈ ids, I2 n
  nd : ids.Nodup
  mem : ∀ n, I2 n → (n ∈ ids ↔ (f n).isSome = true)
  srt : ids.Pairwise (fun a b => (!(ltOf cmpDown) b a) = true)
def jvCells (v : JV) : List Value := [.int .i64 v.k, .int .i64 v.n, .string v.s, .int .i64 v.o, .int .i64 v.p]
def valsCells (f : Vm) (ids : List (Int × Int)) : List Value := ids.flatMap (fun n => jvCells ((f n).getD zJV))
/-- What at answers. -/
def AtQ (w : World) (s : Sta) (x : Wh) (N : Nat) (e : Ending) (w' : World) : Prop :=
  ∃ (ids : List (Int × Int)) (A1 A2 : Option Addr) (c1 c2 : Nat), e = .returned (.agg #[.int .i64 x.1.1, .int .i64 x.1.2, .string x.2.1, .int .i64 x.2.2.1, .int .i64 x.2.2.2, .slice A1 ids.length c1, .slice A2 ids.length c2]) ∧ IdsOf (s.mv x) ids ∧
    SlAt w' A1 (valsCells (s.mv x) ids) ∧ SlAt w' A2 (refs ids) ∧ ids.length ≤ N ∧ Below w.heap.size w w' ∧ (∀ a, A1 = some a ∨ A2 = some a → w.heap.size ≤ a.block)
/-- The boxes of at. -/
structure AtB (w : World) (x : Wh) (vA vI : Value) (W : World) : Prop where
  bel : Below w.heap.size w W
  wh : Blk W w.heap.size 109 #[.int .i64 x.1.1, .int .i64 x.1.2, .string x.2.1, .int .i64 x.2.2.1, .int .i64 x.2.2.2]
  r : Blk W (w.heap.size + 1) 83 #[.int .i64 0, .int .i64 0, .string ⟨#[]⟩, .int .i64 0, .int .i64 0, .slice none 0 0, .slice none 0 0]
  p : Blk W (w.heap.size + 1 + 1) 83 #[.int .i64 x.1.1, .int .i64 x.1.2, .string x.2.1, .int .i64 x.2.2.1, .int .i64 x.2.2.2, vA, vI]
  size : w.heap.size + 3 ≤ W.heap.size
theorem AtB.new {w W W' : World} {x : Wh} {vA vI : Value} (h : AtB w x vA vI W) (hb : Below W.heap.size W W') : AtB w x vA vI W' :=
  ⟨h.bel.trans (hb.mono h.bel.size), h.wh.below hb h.wh.lt, h.r.below hb h.r.lt, h.p.below hb h.p.lt, by have := h.size; have := hb.size; omega⟩
theorem AtB.turn {w W W' : World} {x : Wh} {vA vI : Value} {S : Nat → Prop} (h : AtB w x vA vI W) (ho : Only S W W') (hS : ∀ i, S i → w.heap.size + 3 ≤ i) : AtB w x vA vI W' :=
  ⟨h.bel.trans (ho.below h.bel.size (fun k hk e => by have := hS k e; omega)), h.wh.only ho (fun e => by have := hS _ e; omega), h.r.only ho (fun e => by have := hS _ e; omega), h.p.only ho (fun e => by have := hS _ e; omega), by have := h.size; have := ho.size; omega⟩
theorem blkS7 {w : World} {g : Nat} {t : TypeId} {a0 a1 a2 a3 a4 a5 a6 : Value} (c0 c1 c2 c3 c4 c5 c6 : Value) (h : Blk w g t #[a0, a1, a2, a3, a4, a5, a6]) :
    Blk (((((((w.setCell ⟨g, 0, none⟩ c0).setCell ⟨g, 1, none⟩ c1).setCell ⟨g, 2, none⟩ c2).setCell ⟨g, 3, none⟩ c3).setCell ⟨g, 4, none⟩ c4).setCell ⟨g, 5, none⟩ c5).setCell ⟨g, 6, none⟩ c6) g t #[c0, c1, c2, c3, c4, c5, c6] := by
  have := ((((((h.set_ 0 c0).set_ 1 c1).set_ 2 c2).set_ 3 c3).set_ 4 c4).set_ 5 c5).set_ 6 c6
  simpa using this
theorem onlyS7 (w : World) (g : Nat) (c0 c1 c2 c3 c4 c5 c6 : Value) (o0 o1 o2 o3 o4 o5 o6 : Nat) :
    Only (· = g) w (((((((w.setCell ⟨g, o0, none⟩ c0).setCell ⟨g, o1, none⟩ c1).setCell ⟨g, o2, none⟩ c2).setCell ⟨g, o3, none⟩ c3).setCell ⟨g, o4, none⟩ c4).setCell ⟨g, o5, none⟩ c5).setCell ⟨g, o6, none⟩ c6) :=
  (((((((Only.refl (· = g) w).setCell (p := ⟨g, o0, none⟩) rfl c0).setCell (p := ⟨g, o1, none⟩) rfl c1).setCell (p := ⟨g, o2, none⟩) rfl c2).setCell (p := ⟨g, o3, none⟩) rfl c3).setCell (p := ⟨g, o4, none⟩) rfl c4).setCell (p := ⟨g, o5, none⟩) rfl c5).setCell (p := ⟨g, o6, none⟩) rfl c6
set_option maxRecDepth 100000 in
set_option maxHeartbeats 4000000 in
theorem stAt_none (B sb kb vb ib lb N : Nat) (s : Sta) (x : Wh) (w : World) (H : StM w B sb kb vb ib lb N s) (hx : whOk x) (hv : s.vals x = none) :
    Calls Tryz.prog 56 #[.pointer (some ⟨sb, 0, none⟩), .agg #[.int .i64 x.1.1, .int .i64 x.1.2, .string x.2.1, .int .i64 x.2.2.1, .int .i64 x.2.2.2]] w (AtQ w s x N) := by
  obtain ⟨W0, hW0⟩ : ∃ W0, W0 = ((w.alloc (.cells #[.int .i64 x.1.1, .int .i64 x.1.2, .string x.2.1, .int .i64 x.2.2.1, .int .i64 x.2.2.2] 109)).alloc (.cells #[.int .i64 0, .int .i64 0, .string ⟨#[]⟩, .int .i64 0, .int .i64 0, .slice none 0 0, .slice none 0 0] 83)).alloc (.cells #[.int .i64 x.1.1, .int .i64 x.1.2, .string x.2.1, .int .i64 x.2.2.1, .int .i64 x.2.2.2, .slice none 0 0, .slice none 0 0] 83) := ⟨_, rfl⟩
  have hb0 : Below w.heap.size w W0 := by rw [hW0]; exact (((Below.refl _ _).alloc (Nat.le_refl _) _).alloc (by simp) _).alloc (by simp; omega) _
  have hA0 : AtB w x (.slice none 0 0) (.slice none 0 0) W0 := by
    refine ⟨hb0, ?_, ?_, ?_, by rw [hW0]; simp⟩
    · rw [hW0]; exact ((Blk.new w _ _).alloc _).alloc _
    · rw [hW0]; exact (Blk.newer _ _ _ (by simp)).alloc _
    · rw [hW0]; exact Blk.newer _ _ _ (by simp)
  have hS0 := H.below hb0
  have b1 : W0.cell? ⟨sb, 1, none⟩ = some (.map (some vb)) := hS0.blk.cell 1
  have w0 : W0.cell? ⟨w.heap.size, 0, none⟩ = some (.int .i64 x.1.1) := hA0.wh.cell 0
  have w1 : W0.cell? ⟨w.heap.size, 1, none⟩ = some (.int .i64 x.1.2) := hA0.wh.cell 1
  have w2 : W0.cell? ⟨w.heap.size, 2, none⟩ = some (.string x.2.1) := hA0.wh.cell 2
  have w3 : W0.cell? ⟨w.heap.size, 3, none⟩ = some (.int .i64 x.2.2.1) := hA0.wh.cell 3
  have w4 : W0.cell? ⟨w.heap.size, 4, none⟩ = some (.int .i64 x.2.2.2) := hA0.wh.cell 4
  have hq : (Instr.lookup 72 (.map (some vb)) (.agg #[.int .i64 x.1.1, .int .i64 x.1.2, .string x.2.1, .int .i64 x.2.2.1, .int .i64 x.2.2.2]) false).run Tryz.prog W0.drew = .ok (.map none) W0.drew :=
    (hS0.fresh hv hx).1 W0.drew ⟨rfl, rfl, rfl, Nat.le_refl _, fun _ _ _ => rfl⟩
  have hr : (Instr.range 110 (.map none)).run Tryz.prog W0.drew = .ok (.pointer (some ⟨W0.heap.size, 0, none⟩)) (W0.drew.alloc (.mapIter none 0 #[] 0)) := run_range_nilMap W0.drew _ _ _ Tryz.underlying110
  have HA := Lib.hid (And.intro hA0 (And.intro hb0 hv))
  have HW := Lib.hid hW0
  clear hb0 hA0 hS0 hW0 hv H hx
  go_enter Tryz.func56, Tryz.ntmps56
  go_upto_region 2 with (fail)
  rw [← HW.out]
  go_still_tail 6, (by kernel_rfl)
  go_wp2_with fail
  clear b1 w0 w1 w2 w3 w4 hq hr
  obtain ⟨W1, hW1⟩ : ∃ W1, W1 = (W0.alloc (.mapIter none 0 #[] 0)).drew := ⟨_, rfl⟩
  have hn : ∀ ty, (Instr.next (.pointer (some ⟨W0.heap.size, 0, none⟩)) false ty).run Tryz.prog W1 = .ok (.tuple #[.bool false]) W1 := fun ty => by
    rw [hW1]
    exact run_next_nilMap W0.drew ty 0 0 #[]
  have hA1 : AtB w x (.slice none 0 0) (.slice none 0 0) W1 := by rw [hW1]; exact HA.out.1.new ((Below.refl W0.heap.size W0).alloc (Nat.le_refl _) _).drew
  rw [← hW1]
  have HA1 := Lib.hid hA1
  clear hW1 hA1
  go_loopw [23] (fun _ wr => wr = W1) (fun _ _ => 0)
  case atStart => rfl
  case round =>
    have hrel2 := hrel.symm
    clear hrel
    subst hrel2
    have p0 : W1.cell? ⟨w.heap.size + 1 + 1, 0, none⟩ = some (.int .i64 x.1.1) := HA1.out.p.cell 0
    have p1 : W1.cell? ⟨w.heap.size + 1 + 1, 1, none⟩ = some (.int .i64 x.1.2) := HA1.out.p.cell 1
    have p2 : W1.cell? ⟨w.heap.size + 1 + 1, 2, none⟩ = some (.string x.2.1) := HA1.out.p.cell 2
    have p3 : W1.cell? ⟨w.heap.size + 1 + 1, 3, none⟩ = some (.int .i64 x.2.2.1) := HA1.out.p.cell 3
    have p4 : W1.cell? ⟨w.heap.size + 1 + 1, 4, none⟩ = some (.int .i64 x.2.2.2) := HA1.out.p.cell 4
    have p5 : W1.cell? ⟨w.heap.size + 1 + 1, 5, none⟩ = some (.slice none 0 0) := HA1.out.p.cell 5
    have p6 : W1.cell? ⟨w.heap.size + 1 + 1, 6, none⟩ = some (.slice none 0 0) := HA1.out.p.cell 6
    go_wp2_with (go_at_call 60; refine (sortNoneI_any _ _ _ _).mono ?_; rintro e w2 ⟨rfl, hw2⟩; rw [hw2])
    go_loopw [39, 8] (fun iv _ wj => iv = .int .i64 0 ∧ wj = W1) (fun _ _ _ => 0)
    case atStart => exact ⟨rfl, rfl⟩
    case round =>
      obtain ⟨rfl, hrel⟩ := hrel
      have hrel2 := hrel.symm
      clear hrel
      subst hrel2
      have r0 := HA1.out.r.cell 0
      have r1 := HA1.out.r.cell 1
      have r2 := HA1.out.r.cell 2
      have r3 := HA1.out.r.cell 3
      have r4 := HA1.out.r.cell 4
      have r5 := HA1.out.r.cell 5
      have r6 := HA1.out.r.cell 6
      have zr := HA1.out.r.frozen
      simp only [List.getElem?_toArray, List.getElem?_cons_zero, List.getElem?_cons_succ] at r0 r1 r2 r3 r4 r5 r6
      go_wp2_with fail
      refine bodyPost_ret (results_cell_row Tryz.results56 _ _ (w.heap.size + 1) _ _ _ _ rfl (blkS7 (.int .i64 x.1.1) (.int .i64 x.1.2) (.string x.2.1) (.int .i64 x.2.2.1) (.int .i64 x.2.2.2) (.slice none 0 0) (.slice none 0 0) HA1.out.r) Tryz.underlying83 rfl (by kernel_rfl)) rfl ?_
      have hm : s.mv x = fun _ => none := by unfold Sta.mv; rw [HA.out.2.2]; rfl
      refine ⟨[], none, none, 0, 0, rfl, ?_, .inl rfl, .inl rfl, Nat.zero_le _, HA1.out.bel.trans ((onlyS7 W1 (w.heap.size + 1) _ _ _ _ _ _ _ 0 1 2 3 4 5 6).below HA1.out.bel.size (fun k hk e => by have e : k = w.heap.size + 1 := e; omega)), fun a h => by rcases h with h | h <;> cases h⟩
      rw [hm]
      exact ⟨by simp, List.nodup_nil, fun n _ => by simp, List.Pairwise.nil⟩
/-- What holds while the ids are gathered. -/
def AtL (w : World) (x : Wh) (m it : Nat) (Dm : DataW Value) (W : World) : Prop :=
  ∃ (left : Lit → Bool) (cnt : Nat) (l : List (Int × Int)) (A : Option Addr) (c : Nat), W.ranges Tryz.prog 24 anyElem m it (Maps.size Dm) Dm left cnt ∧ W.ownsRow (it + 1) 24 2 (.slice A l.length c) l.length (refs l) ∧ AtB w x (.slice none 0 0) (.slice A l.length c) W ∧
    l.Nodup ∧ (∀ r ∈ l, I2 r) ∧ (∀ r, I2 r → (r ∈ l ↔ ((mget Dm r).isSome = true ∧ left (rlit r) = false))) ∧ l.length + cnt ≤ Maps.size Dm
theorem AtB.ids {w W : World} {x : Wh} {vA vI : Value} (h : AtB w x vA vI W) (v : Value) : AtB w x vA v (W.setCell ⟨w.heap.size + 1 + 1, 6, none⟩ v) := by
  have ho : Only (· = w.heap.size + 1 + 1) W (W.setCell ⟨w.heap.size + 1 + 1, 6, none⟩ v) := (Only.refl (· = w.heap.size + 1 + 1) W).setCell (p := ⟨w.heap.size + 1 + 1, 6, none⟩) rfl v
  refine ⟨h.bel.trans (ho.below h.bel.size (fun k hk e => by have e : k = w.heap.size + 1 + 1 := e; omega)), h.wh.only ho (fun e => by have e : w.heap.size = w.heap.size + 1 + 1 := e; omega), h.r.only ho (fun e => by have e : w.heap.size + 1 = w.heap.size + 1 + 1 := e; omega), ?_, by have := h.size; have := ho.size; omega⟩
  have := h.p.set_ 6 v
  simpa using this
theorem AtB.vals {w W : World} {x : Wh} {vA vI : Value} (h : AtB w x vA vI W) (v : Value) : AtB w x v vI (W.setCell ⟨w.heap.size + 1 + 1, 5, none⟩ v) := by
  have ho : Only (· = w.heap.size + 1 + 1) W (W.setCell ⟨w.heap.size + 1 + 1, 5, none⟩ v) := (Only.refl (· = w.heap.size + 1 + 1) W).setCell (p := ⟨w.heap.size + 1 + 1, 5, none⟩) rfl v
  refine ⟨h.bel.trans (ho.below h.bel.size (fun k hk e => by have e : k = w.heap.size + 1 + 1 := e; omega)), h.wh.only ho (fun e => by have e : w.heap.size = w.heap.size + 1 + 1 := e; omega), h.r.only ho (fun e => by have e : w.heap.size + 1 = w.heap.size + 1 + 1 := e; omega), ?_, by have := h.size; have := ho.size; omega⟩
  have := h.p.set_ 5 v
  simpa using this
theorem at_push {W3 : World} {b c : Nat} {A : Option Addr} {l : List (Int × Int)} {x1 x2 : Int} (hown : W3.ownsRow b 24 2 (.slice A l.length c) l.length (refs l)) (hbase : b ≤ W3.heap.size) (hl : l.length ≤ 1000000) :
    ∃ (A' : Option Addr) (c' : Nat) (w5 : World), (∀ ty, (Builtin.append_ #[49, 49] ty #[.slice A l.length c, .slice (some ⟨W3.heap.size, 0, none⟩) 1 1]).run Tryz.prog (W3.alloc (.cells #[.int .i64 x1, .int .i64 x2] 24)) = .ok (.slice A' (l.length + 1) c') w5) ∧
      w5.ownsRow b 24 2 (.slice A' (l.length + 1) c') (l.length + 1) (refs l ++ [.int .i64 x1, .int .i64 x2]) ∧ Only (fun k => (Value.slice A l.length c).ownBlock = some k) W3 w5 := by
  have h0 : (W3.alloc (.cells #[.int .i64 x1, .int .i64 x2] 24)).ownsRow 0 24 2 (.slice A l.length c) l.length (refs l) := rowS_base (hown.alloc _) (fun _ _ => Nat.zero_le _)
  have hc : SlAt (W3.alloc (.cells #[.int .i64 x1, .int .i64 x2] 24)) (some ⟨W3.heap.size, 0, none⟩) [.int .i64 x1, .int .i64 x2] := .inr ⟨_, 0, rfl, fun j u hu => by
    rw [Nat.zero_add, (Blk.new W3 _ _).cell]
    simpa using hu⟩
  obtain ⟨A', c', w5, r1, r2, r3, r4⟩ := run_append_sl (P := Tryz.prog) (W3.alloc (.cells #[.int .i64 x1, .int .i64 x2] 24)) 49 0 24 Tryz.underlying49 infoId rfl (by decide) A l.length c (refs l) h0 (some ⟨W3.heap.size, 0, none⟩) 1 1 [.int .i64 x1, .int .i64 x2] rfl hc (by intro u hu; simp at hu; rcases hu with rfl | rfl <;> rfl) (by unfold maxLen; omega) (by omega)
  refine ⟨A', c', w5, fun _ => r1, rowS_base r2 ?_, ((Only.refl _ _).alloc _).trans ⟨r3.os, r3.tape, r3.output, r3.size, fun k hk hn => r3.block k hk (fun e => hn e.symm)⟩⟩
  intro a ha
  rcases r4 with ⟨e1, _⟩ | e1
  · rw [e1] at ha
    exact (hown.lt a.block (by rw [ha]; rfl)).1
  · rw [e1] at ha
    injection ha with ha
    subst ha
    simp
    omega
theorem sortDown_any (B c : Nat) (A : Option Addr) (l : List (Int × Int)) (w : World) (hO : w.ownsRow B 24 2 (.slice A l.length c) l.length (refs l)) (hl : l.length < 4611686018427387904) :
    Calls Tryz.prog 60 #[.slice A l.length c, .func (.func 80) #[] #[]] w fun e w' =>
      e = .returned (.tuple #[]) ∧ w'.ownsRow B 24 2 (.slice A l.length c) l.length (refs (sortC cmpDown l)) ∧ Only (fun k => (Value.slice A l.length c).ownBlock = some k) w w' := by
  by_cases h0 : l = []
  · subst h0
    refine (sortNoneI_any _ _ _ _).mono ?_
    rintro e w2 ⟨rfl, hw2⟩
    rw [hw2]
    exact ⟨rfl, by simpa [sortC] using hO, Only.refl _ _⟩
  · obtain ⟨g, rfl⟩ : ∃ g, A = some ⟨g, 0, none⟩ := by
      rcases hO.2 with ⟨_, hn0⟩ | ⟨g, cap, cur, hv, _⟩
      · exact absurd (List.eq_nil_of_length_eq_zero hn0) h0
      · injection hv with hv; exact ⟨g, hv⟩
    refine (sortIds_any cmpDown swo_down tot_down _ enters_at1 at1_grow B g c l w hO hl).mono ?_
    rintro e w2 ⟨rfl, h2, h3⟩
    exact ⟨rfl, h2, ⟨h3.os, h3.tape, h3.output, h3.size, fun k hk hn => h3.block k hk (fun e => hn (by rw [e]; rfl))⟩⟩
theorem infoVal : (Tryz.prog.info? 31).map (fun i => (i.zero, i.size, i.bytes)) = some (some (jvV zJV), 5, 48) := by kernel_rfl
theorem valsCells_snoc (f : Vm) (ids : List (Int × Int)) (n : Int × Int) : valsCells f (ids ++ [n]) = valsCells f ids ++ jvCells ((f n).getD zJV) := by
  unfold valsCells
  simp
theorem valsCells_one (f : Vm) (ids : List (Int × Int)) : ∀ u ∈ valsCells f ids, u.oneCell' = true := by
  intro u hu
  unfold valsCells at hu
  obtain ⟨n, _, hu⟩ := List.mem_flatMap.1 hu
  simp [jvCells] at hu
  rcases hu with rfl | rfl | rfl | rfl | rfl <;> rfl
theorem at_pushV {W3 : World} {b i c : Nat} {B : Option Addr} {xs : List Value} (v : JV) (hown : W3.ownsRow b 31 5 (.slice B i c) i xs) (hbase : b ≤ W3.heap.size) (hl : i ≤ 1000000) :
    ∃ (B' : Option Addr) (c' : Nat) (w5 : World), (∀ ty, (Builtin.append_ #[39, 39] ty #[.slice B i c, .slice (some ⟨W3.heap.size, 0, none⟩) 1 1]).run Tryz.prog (W3.alloc (.cells #[.int .i64 v.k, .int .i64 v.n, .string v.s, .int .i64 v.o, .int .i64 v.p] 31)) = .ok (.slice B' (i + 1) c') w5) ∧
      w5.ownsRow b 31 5 (.slice B' (i + 1) c') (i + 1) (xs ++ jvCells v) ∧ Only (fun k => (Value.slice B i c).ownBlock = some k) W3 w5 ∧ (B' = B ∨ ∃ g, B' = some ⟨g, 0, none⟩ ∧ W3.heap.size ≤ g) := by
  have h0 : (W3.alloc (.cells #[.int .i64 v.k, .int .i64 v.n, .string v.s, .int .i64 v.o, .int .i64 v.p] 31)).ownsRow 0 31 5 (.slice B i c) i xs := rowS_base (hown.alloc _) (fun _ _ => Nat.zero_le _)
  have hc : SlAt (W3.alloc (.cells #[.int .i64 v.k, .int .i64 v.n, .string v.s, .int .i64 v.o, .int .i64 v.p] 31)) (some ⟨W3.heap.size, 0, none⟩) (jvCells v) := .inr ⟨_, 0, rfl, fun j u hu => by
    rw [Nat.zero_add, (Blk.new W3 _ _).cell]
    simpa [jvCells] using hu⟩
  obtain ⟨B', c', w5, r1, r2, r3, r4⟩ := run_append_sl (P := Tryz.prog) (W3.alloc (.cells #[.int .i64 v.k, .int .i64 v.n, .string v.s, .int .i64 v.o, .int .i64 v.p] 31)) 39 0 31 Tryz.underlying39 infoVal rfl (by decide) B i c xs h0 (some ⟨W3.heap.size, 0, none⟩) 1 1 (jvCells v) rfl hc (by intro u hu; simp [jvCells] at hu; rcases hu with rfl | rfl | rfl | rfl | rfl <;> rfl) (by unfold maxLen; omega) (by omega)
  refine ⟨B', c', w5, fun _ => r1, rowS_base r2 ?_, ((Only.refl _ _).alloc _).trans ⟨r3.os, r3.tape, r3.output, r3.size, fun k hk hn => r3.block k hk (fun e => hn e.symm)⟩, ?_⟩
  · intro a ha
    rcases r4 with ⟨e1, _⟩ | e1
    · rw [e1] at ha
      exact (hown.lt a.block (by rw [ha]; rfl)).1
    · rw [e1] at ha
      injection ha with ha
      subst ha
      simp
      omega
  · rcases r4 with ⟨rfl, _⟩ | rfl
    · exact .inl rfl
    · exact .inr ⟨_, rfl, by simp⟩
/-- What holds while the values are gathered. -/
def AtM (w : World) (x : Wh) (it : Nat) (A : Option Addr) (c : Nat) (f : Vm) (ids : List (Int × Int)) (i : Nat) (W : World) : Prop :=
  ∃ (B : Option Addr) (cB : Nat), AtB w x (.slice B i cB) (.slice A ids.length c) W ∧ W.ownsRow (it + 1) 24 2 (.slice A ids.length c) ids.length (refs ids) ∧ W.ownsRow (it + 1) 31 5 (.slice B i cB) i (valsCells f (ids.take i)) ∧ (∀ a b, A = some a → B = some b → a.block ≠ b.block) ∧ it + 1 ≤ W.heap.size
theorem AtM.step {w W5 w5 : World} {x : Wh} {it j c cB c' : Nat} {A B B' : Option Addr} {f : Vm} {ids : List (Int × Int)} {d : Int × Int} {v : JV} (hitw : w.heap.size + 3 ≤ it) (hd : ids[j]? = some d) (hv : v = (f d).getD zJV)
    (hA : W5.ownsRow (it + 1) 24 2 (.slice A ids.length c) ids.length (refs ids)) (hne : ∀ a b, A = some a → B = some b → a.block ≠ b.block) (hit : it + 1 ≤ W5.heap.size)
    (hown6 : w5.ownsRow (it + 1) 31 5 (.slice B' (j + 1) c') (j + 1) (valsCells f (ids.take j) ++ jvCells v)) (ho6 : Only (fun k => (Value.slice B j cB).ownBlock = some k) W5.drew w5)
    (hB6 : B' = B ∨ ∃ g, B' = some ⟨g, 0, none⟩ ∧ W5.drew.heap.size ≤ g) (hD6 : AtB w x (.slice B j cB) (.slice A ids.length c) w5) :
    AtM w x it A c f ids (j + 1) (w5.setCell ⟨w.heap.size + 1 + 1, 5, none⟩ (.slice B' (j + 1) c')) := by
  have hos : Only (· = w.heap.size + 1 + 1) w5 (w5.setCell ⟨w.heap.size + 1 + 1, 5, none⟩ (.slice B' (j + 1) c')) := (Only.refl (· = w.heap.size + 1 + 1) w5).setCell (p := ⟨w.heap.size + 1 + 1, 5, none⟩) rfl _
  have hA5 := rowS_only (rowS_only hA (Only.refl (fun _ => False) W5).drew (fun _ _ h => h)) ho6 (fun a ha e => by
    cases hB : B with
    | none => rw [hB] at e; cases e
    | some b =>
      rw [hB] at e
      have e : some b.block = some a.block := e
      exact hne a b ha hB (Option.some.inj e).symm)
  refine ⟨B', c', hD6.vals _, rowS_only hA5 hos (fun a ha e => by have h1 := (hA5.lt a.block (by rw [ha]; rfl)).1; have e : a.block = w.heap.size + 1 + 1 := e; omega), ?_, ?_, ?_⟩
  · have ht : valsCells f (ids.take (j + 1)) = valsCells f (ids.take j) ++ jvCells v := by
      rw [List.take_add_one, hd, hv]
      exact valsCells_snoc f _ d
    rw [ht]
    exact rowS_only hown6 hos (fun a ha e => by have h1 := (hown6.lt a.block (by rw [ha]; rfl)).1; have e : a.block = w.heap.size + 1 + 1 := e; omega)
  · intro a b ha hb
    rcases hB6 with rfl | ⟨g, rfl, hg⟩
    · exact hne a b ha hb
    · injection hb with hb
      subst hb
      have h1 := (hA.lt a.block (by rw [ha]; rfl)).2
      have hg : W5.heap.size ≤ g := hg
      intro e
      have e : a.block = g := e
      omega
  · have h1 := ho6.size
    have h2 := hos.size
    have h1 : W5.heap.size ≤ w5.heap.size := h1
    omega
theorem ids_of {f : Vm} {Dm : DataW Value} {l : List (Int × Int)} {left : Lit → Bool} (hnd : l.Nodup) (hi2 : ∀ r ∈ l, I2 r) (hmem : ∀ r, I2 r → (r ∈ l ↔ ((mget Dm r).isSome = true ∧ left (rlit r) = false))) (hl0 : ∀ z, left z = false) (hg : ∀ n, I2 n → mget Dm n = Option.map jvV (f n)) : IdsOf f (sortC cmpDown l) := by
  have hp := sortC_perm cmpDown l
  refine ⟨fun n hn => hi2 n (hp.mem_iff.1 hn), hp.nodup_iff.2 hnd, fun n hn => ?_, ?_⟩
  · rw [hp.mem_iff, hmem n hn, hl0, hg n hn]
    cases f n <;> simp
  · unfold sortC
    have := List.pairwise_mergeSort (le := fun x y => !(ltOf cmpDown) y x) (fun a b c h1 h2 => by
      simp only [Bool.not_eq_true'] at h1 h2 ⊢
      exact swo_down.ntrans _ _ _ h2 h1) (fun a b => by
      simp only [Bool.or_eq_true, Bool.not_eq_true']
      by_cases h : ltOf cmpDown b a = true
      · right
        cases h2 : ltOf cmpDown a b with
        | false => rfl
        | true => have := swo_down.trans _ _ _ h h2; rw [swo_down.irrefl] at this; cases this
      · left; simpa using h) l
    exact this
theorem AtL.step {w w6 : World} {x : Wh} {m it cnt cnt2 c' : Nat} {Dm : DataW Value} {left : Lit → Bool} {l : List (Int × Int)} {A' : Option Addr} {x1 x2 : Int} {v : Value}
    (hx : I2 (x1, x2)) (hl2 : left (rlit (x1, x2)) = true) (hat : mget Dm (x1, x2) = some v) (hrg : w6.ranges Tryz.prog 24 anyElem m it (Maps.size Dm) Dm (fun z => left z && !z.sameKey (rlit (x1, x2))) cnt2) (hlt : cnt2 < cnt)
    (hB : AtB w x (.slice none 0 0) (.slice A' (l.length + 1) c') w6) (hown : w6.ownsRow (it + 1) 24 2 (.slice A' (l.length + 1) c') (l.length + 1) (refs l ++ [.int .i64 x1, .int .i64 x2]))
    (hnd : l.Nodup) (hi2 : ∀ r ∈ l, I2 r) (hmem : ∀ r, I2 r → (r ∈ l ↔ ((mget Dm r).isSome = true ∧ left (rlit r) = false))) (hlen : l.length + cnt ≤ Maps.size Dm) : AtL w x m it Dm w6 := by
  have hxn : (x1, x2) ∉ l := fun e => by have := ((hmem _ hx).1 e).2; rw [hl2] at this; cases this
  refine ⟨_, cnt2, l ++ [(x1, x2)], A', c', hrg, ?_, ?_, ?_, ?_, ?_, ?_⟩
  · rw [List.length_append, List.length_singleton, refs_append]
    exact hown
  · rw [List.length_append, List.length_singleton]
    exact hB
  · rw [List.nodup_append]
    refine ⟨hnd, by simp, ?_⟩
    intro a ha b hb e
    simp at hb
    exact hxn (by rw [← hb, ← e]; exact ha)
  · intro r hr
    rcases List.mem_append.1 hr with hr | hr
    · exact hi2 r hr
    · simp at hr
      rw [hr]; exact hx
  · intro r hr
    have hs := left_struck pairId (left := left) hx hr
    show _ ↔ _ ∧ (left (rlit r) && !(rlit r).sameKey (rlit (x1, x2))) = false
    rw [hs, List.mem_append, hmem r hr]
    by_cases e : r = (x1, x2)
    · subst e
      simp [hat]
    · simp [e]
  · simp; omega
set_option maxRecDepth 100000 in
set_option maxHeartbeats 8000000 in
theorem stAt_some (B sb kb vb ib lb N : Nat) (s : Sta) (x : Wh) (f : Vm) (w : World) (H : StM w B sb kb vb ib lb N s) (hx : whOk x) (hv : s.vals x = some f) (hN : N ≤ 100000) :
    Calls Tryz.prog 56 #[.pointer (some ⟨sb, 0, none⟩), .agg #[.int .i64 x.1.1, .int .i64 x.1.2, .string x.2.1, .int .i64 x.2.2.1, .int .i64 x.2.2.2]] w (AtQ w s x N) := by
  obtain ⟨W0, hW0⟩ : ∃ W0, W0 = ((w.alloc (.cells #[.int .i64 x.1.1, .int .i64 x.1.2, .string x.2.1, .int .i64 x.2.2.1, .int .i64 x.2.2.2] 109)).alloc (.cells #[.int .i64 0, .int .i64 0, .string ⟨#[]⟩, .int .i64 0, .int .i64 0, .slice none 0 0, .slice none 0 0] 83)).alloc (.cells #[.int .i64 x.1.1, .int .i64 x.1.2, .string x.2.1, .int .i64 x.2.2.1, .int .i64 x.2.2.2, .slice none 0 0, .slice none 0 0] 83) := ⟨_, rfl⟩
  have hb0 : Below w.heap.size w W0 := by rw [hW0]; exact (((Below.refl _ _).alloc (Nat.le_refl _) _).alloc (by simp) _).alloc (by simp; omega) _
  have hA0 : AtB w x (.slice none 0 0) (.slice none 0 0) W0 := by
    refine ⟨hb0, ?_, ?_, ?_, by rw [hW0]; simp⟩
    · rw [hW0]; exact ((Blk.new w _ _).alloc _).alloc _
    · rw [hW0]; exact (Blk.newer _ _ _ (by simp)).alloc _
    · rw [hW0]; exact Blk.newer _ _ _ (by simp)
  obtain ⟨m, ⟨Dm, g1, g2, g3⟩, m3, m4, m5, m6, m7, _⟩ := H.val hv hx
  have hml := World.ownsMap.lt g1
  have hS0 := H.below hb0
  have b1 : W0.cell? ⟨sb, 1, none⟩ = some (.map (some vb)) := hS0.blk.cell 1
  have w0 : W0.cell? ⟨w.heap.size, 0, none⟩ = some (.int .i64 x.1.1) := hA0.wh.cell 0
  have w1 : W0.cell? ⟨w.heap.size, 1, none⟩ = some (.int .i64 x.1.2) := hA0.wh.cell 1
  have w2 : W0.cell? ⟨w.heap.size, 2, none⟩ = some (.string x.2.1) := hA0.wh.cell 2
  have w3 : W0.cell? ⟨w.heap.size, 3, none⟩ = some (.int .i64 x.2.2.1) := hA0.wh.cell 3
  have w4 : W0.cell? ⟨w.heap.size, 4, none⟩ = some (.int .i64 x.2.2.2) := hA0.wh.cell 4
  have hq : (Instr.lookup 72 (.map (some vb)) (.agg #[.int .i64 x.1.1, .int .i64 x.1.2, .string x.2.1, .int .i64 x.2.2.1, .int .i64 x.2.2.2]) false).run Tryz.prog W0.drew = .ok (.map (some m)) W0.drew :=
    m7 W0.drew (Only.of_below hb0.drew)
  have hom : W0.drew.ownsMap Tryz.prog 24 anyElem m (Maps.size Dm) Dm := own_only g1 (S := fun _ => False) (Only.of_below hb0.drew) (fun h => h)
  have hmv : s.mv x = f := by unfold Sta.mv; rw [hv]; rfl
  have HA := Lib.hid (And.intro hA0 (And.intro hb0 (And.intro hmv (And.intro g2 (And.intro g3 (And.intro H (And.intro hx (And.intro m7 (And.intro hml g1)))))))))
  have HW := Lib.hid hW0
  clear hb0 hA0 hS0 hW0 hv H hx g1 g2 g3 m3 m4 m5 m6 m7 hmv hml
  go_enter Tryz.func56, Tryz.ntmps56
  go_upto_region 2 with (fail)
  rw [← HW.out]
  go_still_tail 6, (by kernel_rfl)
  change wpList _ _ _ _ _ W0.drew
  refine wpList_range_own _ rfl _ 110 rfl 24 31 keyedId Tryz.underlying110 _ m _ _ rfl hom ?_
  intro W1 hrg1 hg1 hs1
  clear b1 w0 w1 w2 w3 w4 hq hom
  obtain ⟨it, hit⟩ : ∃ it, it = W0.drew.heap.size := ⟨_, rfl⟩
  rw [← hit] at hrg1 hs1 ⊢
  have hitw : w.heap.size + 3 ≤ it := by rw [hit]; exact HA.out.1.size
  have hmit : m < it := by have := HA.out.2.2.2.2.2.2.2.2.1; omega
  have hA1 : AtB w x (.slice none 0 0) (.slice none 0 0) W1 := (HA.out.1.new (Below.refl _ _).drew).turn (only_grown0 (S := fun _ => False) hg1) (fun i h => h.elim)
  have hst : AtL w x m it Dm W1 := by
    refine ⟨_, _, [], none, 0, hrg1, World.ownsRow_nil _ _ _ _, hA1, List.nodup_nil, by simp, ?_, by simp⟩
    intro r hr
    rw [own_has pairId HA.out.2.2.2.2.2.2.2.2.2 ⟨_, _, _, Tryz.underlying110, zeroVal _⟩ hr]
    cases mget Dm r <;> simp
  have HS := Lib.hid hst
  have HI := Lib.hid (And.intro hitw hmit)
  clear hrg1 hg1 hs1 hit hA1 hst hitw hmit
  go_wp2_with fail
  go_frame
  go_loopw [23, 6] (fun _ _ wr => AtL w x m it Dm wr) (fun _ _ wr => wr.rangeLeft m it)
  case atStart => exact HS.out
  case round =>
    obtain ⟨left, cnt, l, A, c, hrg, hown, hB, hnd, hi2, hmem, hlen⟩ := hrel
    have HR := Lib.hid (And.intro hrg (And.intro hown (And.intro hB (And.intro hnd (And.intro hi2 (And.intro hmem hlen))))))
    clear hown hB hnd hi2 hmem hlen
    go_wp2_with (first | (at_next; refine wpList_next_pair _ rfl _ rfl 24 pairId m it _ Dm _ _ rfl hrg ?_ ?_) | fail)
    · intro hc0 hl0
      have hids : IdsOf f (sortC cmpDown l) := ids_of HR.out.2.2.2.1 HR.out.2.2.2.2.1 HR.out.2.2.2.2.2.1 hl0 HA.out.2.2.2.1
      obtain ⟨ids, hidse⟩ : ∃ ids, ids = sortC cmpDown l := ⟨_, rfl⟩
      rw [← hidse] at hids
      have hlen : l.length = ids.length := by rw [hidse, sortC_len]
      have hll : l.length ≤ Maps.size Dm := by have := HR.out.2.2.2.2.2.2; omega
      have hso := sortDown_any (it + 1) c A l wr HR.out.2.1 (by have := HA.out.2.2.2.2.1; omega)
      have p6 : wr.cell? ⟨w.heap.size + 1 + 1, 6, none⟩ = some (.slice A l.length c) := HR.out.2.2.1.p.cell 6
      have hitl : it < wr.heap.size := by first | exact hrg.lt | exact hrg.lt.2 | exact hrg.lt.1
      have HIT := Lib.hid hitl
      clear hitl
      have HSO := Lib.hid hso
      have HID := Lib.hid (And.intro hids (And.intro hidse (And.intro hlen hll)))
      clear hids hso hll hc0 hl0 hrg hidse hlen
      have hAB : ∀ w2, Only (fun k => (Value.slice A l.length c).ownBlock = some k) wr w2 → AtB w x (.slice none 0 0) (.slice A l.length c) w2 := fun w2 ho => HR.out.2.2.1.turn ho (fun i hi => by have h1 := (HR.out.2.1.lt i hi).1; have h2 := HI.out.1; omega)
      have HAB := Lib.hid hAB
      clear hAB
      go_wp2_with (go_at_call 60; refine HSO.out.mono ?_; rintro e w2 ⟨rfl, how2, hon2⟩; (have q6 : w2.cell? ⟨w.heap.size + 1 + 1, 6, none⟩ = some (.slice A l.length c) := (HAB.out w2 hon2).p.cell 6); clear p6)
      have hst : AtM w x it A c f ids 0 w2 := by
        refine ⟨none, 0, ?_, ?_, World.ownsRow_nil _ _ _ _, fun a b _ h => (by cases h), ?_⟩
        · rw [← HID.out.2.2.1]; exact HAB.out w2 hon2
        · rw [← HID.out.2.2.1, HID.out.2.1]; exact how2
        · have h1 := hon2.size; have h2 := HIT.out; omega
      have HS2 := Lib.hid hst
      clear q6 hst how2 hon2
      rw [HID.out.2.2.1]
      go_loopw [39, 8] (fun iv _ wj => ∃ i : Nat, iv = .int .i64 i ∧ i ≤ ids.length ∧ AtM w x it A c f ids i wj) (fun iv _ _ => ids.length - (intOf iv).toNat)
      case atStart => exact ⟨0, rfl, Nat.zero_le _, HS2.out⟩
      case round =>
        obtain ⟨j, rfl, hj, B, cB, hB, hown, hownB, hne, hitr⟩ := hrel
        by_cases hlt : j < ids.length
        · obtain ⟨b, off, d, ha, hd, hx1, hx2⟩ := (SlAt.of_owns hown).ref hlt
          obtain ⟨W5, hW5⟩ : ∃ W5, W5 = wr.alloc (.cells #[.int .i64 d.1, .int .i64 d.2] 24) := ⟨_, rfl⟩
          rw [ha]
          have hlen9 : ids.length ≤ 9223372036854775807 := by have h1 := HID.out.2.2.1; have h2 := HID.out.2.2.2; have h3 := HA.out.2.2.2.2.1; omega
          have hdi : I2 d := HID.out.1.i2 d (List.mem_of_getElem? hd)
          have hb5 : Below wr.heap.size wr W5 := by rw [hW5]; exact (Below.refl _ _).alloc (Nat.le_refl _) _
          have hR5 : Blk W5 wr.heap.size 24 #[.int .i64 d.1, .int .i64 d.2] := by rw [hW5]; exact Blk.new _ _ _
          have hB5 := hB.new hb5
          have hown5 := rowS_only hown (Only.of_below (S := fun _ => False) hb5) (fun _ _ h => h)
          have hownB5 := rowS_only hownB (Only.of_below (S := fun _ => False) hb5) (fun _ _ h => h)
          have HAA := Lib.hid ha
          have HD5 := Lib.hid (And.intro hd (And.intro hdi (And.intro hB5 (And.intro hown5 (And.intro hownB5 hne)))))
          have hit5 : it + 1 ≤ W5.heap.size := by have := hb5.size; omega
          obtain ⟨v, hv, hvv⟩ : ∃ v : JV, (mget Dm d).getD (jvV zJV) = jvV v ∧ v = (f d).getD zJV := by
            rw [HA.out.2.2.2.1 d hdi]
            cases e : f d with
            | none => exact ⟨zJV, rfl, rfl⟩
            | some v => exact ⟨v, rfl, rfl⟩
          have hbw : Below w.heap.size w W5.drew := hB5.bel.drew
          have hS5 := HA.out.2.2.2.2.2.1.below hbw
          have b1 : W5.cell? ⟨sb, 1, none⟩ = some (.map (some vb)) := (HA.out.2.2.2.2.2.1.below hB5.bel).blk.cell 1
          have w0 : W5.cell? ⟨w.heap.size, 0, none⟩ = some (.int .i64 x.1.1) := hB5.wh.cell 0
          have w1 : W5.cell? ⟨w.heap.size, 1, none⟩ = some (.int .i64 x.1.2) := hB5.wh.cell 1
          have w2 : W5.cell? ⟨w.heap.size, 2, none⟩ = some (.string x.2.1) := hB5.wh.cell 2
          have w3 : W5.cell? ⟨w.heap.size, 3, none⟩ = some (.int .i64 x.2.2.1) := hB5.wh.cell 3
          have w4 : W5.cell? ⟨w.heap.size, 4, none⟩ = some (.int .i64 x.2.2.2) := hB5.wh.cell 4
          have n0 : W5.cell? ⟨wr.heap.size, 0, none⟩ = some (.int .i64 d.1) := hR5.cell 0
          have n1 : W5.cell? ⟨wr.heap.size, 1, none⟩ = some (.int .i64 d.2) := hR5.cell 1
          have p5 : W5.cell? ⟨w.heap.size + 1 + 1, 5, none⟩ = some (.slice B j cB) := hB5.p.cell 5
          have p5' : (W5.alloc (.cells #[.int .i64 v.k, .int .i64 v.n, .string v.s, .int .i64 v.o, .int .i64 v.p] 31)).cell? ⟨w.heap.size + 1 + 1, 5, none⟩ = some (.slice B j cB) := (hB5.p.alloc _).cell 5
          have p5'' : (W5.alloc (.cells #[.int .i64 v.k, .int .i64 v.n, .string v.s, .int .i64 v.o, .int .i64 v.p] 31)).drew.cell? ⟨w.heap.size + 1 + 1, 5, none⟩ = some (.slice B j cB) := (hB5.p.alloc _).cell 5
          have hq : (Instr.lookup 72 (.map (some vb)) (.agg #[.int .i64 x.1.1, .int .i64 x.1.2, .string x.2.1, .int .i64 x.2.2.1, .int .i64 x.2.2.2]) false).run Tryz.prog W5.drew = .ok (.map (some m)) W5.drew :=
            HA.out.2.2.2.2.2.2.2.1 W5.drew (Only.of_below hbw)
          have hom : W5.drew.ownsMap Tryz.prog 24 anyElem m (Maps.size Dm) Dm := own_only HA.out.2.2.2.2.2.2.2.2.2 (S := fun _ => False) (Only.of_below hbw) (fun h => h)
          have hq2 : (Instr.lookup 110 (.map (some m)) (.agg #[.int .i64 d.1, .int .i64 d.2]) false).run Tryz.prog W5.drew = .ok (jvV v) W5.drew := by
            have := run_look pairId hom Tryz.underlying110 (zeroVal _) hdi
            rw [hv] at this
            exact this
          obtain ⟨B', c', w5, hrun, hown6, ho6, hB6⟩ := at_pushV v (W3 := W5.drew) (rowS_only hownB5 (Only.refl (fun _ => False) W5).drew (fun _ _ h => h)) hit5 (by have h1 := HID.out.2.2.1; have h2 := HID.out.2.2.2; have h3 := HA.out.2.2.2.2.1; omega)
          have hD6 := (HD5.out.2.2.1.new ((Below.refl W5.heap.size W5).drew)).turn ho6 (fun i hi => by have h1 := (HD5.out.2.2.2.2.1.lt i hi).1; have h2 := HI.out.1; omega)
          have zq := hD6.p.frozen
          have q5 : w5.cell? ⟨w.heap.size + 1 + 1, 5, none⟩ = some (.slice B j cB) := hD6.p.cell 5
          have hrun1 : ∀ ty, (Builtin.append_ #[39, 39] ty #[.slice B j cB, .slice (some ⟨W5.heap.size, 0, none⟩) 1 1]).run Tryz.prog (W5.alloc (.cells #[.int .i64 v.k, .int .i64 v.n, .string v.s, .int .i64 v.o, .int .i64 v.p] 31)).drew = .ok (.slice B' (j + 1) c') w5 := hrun
          have HRN := Lib.hid hrun1
          clear hrun1
          have H6 := Lib.hid (AtM.step HI.out.1 HD5.out.1 hvv HD5.out.2.2.2.1 HD5.out.2.2.2.2.2 hit5 hown6 ho6 hB6 hD6)
          have hjv : jvV v = .agg #[.int .i64 v.k, .int .i64 v.n, .string v.s, .int .i64 v.o, .int .i64 v.p] := rfl
          rw [hjv] at hq2
          clear hrun hown6 ho6 hB6 hD6 hvv hv hom hS5 hbw hown5 hownB5 hB5 hR5 hb5 hB hown hownB hdi hd hne hit5 hjv ha
          go_upto_region 10 with (fail)
          rw [← hW5]
          clear hW5 hx1 hx2
          go_region_law (refine step_append_run (o := ⟨some 54, _, _, _, _, _⟩) rfl _ _ _ _ rfl _ _ rfl rfl (HRN.out _) ?_)
          all_goals
            clear b1 w0 w1 w2 w3 w4 n0 n1 p5 p5' p5'' hq hq2 q5 zq
            go_wp2_with fail
            exact ⟨⟨j + 1, by push_cast; rfl, by omega, by rw [← HAA.out]; exact H6.out⟩, by simp [intOf]; omega⟩
        · obtain rfl : j = ids.length := by omega
          have p0 : wr.cell? ⟨w.heap.size + 1 + 1, 0, none⟩ = some (.int .i64 x.1.1) := hB.p.cell 0
          have p1 : wr.cell? ⟨w.heap.size + 1 + 1, 1, none⟩ = some (.int .i64 x.1.2) := hB.p.cell 1
          have p2 : wr.cell? ⟨w.heap.size + 1 + 1, 2, none⟩ = some (.string x.2.1) := hB.p.cell 2
          have p3 : wr.cell? ⟨w.heap.size + 1 + 1, 3, none⟩ = some (.int .i64 x.2.2.1) := hB.p.cell 3
          have p4 : wr.cell? ⟨w.heap.size + 1 + 1, 4, none⟩ = some (.int .i64 x.2.2.2) := hB.p.cell 4
          have p5 : wr.cell? ⟨w.heap.size + 1 + 1, 5, none⟩ = some (.slice B ids.length cB) := hB.p.cell 5
          have p6 : wr.cell? ⟨w.heap.size + 1 + 1, 6, none⟩ = some (.slice A ids.length c) := hB.p.cell 6
          have r0 := hB.r.cell 0
          have r1 := hB.r.cell 1
          have r2 := hB.r.cell 2
          have r3 := hB.r.cell 3
          have r4 := hB.r.cell 4
          have r5 := hB.r.cell 5
          have r6 := hB.r.cell 6
          have zr := hB.r.frozen
          simp only [List.getElem?_toArray, List.getElem?_cons_zero, List.getElem?_cons_succ] at r0 r1 r2 r3 r4 r5 r6
          have HE := Lib.hid (And.intro hB (And.intro hown hownB))
          clear hB hown hownB hne hitr
          go_wp2_with fail
          refine bodyPost_ret (results_cell_row Tryz.results56 _ _ (w.heap.size + 1) _ _ _ _ rfl (blkS7 (.int .i64 x.1.1) (.int .i64 x.1.2) (.string x.2.1) (.int .i64 x.2.2.1) (.int .i64 x.2.2.2) (.slice B ids.length cB) (.slice A ids.length c) HE.out.1.r) Tryz.underlying83 rfl (by kernel_rfl)) rfl ?_
          have ho7 := onlyS7 wr (w.heap.size + 1) (.int .i64 x.1.1) (.int .i64 x.1.2) (.string x.2.1) (.int .i64 x.2.2.1) (.int .i64 x.2.2.2) (.slice B ids.length cB) (.slice A ids.length c) 0 1 2 3 4 5 6
          refine ⟨ids, B, A, cB, c, rfl, ?_, ?_, ?_, ?_, HE.out.1.bel.trans (ho7.below HE.out.1.bel.size (fun k hk e => by have e : k = w.heap.size + 1 := e; omega)), ?_⟩
          · rw [HA.out.2.2.1]; exact HID.out.1
          · rw [HA.out.2.2.1]
            have h := rowS_only HE.out.2.2 ho7 (fun a ha e => by have h1 := (HE.out.2.2.lt a.block (by rw [ha]; rfl)).1; have e : a.block = w.heap.size + 1 := e; have h2 := HI.out.1; omega)
            rw [List.take_length] at h
            exact SlAt.of_owns h
          · exact SlAt.of_owns (rowS_only HE.out.2.1 ho7 (fun a ha e => by have h1 := (HE.out.2.1.lt a.block (by rw [ha]; rfl)).1; have e : a.block = w.heap.size + 1 := e; have h2 := HI.out.1; omega))
          · have h1 := HID.out.2.2.1; have h2 := HID.out.2.2.2; have h3 := HA.out.2.2.2.2.1; omega
          · intro a h
            have h2 := HI.out.1
            rcases h with h | h
            · have h1 := (HE.out.2.2.lt a.block (by rw [h]; rfl)).1
              omega
            · have h1 := (HE.out.2.1.lt a.block (by rw [h]; rfl)).1
              omega
    · intro x1 x2 v w2 cnt2 hx hl2 hat hrg2 hlt2 ho2 hs2 hen2
      have hlt := hrg.lt
      have hle := hrg.left_eq
      have hneg : ∀ k, Value.ownBlock (.slice A l.length c) = some k → it + 1 ≤ k := fun k hk => (HR.out.2.1.lt k hk).1
      have hown2 := rowS_only HR.out.2.1 ho2 (fun a ha e => by have := hneg a.block (by rw [ha]; rfl); have e : a.block = it := e; omega)
      have hB2 := HR.out.2.2.1.turn ho2 (fun i e => by have e : i = it := e; have := HI.out.1; omega)
      obtain ⟨W3, hW3⟩ : ∃ W3, W3 = w2.alloc (.cells #[.int .i64 x1, .int .i64 x2] 24) := ⟨_, rfl⟩
      have hb3 : Below w2.heap.size w2 W3 := by rw [hW3]; exact (Below.refl _ _).alloc (Nat.le_refl _) _
      have hN3 : Blk W3 w2.heap.size 24 #[.int .i64 x1, .int .i64 x2] := by rw [hW3]; exact Blk.new _ _ _
      have hown3 : W3.ownsRow (it + 1) 24 2 (.slice A l.length c) l.length (refs l) := by rw [hW3]; exact hown2.alloc _
      have hrg3 : W3.ranges Tryz.prog 24 anyElem m it (Maps.size Dm) Dm (fun z => left z && !z.sameKey (rlit (x1, x2))) cnt2 := by rw [hW3]; exact hrg2.alloc _
      have hB3 := hB2.new hb3
      have hbase3 : it + 1 ≤ W3.heap.size := by have h1 := hs2; have h2 := hb3.size; omega
      have HX := Lib.hid (And.intro hx (And.intro hl2 (And.intro hat (And.intro hrg3 (And.intro hlt2 (And.intro hB3 (And.intro hneg hle)))))))
      have hll : l.length ≤ 1000000 := by have h1 := HR.out.2.2.2.2.2.2; have h2 := HA.out.2.2.2.2.1; omega
      clear hx hl2 hat hrg2 hlt2 ho2 hneg hle hown2 hB2 hb3 hrg3 hlt hrg hs2
      go_upto_region 5 with (fail)
      rw [← hW3]
      clear hW3 hen2
      have n0 : W3.cell? ⟨w2.heap.size, 0, none⟩ = some (.int .i64 x1) := hN3.cell 0
      have n1 : W3.cell? ⟨w2.heap.size, 1, none⟩ = some (.int .i64 x2) := hN3.cell 1
      have p6 : W3.cell? ⟨w.heap.size + 1 + 1, 6, none⟩ = some (.slice A l.length c) := hB3.p.cell 6
      obtain ⟨A', c', w5, hrun, hown5, ho5⟩ := at_push (x1 := x1) (x2 := x2) hown3 hbase3 hll
      have hB5 := hB3.turn ho5 (fun i hi => by have h1 := HX.out.2.2.2.2.2.2.1 i hi; have h2 := HI.out.1; omega)
      have zp := hB5.p.frozen
      have q6 : w5.cell? ⟨w.heap.size + 1 + 1, 6, none⟩ = some (.slice A l.length c) := hB5.p.cell 6
      have hB6 := hB5.ids (.slice A' (l.length + 1) c')
      have hrg5 := ranges_only (ranges_only HX.out.2.2.2.1 ho5 (fun e => by have h1 := HX.out.2.2.2.2.2.2.1 _ e; have h2 := HI.out.2; omega) (fun e => by have h1 := HX.out.2.2.2.2.2.2.1 _ e; omega))
        ((Only.refl (· = w.heap.size + 1 + 1) w5).setCell (p := ⟨w.heap.size + 1 + 1, 6, none⟩) rfl (.slice A' (l.length + 1) c')) (fun e => by have e : m = w.heap.size + 1 + 1 := e; have h2 := HA.out.2.2.2.2.2.2.2.2.1; omega) (fun e => by have e : it = w.heap.size + 1 + 1 := e; have h2 := HI.out.1; omega)
      have hown6 : (w5.setCell ⟨w.heap.size + 1 + 1, 6, none⟩ (.slice A' (l.length + 1) c')).ownsRow (it + 1) 24 2 (.slice A' (l.length + 1) c') (l.length + 1) (refs l ++ [.int .i64 x1, .int .i64 x2]) := rowS_only hown5 ((Only.refl (· = w.heap.size + 1 + 1) w5).setCell (p := ⟨w.heap.size + 1 + 1, 6, none⟩) rfl (.slice A' (l.length + 1) c')) (fun a ha e => by have h1 := (hown5.lt a.block (by rw [ha]; rfl)).1; have e : a.block = w.heap.size + 1 + 1 := e; have h2 := HI.out.1; omega)
      have hst2 : AtL w x m it Dm (w5.setCell ⟨w.heap.size + 1 + 1, 6, none⟩ (.slice A' (l.length + 1) c')) := AtL.step HX.out.1 HX.out.2.1 HX.out.2.2.1 hrg5 HX.out.2.2.2.2.1 hB6 hown6 HR.out.2.2.2.1 HR.out.2.2.2.2.1 HR.out.2.2.2.2.2.1 HR.out.2.2.2.2.2.2
      have hle2 : (w5.setCell ⟨w.heap.size + 1 + 1, 6, none⟩ (.slice A' (l.length + 1) c')).rangeLeft m it < wr.rangeLeft m it := by
        rw [HX.out.2.2.2.2.2.2.2, hrg5.left_eq]; exact HX.out.2.2.2.2.1
      have HS2 := Lib.hid (And.intro hst2 hle2)
      have HRN := Lib.hid hrun
      clear hrun hN3 hB3 hown3 hrg5 hown6 hown5 hB5 hB6 hst2 hle2 ho5 hbase3
      go_wp2_with (at_builtin; refine Lib.wpList_append_run _ rfl _ _ _ _ rfl _ _ rfl rfl _ _ (HRN.out _) ?_)
      go_roundw
      case rel => exact HS2.out.1
      case measure => exact HS2.out.2
end Go.Proofs.YteknflimfdkhoaaGreat
