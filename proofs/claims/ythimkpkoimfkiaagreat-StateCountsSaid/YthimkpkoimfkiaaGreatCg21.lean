/- The closures of dag.Book.All: contracts. What dag.Book.All gives: plain. -/
import Derived.Test.YthimkpkoimfkiaaGreatCg18
namespace Go.Proofs.YthimkpkoimfkiaaGreat
open Go.RowKit Go.Maps
set_option linter.unusedVariables false
set_option linter.unusedSimpArgs false

/-- A set of refs, in a map. -/
structure SetM (w : World) (dm : Nat) (Dd : DataW Value) (done : List (Int × Int)) : Prop where
  own : OM w dm Dd
  get : ∀ r, I2 r → mget Dd r = if r ∈ done then some (.bool true) else none
theorem SetM.only {w w' : World} {S : Nat → Prop} {dm : Nat} {Dd : DataW Value} {done : List (Int × Int)} (h : SetM w dm Dd done) (ho : Only S w w') (hn : ¬ S dm) : SetM w' dm Dd done := ⟨h.own.only ho hn, h.get⟩
theorem SetM.below {w w' : World} {dm : Nat} {Dd : DataW Value} {done : List (Int × Int)} (h : SetM w dm Dd done) (hb : Below w.heap.size w w') : SetM w' dm Dd done := ⟨h.own.below hb, h.get⟩
theorem SetM.look {w : World} {dm : Nat} {Dd : DataW Value} {done : List (Int × Int)} (h : SetM w dm Dd done) {r : Int × Int} (hr : I2 r) : (mget Dd r).getD (.bool false) = .bool (decide (r ∈ done)) := by
  rw [h.get r hr]
  by_cases hd : r ∈ done <;> simp [hd]

set_option maxRecDepth 100000 in
set_option maxHeartbeats 1000000 in
theorem all11_any (db dm : Nat) (Dd : DataW Value) (done : List (Int × Int)) (r : Int × Int) (w : World) (hd : Blk w db 83 #[.map (some dm)]) (hs : SetM w dm Dd done) (hr : I2 r) :
    Calls Tryz.prog 40 #[.agg #[.int .i64 r.1, .int .i64 r.2], .pointer (some ⟨db, 0, none⟩)] w fun e w' => e = .returned (.bool (!decide (r ∈ done))) ∧ Below w.heap.size w w' := by
  obtain ⟨W0, hW0⟩ : ∃ W0, W0 = w.alloc (.cells #[.int .i64 r.1, .int .i64 r.2] 33) := ⟨_, rfl⟩
  have hb0 : Below w.heap.size w W0 := by rw [hW0]; exact (Below.refl _ _).alloc (Nat.le_refl _) _
  have c0 : W0.cell? ⟨db, 0, none⟩ = some (.map (some dm)) := (hd.below hb0 hd.lt).cell 0
  have hN : Blk W0 w.heap.size 33 #[.int .i64 r.1, .int .i64 r.2] := by rw [hW0]; exact Blk.new _ _ _
  have c1 : W0.cell? ⟨w.heap.size, 0, none⟩ = some (.int .i64 r.1) := hN.cell 0
  have c2 : W0.cell? ⟨w.heap.size, 1, none⟩ = some (.int .i64 r.2) := hN.cell 1
  obtain ⟨z, hz⟩ : ∃ z, decide (r ∈ done) = z := ⟨_, rfl⟩
  have hq : (Instr.lookup 83 (.map (some dm)) (.agg #[.int .i64 r.1, .int .i64 r.2]) false).run Tryz.prog W0 = .ok (.bool z) W0 := by
    have := run_look pairRef (w := W0) (hs.below hb0).own Tryz.underlying83 (zeroBool _) hr
    rw [hs.look hr, hz] at this
    exact this
  have HB := Lib.hid (And.intro hb0 hW0)
  rw [hz]
  clear hz hb0 hW0 hd hs hN
  go_enter Tryz.func40, Tryz.ntmps40
  go_upto_region 1 with (fail)
  rw [← HB.out.2]
  go_wp2_with fail
  go_ret
  exact ⟨rfl, HB.out.1⟩

/-- The deps of a change that is there. -/
def depsL (L : List PCh) (r : Int × Int) : List (Int × Int) := ((findC L r).map PCh.deps).getD []
/-- Is all there that one hangs on? -/
def okIn (L : List PCh) (done : List (Int × Int)) (r : Int × Int) : Bool := !((depsL L r).any fun d => !decide (d ∈ done))

set_option maxRecDepth 100000 in
set_option maxHeartbeats 1000000 in
theorem all1_any (pb db dm bk h wt bh : Nat) (Dd Dh Dw Db : DataW Value) (L : List PCh) (done : List (Int × Int)) (r : Int × Int) (w : World) (hp : Blk w pb 56 #[.pointer (some ⟨bk, 0, none⟩)]) (hd : Blk w db 83 #[.map (some dm)]) (hs : SetM w dm Dd done) (H : Dag w bk h wt bh Dh Dw Db L) (hr : I2 r) :
    Calls Tryz.prog 38 #[.agg #[.int .i64 r.1, .int .i64 r.2], .pointer (some ⟨pb, 0, none⟩), .pointer (some ⟨db, 0, none⟩)] w fun e w' => e = .returned (.bool (okIn L done r)) ∧ Below w.heap.size w w' := by
  obtain ⟨W0, hW0⟩ : ∃ W0, W0 = w.alloc (.cells #[.int .i64 r.1, .int .i64 r.2] 33) := ⟨_, rfl⟩
  have hb0 : Below w.heap.size w W0 := by rw [hW0]; exact (Below.refl _ _).alloc (Nat.le_refl _) _
  have H0 := H.below hb0
  have hd0 := hd.below hb0 hd.lt
  have hs0 := hs.below hb0
  have c0 : W0.cell? ⟨pb, 0, none⟩ = some (.pointer (some ⟨bk, 0, none⟩)) := (hp.below hb0 hp.lt).cell 0
  have c3 : W0.cell? ⟨bk, 0, none⟩ = some (.map (some h)) := H0.bkm.blk.cell 0
  have hN : Blk W0 w.heap.size 33 #[.int .i64 r.1, .int .i64 r.2] := by rw [hW0]; exact Blk.new _ _ _
  have c1 : W0.cell? ⟨w.heap.size, 0, none⟩ = some (.int .i64 r.1) := hN.cell 0
  have c2 : W0.cell? ⟨w.heap.size, 1, none⟩ = some (.int .i64 r.2) := hN.cell 1
  obtain ⟨x, hx, hxd, hxA, hxi, hxl⟩ : ∃ x : PCh, (mget Dh r).getD zCh = x.value ∧ depsL L r = x.deps ∧ SlAt W0 x.dA (refs x.deps) ∧ (∀ d ∈ x.deps, I2 d) ∧ x.deps.length ≤ maxLen := by
    rw [H0.has r hr]
    unfold depsL
    cases hf : findC L r with
    | none => exact ⟨zPCh, rfl, rfl, .inl rfl, fun d hd => (by cases hd), by decide⟩
    | some x =>
      have hi := (H0.good x (findC_some hf).1).1
      exact ⟨x, rfl, rfl, hi.deps, hi.dep, hi.dlen⟩
  have hq : (Instr.lookup 84 (.map (some h)) (.agg #[.int .i64 r.1, .int .i64 r.2]) false).run Tryz.prog W0.drew = .ok (.agg #[.int .i64 x.actor, .int .i64 x.seq, .int .i64 x.start, .slice x.dA x.deps.length x.dc, .slice x.oA x.ops.length x.oc]) W0.drew := by
    have := run_look pairRef (w := W0.drew) (show W0.drew.ownsMap Tryz.prog 33 anyElem h (Maps.size Dh) Dh from H0.bkm.has) Tryz.underlying84 (zeroCh _) hr
    rw [hx] at this
    exact this
  have hfl : ∀ W : World, (Instr.field 67 (.agg #[.int .i64 x.actor, .int .i64 x.seq, .int .i64 x.start, .slice x.dA x.deps.length x.dc, .slice x.oA x.ops.length x.oc]) 3).run Tryz.prog W = .ok (.slice x.dA x.deps.length x.dc) W := fun W => by kernel_rfl
  have HC := Lib.hid (any_done (.pointer (some ⟨db, 0, none⟩)) (fun d => !decide (d ∈ done)) x.deps x.dA x.dc W0.drew hxl (hxA.below (Below.refl _ _).drew) (fun d hdm W hW => all11_any db dm Dd done d W ((show Blk W0.drew _ _ _ from hd0).below hW hd0.lt) ((hs0.below (Below.refl _ _).drew).below hW) (hxi d hdm)))
  have HO := Lib.hid (show okIn L done r = !(x.deps.any fun d => !decide (d ∈ done)) by unfold okIn; rw [hxd])
  have HB := Lib.hid (And.intro hb0 hW0)
  clear hb0 hW0 hd hs hN H H0 hd0 hs0 hx hxd hxA hxi hxl hp
  go_enter Tryz.func38, Tryz.ntmps38
  go_upto_region 1 with (fail)
  rw [← HB.out.2]
  go_still_tail 8, (by kernel_rfl)
  go_wp2_with (go_at_call 39; (with_reducible refine HC.out.mono ?_); rintro e w1 ⟨rfl, hb1⟩)
  go_ret
  exact ⟨by rw [HO.out]; rfl, HB.out.1.trans (((Below.refl _ _).drew.trans hb1).mono HB.out.1.size)⟩
end Go.Proofs.YthimkpkoimfkiaaGreat
namespace Go.Proofs.YthimkpkoimfkiaaGreat
open Go.RowKit Go.Maps
set_option linter.unusedVariables false
set_option linter.unusedSimpArgs false

theorem PCh.cells_len (c : PCh) : c.cells.length = 5 := rfl
def chsCells (l : List PCh) : List Value := l.flatMap PCh.cells
theorem chsCells_len (l : List PCh) : (chsCells l).length = l.length * 5 := by
  induction l with
  | nil => rfl
  | cons x l ih => simp only [chsCells, List.flatMap_cons, List.length_append, PCh.cells_len, List.length_cons] at *; omega
theorem chsCells_append (a b : List PCh) : chsCells (a ++ b) = chsCells a ++ chsCells b := by simp [chsCells]
theorem chsCells_one (l : List PCh) : ∀ u ∈ chsCells l, u.oneCell' = true := by
  intro u hu
  obtain ⟨c, _, hc⟩ := List.mem_flatMap.1 hu
  simp [PCh.cells] at hc
  rcases hc with rfl | rfl | rfl | rfl | rfl <;> rfl
theorem chsCells_at : ∀ (l : List PCh) (i : Nat) (c : PCh), l[i]? = some c → ∀ j, j < 5 → (chsCells l)[i * 5 + j]? = c.cells[j]?
  | [], i, o, h, _, _ => by simp at h
  | x :: l, 0, o, h, j, hj => by
    simp at h
    subst h
    simp only [chsCells, List.flatMap_cons, Nat.zero_mul, Nat.zero_add]
    rw [List.getElem?_append_left (by rw [PCh.cells_len]; exact hj)]
  | x :: l, i + 1, o, h, j, hj => by
    have ih := chsCells_at l i o (by simpa using h) j hj
    simp only [chsCells, List.flatMap_cons]
    rw [List.getElem?_append_right (by rw [PCh.cells_len]; omega), PCh.cells_len, show (i + 1) * 5 + j - 5 = i * 5 + j by omega]
    exact ih
/-- The cells of the change at i. -/
theorem SlAt.chg {w : World} {A : Option Addr} {l : List PCh} (h : SlAt w A (chsCells l)) {i : Nat} {c : PCh} (hc : l[i]? = some c) :
    ∃ b off, A = some ⟨b, off, none⟩ ∧ ∀ j u, c.cells[j]? = some u → w.cell? ⟨b, off + i * 5 + j, none⟩ = some u := by
  have hi : i < l.length := (List.getElem?_eq_some_iff.1 hc).1
  rcases h with h | ⟨b, off, hA, hcl⟩
  · have := chsCells_len l; rw [h] at this; simp at this; omega
  · refine ⟨b, off, hA, fun j u hu => ?_⟩
    have hj : j < 5 := by have := (List.getElem?_eq_some_iff.1 hu).1; rw [PCh.cells_len] at this; exact this
    rw [Nat.add_assoc]
    exact hcl _ _ (by rw [chsCells_at l i c hc j hj]; exact hu)

/-- The order in which All goes through the refs. -/
def rowF (L : List PCh) : Nat → List (Int × Int) → List (Int × Int) → List (Int × Int)
  | 0, _, _ => []
  | n + 1, left, done => match left.findIdx? (okIn L done) with
    | none => []
    | some i => left.getD i (0, 0) :: rowF L n (left.eraseIdx i) (left.getD i (0, 0) :: done)

theorem first_split {α : Type} (p : α → Prop) [DecidablePred p] : ∀ (L : List α), (∃ x ∈ L, p x) → ∃ L1 c L2, L = L1 ++ c :: L2 ∧ p c ∧ ∀ x ∈ L1, ¬ p x
  | [], h => by obtain ⟨x, hx, _⟩ := h; cases hx
  | y :: L, h => by
    by_cases hy : p y
    · exact ⟨[], y, L, rfl, hy, fun x hx => (by cases hx)⟩
    · obtain ⟨x, hx, hp⟩ := h
      rcases List.mem_cons.1 hx with rfl | hx
      · exact absurd hp hy
      · obtain ⟨L1, c, L2, e, h1, h2⟩ := first_split p L ⟨x, hx, hp⟩
        exact ⟨y :: L1, c, L2, by rw [e]; rfl, h1, fun z hz => by
          rcases List.mem_cons.1 hz with rfl | hz
          · exact hy
          · exact h2 z hz⟩

/-- There is always one that may come next. -/
theorem ready_one {L : List PCh} (hn : (L.map PCh.ref).Nodup) (hs : ∀ L1 c L2, L = L1 ++ c :: L2 → ∀ d ∈ c.deps, d ∈ L1.map PCh.ref) {left done : List (Int × Int)} (hne : left ≠ [])
    (h1 : ∀ r ∈ left, r ∈ L.map PCh.ref) (h2 : ∀ r ∈ L.map PCh.ref, r ∈ left ∨ r ∈ done) : ∃ r ∈ left, okIn L done r = true := by
  obtain ⟨r0, hr0⟩ := List.exists_mem_of_ne_nil _ hne
  obtain ⟨c0, hc0, hcr⟩ := List.mem_map.1 (h1 r0 hr0)
  obtain ⟨L1, c, L2, e, hc, hL1⟩ := first_split (fun c : PCh => c.ref ∈ left) L ⟨c0, hc0, by rw [hcr]; exact hr0⟩
  refine ⟨c.ref, hc, ?_⟩
  have hd : depsL L c.ref = c.deps := by unfold depsL; rw [findC_of hn (by rw [e]; simp)]; rfl
  unfold okIn
  rw [hd]
  simp only [Bool.not_eq_true', List.any_eq_false]
  intro d hdm
  have hdl := hs L1 c L2 e d hdm
  obtain ⟨x, hx, rfl⟩ := List.mem_map.1 hdl
  have hxl : x.ref ∈ L.map PCh.ref := by rw [e]; exact List.mem_map_of_mem (by simp [hx])
  rcases h2 _ hxl with h | h
  · exact absurd h (hL1 x hx)
  · simp [h]

/-- How far All has come. -/
structure AllP (L : List PCh) (keys : List (Int × Int)) (al : List PCh) (left : List (Int × Int)) : Prop where
  row : al.map PCh.ref ++ rowF L left.length left (al.map PCh.ref).reverse = rowF L keys.length keys []
  perm : (al.map PCh.ref ++ left).Perm keys
  src : ∀ x ∈ al, ∃ y ∈ L, y.ref = x.ref ∧ x.ch = y.ch
  ord : ∀ k x, al[k]? = some x → ∀ d ∈ x.deps, d ∈ (al.take k).map PCh.ref
theorem AllP.start (L : List PCh) (keys : List (Int × Int)) : AllP L keys [] keys := ⟨rfl, List.Perm.refl _, fun x hx => (by cases hx), fun k x h => (by simp at h)⟩
theorem AllP.idx {L : List PCh} {keys : List (Int × Int)} {al : List PCh} {left : List (Int × Int)} (h : AllP L keys al left) (hn : (L.map PCh.ref).Nodup) (hs : ∀ L1 c L2, L = L1 ++ c :: L2 → ∀ d ∈ c.deps, d ∈ L1.map PCh.ref)
    (hk : keys.Perm (L.map PCh.ref)) (hne : left ≠ []) : ∃ i y, left.findIdx? (okIn L (al.map PCh.ref).reverse) = some i ∧ idxOf (okIn L (al.map PCh.ref).reverse) left = i ∧ i < left.length ∧ y ∈ L ∧ findC L (left.getD i (0, 0)) = some y ∧ y.ref = left.getD i (0, 0) ∧ left[i]? = some y.ref ∧
      ∀ d ∈ y.deps, d ∈ al.map PCh.ref := by
  have hp := h.perm.trans hk
  have h1 : ∀ r ∈ left, r ∈ L.map PCh.ref := fun r hr => hp.mem_iff.1 (List.mem_append.2 (.inr hr))
  have h2 : ∀ r ∈ L.map PCh.ref, r ∈ left ∨ r ∈ (al.map PCh.ref).reverse := fun r hr => by
    rcases List.mem_append.1 (hp.mem_iff.2 hr) with h | h
    · exact .inr (List.mem_reverse.2 h)
    · exact .inl h
  obtain ⟨r, hr, hok⟩ := ready_one hn hs hne h1 h2
  cases hf : left.findIdx? (okIn L (al.map PCh.ref).reverse) with
  | none =>
    rw [List.findIdx?_eq_none_iff] at hf
    rw [hf r hr] at hok
    cases hok
  | some i =>
    obtain ⟨hi, hoki, _⟩ := List.findIdx?_eq_some_iff_getElem.1 hf
    have hg : left.getD i (0, 0) = left[i] := by simp [List.getD_eq_getElem?_getD, hi]
    have hm : left[i] ∈ L.map PCh.ref := h1 _ (List.getElem_mem hi)
    obtain ⟨y, hy, hyr⟩ := List.mem_map.1 hm
    have hfy : findC L (left.getD i (0, 0)) = some y := by rw [hg, ← hyr]; exact findC_of hn hy
    refine ⟨i, y, rfl, by unfold idxOf; rw [hf], hi, hy, hfy, by rw [hg]; exact hyr, by rw [hyr]; exact List.getElem?_eq_getElem hi, fun d hd => ?_⟩
    have hdl : depsL L left[i] = y.deps := by unfold depsL; rw [← hg, hfy]; rfl
    unfold okIn at hoki
    rw [hdl] at hoki
    simp only [Bool.not_eq_true', List.any_eq_false] at hoki
    have := hoki d hd
    simpa using this
theorem AllP.step {L : List PCh} {keys : List (Int × Int)} {al : List PCh} {left : List (Int × Int)} (h : AllP L keys al left) {i : Nat} {x y : PCh} (hf : left.findIdx? (okIn L (al.map PCh.ref).reverse) = some i) (hi : i < left.length)
    (hy : y ∈ L) (hyr : y.ref = left.getD i (0, 0)) (hd : ∀ d ∈ y.deps, d ∈ al.map PCh.ref) (hxr : x.ref = y.ref) (hxc : x.ch = y.ch) : AllP L keys (al ++ [x]) (left.eraseIdx i) := by
  have hg : left.getD i (0, 0) = left[i] := by simp [List.getD_eq_getElem?_getD, hi]
  refine ⟨?_, ?_, ?_, ?_⟩
  · rw [← h.row]
    have hl : left.length = (left.eraseIdx i).length + 1 := by rw [List.length_eraseIdx, if_pos hi]; omega
    rw [hl]
    show _ = _ ++ rowF L (_ + 1) left _
    rw [rowF, hf]
    simp only [List.map_append, List.map_cons, List.map_nil, List.append_assoc, List.singleton_append, List.reverse_append, List.reverse_cons, List.reverse_nil, List.nil_append]
    rw [hxr, hyr]
  · refine List.Perm.trans ?_ h.perm
    rw [List.map_append, List.append_assoc]
    refine List.Perm.append_left _ ?_
    rw [List.map_cons, List.map_nil, List.singleton_append, hxr, hyr, hg]
    rw [List.eraseIdx_eq_take_drop_succ]
    have e : left = left.take i ++ left[i] :: left.drop (i + 1) := by rw [← List.drop_eq_getElem_cons hi, List.take_append_drop]
    exact (List.perm_middle.symm).trans (by rw [← e])
  · intro z hz
    rcases List.mem_append.1 hz with hz | hz
    · exact h.src z hz
    · rw [List.mem_singleton] at hz
      subst hz
      exact ⟨y, hy, hxr.symm, hxc⟩
  · intro k z hz d hdz
    by_cases hk : k < al.length
    · rw [List.getElem?_append_left hk] at hz
      rw [List.take_append_of_le_length (Nat.le_of_lt hk)]
      exact h.ord k z hz d hdz
    · have hkl : k = al.length := by
        have := (List.getElem?_eq_some_iff.1 hz).1
        simp at this
        omega
      subst hkl
      rw [List.getElem?_append_right (Nat.le_refl _), Nat.sub_self] at hz
      have : x = z := by simpa using hz
      subst this
      rw [List.take_append_of_le_length (Nat.le_refl _), List.take_length]
      have : x.deps = y.deps := congrArg Ch.deps hxc
      rw [this] at hdz
      exact hd d hdz

/-- What All gives. -/
structure AllOf (L al : List PCh) : Prop where
  row : al.map PCh.ref = rowF L L.length (sortR (L.map PCh.ref)) []
  len : al.length = L.length
  ndp : (al.map PCh.ref).Nodup
  src : ∀ x ∈ al, ∃ y ∈ L, y.ref = x.ref ∧ x.ch = y.ch
  ord : ∀ k x, al[k]? = some x → ∀ d ∈ x.deps, d ∈ (al.take k).map PCh.ref
theorem sortR_sorted (l : List (Int × Int)) : (sortR l).Pairwise (fun x y => (!(ltOf cmpId) y x) = true) := by
  unfold sortR
  refine List.pairwise_mergeSort (fun a b c h1 h2 => ?_) (fun a b => ?_) l
  · simp only [Bool.not_eq_true'] at *
    cases hca : ltOf cmpId c a with
    | false => rfl
    | true =>
      exfalso
      cases hab : ltOf cmpId a b with
      | true => have := swo_refs.trans _ _ _ hca hab; rw [h2] at this; cases this
      | false =>
        have := tot_refs a b hab h1
        subst this
        rw [h2] at hca
        cases hca
  · cases h1 : ltOf cmpId b a <;> cases h2 : ltOf cmpId a b <;> try rfl
    have := swo_refs.trans _ _ _ h1 h2
    rw [swo_refs.irrefl] at this
    cases this
/-- Two rows of the same refs are sorted alike. -/
theorem sortR_eq {a b : List (Int × Int)} (h : a.Perm b) : sortR a = sortR b := by
  have hp : (sortR a).Perm (sortR b) := (sortR_perm a).trans (h.trans (sortR_perm b).symm)
  refine List.Perm.eq_of_pairwise (le := fun x y => (!(ltOf cmpId) y x) = true) ?_ ?_ ?_ hp
  · intro x y _ _ h1 h2
    exact tot_refs x y (by simpa using h2) (by simpa using h1)
  · exact sortR_sorted a
  · exact sortR_sorted b
theorem AllP.fin {L : List PCh} {l : List (Int × Int)} {al : List PCh} (h : AllP L (sortR l) al []) (hk : l.Perm (L.map PCh.ref)) (hn : (L.map PCh.ref).Nodup) : AllOf L al := by
  have hp : (al.map PCh.ref).Perm (L.map PCh.ref) := by
    have := h.perm
    rw [List.append_nil] at this
    exact this.trans ((sortR_perm l).trans hk)
  have hlen : l.length = L.length := by simpa using hk.length_eq
  refine ⟨?_, by simpa using hp.length_eq, hp.nodup_iff.2 hn, h.src, h.ord⟩
  have := h.row
  rw [List.length_nil, rowF, List.append_nil, sortR_len, hlen, sortR_eq hk] at this
  exact this
theorem KeysAre.perm {w : World} {bk h wt bh : Nat} {Dh Dw Db : DataW Value} {L : List PCh} {l : List (Int × Int)} (hk : KeysAre Dh l) (H : Dag w bk h wt bh Dh Dw Db L) : l.Perm (L.map PCh.ref) := by
  refine (List.perm_ext_iff_of_nodup hk.nodup H.ndp).2 (fun r => ?_)
  constructor
  · intro hr
    exact (H.hasB_mem (hk.i2 r hr)).1 ((hk.mem r (hk.i2 r hr)).1 hr)
  · intro hr
    obtain ⟨c, hc, rfl⟩ := List.mem_map.1 hr
    have hi := (chE_good (H.good c hc).2).i2
    exact (hk.mem _ hi).2 ((H.hasB_mem hi).2 hr)
/-- Two answers are alike. -/
theorem AllOf.same {L a b : List PCh} (hn : (L.map PCh.ref).Nodup) (ha : AllOf L a) (hb : AllOf L b) : a.map PCh.ch = b.map PCh.ch := by
  have hr : a.map PCh.ref = b.map PCh.ref := ha.row.trans hb.row.symm
  have hlen : a.length = b.length := by rw [ha.len, hb.len]
  apply List.ext_getElem
  · simpa using hlen
  · intro i h1 h2
    simp only [List.length_map] at h1 h2
    simp only [List.getElem_map]
    have hri : a[i].ref = b[i].ref := by
      have := List.getElem_of_eq hr (i := i) (by simpa using h1)
      simpa using this
    obtain ⟨y, hy, e1, e2⟩ := ha.src _ (List.getElem_mem h1)
    obtain ⟨z, hz, f1, f2⟩ := hb.src _ (List.getElem_mem h2)
    have : y = z := by
      have g1 := findC_of hn hy
      have g2 := findC_of hn hz
      rw [e1, hri, ← f1, g2] at g1
      exact (Option.some.inj g1).symm
    subst this
    rw [e2, f2]
end Go.Proofs.YthimkpkoimfkiaaGreat
