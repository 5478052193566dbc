/- What a book makes of a change: plain. The closures of dag.Book.All: contracts. -/
import Derived.Test.YteknflimfdkhoaaGreatDg4
import Derived.Test.YteknflimfdkhoaaGreatDg18
namespace Go.Proofs.YteknflimfdkhoaaGreat
open Go.RowKit
set_option linter.unusedVariables false
set_option linter.unusedSimpArgs false

def findR (L : List Ch) (r : Int × Int) : Option Ch := L.find? (fun c => decide (c.ref = r))
theorem findR_map (L : List PCh) (r : Int × Int) : findR (L.map PCh.ch) r = (findC L r).map PCh.ch := by
  unfold findR findC
  rw [List.find?_map]
  rfl
theorem findR_some {L : List Ch} {r : Int × Int} {c : Ch} (h : findR L r = some c) : c ∈ L ∧ c.ref = r := ⟨List.mem_of_find?_eq_some h, by simpa using List.find?_some h⟩
def sameC (a b : Ch) : Bool := (a.start == b.start) && (decide (a.deps = b.deps) && decide (a.ops = b.ops))
theorem sameB_eq (a b : PCh) : sameB a b = sameC a.ch b.ch := rfl
theorem sameC_iff {a b : Ch} (h : a.ref = b.ref) : sameC a b = true ↔ a = b := by
  unfold sameC
  rw [Bool.and_eq_true, Bool.and_eq_true, beq_iff_eq, decide_eq_true_eq, decide_eq_true_eq]
  obtain ⟨a1, a2, a3, a4, a5⟩ := a
  obtain ⟨b1, b2, b3, b4, b5⟩ := b
  have h1 : a1 = b1 := congrArg Prod.fst h
  have h2 : a2 = b2 := congrArg Prod.snd h
  subst h1 h2
  simp
def readyL (L : List Ch) (c : Ch) : Bool := c.deps.all (fun d => decide (d ∈ L.map Ch.ref))
/-- The first one that may come in. -/
structure IsFirst (L W : List Ch) (c : Ch) : Prop where
  mem : c ∈ W
  ok : readyL L c = true
  least : ∀ y ∈ W, readyL L y = true → lessId c.ref y.ref = true ∨ y.ref = c.ref
def outR (W : List Ch) (r : Int × Int) : List Ch := W.filter (fun x => decide (x.ref ≠ r))
/-- What waits comes in, as far as it may. -/
inductive Settles : List Ch → List Ch → List Ch → List Ch → Prop
  | done {L W : List Ch} : (∀ y ∈ W, readyL L y = false) → Settles L W L W
  | step {L W Lf Wf : List Ch} {c : Ch} : IsFirst L W c → Settles (if fitsB L c then L ++ [c] else L) (outR W c.ref) Lf Wf → Settles L W Lf Wf
theorem Settles.none {L Lf Wf : List Ch} (h : Settles L [] Lf Wf) : Lf = L ∧ Wf = [] := by
  cases h with
  | done h => exact ⟨rfl, rfl⟩
  | step h _ => exact absurd h.mem (by simp)
theorem lessId_irrefl (a : Int × Int) : lessId a a = false := by simp [lessId]
theorem lessId_asymm {a b : Int × Int} (h : lessId a b = true) : lessId b a = false := by
  simp [lessId] at h ⊢
  omega
theorem IsFirst.unique {L W : List Ch} {a b : Ch} (hn : (W.map Ch.ref).Nodup) (ha : IsFirst L W a) (hb : IsFirst L W b) : a = b := by
  have h : a.ref = b.ref := by
    rcases ha.least b hb.mem hb.ok with h1 | h1
    · rcases hb.least a ha.mem ha.ok with h2 | h2
      · rw [lessId_asymm h1] at h2; cases h2
      · exact h2
    · exact h1.symm
  exact nodup_inj hn ha.mem hb.mem h
/-- There is but one end. -/
theorem Settles.unique {L W A B C D : List Ch} (h : Settles L W A B) (hn : (W.map Ch.ref).Nodup) (k : Settles L W C D) : A = C ∧ B = D := by
  induction h generalizing C D with
  | done h =>
    cases k with
    | done _ => exact ⟨rfl, rfl⟩
    | step f _ => have := h _ f.mem; rw [f.ok] at this; cases this
  | step f g ih =>
    cases k with
    | done h => have := h _ f.mem; rw [f.ok] at this; cases this
    | step f2 g2 =>
      have := f.unique hn f2
      subst this
      refine ih ?_ g2
      exact ((List.filter_sublist (p := fun x => decide (x.ref ≠ _))).map Ch.ref).nodup hn
/-- What Take does. -/
def Takes (L W : List Ch) (c : Ch) (e : Int) (Lf Wf : List Ch) : Prop :=
  if chE c = 0 then
    match (findR L c.ref).or (findR W c.ref) with
    | some x => e = (if sameC x c = true then 0 else 8) ∧ Lf = L ∧ Wf = W
    | none =>
      if 120 ≤ L.length + W.length then e = 4 ∧ Lf = L ∧ Wf = W
      else if readyL L c = true then (if fitsB L c = true then e = 0 ∧ Settles (L ++ [c]) W Lf Wf else e = 7 ∧ Lf = L ∧ Wf = W)
      else e = 0 ∧ Lf = L ∧ Wf = W ++ [c]
  else e = chE c ∧ Lf = L ∧ Wf = W
theorem Takes.bad {L W : List Ch} {c : Ch} (h : chE c ≠ 0) : Takes L W c (chE c) L W := by unfold Takes; rw [if_neg h]; exact ⟨rfl, rfl, rfl⟩
theorem Takes.there {L W : List Ch} {c x : Ch} (h : chE c = 0) (hx : (findR L c.ref).or (findR W c.ref) = some x) {e : Int} (he : e = if sameC x c = true then 0 else 8) : Takes L W c e L W := by
  unfold Takes
  rw [if_pos h, hx]
  exact ⟨he, rfl, rfl⟩
theorem Takes.full {L W : List Ch} {c : Ch} (h : chE c = 0) (h1 : findR L c.ref = none) (h2 : findR W c.ref = none) (hl : 120 ≤ L.length + W.length) : Takes L W c 4 L W := by
  unfold Takes
  rw [if_pos h, h1, h2]
  dsimp only [Option.or]
  rw [if_pos hl]
  exact ⟨rfl, rfl, rfl⟩
theorem Takes.wait {L W : List Ch} {c : Ch} (h : chE c = 0) (h1 : findR L c.ref = none) (h2 : findR W c.ref = none) (hl : L.length + W.length < 120) (hr : readyL L c = false) : Takes L W c 0 L (W ++ [c]) := by
  unfold Takes
  rw [if_pos h, h1, h2]
  dsimp only [Option.or]
  rw [if_neg (by omega), if_neg (by rw [hr]; decide)]
  exact ⟨rfl, rfl, rfl⟩
theorem Takes.misfit {L W : List Ch} {c : Ch} (h : chE c = 0) (h1 : findR L c.ref = none) (h2 : findR W c.ref = none) (hl : L.length + W.length < 120) (hr : readyL L c = true) (hf : fitsB L c = false) : Takes L W c 7 L W := by
  unfold Takes
  rw [if_pos h, h1, h2]
  dsimp only [Option.or]
  rw [if_neg (by omega), if_pos hr, if_neg (by rw [hf]; decide)]
  exact ⟨rfl, rfl, rfl⟩
theorem Takes.fit {L W Lf Wf : List Ch} {c : Ch} (h : chE c = 0) (h1 : findR L c.ref = none) (h2 : findR W c.ref = none) (hl : L.length + W.length < 120) (hr : readyL L c = true) (hf : fitsB L c = true) (hs : Settles (L ++ [c]) W Lf Wf) : Takes L W c 0 Lf Wf := by
  unfold Takes
  rw [if_pos h, h1, h2]
  dsimp only [Option.or]
  rw [if_neg (by omega), if_pos hr, if_pos hf]
  exact ⟨rfl, hs⟩
end Go.Proofs.YteknflimfdkhoaaGreat
namespace Go.Proofs.YteknflimfdkhoaaGreat
open Go.RowKit Go.Maps
set_option linter.unusedVariables false
set_option linter.unusedSimpArgs false

/-- A set of refs, in a map. -/
structure SetM (w : World) (dm : Nat) (Dd : DataW Value) (done : List (Int × Int)) : Prop where
  own : OM w dm Dd
  get : ∀ r, I2 r → mget Dd r = if r ∈ done then some (.bool true) else none
theorem SetM.only {w w' : World} {S : Nat → Prop} {dm : Nat} {Dd : DataW Value} {done : List (Int × Int)} (h : SetM w dm Dd done) (ho : Only S w w') (hn : ¬ S dm) : SetM w' dm Dd done := ⟨h.own.only ho hn, h.get⟩
theorem SetM.below {w w' : World} {dm : Nat} {Dd : DataW Value} {done : List (Int × Int)} (h : SetM w dm Dd done) (hb : Below w.heap.size w w') : SetM w' dm Dd done := ⟨h.own.below hb, h.get⟩
theorem SetM.look {w : World} {dm : Nat} {Dd : DataW Value} {done : List (Int × Int)} (h : SetM w dm Dd done) {r : Int × Int} (hr : I2 r) : (mget Dd r).getD (.bool false) = .bool (decide (r ∈ done)) := by
  rw [h.get r hr]
  by_cases hd : r ∈ done <;> simp [hd]

set_option maxRecDepth 100000 in
set_option maxHeartbeats 1000000 in
theorem all11_any (db dm : Nat) (Dd : DataW Value) (done : List (Int × Int)) (r : Int × Int) (w : World) (hd : Blk w db 92 #[.map (some dm)]) (hs : SetM w dm Dd done) (hr : I2 r) :
    Calls Tryz.prog 42 #[.agg #[.int .i64 r.1, .int .i64 r.2], .pointer (some ⟨db, 0, none⟩)] w fun e w' => e = .returned (.bool (!decide (r ∈ done))) ∧ Below w.heap.size w w' := by
  obtain ⟨W0, hW0⟩ : ∃ W0, W0 = w.alloc (.cells #[.int .i64 r.1, .int .i64 r.2] 33) := ⟨_, rfl⟩
  have hb0 : Below w.heap.size w W0 := by rw [hW0]; exact (Below.refl _ _).alloc (Nat.le_refl _) _
  have c0 : W0.cell? ⟨db, 0, none⟩ = some (.map (some dm)) := (hd.below hb0 hd.lt).cell 0
  have hN : Blk W0 w.heap.size 33 #[.int .i64 r.1, .int .i64 r.2] := by rw [hW0]; exact Blk.new _ _ _
  have c1 : W0.cell? ⟨w.heap.size, 0, none⟩ = some (.int .i64 r.1) := hN.cell 0
  have c2 : W0.cell? ⟨w.heap.size, 1, none⟩ = some (.int .i64 r.2) := hN.cell 1
  obtain ⟨z, hz⟩ : ∃ z, decide (r ∈ done) = z := ⟨_, rfl⟩
  have hq : (Instr.lookup 92 (.map (some dm)) (.agg #[.int .i64 r.1, .int .i64 r.2]) false).run Tryz.prog W0 = .ok (.bool z) W0 := by
    have := run_look pairRef (w := W0) (hs.below hb0).own Tryz.underlying92 (zeroBool _) hr
    rw [hs.look hr, hz] at this
    exact this
  have HB := Lib.hid (And.intro hb0 hW0)
  rw [hz]
  clear hz hb0 hW0 hd hs hN
  go_enter Tryz.func42, Tryz.ntmps42
  go_upto_region 1 with (fail)
  rw [← HB.out.2]
  go_wp2_with fail
  go_ret
  exact ⟨rfl, HB.out.1⟩

/-- The deps of a change that is there. -/
def depsL (L : List PCh) (r : Int × Int) : List (Int × Int) := ((findC L r).map PCh.deps).getD []
/-- Is all there that one hangs on? -/
def okIn (L : List PCh) (done : List (Int × Int)) (r : Int × Int) : Bool := !((depsL L r).any fun d => !decide (d ∈ done))

set_option maxRecDepth 100000 in
set_option maxHeartbeats 1000000 in
theorem all1_any (pb db dm bk h wt bh : Nat) (Dd Dh Dw Db : DataW Value) (L : List PCh) (done : List (Int × Int)) (r : Int × Int) (w : World) (hp : Blk w pb 54 #[.pointer (some ⟨bk, 0, none⟩)]) (hd : Blk w db 92 #[.map (some dm)]) (hs : SetM w dm Dd done) (H : Dag w bk h wt bh Dh Dw Db L) (hr : I2 r) :
    Calls Tryz.prog 40 #[.agg #[.int .i64 r.1, .int .i64 r.2], .pointer (some ⟨pb, 0, none⟩), .pointer (some ⟨db, 0, none⟩)] w fun e w' => e = .returned (.bool (okIn L done r)) ∧ Below w.heap.size w w' := by
  obtain ⟨W0, hW0⟩ : ∃ W0, W0 = w.alloc (.cells #[.int .i64 r.1, .int .i64 r.2] 33) := ⟨_, rfl⟩
  have hb0 : Below w.heap.size w W0 := by rw [hW0]; exact (Below.refl _ _).alloc (Nat.le_refl _) _
  have H0 := H.below hb0
  have hd0 := hd.below hb0 hd.lt
  have hs0 := hs.below hb0
  have c0 : W0.cell? ⟨pb, 0, none⟩ = some (.pointer (some ⟨bk, 0, none⟩)) := (hp.below hb0 hp.lt).cell 0
  have c3 : W0.cell? ⟨bk, 0, none⟩ = some (.map (some h)) := H0.bkm.blk.cell 0
  have hN : Blk W0 w.heap.size 33 #[.int .i64 r.1, .int .i64 r.2] := by rw [hW0]; exact Blk.new _ _ _
  have c1 : W0.cell? ⟨w.heap.size, 0, none⟩ = some (.int .i64 r.1) := hN.cell 0
  have c2 : W0.cell? ⟨w.heap.size, 1, none⟩ = some (.int .i64 r.2) := hN.cell 1
  obtain ⟨x, hx, hxd, hxA, hxi, hxl⟩ : ∃ x : PCh, (mget Dh r).getD zCh = x.value ∧ depsL L r = x.deps ∧ SlAt W0 x.dA (refs x.deps) ∧ (∀ d ∈ x.deps, I2 d) ∧ x.deps.length ≤ maxLen := by
    rw [H0.has r hr]
    unfold depsL
    cases hf : findC L r with
    | none => exact ⟨zPCh, rfl, rfl, .inl rfl, fun d hd => (by cases hd), by decide⟩
    | some x =>
      have hi := (H0.good x (findC_some hf).1).1
      exact ⟨x, rfl, rfl, hi.deps, hi.dep, hi.dlen⟩
  have hq : (Instr.lookup 93 (.map (some h)) (.agg #[.int .i64 r.1, .int .i64 r.2]) false).run Tryz.prog W0.drew = .ok (.agg #[.int .i64 x.actor, .int .i64 x.seq, .int .i64 x.start, .slice x.dA x.deps.length x.dc, .slice x.oA x.ops.length x.oc]) W0.drew := by
    have := run_look pairRef (w := W0.drew) (show W0.drew.ownsMap Tryz.prog 33 anyElem h (Maps.size Dh) Dh from H0.bkm.has) Tryz.underlying93 (zeroCh _) hr
    rw [hx] at this
    exact this
  have hfl : ∀ W : World, (Instr.field 65 (.agg #[.int .i64 x.actor, .int .i64 x.seq, .int .i64 x.start, .slice x.dA x.deps.length x.dc, .slice x.oA x.ops.length x.oc]) 3).run Tryz.prog W = .ok (.slice x.dA x.deps.length x.dc) W := fun W => by kernel_rfl
  have HC := Lib.hid (any_done (.pointer (some ⟨db, 0, none⟩)) (fun d => !decide (d ∈ done)) x.deps x.dA x.dc W0.drew hxl (hxA.below (Below.refl _ _).drew) (fun d hdm W hW => all11_any db dm Dd done d W ((show Blk W0.drew _ _ _ from hd0).below hW hd0.lt) ((hs0.below (Below.refl _ _).drew).below hW) (hxi d hdm)))
  have HO := Lib.hid (show okIn L done r = !(x.deps.any fun d => !decide (d ∈ done)) by unfold okIn; rw [hxd])
  have HB := Lib.hid (And.intro hb0 hW0)
  clear hb0 hW0 hd hs hN H H0 hd0 hs0 hx hxd hxA hxi hxl hp
  go_enter Tryz.func40, Tryz.ntmps40
  go_upto_region 1 with (fail)
  rw [← HB.out.2]
  go_still_tail 8, (by kernel_rfl)
  go_wp2_with (go_at_call 41; (with_reducible refine HC.out.mono ?_); rintro e w1 ⟨rfl, hb1⟩)
  go_ret
  exact ⟨by rw [HO.out]; rfl, HB.out.1.trans (((Below.refl _ _).drew.trans hb1).mono HB.out.1.size)⟩
end Go.Proofs.YteknflimfdkhoaaGreat
