/- The closures of dag.Book.All: contracts. -/
import Derived.Test.YtdenaejhfgmihaaDagInv
namespace Go.Proofs.Ytdenaejhfgmihaa
open Go.RowKit Go.Maps
set_option linter.unusedVariables false
set_option linter.unusedSimpArgs false

/-- A set of refs, in a map. -/
structure SetM (w : World) (dm : Nat) (Dd : DataW Value) (done : List (Int × Int)) : Prop where
  own : OM w dm Dd
  get : ∀ r, I2 r → mget Dd r = if r ∈ done then some (.bool true) else none
theorem SetM.only {w w' : World} {S : Nat → Prop} {dm : Nat} {Dd : DataW Value} {done : List (Int × Int)} (h : SetM w dm Dd done) (ho : Only S w w') (hn : ¬ S dm) : SetM w' dm Dd done := ⟨h.own.only ho hn, h.get⟩
theorem SetM.below {w w' : World} {dm : Nat} {Dd : DataW Value} {done : List (Int × Int)} (h : SetM w dm Dd done) (hb : Below w.heap.size w w') : SetM w' dm Dd done := ⟨h.own.below hb, h.get⟩
theorem SetM.look {w : World} {dm : Nat} {Dd : DataW Value} {done : List (Int × Int)} (h : SetM w dm Dd done) {r : Int × Int} (hr : I2 r) : (mget Dd r).getD (.bool false) = .bool (decide (r ∈ done)) := by
  rw [h.get r hr]
  by_cases hd : r ∈ done <;> simp [hd]

set_option maxRecDepth 100000 in
set_option maxHeartbeats 1000000 in
theorem all11_any (db dm : Nat) (Dd : DataW Value) (done : List (Int × Int)) (r : Int × Int) (w : World) (hd : Blk w db 52 #[.map (some dm)]) (hs : SetM w dm Dd done) (hr : I2 r) :
    Calls Try.prog 23 #[.agg #[.int .i64 r.1, .int .i64 r.2], .pointer (some ⟨db, 0, none⟩)] w fun e w' => e = .returned (.bool (!decide (r ∈ done))) ∧ Below w.heap.size w w' := by
  obtain ⟨W0, hW0⟩ : ∃ W0, W0 = w.alloc (.cells #[.int .i64 r.1, .int .i64 r.2] 34) := ⟨_, rfl⟩
  have hb0 : Below w.heap.size w W0 := by rw [hW0]; exact (Below.refl _ _).alloc (Nat.le_refl _) _
  have c0 : W0.cell? ⟨db, 0, none⟩ = some (.map (some dm)) := (hd.below hb0 hd.lt).cell 0
  have hN : Blk W0 w.heap.size 34 #[.int .i64 r.1, .int .i64 r.2] := by rw [hW0]; exact Blk.new _ _ _
  have c1 : W0.cell? ⟨w.heap.size, 0, none⟩ = some (.int .i64 r.1) := hN.cell 0
  have c2 : W0.cell? ⟨w.heap.size, 1, none⟩ = some (.int .i64 r.2) := hN.cell 1
  obtain ⟨z, hz⟩ : ∃ z, decide (r ∈ done) = z := ⟨_, rfl⟩
  have hq : (Instr.lookup 52 (.map (some dm)) (.agg #[.int .i64 r.1, .int .i64 r.2]) false).run Try.prog W0 = .ok (.bool z) W0 := by
    have := run_look pairRef (w := W0) (hs.below hb0).own Try.underlying52 (zeroBool _) hr
    rw [hs.look hr, hz] at this
    exact this
  have HB := Lib.hid (And.intro hb0 hW0)
  rw [hz]
  clear hz hb0 hW0 hd hs hN
  go_enter Try.func23, Try.ntmps23
  go_upto_region 1 with (fail)
  rw [← HB.out.2]
  go_wp2_with fail
  go_ret
  exact ⟨rfl, HB.out.1⟩

/-- The deps of a change that is there. -/
def depsL (L : List PCh) (r : Int × Int) : List (Int × Int) := ((findC L r).map PCh.deps).getD []
/-- Is all there that one hangs on? -/
def okIn (L : List PCh) (done : List (Int × Int)) (r : Int × Int) : Bool := !((depsL L r).any fun d => !decide (d ∈ done))

set_option maxRecDepth 100000 in
set_option maxHeartbeats 1000000 in
theorem all1_any (pb db dm bk h wt bh : Nat) (Dd Dh Dw Db : DataW Value) (L : List PCh) (done : List (Int × Int)) (r : Int × Int) (w : World) (hp : Blk w pb 23 #[.pointer (some ⟨bk, 0, none⟩)]) (hd : Blk w db 52 #[.map (some dm)]) (hs : SetM w dm Dd done) (H : Dag w bk h wt bh Dh Dw Db L) (hr : I2 r) :
    Calls Try.prog 21 #[.agg #[.int .i64 r.1, .int .i64 r.2], .pointer (some ⟨pb, 0, none⟩), .pointer (some ⟨db, 0, none⟩)] w fun e w' => e = .returned (.bool (okIn L done r)) ∧ Below w.heap.size w w' := by
  obtain ⟨W0, hW0⟩ : ∃ W0, W0 = w.alloc (.cells #[.int .i64 r.1, .int .i64 r.2] 34) := ⟨_, rfl⟩
  have hb0 : Below w.heap.size w W0 := by rw [hW0]; exact (Below.refl _ _).alloc (Nat.le_refl _) _
  have H0 := H.below hb0
  have hd0 := hd.below hb0 hd.lt
  have hs0 := hs.below hb0
  have c0 : W0.cell? ⟨pb, 0, none⟩ = some (.pointer (some ⟨bk, 0, none⟩)) := (hp.below hb0 hp.lt).cell 0
  have c3 : W0.cell? ⟨bk, 0, none⟩ = some (.map (some h)) := H0.bkm.blk.cell 0
  have hN : Blk W0 w.heap.size 34 #[.int .i64 r.1, .int .i64 r.2] := by rw [hW0]; exact Blk.new _ _ _
  have c1 : W0.cell? ⟨w.heap.size, 0, none⟩ = some (.int .i64 r.1) := hN.cell 0
  have c2 : W0.cell? ⟨w.heap.size, 1, none⟩ = some (.int .i64 r.2) := hN.cell 1
  obtain ⟨x, hx, hxd, hxA, hxi, hxl⟩ : ∃ x : PCh, (mget Dh r).getD zCh = x.value ∧ depsL L r = x.deps ∧ SlAt W0 x.dA (refs x.deps) ∧ (∀ d ∈ x.deps, I2 d) ∧ x.deps.length ≤ maxLen := by
    rw [H0.has r hr]
    unfold depsL
    cases hf : findC L r with
    | none => exact ⟨zPCh, rfl, rfl, .inl rfl, fun d hd => (by cases hd), by decide⟩
    | some x =>
      have hi := (H0.good x (findC_some hf).1).1
      exact ⟨x, rfl, rfl, hi.deps, hi.dep, hi.dlen⟩
  have hq : (Instr.lookup 41 (.map (some h)) (.agg #[.int .i64 r.1, .int .i64 r.2]) false).run Try.prog W0.drew = .ok (.agg #[.int .i64 x.actor, .int .i64 x.seq, .int .i64 x.start, .slice x.dA x.deps.length x.dc, .slice x.oA x.ops.length x.oc]) W0.drew := by
    have := run_look pairRef (w := W0.drew) (show W0.drew.ownsMap Try.prog 34 anyElem h (Maps.size Dh) Dh from H0.bkm.has) Try.underlying41 (zeroCh _) hr
    rw [hx] at this
    exact this
  have hfl : ∀ W : World, (Instr.field 31 (.agg #[.int .i64 x.actor, .int .i64 x.seq, .int .i64 x.start, .slice x.dA x.deps.length x.dc, .slice x.oA x.ops.length x.oc]) 3).run Try.prog W = .ok (.slice x.dA x.deps.length x.dc) W := fun W => by kernel_rfl
  have HC := Lib.hid (any_done (.pointer (some ⟨db, 0, none⟩)) (fun d => !decide (d ∈ done)) x.deps x.dA x.dc W0.drew hxl (hxA.below (Below.refl _ _).drew) (fun d hdm W hW => all11_any db dm Dd done d W ((show Blk W0.drew _ _ _ from hd0).below hW hd0.lt) ((hs0.below (Below.refl _ _).drew).below hW) (hxi d hdm)))
  have HO := Lib.hid (show okIn L done r = !(x.deps.any fun d => !decide (d ∈ done)) by unfold okIn; rw [hxd])
  have HB := Lib.hid (And.intro hb0 hW0)
  clear hb0 hW0 hd hs hN H H0 hd0 hs0 hx hxd hxA hxi hxl hp
  go_enter Try.func21, Try.ntmps21
  go_upto_region 1 with (fail)
  rw [← HB.out.2]
  go_still_tail 8, (by kernel_rfl)
  go_wp2_with (go_at_call 22; (with_reducible refine HC.out.mono ?_); rintro e w1 ⟨rfl, hb1⟩)
  go_ret
  exact ⟨by rw [HO.out]; rfl, HB.out.1.trans (((Below.refl _ _).drew.trans hb1).mono HB.out.1.size)⟩
end Go.Proofs.Ytdenaejhfgmihaa
