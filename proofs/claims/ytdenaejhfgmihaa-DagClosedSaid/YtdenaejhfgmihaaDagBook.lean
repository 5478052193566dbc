/- dag.Book in memory; New, Has: contracts. -/
import Derived.Test.YtdenaejhfgmihaaDagRising
import Derived.Test.YtdenaejhfgmihaaDagClW
import Derived.StillTailTactics
import Derived.Deep.RegionHeld3
namespace Go.Proofs.Ytdenaejhfgmihaa
open Go.RowKit Go.Maps
set_option linter.unusedVariables false
set_option linter.unusedSimpArgs false

def OM (w : World) (b : Nat) (D : DataW Value) : Prop := w.ownsMap Try.prog 34 anyElem b (Maps.size D) D
theorem OM.of {w : World} {b n : Nat} {D : DataW Value} (h : w.ownsMap Try.prog 34 anyElem b n D) : OM w b D := own_tight h
theorem OM.only {w w' : World} {S : Nat → Prop} {b : Nat} {D : DataW Value} (h : OM w b D) (ho : Only S w w') (hn : ¬ S b) : OM w' b D := own_only h ho hn
theorem OM.below {w w' : World} {b : Nat} {D : DataW Value} (h : OM w b D) (hb : Below w.heap.size w w') : OM w' b D := h.only (Only.of_below (S := fun _ => False) hb) (fun h => h)
theorem OM.isMapB {w : World} {b : Nat} {D : DataW Value} (h : OM w b D) : IsMapB w b := by
  obtain ⟨es, ck, hb, _⟩ := h
  exact ⟨es, ck, hb⟩
theorem OM.lt {w : World} {b : Nat} {D : DataW Value} (h : OM w b D) : b < w.heap.size := World.ownsMap.lt h

/-- The book's three maps. -/
structure BkM (w : World) (bk h wt bh : Nat) (Dh Dw Db : DataW Value) : Prop where
  blk : Blk w bk 44 #[.map (some h), .map (some wt), .map (some bh)]
  has : OM w h Dh
  wts : OM w wt Dw
  beh : OM w bh Db
  n1 : h ≠ wt
  n2 : h ≠ bh
  n3 : wt ≠ bh
theorem BkM.below {w w' : World} {bk h wt bh : Nat} {Dh Dw Db : DataW Value} (H : BkM w bk h wt bh Dh Dw Db) (hb : Below w.heap.size w w') : BkM w' bk h wt bh Dh Dw Db :=
  ⟨H.blk.below hb H.blk.lt, H.has.below hb, H.wts.below hb, H.beh.below hb, H.n1, H.n2, H.n3⟩
theorem blk_noMap {w : World} {g : Nat} {t : TypeId} {cs : Array Value} (h : Blk w g t cs) : ¬ IsMapB w g := by
  rintro ⟨es, ck, hb⟩
  unfold Blk at h
  rw [h] at hb
  cases hb
theorem BkM.nbk {w : World} {bk h wt bh : Nat} {Dh Dw Db : DataW Value} (H : BkM w bk h wt bh Dh Dw Db) : bk ≠ h ∧ bk ≠ wt ∧ bk ≠ bh :=
  ⟨fun e => blk_noMap H.blk (e ▸ H.has.isMapB), fun e => blk_noMap H.blk (e ▸ H.wts.isMapB), fun e => blk_noMap H.blk (e ▸ H.beh.isMapB)⟩

/-- A book that is new. -/
def NewQ (w : World) (e : Ending) (w' : World) : Prop :=
  ∃ bk h wt bh, e = .returned (.pointer (some ⟨bk, 0, none⟩)) ∧ BkM w' bk h wt bh (.map []) (.map []) (.map []) ∧ w.heap.size ≤ bk ∧ w.heap.size ≤ h ∧ w.heap.size ≤ wt ∧ w.heap.size ≤ bh ∧ Below w.heap.size w w'

set_option maxRecDepth 100000 in
set_option maxHeartbeats 1000000 in
theorem new_any (w : World) : Calls Try.prog 4 #[] w (NewQ w) := by
  have hmm := @run_makeMap Try.prog
  go_enter Try.func4, Try.ntmps4
  go_wp2_with fail
  go_ret
  have m1 : OM (w.alloc (.map #[] 0)) w.heap.size (.map []) := OM.of (World.ownsMap_made w _ _ _)
  have m2 : OM ((w.alloc (.map #[] 0)).alloc (.map #[] 0)) (w.heap.size + 1) (.map []) := by
    have := World.ownsMap_made (w.alloc (.map #[] 0)) Try.prog 34 anyElem
    rw [show (w.alloc (.map #[] 0)).heap.size = w.heap.size + 1 by simp] at this
    exact OM.of this
  have m3 : OM (((w.alloc (.map #[] 0)).alloc (.map #[] 0)).alloc (.map #[] 0)) (w.heap.size + 2) (.map []) := by
    have := World.ownsMap_made ((w.alloc (.map #[] 0)).alloc (.map #[] 0)) Try.prog 34 anyElem
    rw [show ((w.alloc (.map #[] 0)).alloc (.map #[] 0)).heap.size = w.heap.size + 2 by simp] at this
    exact OM.of this
  have al : ∀ (W : World) (o : Obj), Below W.heap.size W (W.alloc o) := fun W o => (Below.refl _ _).alloc (Nat.le_refl _) _
  refine ⟨w.heap.size + 3, w.heap.size, w.heap.size + 1, w.heap.size + 2, rfl, ⟨Blk.newer _ _ _ (by simp), ?_, ?_, ?_, by omega, by omega, by omega⟩, by omega, by omega, by omega, by omega, ?_⟩
  · exact ((m1.below (al _ _)).below (al _ _)).below (al _ _)
  · exact (m2.below (al _ _)).below (al _ _)
  · exact m3.below (al _ _)
  · exact ((((Below.refl _ _).alloc (Nat.le_refl _) _).alloc (by simp) _).alloc (by simp; omega) _).alloc (by simp; omega) _

/-- A map of changes. -/
def ChMap (D : DataW Value) : Prop := ∀ r, I2 r → ∀ v, mget D r = some v → ∃ c : PCh, v = c.value
def zPCh : PCh := ⟨0, 0, 0, none, 0, [], none, 0, []⟩
theorem ChMap.get {D : DataW Value} (h : ChMap D) {r : Int × Int} (hr : I2 r) : ∃ c : PCh, (mget D r).getD zCh = c.value := by
  cases e : mget D r with
  | none => exact ⟨zPCh, rfl⟩
  | some v => obtain ⟨c, hc⟩ := h r hr v e; exact ⟨c, hc⟩
def hasB (D : DataW Value) (r : Int × Int) : Bool := (mget D r).isSome

set_option maxRecDepth 100000 in
set_option maxHeartbeats 1000000 in
theorem has_any (bk h wt bh : Nat) (Dh Dw Db : DataW Value) (r : Int × Int) (w : World) (H : BkM w bk h wt bh Dh Dw Db) (hs : ChMap Dh) (hr : I2 r) :
    Calls Try.prog 6 #[.pointer (some ⟨bk, 0, none⟩), .agg #[.int .i64 r.1, .int .i64 r.2]] w fun e w' => e = .returned (.bool (hasB Dh r)) ∧ Below w.heap.size w w' := by
  obtain ⟨W0, hW0⟩ : ∃ W0, W0 = w.alloc (.cells #[.int .i64 r.1, .int .i64 r.2] 34) := ⟨_, rfl⟩
  have hb0 : Below w.heap.size w W0 := by rw [hW0]; exact (Below.refl _ _).alloc (Nat.le_refl _) _
  have H1 := H.below hb0
  obtain ⟨c, hv⟩ := hs.get hr
  unfold PCh.value at hv
  have hS : ∀ W, Below W0.heap.size W0 W → W.cell? ⟨bk, 0, none⟩ = some (.map (some h)) ∧ W.cell? ⟨w.heap.size, 0, none⟩ = some (.int .i64 r.1) ∧ W.cell? ⟨w.heap.size, 1, none⟩ = some (.int .i64 r.2) ∧
      (Instr.lookup 41 (.map (some h)) (.agg #[.int .i64 r.1, .int .i64 r.2]) true).run Try.prog W = .ok (.tuple #[.agg #[.int .i64 c.actor, .int .i64 c.seq, .int .i64 c.start, .slice c.dA c.deps.length c.dc, .slice c.oA c.ops.length c.oc], .bool (hasB Dh r)]) W := by
    intro W hW
    have h2 := H1.below hW
    have hN : Blk W0 w.heap.size 34 #[.int .i64 r.1, .int .i64 r.2] := by rw [hW0]; exact Blk.new _ _ _
    have hN2 := hN.below hW hN.lt
    refine ⟨h2.blk.cell 0, hN2.cell 0, hN2.cell 1, ?_⟩
    have := run_look_ok pairRef (w := W) h2.has Try.underlying41 (zeroCh _) hr
    rw [hv] at this
    exact this
  have HB := Lib.hid hb0
  obtain ⟨s, hs'⟩ : ∃ s, hasB Dh r = s := ⟨_, rfl⟩
  rw [hs'] at hS ⊢
  have HKS := Lib.hid hS
  have hS0 := hS W0 (Below.refl _ _)
  clear hv hs hs' H H1 hb0 hS
  go_enter Try.func6, Try.ntmps6
  go_wp2_with fail
  rw [← hW0]
  obtain ⟨p1, p2, p3, p4⟩ := hS0
  clear hW0
  go_region_held3 (fun w' => w'.cell? ⟨bk, 0, none⟩ = some (.map (some h)) ∧ w'.cell? ⟨w.heap.size, 0, none⟩ = some (.int .i64 r.1) ∧ w'.cell? ⟨w.heap.size, 1, none⟩ = some (.int .i64 r.2) ∧ (Instr.lookup 41 (.map (some h)) (.agg #[.int .i64 r.1, .int .i64 r.2]) true).run Try.prog w' = .ok (.tuple #[.agg #[.int .i64 c.actor, .int .i64 c.seq, .int .i64 c.start, .slice c.dA c.deps.length c.dc, .slice c.oA c.ops.length c.oc], .bool s]) w')
    (first | (with_reducible exact HKS.out _ (Below.refl _ W0).drew) | (with_reducible exact HKS.out _ ((Below.refl _ W0).alloc (Nat.le_refl _) _).drew) | go_keep) (first | fail)
  all_goals
    go_wp2_with fail
    go_ret
    exact ⟨rfl, (HB.out.alloc HB.out.size _).drew⟩
end Go.Proofs.Ytdenaejhfgmihaa
