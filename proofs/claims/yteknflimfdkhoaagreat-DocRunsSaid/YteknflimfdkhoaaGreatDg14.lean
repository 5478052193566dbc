/- dag.Book in memory; New, Has: contracts. slices.IndexFunc, ContainsFunc at refs, for the closures of dag: contracts. -/
import Derived.Test.YteknflimfdkhoaaGreatDg9
import Derived.Test.YteknflimfdkhoaaGreatDg13
import Derived.StillTailTactics
import Derived.Deep.RegionHeld3
import Derived.Test.YteknflimfdkhoaaGreatDg4
import Derived.Outline
import Derived.Lib.Hide
namespace Go.Proofs.YteknflimfdkhoaaGreat
open Go.RowKit Go.Maps
set_option linter.unusedVariables false
set_option linter.unusedSimpArgs false

def OM (w : World) (b : Nat) (D : DataW Value) : Prop := w.ownsMap Tryz.prog 33 anyElem b (Maps.size D) D
theorem OM.of {w : World} {b n : Nat} {D : DataW Value} (h : w.ownsMap Tryz.prog 33 anyElem b n D) : OM w b D := own_tight h
theorem OM.only {w w' : World} {S : Nat → Prop} {b : Nat} {D : DataW Value} (h : OM w b D) (ho : Only S w w') (hn : ¬ S b) : OM w' b D := own_only h ho hn
theorem OM.below {w w' : World} {b : Nat} {D : DataW Value} (h : OM w b D) (hb : Below w.heap.size w w') : OM w' b D := h.only (Only.of_below (S := fun _ => False) hb) (fun h => h)
theorem OM.isMapB {w : World} {b : Nat} {D : DataW Value} (h : OM w b D) : IsMapB w b := by
  obtain ⟨es, ck, hb, _⟩ := h
  exact ⟨es, ck, hb⟩
theorem OM.lt {w : World} {b : Nat} {D : DataW Value} (h : OM w b D) : b < w.heap.size := World.ownsMap.lt h

/-- The book's three maps. -/
structure BkM (w : World) (bk h wt bh : Nat) (Dh Dw Db : DataW Value) : Prop where
  blk : Blk w bk 96 #[.map (some h), .map (some wt), .map (some bh)]
  has : OM w h Dh
  wts : OM w wt Dw
  beh : OM w bh Db
  n1 : h ≠ wt
  n2 : h ≠ bh
  n3 : wt ≠ bh
theorem BkM.below {w w' : World} {bk h wt bh : Nat} {Dh Dw Db : DataW Value} (H : BkM w bk h wt bh Dh Dw Db) (hb : Below w.heap.size w w') : BkM w' bk h wt bh Dh Dw Db :=
  ⟨H.blk.below hb H.blk.lt, H.has.below hb, H.wts.below hb, H.beh.below hb, H.n1, H.n2, H.n3⟩
theorem blk_noMap {w : World} {g : Nat} {t : TypeId} {cs : Array Value} (h : Blk w g t cs) : ¬ IsMapB w g := by
  rintro ⟨es, ck, hb⟩
  unfold Blk at h
  rw [h] at hb
  cases hb
theorem BkM.nbk {w : World} {bk h wt bh : Nat} {Dh Dw Db : DataW Value} (H : BkM w bk h wt bh Dh Dw Db) : bk ≠ h ∧ bk ≠ wt ∧ bk ≠ bh :=
  ⟨fun e => blk_noMap H.blk (e ▸ H.has.isMapB), fun e => blk_noMap H.blk (e ▸ H.wts.isMapB), fun e => blk_noMap H.blk (e ▸ H.beh.isMapB)⟩

/-- A book that is new. -/
def NewQ (w : World) (e : Ending) (w' : World) : Prop :=
  ∃ bk h wt bh, e = .returned (.pointer (some ⟨bk, 0, none⟩)) ∧ BkM w' bk h wt bh (.map []) (.map []) (.map []) ∧ w.heap.size ≤ bk ∧ w.heap.size ≤ h ∧ w.heap.size ≤ wt ∧ w.heap.size ≤ bh ∧ Below w.heap.size w w'

set_option maxRecDepth 100000 in
set_option maxHeartbeats 1000000 in
theorem new_any (w : World) : Calls Tryz.prog 28 #[] w (NewQ w) := by
  have hmm := @run_makeMap Tryz.prog
  go_enter Tryz.func28, Tryz.ntmps28
  go_wp2_with fail
  go_ret
  have m1 : OM (w.alloc (.map #[] 0)) w.heap.size (.map []) := OM.of (World.ownsMap_made w _ _ _)
  have m2 : OM ((w.alloc (.map #[] 0)).alloc (.map #[] 0)) (w.heap.size + 1) (.map []) := by
    have := World.ownsMap_made (w.alloc (.map #[] 0)) Tryz.prog 33 anyElem
    rw [show (w.alloc (.map #[] 0)).heap.size = w.heap.size + 1 by simp] at this
    exact OM.of this
  have m3 : OM (((w.alloc (.map #[] 0)).alloc (.map #[] 0)).alloc (.map #[] 0)) (w.heap.size + 2) (.map []) := by
    have := World.ownsMap_made ((w.alloc (.map #[] 0)).alloc (.map #[] 0)) Tryz.prog 33 anyElem
    rw [show ((w.alloc (.map #[] 0)).alloc (.map #[] 0)).heap.size = w.heap.size + 2 by simp] at this
    exact OM.of this
  have al : ∀ (W : World) (o : Obj), Below W.heap.size W (W.alloc o) := fun W o => (Below.refl _ _).alloc (Nat.le_refl _) _
  refine ⟨w.heap.size + 3, w.heap.size, w.heap.size + 1, w.heap.size + 2, rfl, ⟨Blk.newer _ _ _ (by simp), ?_, ?_, ?_, by omega, by omega, by omega⟩, by omega, by omega, by omega, by omega, ?_⟩
  · exact ((m1.below (al _ _)).below (al _ _)).below (al _ _)
  · exact (m2.below (al _ _)).below (al _ _)
  · exact m3.below (al _ _)
  · exact ((((Below.refl _ _).alloc (Nat.le_refl _) _).alloc (by simp) _).alloc (by simp; omega) _).alloc (by simp; omega) _

/-- A map of changes. -/
def ChMap (D : DataW Value) : Prop := ∀ r, I2 r → ∀ v, mget D r = some v → ∃ c : PCh, v = c.value
def zPCh : PCh := ⟨0, 0, 0, none, 0, [], none, 0, []⟩
theorem ChMap.get {D : DataW Value} (h : ChMap D) {r : Int × Int} (hr : I2 r) : ∃ c : PCh, (mget D r).getD zCh = c.value := by
  cases e : mget D r with
  | none => exact ⟨zPCh, rfl⟩
  | some v => obtain ⟨c, hc⟩ := h r hr v e; exact ⟨c, hc⟩
def hasB (D : DataW Value) (r : Int × Int) : Bool := (mget D r).isSome

set_option maxRecDepth 100000 in
set_option maxHeartbeats 1000000 in
theorem has_any (bk h wt bh : Nat) (Dh Dw Db : DataW Value) (r : Int × Int) (w : World) (H : BkM w bk h wt bh Dh Dw Db) (hs : ChMap Dh) (hr : I2 r) :
    Calls Tryz.prog 22 #[.pointer (some ⟨bk, 0, none⟩), .agg #[.int .i64 r.1, .int .i64 r.2]] w fun e w' => e = .returned (.bool (hasB Dh r)) ∧ Below w.heap.size w w' := by
  obtain ⟨W0, hW0⟩ : ∃ W0, W0 = w.alloc (.cells #[.int .i64 r.1, .int .i64 r.2] 33) := ⟨_, rfl⟩
  have hb0 : Below w.heap.size w W0 := by rw [hW0]; exact (Below.refl _ _).alloc (Nat.le_refl _) _
  have H1 := H.below hb0
  obtain ⟨c, hv⟩ := hs.get hr
  unfold PCh.value at hv
  have hS : ∀ W, Below W0.heap.size W0 W → W.cell? ⟨bk, 0, none⟩ = some (.map (some h)) ∧ W.cell? ⟨w.heap.size, 0, none⟩ = some (.int .i64 r.1) ∧ W.cell? ⟨w.heap.size, 1, none⟩ = some (.int .i64 r.2) ∧
      (Instr.lookup 93 (.map (some h)) (.agg #[.int .i64 r.1, .int .i64 r.2]) true).run Tryz.prog W = .ok (.tuple #[.agg #[.int .i64 c.actor, .int .i64 c.seq, .int .i64 c.start, .slice c.dA c.deps.length c.dc, .slice c.oA c.ops.length c.oc], .bool (hasB Dh r)]) W := by
    intro W hW
    have h2 := H1.below hW
    have hN : Blk W0 w.heap.size 33 #[.int .i64 r.1, .int .i64 r.2] := by rw [hW0]; exact Blk.new _ _ _
    have hN2 := hN.below hW hN.lt
    refine ⟨h2.blk.cell 0, hN2.cell 0, hN2.cell 1, ?_⟩
    have := run_look_ok pairRef (w := W) h2.has Tryz.underlying93 (zeroCh _) hr
    rw [hv] at this
    exact this
  have HB := Lib.hid hb0
  obtain ⟨s, hs'⟩ : ∃ s, hasB Dh r = s := ⟨_, rfl⟩
  rw [hs'] at hS ⊢
  have HKS := Lib.hid hS
  have hS0 := hS W0 (Below.refl _ _)
  clear hv hs hs' H H1 hb0 hS
  go_enter Tryz.func22, Tryz.ntmps22
  go_wp2_with fail
  rw [← hW0]
  obtain ⟨p1, p2, p3, p4⟩ := hS0
  clear hW0
  go_region_held3 (fun w' => w'.cell? ⟨bk, 0, none⟩ = some (.map (some h)) ∧ w'.cell? ⟨w.heap.size, 0, none⟩ = some (.int .i64 r.1) ∧ w'.cell? ⟨w.heap.size, 1, none⟩ = some (.int .i64 r.2) ∧ (Instr.lookup 93 (.map (some h)) (.agg #[.int .i64 r.1, .int .i64 r.2]) true).run Tryz.prog w' = .ok (.tuple #[.agg #[.int .i64 c.actor, .int .i64 c.seq, .int .i64 c.start, .slice c.dA c.deps.length c.dc, .slice c.oA c.ops.length c.oc], .bool s]) w')
    (first | (with_reducible exact HKS.out _ (Below.refl _ W0).drew) | (with_reducible exact HKS.out _ ((Below.refl _ W0).alloc (Nat.le_refl _) _).drew) | go_keep) (first | fail)
  all_goals
    go_wp2_with fail
    go_ret
    exact ⟨rfl, (HB.out.alloc HB.out.size _).drew⟩
end Go.Proofs.YteknflimfdkhoaaGreat
namespace Go.Proofs.YteknflimfdkhoaaGreat
open Go.RowKit
set_option linter.unusedVariables false
set_option linter.unusedSimpArgs false

def idxOf (p : Int × Int → Bool) (l : List (Int × Int)) : Int := match l.findIdx? p with | some i => i | none => -1
theorem idx_hit {p : Int × Int → Bool} {l : List (Int × Int)} {k : Nat} {r : Int × Int} (h : ∀ x ∈ l.take k, p x = false) (hr : l[k]? = some r) (hp : p r = true) : idxOf p l = k ∧ l.any p = true := by
  obtain ⟨hk, e⟩ := List.getElem?_eq_some_iff.1 hr
  have hf : l.findIdx? p = some k := by
    rw [List.findIdx?_eq_some_iff_getElem]
    refine ⟨hk, by rw [e]; exact hp, fun j hj => ?_⟩
    have := h l[j] (List.mem_take_iff_getElem.2 ⟨j, by omega, rfl⟩)
    simp [this]
  refine ⟨by unfold idxOf; rw [hf], List.any_eq_true.2 ⟨r, List.mem_of_getElem? hr, hp⟩⟩
theorem idx_none {p : Int × Int → Bool} {l : List (Int × Int)} (h : ∀ x ∈ l, p x = false) : idxOf p l = -1 ∧ l.any p = false := by
  have hf : l.findIdx? p = none := by
    rw [List.findIdx?_eq_none_iff]
    exact h
  refine ⟨by unfold idxOf; rw [hf], ?_⟩
  rw [List.any_eq_false]
  intro x hx
  simp [h x hx]
theorem idx_any (p : Int × Int → Bool) (l : List (Int × Int)) : (decide (0 ≤ idxOf p l)) = l.any p := by
  cases h : l.any p with
  | true =>
    obtain ⟨x, hx, hp⟩ := List.any_eq_true.1 h
    have hs : (l.findIdx? p).isSome = true := by rw [List.findIdx?_isSome]; exact h
    obtain ⟨i, hi⟩ := Option.isSome_iff_exists.1 hs
    unfold idxOf
    rw [hi]
    simp
  | false =>
    have h2 : ∀ x ∈ l, p x = false := fun x hx => by
      have := List.any_eq_false.1 h x hx
      simpa using this
    rw [(idx_none h2).1]
    rfl
theorem take_false {p : Int × Int → Bool} {l : List (Int × Int)} {k : Nat} {r : Int × Int} (h : ∀ x ∈ l.take k, p x = false) (hr : l[k]? = some r) (hp : p r = false) : ∀ x ∈ l.take (k + 1), p x = false := by
  intro x hx
  rw [List.take_add_one, hr] at hx
  rcases List.mem_append.1 hx with hx | hx
  · exact h x hx
  · simp at hx; rw [hx]; exact hp

set_option maxRecDepth 100000 in
set_option maxHeartbeats 2000000 in
theorem idx_ready (cap1 : Value) (p : Int × Int → Bool) (l : List (Int × Int)) (A : Option Addr) (c : Nat) (w : World) (hl : l.length ≤ maxLen) (hA : SlAt w A (refs l))
    (hcall : ∀ r ∈ l, ∀ W, Below w.heap.size w W → Calls Tryz.prog 75 #[.agg #[.int .i64 r.1, .int .i64 r.2], cap1] W fun e w' => e = .returned (.bool (p r)) ∧ Below W.heap.size W w') :
    Calls Tryz.prog 39 #[.slice A l.length c, (.func (.func 75) #[] #[cap1])] w fun e w' => e = .returned (.int .i64 (idxOf p l)) ∧ Below w.heap.size w w' := by
  have hml : l.length ≤ 9223372036854775807 := Nat.le_trans hl (by decide)
  have HH := Lib.hid (And.intro hA hcall)
  clear hA hcall hl
  go_enter Tryz.func39, Tryz.ntmps39
  go_wp2_with fail
  go_loopw [8, 5] (fun iv _ wr => ∃ k : Nat, iv = .int .i64 k ∧ k ≤ l.length ∧ (∀ x ∈ l.take k, p x = false) ∧ Below w.heap.size w wr) (fun iv _ _ => l.length - (intOf iv).toNat)
  case atStart => exact ⟨0, rfl, by omega, by simp, Below.refl _ _⟩
  case round =>
    obtain ⟨k, rfl, hk, ht, hb⟩ := hrel
    by_cases hlt : k < l.length
    · have d0 : decide ((k : Int) < (l.length : Int)) = true := decide_eq_true (by omega)
      obtain ⟨b, off, r, rfl, hr, hx, hy⟩ := (HH.out.1.below hb).ref hlt
      have HC := Lib.hid (HH.out.2 r (List.mem_of_getElem? hr) wr hb)
      have HT := Lib.hid (And.intro ht (And.intro hr hb))
      clear ht hr hb
      cases hp : p r with
      | true =>
        rw [hp] at HC
        have HN := Lib.hid (idx_hit HT.out.1 HT.out.2.1 hp).1
        clear hp
        go_wp2_with fail
        refine HC.out.mono ?_
        rintro e w1 ⟨rfl, hb1⟩
        go_wp2_with fail
        go_ret
        exact ⟨by rw [HN.out]; rfl, HT.out.2.2.trans (hb1.mono HT.out.2.2.size)⟩
      | false =>
        rw [hp] at HC
        have HN := Lib.hid (take_false HT.out.1 HT.out.2.1 hp)
        clear hp
        go_wp2_with fail
        refine HC.out.mono ?_
        rintro e w1 ⟨rfl, hb1⟩
        go_wp2_with fail
        go_roundw
        case rel => exact ⟨k + 1, by go_num, by omega, HN.out, HT.out.2.2.trans (hb1.mono HT.out.2.2.size)⟩
        case measure => simp [intOf] <;> omega
    · obtain rfl : k = l.length := by omega
      have HN := Lib.hid (idx_none (p := p) (l := l) (by rw [List.take_length] at ht; exact ht)).1
      clear ht
      go_wp2_with fail
      go_ret
      exact ⟨by rw [HN.out]; rfl, hb⟩

set_option maxRecDepth 100000 in
set_option maxHeartbeats 2000000 in
theorem any_ready (cap1 : Value) (p : Int × Int → Bool) (l : List (Int × Int)) (A : Option Addr) (c : Nat) (w : World) (hl : l.length ≤ maxLen) (hA : SlAt w A (refs l))
    (hcall : ∀ r ∈ l, ∀ W, Below w.heap.size w W → Calls Tryz.prog 75 #[.agg #[.int .i64 r.1, .int .i64 r.2], cap1] W fun e w' => e = .returned (.bool (p r)) ∧ Below W.heap.size W w') :
    Calls Tryz.prog 41 #[.slice A l.length c, (.func (.func 75) #[] #[cap1])] w fun e w' => e = .returned (.bool (l.any p)) ∧ Below w.heap.size w w' := by
  have HCC := Lib.hid (idx_ready cap1 p l A c w hl hA hcall)
  have HN := Lib.hid (idx_any p l)
  obtain ⟨i, hi⟩ : ∃ i, idxOf p l = i := ⟨_, rfl⟩
  rw [hi] at HCC HN
  clear hA hcall hl hi
  go_enter Tryz.func41, Tryz.ntmps41
  go_wp2_with fail
  refine HCC.out.mono ?_
  rintro e w1 ⟨rfl, hb⟩
  go_wp2_with fail
  go_ret
  exact ⟨by rw [← HN.out]; rfl, hb⟩

set_option maxRecDepth 100000 in
set_option maxHeartbeats 2000000 in
theorem idx_done (cap1 : Value) (p : Int × Int → Bool) (l : List (Int × Int)) (A : Option Addr) (c : Nat) (w : World) (hl : l.length ≤ maxLen) (hA : SlAt w A (refs l))
    (hcall : ∀ r ∈ l, ∀ W, Below w.heap.size w W → Calls Tryz.prog 42 #[.agg #[.int .i64 r.1, .int .i64 r.2], cap1] W fun e w' => e = .returned (.bool (p r)) ∧ Below W.heap.size W w') :
    Calls Tryz.prog 39 #[.slice A l.length c, (.func (.func 42) #[] #[cap1])] w fun e w' => e = .returned (.int .i64 (idxOf p l)) ∧ Below w.heap.size w w' := by
  have hml : l.length ≤ 9223372036854775807 := Nat.le_trans hl (by decide)
  have HH := Lib.hid (And.intro hA hcall)
  clear hA hcall hl
  go_enter Tryz.func39, Tryz.ntmps39
  go_wp2_with fail
  go_loopw [8, 5] (fun iv _ wr => ∃ k : Nat, iv = .int .i64 k ∧ k ≤ l.length ∧ (∀ x ∈ l.take k, p x = false) ∧ Below w.heap.size w wr) (fun iv _ _ => l.length - (intOf iv).toNat)
  case atStart => exact ⟨0, rfl, by omega, by simp, Below.refl _ _⟩
  case round =>
    obtain ⟨k, rfl, hk, ht, hb⟩ := hrel
    by_cases hlt : k < l.length
    · have d0 : decide ((k : Int) < (l.length : Int)) = true := decide_eq_true (by omega)
      obtain ⟨b, off, r, rfl, hr, hx, hy⟩ := (HH.out.1.below hb).ref hlt
      have HC := Lib.hid (HH.out.2 r (List.mem_of_getElem? hr) wr hb)
      have HT := Lib.hid (And.intro ht (And.intro hr hb))
      clear ht hr hb
      cases hp : p r with
      | true =>
        rw [hp] at HC
        have HN := Lib.hid (idx_hit HT.out.1 HT.out.2.1 hp).1
        clear hp
        go_wp2_with fail
        refine HC.out.mono ?_
        rintro e w1 ⟨rfl, hb1⟩
        go_wp2_with fail
        go_ret
        exact ⟨by rw [HN.out]; rfl, HT.out.2.2.trans (hb1.mono HT.out.2.2.size)⟩
      | false =>
        rw [hp] at HC
        have HN := Lib.hid (take_false HT.out.1 HT.out.2.1 hp)
        clear hp
        go_wp2_with fail
        refine HC.out.mono ?_
        rintro e w1 ⟨rfl, hb1⟩
        go_wp2_with fail
        go_roundw
        case rel => exact ⟨k + 1, by go_num, by omega, HN.out, HT.out.2.2.trans (hb1.mono HT.out.2.2.size)⟩
        case measure => simp [intOf] <;> omega
    · obtain rfl : k = l.length := by omega
      have HN := Lib.hid (idx_none (p := p) (l := l) (by rw [List.take_length] at ht; exact ht)).1
      clear ht
      go_wp2_with fail
      go_ret
      exact ⟨by rw [HN.out]; rfl, hb⟩

set_option maxRecDepth 100000 in
set_option maxHeartbeats 2000000 in
theorem any_done (cap1 : Value) (p : Int × Int → Bool) (l : List (Int × Int)) (A : Option Addr) (c : Nat) (w : World) (hl : l.length ≤ maxLen) (hA : SlAt w A (refs l))
    (hcall : ∀ r ∈ l, ∀ W, Below w.heap.size w W → Calls Tryz.prog 42 #[.agg #[.int .i64 r.1, .int .i64 r.2], cap1] W fun e w' => e = .returned (.bool (p r)) ∧ Below W.heap.size W w') :
    Calls Tryz.prog 41 #[.slice A l.length c, (.func (.func 42) #[] #[cap1])] w fun e w' => e = .returned (.bool (l.any p)) ∧ Below w.heap.size w w' := by
  have HCC := Lib.hid (idx_done cap1 p l A c w hl hA hcall)
  have HN := Lib.hid (idx_any p l)
  obtain ⟨i, hi⟩ : ∃ i, idxOf p l = i := ⟨_, rfl⟩
  rw [hi] at HCC HN
  clear hA hcall hl hi
  go_enter Tryz.func41, Tryz.ntmps41
  go_wp2_with fail
  refine HCC.out.mono ?_
  rintro e w1 ⟨rfl, hb⟩
  go_wp2_with fail
  go_ret
  exact ⟨by rw [← HN.out]; rfl, hb⟩

set_option maxRecDepth 100000 in
set_option maxHeartbeats 2000000 in
theorem idx_all (cap1 cap2 : Value) (p : Int × Int → Bool) (l : List (Int × Int)) (A : Option Addr) (c : Nat) (w : World) (hl : l.length ≤ maxLen) (hA : SlAt w A (refs l))
    (hcall : ∀ r ∈ l, ∀ W, Below w.heap.size w W → Calls Tryz.prog 40 #[.agg #[.int .i64 r.1, .int .i64 r.2], cap1, cap2] W fun e w' => e = .returned (.bool (p r)) ∧ Below W.heap.size W w') :
    Calls Tryz.prog 39 #[.slice A l.length c, (.func (.func 40) #[] #[cap1, cap2])] w fun e w' => e = .returned (.int .i64 (idxOf p l)) ∧ Below w.heap.size w w' := by
  have hml : l.length ≤ 9223372036854775807 := Nat.le_trans hl (by decide)
  have HH := Lib.hid (And.intro hA hcall)
  clear hA hcall hl
  go_enter Tryz.func39, Tryz.ntmps39
  go_wp2_with fail
  go_loopw [8, 5] (fun iv _ wr => ∃ k : Nat, iv = .int .i64 k ∧ k ≤ l.length ∧ (∀ x ∈ l.take k, p x = false) ∧ Below w.heap.size w wr) (fun iv _ _ => l.length - (intOf iv).toNat)
  case atStart => exact ⟨0, rfl, by omega, by simp, Below.refl _ _⟩
  case round =>
    obtain ⟨k, rfl, hk, ht, hb⟩ := hrel
    by_cases hlt : k < l.length
    · have d0 : decide ((k : Int) < (l.length : Int)) = true := decide_eq_true (by omega)
      obtain ⟨b, off, r, rfl, hr, hx, hy⟩ := (HH.out.1.below hb).ref hlt
      have HC := Lib.hid (HH.out.2 r (List.mem_of_getElem? hr) wr hb)
      have HT := Lib.hid (And.intro ht (And.intro hr hb))
      clear ht hr hb
      cases hp : p r with
      | true =>
        rw [hp] at HC
        have HN := Lib.hid (idx_hit HT.out.1 HT.out.2.1 hp).1
        clear hp
        go_wp2_with fail
        refine HC.out.mono ?_
        rintro e w1 ⟨rfl, hb1⟩
        go_wp2_with fail
        go_ret
        exact ⟨by rw [HN.out]; rfl, HT.out.2.2.trans (hb1.mono HT.out.2.2.size)⟩
      | false =>
        rw [hp] at HC
        have HN := Lib.hid (take_false HT.out.1 HT.out.2.1 hp)
        clear hp
        go_wp2_with fail
        refine HC.out.mono ?_
        rintro e w1 ⟨rfl, hb1⟩
        go_wp2_with fail
        go_roundw
        case rel => exact ⟨k + 1, by go_num, by omega, HN.out, HT.out.2.2.trans (hb1.mono HT.out.2.2.size)⟩
        case measure => simp [intOf] <;> omega
    · obtain rfl : k = l.length := by omega
      have HN := Lib.hid (idx_none (p := p) (l := l) (by rw [List.take_length] at ht; exact ht)).1
      clear ht
      go_wp2_with fail
      go_ret
      exact ⟨by rw [HN.out]; rfl, hb⟩

set_option maxRecDepth 100000 in
set_option maxHeartbeats 2000000 in
theorem any_all (cap1 cap2 : Value) (p : Int × Int → Bool) (l : List (Int × Int)) (A : Option Addr) (c : Nat) (w : World) (hl : l.length ≤ maxLen) (hA : SlAt w A (refs l))
    (hcall : ∀ r ∈ l, ∀ W, Below w.heap.size w W → Calls Tryz.prog 40 #[.agg #[.int .i64 r.1, .int .i64 r.2], cap1, cap2] W fun e w' => e = .returned (.bool (p r)) ∧ Below W.heap.size W w') :
    Calls Tryz.prog 41 #[.slice A l.length c, (.func (.func 40) #[] #[cap1, cap2])] w fun e w' => e = .returned (.bool (l.any p)) ∧ Below w.heap.size w w' := by
  have HCC := Lib.hid (idx_all cap1 cap2 p l A c w hl hA hcall)
  have HN := Lib.hid (idx_any p l)
  obtain ⟨i, hi⟩ : ∃ i, idxOf p l = i := ⟨_, rfl⟩
  rw [hi] at HCC HN
  clear hA hcall hl hi
  go_enter Tryz.func41, Tryz.ntmps41
  go_wp2_with fail
  refine HCC.out.mono ?_
  rintro e w1 ⟨rfl, hb⟩
  go_wp2_with fail
  go_ret
  exact ⟨by rw [← HN.out]; rfl, hb⟩

set_option maxRecDepth 100000 in
set_option maxHeartbeats 2000000 in
theorem idx_heads (cap1 : Value) (p : Int × Int → Bool) (l : List (Int × Int)) (A : Option Addr) (c : Nat) (w : World) (hl : l.length ≤ maxLen) (hA : SlAt w A (refs l))
    (hcall : ∀ r ∈ l, ∀ W, Below w.heap.size w W → Calls Tryz.prog 38 #[.agg #[.int .i64 r.1, .int .i64 r.2], cap1] W fun e w' => e = .returned (.bool (p r)) ∧ Below W.heap.size W w') :
    Calls Tryz.prog 39 #[.slice A l.length c, (.func (.func 38) #[] #[cap1])] w fun e w' => e = .returned (.int .i64 (idxOf p l)) ∧ Below w.heap.size w w' := by
  have hml : l.length ≤ 9223372036854775807 := Nat.le_trans hl (by decide)
  have HH := Lib.hid (And.intro hA hcall)
  clear hA hcall hl
  go_enter Tryz.func39, Tryz.ntmps39
  go_wp2_with fail
  go_loopw [8, 5] (fun iv _ wr => ∃ k : Nat, iv = .int .i64 k ∧ k ≤ l.length ∧ (∀ x ∈ l.take k, p x = false) ∧ Below w.heap.size w wr) (fun iv _ _ => l.length - (intOf iv).toNat)
  case atStart => exact ⟨0, rfl, by omega, by simp, Below.refl _ _⟩
  case round =>
    obtain ⟨k, rfl, hk, ht, hb⟩ := hrel
    by_cases hlt : k < l.length
    · have d0 : decide ((k : Int) < (l.length : Int)) = true := decide_eq_true (by omega)
      obtain ⟨b, off, r, rfl, hr, hx, hy⟩ := (HH.out.1.below hb).ref hlt
      have HC := Lib.hid (HH.out.2 r (List.mem_of_getElem? hr) wr hb)
      have HT := Lib.hid (And.intro ht (And.intro hr hb))
      clear ht hr hb
      cases hp : p r with
      | true =>
        rw [hp] at HC
        have HN := Lib.hid (idx_hit HT.out.1 HT.out.2.1 hp).1
        clear hp
        go_wp2_with fail
        refine HC.out.mono ?_
        rintro e w1 ⟨rfl, hb1⟩
        go_wp2_with fail
        go_ret
        exact ⟨by rw [HN.out]; rfl, HT.out.2.2.trans (hb1.mono HT.out.2.2.size)⟩
      | false =>
        rw [hp] at HC
        have HN := Lib.hid (take_false HT.out.1 HT.out.2.1 hp)
        clear hp
        go_wp2_with fail
        refine HC.out.mono ?_
        rintro e w1 ⟨rfl, hb1⟩
        go_wp2_with fail
        go_roundw
        case rel => exact ⟨k + 1, by go_num, by omega, HN.out, HT.out.2.2.trans (hb1.mono HT.out.2.2.size)⟩
        case measure => simp [intOf] <;> omega
    · obtain rfl : k = l.length := by omega
      have HN := Lib.hid (idx_none (p := p) (l := l) (by rw [List.take_length] at ht; exact ht)).1
      clear ht
      go_wp2_with fail
      go_ret
      exact ⟨by rw [HN.out]; rfl, hb⟩

set_option maxRecDepth 100000 in
set_option maxHeartbeats 2000000 in
theorem any_heads (cap1 : Value) (p : Int × Int → Bool) (l : List (Int × Int)) (A : Option Addr) (c : Nat) (w : World) (hl : l.length ≤ maxLen) (hA : SlAt w A (refs l))
    (hcall : ∀ r ∈ l, ∀ W, Below w.heap.size w W → Calls Tryz.prog 38 #[.agg #[.int .i64 r.1, .int .i64 r.2], cap1] W fun e w' => e = .returned (.bool (p r)) ∧ Below W.heap.size W w') :
    Calls Tryz.prog 41 #[.slice A l.length c, (.func (.func 38) #[] #[cap1])] w fun e w' => e = .returned (.bool (l.any p)) ∧ Below w.heap.size w w' := by
  have HCC := Lib.hid (idx_heads cap1 p l A c w hl hA hcall)
  have HN := Lib.hid (idx_any p l)
  obtain ⟨i, hi⟩ : ∃ i, idxOf p l = i := ⟨_, rfl⟩
  rw [hi] at HCC HN
  clear hA hcall hl hi
  go_enter Tryz.func41, Tryz.ntmps41
  go_wp2_with fail
  refine HCC.out.mono ?_
  rintro e w1 ⟨rfl, hb⟩
  go_wp2_with fail
  go_ret
  exact ⟨by rw [← HN.out]; rfl, hb⟩
end Go.Proofs.YteknflimfdkhoaaGreat
