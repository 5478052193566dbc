/- slices.SortFunc at ids, rising and falling: contracts, out of the library's. What a book makes of a change: plain. -/
import Derived.Test.YthimkpkoimfkiaaGreatCg7
import Derived.Test.YthimkpkoimfkiaaGreatShelfI
import Derived.Laws.OwnMore
import Derived.Test.YthimkpkoimfkiaaGreatCg4
import Derived.Test.YthimkpkoimfkiaaGreatCg18
namespace Go.Proofs.YthimkpkoimfkiaaGreat
open Go.RowKit Go.Sort Go.Proofs
set_option linter.unusedVariables false
set_option linter.unusedSimpArgs false

def sortC (cmp : Int × Int → Int × Int → Int) (l : List (Int × Int)) : List (Int × Int) := l.mergeSort fun x y => !(ltOf cmp) y x
theorem sortC_len (cmp : Int × Int → Int × Int → Int) (l : List (Int × Int)) : (sortC cmp l).length = l.length := by unfold sortC; exact List.length_mergeSort l
theorem sortC_perm (cmp : Int × Int → Int × Int → Int) (l : List (Int × Int)) : (sortC cmp l).Perm l := by unfold sortC; exact List.mergeSort_perm l _
def cmpDown (a b : Int × Int) : Int := cmpId b a
theorem swo_down : SWO (ltOf cmpDown) where
  irrefl x := swo_refs.irrefl x
  trans x y z h1 h2 := swo_refs.trans z y x h2 h1
  ntrans x y z h1 h2 := swo_refs.ntrans z y x h2 h1
theorem tot_down (x y : Int × Int) (h1 : ltOf cmpDown x y = false) (h2 : ltOf cmpDown y x = false) : x = y := tot_refs x y h2 h1
set_option maxHeartbeats 1000000 in
theorem sortIds_any (cmp : Int × Int → Int × Int → Int) (swo : SWO (ltOf cmp)) (tot : ∀ x y, ltOf cmp x y = false → ltOf cmp y x = false → x = y) (F : FuncId) (eg : ∀ args w, (callFunc F args).run Tryz.prog w = .ok (.enter F args) w)
    (hF : ∀ (a b : Int × Int) (w : World), Calls Tryz.prog F #[.agg #[.int .i64 a.1, .int .i64 a.2], .agg #[.int .i64 b.1, .int .i64 b.2]] w fun e w' => e = .returned (.int .i64 (cmp a b)) ∧ ∃ q os', w' = grow (w.drewN q) os') (B g cap : Nat) (l : List (Int × Int)) (w : World) (hO : w.ownsRow B 24 2 (.slice (some ⟨g, 0, none⟩) l.length cap) l.length (refs l)) (hl : l.length < 4611686018427387904) :
    Calls Tryz.prog 52 #[.slice (some ⟨g, 0, none⟩) l.length cap, .func (.func F) #[] #[]] w fun e w' =>
      e = .returned (.tuple #[]) ∧ w'.ownsRow B 24 2 (.slice (some ⟨g, 0, none⟩) l.length cap) l.length (refs (sortC cmp l)) ∧ Only (fun i => i = g) w w' := by
  obtain ⟨cur, hbase, hb, h1, h2, h3, h4⟩ : ∃ cur, B ≤ g ∧ w.heap[g]? = some (.cells cur 24 (0, 0)) ∧ l.length ≤ cap ∧ cap ≤ maxLen ∧ cur.size = cap * 2 ∧ cur.toList.take (l.length * 2) = refs l := by
    rcases hO.2 with ⟨hv, _⟩ | ⟨g', cap', cur, hv, a1, a2, a3, a4, a5, a6⟩
    · cases hv
    · cases hv
      exact ⟨cur, a1, a2, a3, a4, a5, a6⟩
  have hg : g < w.heap.size := (Array.getElem?_eq_some_iff.1 hb).1
  have hH : HoldsK encR 2 w g 0 l.toArray := by
    intro j hj
    have hj' : j < l.length * 2 := by simpa using hj
    refine ⟨?_, by simp [World.frozen?, hb]⟩
    have e1 : (cur.toList.take (l.length * 2))[j]? = (refs l)[j]? := by rw [h4]
    rw [List.getElem?_take_of_lt hj', refs_get l j hj'] at e1
    simp only [World.cell?, hb, Nat.zero_add]
    simp only [Option.isSome_none, Bool.false_eq_true, if_false]
    rw [← Array.getElem?_toList, e1, get_flatK encR 2 l.toArray j (by simpa using hj')]
    simp
  have hcon := AnyQ.slices_SortFunc_total Tryz.laysSortI 2 (fun _ => by kernel_rfl) (fun _ => by kernel_rfl) encR (fun _ => rfl) (fun x v hv => by simp [encR] at hv; rcases hv with rfl | rfl <;> rfl) cmp swo F #[] g 0 cap l.toArray w eg (fun _ _ _ _ x y => hF x y _) hH hg (by simpa using hl) tot
  change Calls Tryz.prog 52 _ _ _ at hcon
  rw [show (l.toArray.toList.mergeSort fun x y => !(ltOf cmp) y x) = sortC cmp l from rfl] at hcon
  have e0 : l.toArray.size = l.length := by simp
  rw [e0] at hcon
  refine hcon.mono ?_
  rintro e w' ⟨rfl, n, os, rfl⟩
  have hfs : (flatK encR 2 (sortC cmp l).toArray).size = l.length * 2 := by simp [sortC_len]
  refine ⟨rfl, ⟨by rw [refs_length, sortC_len], .inr ⟨g, cap, putCells id 0 (flatK encR 2 (sortC cmp l).toArray) cur, rfl, hbase, ?_, h1, h2, by simp [putCells, h3], ?_⟩⟩, ?_⟩
  · show (grow (putRow id (Sort.ahead w n) g 0 (flatK encR 2 (sortC cmp l).toArray)) os).heap[g]? = _
    rw [heap_grow_old _ _ (by simpa using hg)]
    simp [putRow, mapBlock, Sort.ahead, Array.getElem?_modify, hb, onCells]
  · rw [← hfs, take_putCells2 _ _ (by rw [hfs, h3]; exact Nat.mul_le_mul_right _ h1), flat_refs]
  · refine ⟨rfl, rfl, rfl, ?_, fun k hk hne => ?_⟩
    · show w.heap.size ≤ (grow (putRow id (Sort.ahead w n) g 0 (flatK encR 2 (sortC cmp l).toArray)) os).heap.size
      simp
    · show (grow (putRow id (Sort.ahead w n) g 0 (flatK encR 2 (sortC cmp l).toArray)) os).heap[k]? = _
      rw [heap_grow_old _ _ (by simpa using hk)]
      have : g ≠ k := fun e => hne e.symm
      simp [putRow, mapBlock, Sort.ahead, Array.getElem?_modify, this]

theorem sortNoneI_any (p : Option Addr) (cap : Nat) (fv : Value) (w : World) : Calls Tryz.prog 52 #[.slice p 0 cap, fv] w fun e w' => e = .returned (.tuple #[]) ∧ w' = w :=
  AnyF.slices_SortFunc_none Tryz.laysSortI p cap fv w
end Go.Proofs.YthimkpkoimfkiaaGreat
namespace Go.Proofs.YthimkpkoimfkiaaGreat
open Go.RowKit
set_option linter.unusedVariables false
set_option linter.unusedSimpArgs false

def findR (L : List Ch) (r : Int × Int) : Option Ch := L.find? (fun c => decide (c.ref = r))
theorem findR_map (L : List PCh) (r : Int × Int) : findR (L.map PCh.ch) r = (findC L r).map PCh.ch := by
  unfold findR findC
  rw [List.find?_map]
  rfl
theorem findR_some {L : List Ch} {r : Int × Int} {c : Ch} (h : findR L r = some c) : c ∈ L ∧ c.ref = r := ⟨List.mem_of_find?_eq_some h, by simpa using List.find?_some h⟩
def sameC (a b : Ch) : Bool := (a.start == b.start) && (decide (a.deps = b.deps) && decide (a.ops = b.ops))
theorem sameB_eq (a b : PCh) : sameB a b = sameC a.ch b.ch := rfl
theorem sameC_iff {a b : Ch} (h : a.ref = b.ref) : sameC a b = true ↔ a = b := by
  unfold sameC
  rw [Bool.and_eq_true, Bool.and_eq_true, beq_iff_eq, decide_eq_true_eq, decide_eq_true_eq]
  obtain ⟨a1, a2, a3, a4, a5⟩ := a
  obtain ⟨b1, b2, b3, b4, b5⟩ := b
  have h1 : a1 = b1 := congrArg Prod.fst h
  have h2 : a2 = b2 := congrArg Prod.snd h
  subst h1 h2
  simp
def readyL (L : List Ch) (c : Ch) : Bool := c.deps.all (fun d => decide (d ∈ L.map Ch.ref))
/-- The first one that may come in. -/
structure IsFirst (L W : List Ch) (c : Ch) : Prop where
  mem : c ∈ W
  ok : readyL L c = true
  least : ∀ y ∈ W, readyL L y = true → lessId c.ref y.ref = true ∨ y.ref = c.ref
def outR (W : List Ch) (r : Int × Int) : List Ch := W.filter (fun x => decide (x.ref ≠ r))
/-- What waits comes in, as far as it may. -/
inductive Settles : List Ch → List Ch → List Ch → List Ch → Prop
  | done {L W : List Ch} : (∀ y ∈ W, readyL L y = false) → Settles L W L W
  | step {L W Lf Wf : List Ch} {c : Ch} : IsFirst L W c → Settles (if fitsB L c then L ++ [c] else L) (outR W c.ref) Lf Wf → Settles L W Lf Wf
theorem Settles.none {L Lf Wf : List Ch} (h : Settles L [] Lf Wf) : Lf = L ∧ Wf = [] := by
  cases h with
  | done h => exact ⟨rfl, rfl⟩
  | step h _ => exact absurd h.mem (by simp)
theorem lessId_irrefl (a : Int × Int) : lessId a a = false := by simp [lessId]
theorem lessId_asymm {a b : Int × Int} (h : lessId a b = true) : lessId b a = false := by
  simp [lessId] at h ⊢
  omega
theorem IsFirst.unique {L W : List Ch} {a b : Ch} (hn : (W.map Ch.ref).Nodup) (ha : IsFirst L W a) (hb : IsFirst L W b) : a = b := by
  have h : a.ref = b.ref := by
    rcases ha.least b hb.mem hb.ok with h1 | h1
    · rcases hb.least a ha.mem ha.ok with h2 | h2
      · rw [lessId_asymm h1] at h2; cases h2
      · exact h2
    · exact h1.symm
  exact nodup_inj hn ha.mem hb.mem h
/-- There is but one end. -/
theorem Settles.unique {L W A B C D : List Ch} (h : Settles L W A B) (hn : (W.map Ch.ref).Nodup) (k : Settles L W C D) : A = C ∧ B = D := by
  induction h generalizing C D with
  | done h =>
    cases k with
    | done _ => exact ⟨rfl, rfl⟩
    | step f _ => have := h _ f.mem; rw [f.ok] at this; cases this
  | step f g ih =>
    cases k with
    | done h => have := h _ f.mem; rw [f.ok] at this; cases this
    | step f2 g2 =>
      have := f.unique hn f2
      subst this
      refine ih ?_ g2
      exact ((List.filter_sublist (p := fun x => decide (x.ref ≠ _))).map Ch.ref).nodup hn
/-- What Take does. -/
def Takes (L W : List Ch) (c : Ch) (e : Int) (Lf Wf : List Ch) : Prop :=
  if chE c = 0 then
    match (findR L c.ref).or (findR W c.ref) with
    | some x => e = (if sameC x c = true then 0 else 8) ∧ Lf = L ∧ Wf = W
    | none =>
      if 120 ≤ L.length + W.length then e = 4 ∧ Lf = L ∧ Wf = W
      else if readyL L c = true then (if fitsB L c = true then e = 0 ∧ Settles (L ++ [c]) W Lf Wf else e = 7 ∧ Lf = L ∧ Wf = W)
      else e = 0 ∧ Lf = L ∧ Wf = W ++ [c]
  else e = chE c ∧ Lf = L ∧ Wf = W
theorem Takes.bad {L W : List Ch} {c : Ch} (h : chE c ≠ 0) : Takes L W c (chE c) L W := by unfold Takes; rw [if_neg h]; exact ⟨rfl, rfl, rfl⟩
theorem Takes.there {L W : List Ch} {c x : Ch} (h : chE c = 0) (hx : (findR L c.ref).or (findR W c.ref) = some x) {e : Int} (he : e = if sameC x c = true then 0 else 8) : Takes L W c e L W := by
  unfold Takes
  rw [if_pos h, hx]
  exact ⟨he, rfl, rfl⟩
theorem Takes.full {L W : List Ch} {c : Ch} (h : chE c = 0) (h1 : findR L c.ref = none) (h2 : findR W c.ref = none) (hl : 120 ≤ L.length + W.length) : Takes L W c 4 L W := by
  unfold Takes
  rw [if_pos h, h1, h2]
  dsimp only [Option.or]
  rw [if_pos hl]
  exact ⟨rfl, rfl, rfl⟩
theorem Takes.wait {L W : List Ch} {c : Ch} (h : chE c = 0) (h1 : findR L c.ref = none) (h2 : findR W c.ref = none) (hl : L.length + W.length < 120) (hr : readyL L c = false) : Takes L W c 0 L (W ++ [c]) := by
  unfold Takes
  rw [if_pos h, h1, h2]
  dsimp only [Option.or]
  rw [if_neg (by omega), if_neg (by rw [hr]; decide)]
  exact ⟨rfl, rfl, rfl⟩
theorem Takes.misfit {L W : List Ch} {c : Ch} (h : chE c = 0) (h1 : findR L c.ref = none) (h2 : findR W c.ref = none) (hl : L.length + W.length < 120) (hr : readyL L c = true) (hf : fitsB L c = false) : Takes L W c 7 L W := by
  unfold Takes
  rw [if_pos h, h1, h2]
  dsimp only [Option.or]
  rw [if_neg (by omega), if_pos hr, if_neg (by rw [hf]; decide)]
  exact ⟨rfl, rfl, rfl⟩
theorem Takes.fit {L W Lf Wf : List Ch} {c : Ch} (h : chE c = 0) (h1 : findR L c.ref = none) (h2 : findR W c.ref = none) (hl : L.length + W.length < 120) (hr : readyL L c = true) (hf : fitsB L c = true) (hs : Settles (L ++ [c]) W Lf Wf) : Takes L W c 0 Lf Wf := by
  unfold Takes
  rw [if_pos h, h1, h2]
  dsimp only [Option.or]
  rw [if_neg (by omega), if_pos hr, if_pos hf]
  exact ⟨rfl, hs⟩
end Go.Proofs.YthimkpkoimfkiaaGreat
