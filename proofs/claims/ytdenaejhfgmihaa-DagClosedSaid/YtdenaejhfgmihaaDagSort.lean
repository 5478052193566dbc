/- slices.SortFunc at refs by id.CompareRefs: a contract, out of the library's. -/
import Derived.Test.YtdenaejhfgmihaaDagId
import Derived.Test.YtdenaejhfgmihaaShelfR
import Derived.Laws.OwnMore
namespace Go.Proofs.Ytdenaejhfgmihaa
open Go.RowKit Go.Sort Go.Proofs
set_option linter.unusedVariables false
set_option linter.unusedSimpArgs false

def encR (x : Int × Int) : List Value := [.int .i64 x.1, .int .i64 x.2]

set_option maxRecDepth 100000 in
set_option maxHeartbeats 800000 in
theorem compareRefs_grow (a b : Int × Int) (w : World) :
    Calls Try.prog 41 #[.agg #[.int .i64 a.1, .int .i64 a.2], .agg #[.int .i64 b.1, .int .i64 b.2]] w fun e w' => e = .returned (.int .i64 (cmpId a b)) ∧ ∃ q os', w' = grow (w.drewN q) os' := by
  obtain ⟨a1, a2⟩ := a
  obtain ⟨b1, b2⟩ := b
  simp only
  have hgr : ∃ q os', ((((w.alloc (.cells #[.int .i64 a1, .int .i64 a2] 34)).alloc (.cells #[.int .i64 b1, .int .i64 b2] 34)).alloc (.cells #[.int .i64 (cmpI a1 b1), .int .i64 (cmpI a2 b2)] 3)).drew) = grow (w.drewN q) os' :=
    ⟨1, _, by rw [alloc_eq_grow, alloc_eq_grow, alloc_eq_grow, grow_grow, grow_grow]; rfl⟩
  have hsl : SlAt ((((w.alloc (.cells #[.int .i64 a1, .int .i64 a2] 34)).alloc (.cells #[.int .i64 b1, .int .i64 b2] 34)).alloc (.cells #[.int .i64 (cmpI a1 b1), .int .i64 (cmpI a2 b2)] 3)).drew) (some ⟨w.heap.size + 1 + 1, 0, none⟩) (ints [cmpI a1 b1, cmpI a2 b2]) :=
    .inr ⟨_, 0, rfl, fun j u hu => by
      have hB : Blk ((((w.alloc (.cells #[.int .i64 a1, .int .i64 a2] 34)).alloc (.cells #[.int .i64 b1, .int .i64 b2] 34)).alloc (.cells #[.int .i64 (cmpI a1 b1), .int .i64 (cmpI a2 b2)] 3)).drew) (w.heap.size + 1 + 1) 3 #[.int .i64 (cmpI a1 b1), .int .i64 (cmpI a2 b2)] := Blk.newer ((w.alloc (.cells #[.int .i64 a1, .int .i64 a2] 34)).alloc (.cells #[.int .i64 b1, .int .i64 b2] 34)) _ _ (by simp)
      rw [Nat.zero_add, hB.cell]
      simpa [ints] using hu⟩
  have hor : Calls Try.prog 53 #[.slice (some ⟨w.heap.size + 1 + 1, 0, none⟩) 2 2] _ _ := or_any (some ⟨w.heap.size + 1 + 1, 0, none⟩) 2 [cmpI a1 b1, cmpI a2 b2] _ hsl (by simp)
  have HOR := Lib.hid hor
  have HB := Lib.hid hgr
  have HD := Lib.hid (show cmpId (a1, a2) (b1, b2) = firstNZ [cmpI a1 b1, cmpI a2 b2] from rfl)
  clear hgr hsl hor
  go_enter Try.func41, Try.ntmps41
  go_wp2_with fail
  go_region_held3 (fun w' => w'.cell? ⟨w.heap.size, 0, none⟩ = some (.int .i64 a1) ∧ w'.cell? ⟨w.heap.size, 1, none⟩ = some (.int .i64 a2) ∧ w'.cell? ⟨w.heap.size + 1, 0, none⟩ = some (.int .i64 b1) ∧ w'.cell? ⟨w.heap.size + 1, 1, none⟩ = some (.int .i64 b2)) (go_keep) (first
    | (go_simp; go_at_call 54; (with_reducible refine (compare_int _ _ _).mono ?_); rintro e w' ⟨rfl, rfl⟩)
    | (go_simp; go_at_call 53; (with_reducible refine HOR.out.mono ?_); rintro e w' ⟨rfl, rfl⟩))
  all_goals
    go_wp2_with fail
    go_ret
    exact ⟨by rw [HD.out]; rfl, HB.out⟩

theorem refs_get : ∀ (l : List (Int × Int)) (t : Nat), t < l.length * 2 → (refs l)[t]? = some ((encR (l[t / 2]!))[t % 2]!)
  | [], t, h => by simp at h
  | x :: l, 0, h => rfl
  | x :: l, 1, h => rfl
  | x :: l, t + 2, h => by
    have ih := refs_get l t (by simp at h; omega)
    have e1 : (t + 2) / 2 = t / 2 + 1 := by omega
    have e2 : (t + 2) % 2 = t % 2 := by omega
    rw [e1, e2]
    show (refs l)[t]? = _
    rw [ih]
    simp
theorem flat_refs (l : List (Int × Int)) : (flatK encR 2 l.toArray).toList = refs l := by
  apply List.ext_getElem?
  intro t
  by_cases h : t < l.length * 2
  · rw [refs_get l t h]
    simp [flatK, h]
  · rw [List.getElem?_eq_none (by simp; omega), List.getElem?_eq_none (by rw [refs_length]; omega)]

theorem swo_refs : SWO (ltOf cmpId) where
  irrefl x := by
    have h := cmpId_neg x x
    unfold ltOf
    rw [decide_eq_false]
    rw [h]; omega
  trans x y z h1 h2 := by
    unfold ltOf at *
    have a := cmpId_neg x y
    have b := cmpId_neg y z
    have c := cmpId_neg x z
    simp only [decide_eq_true_eq] at *
    rw [a] at h1
    rw [b] at h2
    rw [c]
    omega
  ntrans x y z h1 h2 := by
    unfold ltOf at *
    have a := cmpId_neg x y
    have b := cmpId_neg y z
    have c := cmpId_neg x z
    simp only [decide_eq_false_iff_not] at *
    rw [a] at h1
    rw [b] at h2
    rw [c]
    omega
theorem tot_refs (x y : Int × Int) (h1 : ltOf cmpId x y = false) (h2 : ltOf cmpId y x = false) : x = y := by
  unfold ltOf at *
  have a := cmpId_neg x y
  have b := cmpId_neg y x
  simp only [decide_eq_false_iff_not] at *
  rw [a] at h1
  rw [b] at h2
  exact Prod.ext (by omega) (by omega)

/-- The refs, rising. -/
def sortR (l : List (Int × Int)) : List (Int × Int) := l.mergeSort fun x y => !(ltOf cmpId) y x
theorem sortR_len (l : List (Int × Int)) : (sortR l).length = l.length := by unfold sortR; exact List.length_mergeSort l

theorem take_putCells2 (cur : Array Value) (F : Array Value) (h : F.size ≤ cur.size) : (putCells id 0 F cur).toList.take F.size = F.toList := by
  apply List.ext_getElem?
  intro j
  by_cases hj : j < F.size
  · rw [List.getElem?_take_of_lt hj, Array.getElem?_toList]
    simp [putCells, hj, show j < cur.size by omega]
  · rw [List.getElem?_take_eq_none (by omega), List.getElem?_eq_none (by simp; omega)]

set_option maxHeartbeats 1000000 in
theorem sortRefs_any (B g cap : Nat) (l : List (Int × Int)) (w : World) (hO : w.ownsRow B 34 2 (.slice (some ⟨g, 0, none⟩) l.length cap) l.length (refs l)) (hl : l.length < 4611686018427387904) :
    Calls Try.prog 40 #[.slice (some ⟨g, 0, none⟩) l.length cap, .func (.func 41) #[] #[]] w fun e w' =>
      e = .returned (.tuple #[]) ∧ w'.ownsRow B 34 2 (.slice (some ⟨g, 0, none⟩) l.length cap) l.length (refs (sortR l)) ∧ Only (fun i => i = g) w w' := by
  have eg : ∀ args w, (callFunc 41 args).run Try.prog w = .ok (.enter 41 args) w := enters_of Try.func41 (by kernel_rfl) rfl
  obtain ⟨cur, hbase, hb, h1, h2, h3, h4⟩ : ∃ cur, B ≤ g ∧ w.heap[g]? = some (.cells cur 34 (0, 0)) ∧ l.length ≤ cap ∧ cap ≤ maxLen ∧ cur.size = cap * 2 ∧ cur.toList.take (l.length * 2) = refs l := by
    rcases hO.2 with ⟨hv, _⟩ | ⟨g', cap', cur, hv, a1, a2, a3, a4, a5, a6⟩
    · cases hv
    · cases hv
      exact ⟨cur, a1, a2, a3, a4, a5, a6⟩
  have hg : g < w.heap.size := (Array.getElem?_eq_some_iff.1 hb).1
  have hH : HoldsK encR 2 w g 0 l.toArray := by
    intro j hj
    have hj' : j < l.length * 2 := by simpa using hj
    refine ⟨?_, by simp [World.frozen?, hb]⟩
    have e1 : (cur.toList.take (l.length * 2))[j]? = (refs l)[j]? := by rw [h4]
    rw [List.getElem?_take_of_lt hj', refs_get l j hj'] at e1
    simp only [World.cell?, hb, Nat.zero_add]
    simp only [Option.isSome_none, Bool.false_eq_true, if_false]
    rw [← Array.getElem?_toList, e1, get_flatK encR 2 l.toArray j (by simpa using hj')]
    simp
  have hcon := AnyQ.slices_SortFunc_total Try.laysSortR 2 (fun _ => by kernel_rfl) (fun _ => by kernel_rfl) encR (fun _ => rfl) (fun x v hv => by simp [encR] at hv; rcases hv with rfl | rfl <;> rfl) cmpId swo_refs 41 #[] g 0 cap l.toArray w eg (fun _ _ _ _ x y => compareRefs_grow x y _) hH hg (by simpa using hl) tot_refs
  change Calls Try.prog 40 _ _ _ at hcon
  rw [show (l.toArray.toList.mergeSort fun x y => !(ltOf cmpId) y x) = sortR l from rfl] at hcon
  have e0 : l.toArray.size = l.length := by simp
  rw [e0] at hcon
  refine hcon.mono ?_
  rintro e w' ⟨rfl, n, os, rfl⟩
  have hfs : (flatK encR 2 (sortR l).toArray).size = l.length * 2 := by simp [sortR_len]
  refine ⟨rfl, ⟨by rw [refs_length, sortR_len], .inr ⟨g, cap, putCells id 0 (flatK encR 2 (sortR l).toArray) cur, rfl, hbase, ?_, h1, h2, by simp [putCells, h3], ?_⟩⟩, ?_⟩
  · show (grow (putRow id (Sort.ahead w n) g 0 (flatK encR 2 (sortR l).toArray)) os).heap[g]? = _
    rw [heap_grow_old _ _ (by simpa using hg)]
    simp [putRow, mapBlock, Sort.ahead, Array.getElem?_modify, hb, onCells]
  · rw [← hfs, take_putCells2 _ _ (by rw [hfs, h3]; exact Nat.mul_le_mul_right _ h1), flat_refs]
  · refine ⟨rfl, rfl, rfl, ?_, fun k hk hne => ?_⟩
    · show w.heap.size ≤ (grow (putRow id (Sort.ahead w n) g 0 (flatK encR 2 (sortR l).toArray)) os).heap.size
      simp
    · show (grow (putRow id (Sort.ahead w n) g 0 (flatK encR 2 (sortR l).toArray)) os).heap[k]? = _
      rw [heap_grow_old _ _ (by simpa using hk)]
      have : g ≠ k := fun e => hne e.symm
      simp [putRow, mapBlock, Sort.ahead, Array.getElem?_modify, this]

theorem sortNone_any (p : Option Addr) (cap : Nat) (fv : Value) (w : World) : Calls Try.prog 40 #[.slice p 0 cap, fv] w fun e w' => e = .returned (.tuple #[]) ∧ w' = w :=
  AnyF.slices_SortFunc_none Try.laysSortR p cap fv w
end Go.Proofs.Ytdenaejhfgmihaa
