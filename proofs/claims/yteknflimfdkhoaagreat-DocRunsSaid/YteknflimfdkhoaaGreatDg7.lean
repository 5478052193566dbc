/- package id: Ref, Refs, CompareRefs: contracts. slices.SortFunc at refs by id.CompareRefs: a contract, out of the library's. -/
import Derived.Test.YteknflimfdkhoaaGreatDg4
import Derived.Test.YteknflimfdkhoaaGreatDg6
import Derived.Test.YteknflimfdkhoaaGreatShelfR
import Derived.Laws.OwnMore
namespace Go.Proofs.YteknflimfdkhoaaGreat
open Go.RowKit
set_option linter.unusedVariables false
set_option linter.unusedSimpArgs false

set_option maxRecDepth 100000 in
set_option maxHeartbeats 800000 in
theorem compareRefs_any (a b : Int × Int) (w : World) :
    Calls Tryz.prog 64 #[idV a, idV b] w fun e w' => e = .returned (.int .i64 (cmpId a b)) ∧ Below w.heap.size w w' := by
  obtain ⟨a1, a2⟩ := a
  obtain ⟨b1, b2⟩ := b
  unfold idV
  simp only
  have hbel : Below w.heap.size w ((((w.alloc (.cells #[.int .i64 a1, .int .i64 a2] 33)).alloc (.cells #[.int .i64 b1, .int .i64 b2] 33)).alloc (.cells #[.int .i64 (cmpI a1 b1), .int .i64 (cmpI a2 b2)] 3)).drew) := ((((Below.refl _ _).alloc (Nat.le_refl _) _).alloc (by simp) _).alloc (by simp; omega) _).drew
  have hsl : SlAt ((((w.alloc (.cells #[.int .i64 a1, .int .i64 a2] 33)).alloc (.cells #[.int .i64 b1, .int .i64 b2] 33)).alloc (.cells #[.int .i64 (cmpI a1 b1), .int .i64 (cmpI a2 b2)] 3)).drew) (some ⟨w.heap.size + 1 + 1, 0, none⟩) (ints [cmpI a1 b1, cmpI a2 b2]) :=
    .inr ⟨_, 0, rfl, fun j u hu => by
      have hB : Blk ((((w.alloc (.cells #[.int .i64 a1, .int .i64 a2] 33)).alloc (.cells #[.int .i64 b1, .int .i64 b2] 33)).alloc (.cells #[.int .i64 (cmpI a1 b1), .int .i64 (cmpI a2 b2)] 3)).drew) (w.heap.size + 1 + 1) 3 #[.int .i64 (cmpI a1 b1), .int .i64 (cmpI a2 b2)] := Blk.newer ((w.alloc (.cells #[.int .i64 a1, .int .i64 a2] 33)).alloc (.cells #[.int .i64 b1, .int .i64 b2] 33)) _ _ (by simp)
      rw [Nat.zero_add, hB.cell]
      simpa [ints] using hu⟩
  have hor : Calls Tryz.prog 82 #[.slice (some ⟨w.heap.size + 1 + 1, 0, none⟩) 2 2] _ _ := or_any (some ⟨w.heap.size + 1 + 1, 0, none⟩) 2 [cmpI a1 b1, cmpI a2 b2] _ hsl (by simp)
  have HOR := Lib.hid hor
  have HB := Lib.hid hbel
  have HD := Lib.hid (show cmpId (a1, a2) (b1, b2) = firstNZ [cmpI a1 b1, cmpI a2 b2] from rfl)
  clear hbel hsl hor
  go_enter Tryz.func64, Tryz.ntmps64
  go_wp2_with fail
  go_region_held3 (fun w' => w'.cell? ⟨w.heap.size, 0, none⟩ = some (.int .i64 a1) ∧ w'.cell? ⟨w.heap.size, 1, none⟩ = some (.int .i64 a2) ∧ w'.cell? ⟨w.heap.size + 1, 0, none⟩ = some (.int .i64 b1) ∧ w'.cell? ⟨w.heap.size + 1, 1, none⟩ = some (.int .i64 b2)) (go_keep) (first
    | (go_simp; go_at_call 83; (with_reducible refine (compare_int _ _ _).mono ?_); rintro e w' ⟨rfl, rfl⟩)
    | (go_simp; go_at_call 82; (with_reducible refine HOR.out.mono ?_); rintro e w' ⟨rfl, rfl⟩))
  all_goals
    go_wp2_with fail
    go_ret
    exact ⟨by rw [HD.out]; rfl, HB.out⟩


theorem idRef_any (a s : Int) (w : World) : Calls Tryz.prog 68 #[.agg #[.int .i64 a, .int .i64 s]] w fun e w' => e = .returned (.bool (refOk (a, s))) ∧ Below w.heap.size w w' := by
  obtain ⟨p, hp⟩ : ∃ p, p = (decide (1 ≤ a) && decide (a ≤ 99)) := ⟨_, rfl⟩
  have HP := Lib.hid hp
  have HA := Lib.hid (fun w => actor_any a w)
  rw [← hp] at HA
  clear hp
  cases p with
  | false =>
    go_enter Tryz.func68, Tryz.ntmps68
    go_wp2_with (go_at_call 86; refine (HA.out _).mono ?_; rintro e w' ⟨rfl, rfl⟩)
    go_ret
    exact ⟨by unfold refOk; rw [← HP.out]; rfl, (Below.refl _ _).alloc (Nat.le_refl _) _⟩
  | true =>
    go_enter Tryz.func68, Tryz.ntmps68
    go_wp2_with ((first | (go_at_call 86; refine (HA.out _).mono ?_; rintro e w' ⟨rfl, rfl⟩) | (go_at_call 87; refine (num_any _ _).mono ?_; rintro e w' ⟨rfl, rfl⟩)))
    go_ret
    exact ⟨by unfold refOk; rw [← HP.out]; rfl, (Below.refl _ _).alloc (Nat.le_refl _) _⟩

theorem getD_at {l : List (Int × Int)} {k : Nat} {r : Int × Int} (h : l[k]? = some r) : l.getD k (0, 0) = r := by simp [List.getD, h]

set_option maxRecDepth 100000 in
set_option maxHeartbeats 1000000 in
theorem refsId_any (A : Option Addr) (c : Nat) (l : List (Int × Int)) (w : World) (hA : SlAt w A (refs l)) (hl : l.length ≤ maxLen) :
    Calls Tryz.prog 69 #[.slice A l.length c] w fun e w' => e = .returned (errC (refsE l)) ∧ Below w.heap.size w w' := by
  have hl' : l.length ≤ 9223372036854775807 := by unfold maxLen at hl; omega
  have HA := Lib.hid hA
  clear hl hA
  go_enter Tryz.func69, Tryz.ntmps69
  go_wp2_with fail
  go_loopw [7, 3, 4] (fun iv _ _ wr => ∃ k : Nat, k ≤ l.length ∧ iv = .int .i64 k ∧ firstF ((refsF l).drop k) = refsE l ∧ Below w.heap.size w wr) (fun iv _ _ _ => l.length - (intOf iv).toNat)
  case atStart => exact ⟨0, Nat.zero_le _, rfl, rfl, Below.refl _ _⟩
  case round =>
    obtain ⟨k, hk, rfl, hf, hb⟩ := hrel
    by_cases hlt : k < l.length
    · obtain ⟨b, off, r, rfl, hr, hx, hy⟩ := (HA.out.below hb).ref hlt
      have hF : (refsF l)[k]? = some (refF l k) := range_at _ _ _ hlt
      have H := Lib.hid (And.intro hr (And.intro hf (And.intro hF hb)))
      clear hr hf hF
      obtain ⟨p, hp⟩ : ∃ p, refOk r = p := ⟨_, rfl⟩
      have HR := Lib.hid (fun w => idRef_any r.1 r.2 w)
      have e1 : refOk (r.1, r.2) = p := hp
      rw [e1] at HR
      have HP := Lib.hid hp
      clear hp e1
      have hbs := hb.size
      clear hb
      cases p with
      | false =>
        go_wp2_with (go_at_call 68; refine (HR.out _).mono ?_; rintro e w1 ⟨rfl, hb1⟩)
        go_ret
        have e2 : refF l k = 1 := by unfold refF; rw [getD_at H.out.1, HP.out]; rfl
        exact ⟨by rw [← H.out.2.1, firstF_hit H.out.2.2.1 (by rw [e2]; decide), e2]; rfl, (H.out.2.2.2.alloc hbs _).trans (hb1.mono (by simp; omega))⟩
      | true =>
        go_wp2_with (go_at_call 68; refine (HR.out _).mono ?_; rintro e w1 ⟨rfl, hb1⟩)
        have H1 := Lib.hid (show Below w.heap.size w w1 from (H.out.2.2.2.alloc hbs _).trans (hb1.mono (by simp; omega)))
        have q0 : w1.cell? ⟨wr.heap.size, 0, none⟩ = some (.int .i64 r.1) := (hb1.cell (p := ⟨wr.heap.size, 0, none⟩) (by simp)).trans (by simp)
        have p0 := cell_below (((Below.refl _ wr).alloc (Nat.le_refl _) _).trans (hb1.mono (by simp))) hx
        by_cases hk0 : k = 0
        · have d0 : decide ((0 : Int) < (k : Int)) = false := by simp; omega
          have d0n : decide (0 < k) = false := by simp; omega
          have HN := Lib.hid (show refsE l = firstF ((refsF l).drop (k + 1)) from by
            rw [← H.out.2.1]
            exact firstF_zero H.out.2.2.1 (by unfold refF; rw [getD_at H.out.1, HP.out, if_neg (by decide), if_neg (by omega)]))
          clear hk0 hb1
          go_quiet (fail)
          go_wp2
          go_roundw
          case rel => exact ⟨k + 1, by omega, by go_num, HN.out.symm, H1.out.trans (below_drewN (Below.refl _ _) _)⟩
          case measure => simp [intOf]; omega
        · obtain ⟨m, rfl⟩ : ∃ m, k = m + 1 := ⟨k - 1, by omega⟩
          obtain ⟨b', off', r', hA', hr', hx', hy'⟩ := ((HA.out.below H1.out)).ref (k := m) (by omega)
          injection hA' with hA'
          injection hA' with hA1 hA2 _
          subst hA1 hA2
          have d0 : decide ((0 : Int) < ((m + 1 : Nat) : Int)) = true := decide_eq_true (by omega)
          have d1 : decide ((0 : Int) < (m : Int) + 1) = true := decide_eq_true (by omega)
          have d1n : decide (0 < m + 1) = true := by simp
          have hw : IntKind.i64.wrap (((m + 1 : Nat) : Int) - 1) = (m : Int) := by rw [IntWalk.i64_in _ ⟨by omega, by omega⟩]; omega
          have hw2 : IntKind.i64.wrap ((m : Int) + 1 - 1) = (m : Int) := by rw [IntWalk.i64_in _ ⟨by omega, by omega⟩]; omega
          have hm0 : 0 ≤ (m : Int) := by omega
          have hm1 : (m : Int) < l.length := by omega
          have HG := Lib.hid (show l.getD (m + 1) (0, 0) = r ∧ l.getD (m + 1 - 1) (0, 0) = r' from ⟨getD_at H.out.1, getD_at hr'⟩)
          clear hr' hk0 hb1
          by_cases hle : r.1 ≤ r'.1
          · have d2 : decide (r.1 ≤ r'.1) = true := decide_eq_true hle
            have HN := Lib.hid (show refsE l = 5 from by
              rw [← H.out.2.1]
              have e : refF l (m + 1) = 5 := by unfold refF; rw [HG.out.1, HG.out.2, HP.out, if_neg (by decide), if_pos ⟨by omega, hle⟩]
              rw [firstF_hit H.out.2.2.1 (by rw [e]; decide), e])
            go_quiet (fail)
            go_wp2
            go_ret
            exact ⟨by rw [HN.out]; rfl, H1.out.trans (below_drewN (Below.refl _ _) _)⟩
          · have d2 : decide (r.1 ≤ r'.1) = false := decide_eq_false hle
            have HN := Lib.hid (show refsE l = firstF ((refsF l).drop (m + 1 + 1)) from by
              rw [← H.out.2.1]
              exact firstF_zero H.out.2.2.1 (by unfold refF; rw [HG.out.1, HG.out.2, HP.out, if_neg (by decide), if_neg (fun h => hle h.2)]))
            go_quiet (fail)
            go_wp2
            go_roundw
            case rel => exact ⟨m + 1 + 1, by omega, by go_num, HN.out.symm, H1.out.trans (below_drewN (Below.refl _ _) _)⟩
            case measure => simp [intOf]; omega
    · have e : k = l.length := by omega
      subst e
      have HF := Lib.hid (show refsE l = 0 from by rw [← hf, List.drop_eq_nil_of_le (by simp [refsF])]; rfl)
      clear hf
      go_wp2_with fail
      go_ret
      exact ⟨by rw [HF.out]; rfl, hb⟩
end Go.Proofs.YteknflimfdkhoaaGreat
namespace Go.Proofs.YteknflimfdkhoaaGreat
open Go.RowKit Go.Sort Go.Proofs
set_option linter.unusedVariables false
set_option linter.unusedSimpArgs false

def encR (x : Int × Int) : List Value := [.int .i64 x.1, .int .i64 x.2]

set_option maxRecDepth 100000 in
set_option maxHeartbeats 800000 in
theorem compareRefs_grow (a b : Int × Int) (w : World) :
    Calls Tryz.prog 64 #[.agg #[.int .i64 a.1, .int .i64 a.2], .agg #[.int .i64 b.1, .int .i64 b.2]] w fun e w' => e = .returned (.int .i64 (cmpId a b)) ∧ ∃ q os', w' = grow (w.drewN q) os' := by
  obtain ⟨a1, a2⟩ := a
  obtain ⟨b1, b2⟩ := b
  simp only
  have hgr : ∃ q os', ((((w.alloc (.cells #[.int .i64 a1, .int .i64 a2] 33)).alloc (.cells #[.int .i64 b1, .int .i64 b2] 33)).alloc (.cells #[.int .i64 (cmpI a1 b1), .int .i64 (cmpI a2 b2)] 3)).drew) = grow (w.drewN q) os' :=
    ⟨1, _, by rw [alloc_eq_grow, alloc_eq_grow, alloc_eq_grow, grow_grow, grow_grow]; rfl⟩
  have hsl : SlAt ((((w.alloc (.cells #[.int .i64 a1, .int .i64 a2] 33)).alloc (.cells #[.int .i64 b1, .int .i64 b2] 33)).alloc (.cells #[.int .i64 (cmpI a1 b1), .int .i64 (cmpI a2 b2)] 3)).drew) (some ⟨w.heap.size + 1 + 1, 0, none⟩) (ints [cmpI a1 b1, cmpI a2 b2]) :=
    .inr ⟨_, 0, rfl, fun j u hu => by
      have hB : Blk ((((w.alloc (.cells #[.int .i64 a1, .int .i64 a2] 33)).alloc (.cells #[.int .i64 b1, .int .i64 b2] 33)).alloc (.cells #[.int .i64 (cmpI a1 b1), .int .i64 (cmpI a2 b2)] 3)).drew) (w.heap.size + 1 + 1) 3 #[.int .i64 (cmpI a1 b1), .int .i64 (cmpI a2 b2)] := Blk.newer ((w.alloc (.cells #[.int .i64 a1, .int .i64 a2] 33)).alloc (.cells #[.int .i64 b1, .int .i64 b2] 33)) _ _ (by simp)
      rw [Nat.zero_add, hB.cell]
      simpa [ints] using hu⟩
  have hor : Calls Tryz.prog 82 #[.slice (some ⟨w.heap.size + 1 + 1, 0, none⟩) 2 2] _ _ := or_any (some ⟨w.heap.size + 1 + 1, 0, none⟩) 2 [cmpI a1 b1, cmpI a2 b2] _ hsl (by simp)
  have HOR := Lib.hid hor
  have HB := Lib.hid hgr
  have HD := Lib.hid (show cmpId (a1, a2) (b1, b2) = firstNZ [cmpI a1 b1, cmpI a2 b2] from rfl)
  clear hgr hsl hor
  go_enter Tryz.func64, Tryz.ntmps64
  go_wp2_with fail
  go_region_held3 (fun w' => w'.cell? ⟨w.heap.size, 0, none⟩ = some (.int .i64 a1) ∧ w'.cell? ⟨w.heap.size, 1, none⟩ = some (.int .i64 a2) ∧ w'.cell? ⟨w.heap.size + 1, 0, none⟩ = some (.int .i64 b1) ∧ w'.cell? ⟨w.heap.size + 1, 1, none⟩ = some (.int .i64 b2)) (go_keep) (first
    | (go_simp; go_at_call 83; (with_reducible refine (compare_int _ _ _).mono ?_); rintro e w' ⟨rfl, rfl⟩)
    | (go_simp; go_at_call 82; (with_reducible refine HOR.out.mono ?_); rintro e w' ⟨rfl, rfl⟩))
  all_goals
    go_wp2_with fail
    go_ret
    exact ⟨by rw [HD.out]; rfl, HB.out⟩

theorem refs_get : ∀ (l : List (Int × Int)) (t : Nat), t < l.length * 2 → (refs l)[t]? = some ((encR (l[t / 2]!))[t % 2]!)
  | [], t, h => by simp at h
  | x :: l, 0, h => rfl
  | x :: l, 1, h => rfl
  | x :: l, t + 2, h => by
    have ih := refs_get l t (by simp at h; omega)
    have e1 : (t + 2) / 2 = t / 2 + 1 := by omega
    have e2 : (t + 2) % 2 = t % 2 := by omega
    rw [e1, e2]
    show (refs l)[t]? = _
    rw [ih]
    simp
theorem flat_refs (l : List (Int × Int)) : (flatK encR 2 l.toArray).toList = refs l := by
  apply List.ext_getElem?
  intro t
  by_cases h : t < l.length * 2
  · rw [refs_get l t h]
    simp [flatK, h]
  · rw [List.getElem?_eq_none (by simp; omega), List.getElem?_eq_none (by rw [refs_length]; omega)]

theorem swo_refs : SWO (ltOf cmpId) where
  irrefl x := by
    have h := cmpId_neg x x
    unfold ltOf
    rw [decide_eq_false]
    rw [h]; omega
  trans x y z h1 h2 := by
    unfold ltOf at *
    have a := cmpId_neg x y
    have b := cmpId_neg y z
    have c := cmpId_neg x z
    simp only [decide_eq_true_eq] at *
    rw [a] at h1
    rw [b] at h2
    rw [c]
    omega
  ntrans x y z h1 h2 := by
    unfold ltOf at *
    have a := cmpId_neg x y
    have b := cmpId_neg y z
    have c := cmpId_neg x z
    simp only [decide_eq_false_iff_not] at *
    rw [a] at h1
    rw [b] at h2
    rw [c]
    omega
theorem tot_refs (x y : Int × Int) (h1 : ltOf cmpId x y = false) (h2 : ltOf cmpId y x = false) : x = y := by
  unfold ltOf at *
  have a := cmpId_neg x y
  have b := cmpId_neg y x
  simp only [decide_eq_false_iff_not] at *
  rw [a] at h1
  rw [b] at h2
  exact Prod.ext (by omega) (by omega)

/-- The refs, rising. -/
def sortR (l : List (Int × Int)) : List (Int × Int) := l.mergeSort fun x y => !(ltOf cmpId) y x
theorem sortR_len (l : List (Int × Int)) : (sortR l).length = l.length := by unfold sortR; exact List.length_mergeSort l

theorem take_putCells2 (cur : Array Value) (F : Array Value) (h : F.size ≤ cur.size) : (putCells id 0 F cur).toList.take F.size = F.toList := by
  apply List.ext_getElem?
  intro j
  by_cases hj : j < F.size
  · rw [List.getElem?_take_of_lt hj, Array.getElem?_toList]
    simp [putCells, hj, show j < cur.size by omega]
  · rw [List.getElem?_take_eq_none (by omega), List.getElem?_eq_none (by simp; omega)]

set_option maxHeartbeats 1000000 in
theorem sortRefs_any (B g cap : Nat) (l : List (Int × Int)) (w : World) (hO : w.ownsRow B 33 2 (.slice (some ⟨g, 0, none⟩) l.length cap) l.length (refs l)) (hl : l.length < 4611686018427387904) :
    Calls Tryz.prog 63 #[.slice (some ⟨g, 0, none⟩) l.length cap, .func (.func 64) #[] #[]] w fun e w' =>
      e = .returned (.tuple #[]) ∧ w'.ownsRow B 33 2 (.slice (some ⟨g, 0, none⟩) l.length cap) l.length (refs (sortR l)) ∧ Only (fun i => i = g) w w' := by
  have eg : ∀ args w, (callFunc 64 args).run Tryz.prog w = .ok (.enter 64 args) w := enters_of Tryz.func64 (by kernel_rfl) rfl
  obtain ⟨cur, hbase, hb, h1, h2, h3, h4⟩ : ∃ cur, B ≤ g ∧ w.heap[g]? = some (.cells cur 33 (0, 0)) ∧ l.length ≤ cap ∧ cap ≤ maxLen ∧ cur.size = cap * 2 ∧ cur.toList.take (l.length * 2) = refs l := by
    rcases hO.2 with ⟨hv, _⟩ | ⟨g', cap', cur, hv, a1, a2, a3, a4, a5, a6⟩
    · cases hv
    · cases hv
      exact ⟨cur, a1, a2, a3, a4, a5, a6⟩
  have hg : g < w.heap.size := (Array.getElem?_eq_some_iff.1 hb).1
  have hH : HoldsK encR 2 w g 0 l.toArray := by
    intro j hj
    have hj' : j < l.length * 2 := by simpa using hj
    refine ⟨?_, by simp [World.frozen?, hb]⟩
    have e1 : (cur.toList.take (l.length * 2))[j]? = (refs l)[j]? := by rw [h4]
    rw [List.getElem?_take_of_lt hj', refs_get l j hj'] at e1
    simp only [World.cell?, hb, Nat.zero_add]
    simp only [Option.isSome_none, Bool.false_eq_true, if_false]
    rw [← Array.getElem?_toList, e1, get_flatK encR 2 l.toArray j (by simpa using hj')]
    simp
  have hcon := AnyQ.slices_SortFunc_total Tryz.laysSortR 2 (fun _ => by kernel_rfl) (fun _ => by kernel_rfl) encR (fun _ => rfl) (fun x v hv => by simp [encR] at hv; rcases hv with rfl | rfl <;> rfl) cmpId swo_refs 64 #[] g 0 cap l.toArray w eg (fun _ _ _ _ x y => compareRefs_grow x y _) hH hg (by simpa using hl) tot_refs
  change Calls Tryz.prog 63 _ _ _ at hcon
  rw [show (l.toArray.toList.mergeSort fun x y => !(ltOf cmpId) y x) = sortR l from rfl] at hcon
  have e0 : l.toArray.size = l.length := by simp
  rw [e0] at hcon
  refine hcon.mono ?_
  rintro e w' ⟨rfl, n, os, rfl⟩
  have hfs : (flatK encR 2 (sortR l).toArray).size = l.length * 2 := by simp [sortR_len]
  refine ⟨rfl, ⟨by rw [refs_length, sortR_len], .inr ⟨g, cap, putCells id 0 (flatK encR 2 (sortR l).toArray) cur, rfl, hbase, ?_, h1, h2, by simp [putCells, h3], ?_⟩⟩, ?_⟩
  · show (grow (putRow id (Sort.ahead w n) g 0 (flatK encR 2 (sortR l).toArray)) os).heap[g]? = _
    rw [heap_grow_old _ _ (by simpa using hg)]
    simp [putRow, mapBlock, Sort.ahead, Array.getElem?_modify, hb, onCells]
  · rw [← hfs, take_putCells2 _ _ (by rw [hfs, h3]; exact Nat.mul_le_mul_right _ h1), flat_refs]
  · refine ⟨rfl, rfl, rfl, ?_, fun k hk hne => ?_⟩
    · show w.heap.size ≤ (grow (putRow id (Sort.ahead w n) g 0 (flatK encR 2 (sortR l).toArray)) os).heap.size
      simp
    · show (grow (putRow id (Sort.ahead w n) g 0 (flatK encR 2 (sortR l).toArray)) os).heap[k]? = _
      rw [heap_grow_old _ _ (by simpa using hk)]
      have : g ≠ k := fun e => hne e.symm
      simp [putRow, mapBlock, Sort.ahead, Array.getElem?_modify, this]

theorem sortNone_any (p : Option Addr) (cap : Nat) (fv : Value) (w : World) : Calls Tryz.prog 63 #[.slice p 0 cap, fv] w fun e w' => e = .returned (.tuple #[]) ∧ w' = w :=
  AnyF.slices_SortFunc_none Tryz.laysSortR p cap fv w
end Go.Proofs.YteknflimfdkhoaaGreat
