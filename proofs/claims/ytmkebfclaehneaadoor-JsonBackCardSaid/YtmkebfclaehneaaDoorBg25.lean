/- Search, Clone. -/
import Derived.Test.YtmkebfclaehneaaDoorBg8
import Derived.Test.YtmkebfclaehneaaDoorProg
import Derived.Laws.Cover1
import Derived.Deep.QuietTactic
import Derived.BigQuiet
import Derived.WalkSmall
import Derived.Outline
import Derived.Test.YtmkebfclaehneaaDoorBg19
import Derived.Test.YtmkebfclaehneaaDoorBg17
import Derived.Deep.RegionWith
import Derived.Test.YtmkebfclaehneaaDoorBg13
/- slices.BinarySearch over texts that rise: where one stands, or would come in. -/
namespace Go.Proofs.YtmkebfclaehneaaDoor
open Go.RowKit
set_option linter.unusedVariables false
set_option linter.unusedSimpArgs false

/-- A place, and whether it is there; nothing has turned. -/
def FoundAt (w : World) (p : Nat) (b : Bool) (e : Ending) (w' : World) : Prop := e = .returned (.tuple #[.int .i64 p, .bool b]) ∧ w = w'
theorem cmpNaN_str (x : ByteArray) (w : World) : Calls Tryd.prog 84 #[.string x] w fun e w' => e = .returned (.bool false) ∧ w = w' := by
  go_enter Tryd.func84, Tryd.ntmps84
  go_wp2
  go_ret
  exact ⟨by simp, rfl⟩
theorem slNaN_str (x : ByteArray) (w : World) : Calls Tryd.prog 71 #[.string x] w fun e w' => e = .returned (.bool false) ∧ w = w' := by
  go_enter Tryd.func71, Tryd.ntmps71
  go_wp2
  go_ret
  exact ⟨by simp, rfl⟩

set_option maxRecDepth 100000 in
theorem less_str (x y : ByteArray) (w : World) : Calls Tryd.prog 70 #[.string x, .string y] w fun e w' => e = .returned (.bool (bl x y)) ∧ w = w' := by
  have hb : Op.bytesLess x.toList y.toList = bl x y := rfl
  obtain ⟨r, hr⟩ : ∃ r, bl x y = r := ⟨_, rfl⟩
  rw [hr] at hb ⊢
  clear hr
  go_enter Tryd.func70, Tryd.ntmps70
  go_wp2_with (go_at_call 84; refine (cmpNaN_str _ _).mono ?_; rintro e w' ⟨rfl, rfl⟩)
  go_ret
  exact ⟨rfl, rfl⟩

set_option maxRecDepth 100000 in
set_option maxHeartbeats 2000000 in
theorem search_str (A : Option Addr) (c : Nat) (l : List ByteArray) (x : ByteArray) (w : World) (hA : SlAt w A (l.map Value.string)) (hr : Rise l) (hl : l.length ≤ 1000) :
    Calls Tryd.prog 56 #[.slice A l.length c, .string x] w (FoundAt w (plc l x) (decide (l[plc l x]? = some x))) := by
  have hp := plc_le l x
  obtain ⟨p, hpe⟩ : ∃ p, plc l x = p := ⟨_, rfl⟩
  obtain ⟨fb, hfb⟩ : ∃ fb, decide (l[plc l x]? = some x) = fb := ⟨_, rfl⟩
  rw [hfb]
  rw [hpe] at hfb hp ⊢
  have HR := Lib.hid (And.intro hr (And.intro hpe hfb))
  have HA := Lib.hid hA
  clear hr hpe hA hfb
  go_enter Tryd.func56, Tryd.ntmps56
  go_wp2_with fail
  go_loop [7, 8] (fun iv jv => ∃ i j : Nat, iv = .int .i64 i ∧ jv = .int .i64 j ∧ i ≤ p ∧ p ≤ j ∧ j ≤ l.length) (fun iv jv => (intOf jv).toNat - (intOf iv).toNat)
  case atStart => exact ⟨0, l.length, rfl, rfl, by omega, hp, by omega⟩
  case round =>
    obtain ⟨i, j, rfl, rfl, h1, h2, h3⟩ := hrel
    by_cases hlt : i < j
    · have hlti : (i : Int) < (j : Int) := by omega
      obtain ⟨h, hh⟩ : ∃ h, (i + j) / 2 = h := ⟨_, rfl⟩
      obtain ⟨y, hy⟩ : ∃ y, l[h]? = some y := ⟨_, List.getElem?_eq_getElem (by omega)⟩
      obtain ⟨b, off, rfl, hcy⟩ := HA.out.at_ (j := h) (u := .string y) (by simp [hy])
      have hhi : ((i : Int) + (j : Int)) / 2 = (h : Int) := by omega
      have hhl : h < l.length := by omega
      have hb : bl y x = decide (h < p) := by
        by_cases hp' : h < p
        · rw [plc_lt (l := l) (x := x) (by rw [HR.out.2.1]; exact hp') hy]; simp [hp']
        · rw [plc_ge HR.out.1 (x := x) (by rw [HR.out.2.1]; omega) hy]; simp [hp']
      have HB := Lib.hid hb
      have HY := Lib.hid hy
      clear hb hy
      by_cases hp' : h < p
      · have HBB := Lib.hid (show bl y x = true from by rw [HB.out]; simp [hp'])
        go_wp2_with (go_at_call 70; refine (less_str _ _ _).mono ?_; rintro e w' ⟨rfl, rfl⟩; rw [HBB.out])
        go_round
        case rel => exact ⟨h + 1, j, by go_num, rfl, by omega, by omega, by omega⟩
        case measure => simp [intOf] <;> omega
      · have HBB := Lib.hid (show bl y x = false from by rw [HB.out]; simp [hp'])
        go_wp2_with (go_at_call 70; refine (less_str _ _ _).mono ?_; rintro e w' ⟨rfl, rfl⟩; rw [HBB.out])
        go_round
        case rel => exact ⟨i, h, rfl, by go_num, by omega, by omega, by omega⟩
        case measure => simp [intOf] <;> omega
    · obtain rfl : i = p := by omega
      obtain rfl : j = i := by omega
      have hlti : ¬ (j : Int) < (j : Int) := by omega
      by_cases hn : j < l.length
      · have hni : (j : Int) < (l.length : Int) := by omega
        obtain ⟨y, hy⟩ : ∃ y, l[j]? = some y := ⟨_, List.getElem?_eq_getElem hn⟩
        obtain ⟨b, off, rfl, hcy⟩ := HA.out.at_ (j := j) (u := .string y) (by simp [hy])
        by_cases he : y = x
        · subst he
          have HE := Lib.hid (show fb = true from by rw [← HR.out.2.2]; simp [hy])
          clear hy
          go_wp2_with (go_at_call 71; refine (slNaN_str _ _).mono ?_; rintro e w' ⟨rfl, rfl⟩)
          go_ret2
          exact ⟨by rw [HE.out]; rfl, rfl⟩
        · have heb : (y.toList == x.toList) = false := by
            cases hb : (y.toList == x.toList) with
            | false => rfl
            | true =>
              rw [beq_iff_eq, ByteArray.toList_eq, ByteArray.toList_eq] at hb
              exact absurd (Go.WideShapes.bytes_inj hb) he
          have HE := Lib.hid (show fb = false from by rw [← HR.out.2.2]; simp [hy, he])
          clear hy he
          go_wp2_with (go_at_call 71; refine (slNaN_str _ _).mono ?_; rintro e w' ⟨rfl, rfl⟩)
          go_ret2
          exact ⟨by rw [HE.out]; rfl, rfl⟩
      · have hni : ¬ (j : Int) < (l.length : Int) := by omega
        have HE := Lib.hid (show fb = false from by rw [← HR.out.2.2, List.getElem?_eq_none (by omega)]; simp)
        go_wp2_with fail
        go_ret2
        exact ⟨by rw [HE.out]; rfl, rfl⟩
end Go.Proofs.YtmkebfclaehneaaDoor
/- json.Clone: the contract. -/
namespace Go.Proofs.YtmkebfclaehneaaDoor
open Go.RowKit
set_option linter.unusedVariables false
set_option linter.unusedSimpArgs false

/-- A copy of one's own. -/
def CloneQ (w : World) (T : PT) (e : Ending) (w' : World) : Prop :=
  ∃ T' : PT, e = .returned T'.value ∧ Below w.heap.size w w' ∧ OwnJ 9 29 w' T' ∧ T'.own.Nodup ∧ (∀ b ∈ T'.own, w.heap.size ≤ b) ∧ T'.tree = T.tree

theorem one_cells (l : List ByteArray) : ∀ u ∈ l.map Value.string, u.oneCell' = true := by
  intro u hu
  obtain ⟨s, _, rfl⟩ := List.mem_map.1 hu
  rfl
theorem one_pt (T : PT) : ∀ u ∈ T.cells, u.oneCell' = true := by
  intro u hu
  simp only [PT.cells, JV.cells, List.mem_append, List.mem_cons, List.not_mem_nil, or_false] at hu
  rcases hu with (rfl | rfl | rfl | rfl | rfl) | rfl | rfl <;> rfl
theorem one_ptL (l : List PT) : ∀ u ∈ PT.cellsL l, u.oneCell' = true := by
  intro u hu
  obtain ⟨T, _, h⟩ := List.mem_flatMap.1 hu
  exact one_pt T u h
theorem upd7 (cur : Array Value) (o : Nat) (c0 c1 c2 c3 c4 c5 c6 : Value) (h : o + 7 ≤ cur.size) :
    Upd cur (((((((cur.setIfInBounds o c0).setIfInBounds (o + 1) c1).setIfInBounds (o + 2) c2).setIfInBounds (o + 3) c3).setIfInBounds (o + 4) c4).setIfInBounds (o + 5) c5).setIfInBounds (o + 6) c6) o [c0, c1, c2, c3, c4, c5, c6] := by
  refine ⟨by simp, fun j hj => ?_⟩
  simp only [Array.getElem?_setIfInBounds, Array.size_setIfInBounds, List.length_cons, List.length_nil]
  have g0 : o < cur.size := by omega
  have g1 : o + 1 < cur.size := by omega
  have g2 : o + 2 < cur.size := by omega
  have g3 : o + 3 < cur.size := by omega
  have g4 : o + 4 < cur.size := by omega
  have g5 : o + 5 < cur.size := by omega
  have g6 : o + 6 < cur.size := by omega
  by_cases hc : o ≤ j ∧ j < o + 7
  · have : j = o ∨ j = o + 1 ∨ j = o + 2 ∨ j = o + 3 ∨ j = o + 4 ∨ j = o + 5 ∨ j = o + 6 := by omega
    rcases this with rfl | rfl | rfl | rfl | rfl | rfl | rfl
    · simp [g0]
    · simp [g1]
    · simp [g2]
    · simp [g3]
    · simp [g4]
    · simp [g5]
    · simp [g6]
  · have e0 : ¬ (o = j) := by omega
    have e1 : ¬ (o + 1 = j) := by omega
    have e2 : ¬ (o + 2 = j) := by omega
    have e3 : ¬ (o + 3 = j) := by omega
    have e4 : ¬ (o + 4 = j) := by omega
    have e5 : ¬ (o + 5 = j) := by omega
    have e6 : ¬ (o + 6 = j) := by omega
    rw [if_neg e0, if_neg e1, if_neg e2, if_neg e3, if_neg e4, if_neg e5, if_neg e6, if_neg hc]

/-- What the loop holds behind k rounds. -/
structure CloneInv (w : World) (v : JV) (keys : List ByteArray) (kids : List PT) (kA' : Option Addr) (kc' : Nat) (cA' : Option Addr) (cc' : Nat) (k : Nat) (done : List PT) (wr : World) : Prop where
  len : done.length = k
  trees : done.map PT.tree = (kids.take k).map PT.tree
  own : ∀ D ∈ done, OwnJ 9 29 wr D
  box : Blk wr w.heap.size 29 #[.int .i64 v.k, .int .i64 v.n, .string v.s, .int .i64 v.o, .int .i64 v.p, .slice kA' keys.length kc', .slice cA' kids.length cc']
  res : Blk wr (w.heap.size + 1) 29 #[.int .i64 0, .int .i64 0, .string ⟨#[]⟩, .int .i64 0, .int .i64 0, .slice none 0 0, .slice none 0 0]
  keys : wr.ownsRow 0 9 1 (.slice kA' keys.length kc') keys.length (keys.map Value.string)
  kids : wr.ownsRow 0 29 7 (.slice cA' kids.length cc') kids.length (PT.cellsL (done ++ kids.drop k))
  nd : (blkOf kA' ++ (blkOf cA' ++ PT.ownL done)).Nodup
  low : ∀ b ∈ blkOf kA' ++ (blkOf cA' ++ PT.ownL done), w.heap.size + 2 ≤ b
  bel : Below w.heap.size w wr

theorem ownL_lt {TS TT : TypeId} {w : World} {l : List PT} (h : ∀ D ∈ l, OwnJ TS TT w D) : ∀ b ∈ PT.ownL l, b < w.heap.size := by
  induction l with
  | nil => intro b hb; simp [PT.ownL] at hb
  | cons x l ih =>
    intro b hb
    rw [PT.ownL] at hb
    rcases List.mem_append.1 hb with hb | hb
    · exact (h x (by simp)).lt b hb
    · exact ih (fun D hD => h D (List.mem_cons_of_mem _ hD)) b hb

theorem CloneInv.step {w wr w3 : World} {v : JV} {keys : List ByteArray} {kids : List PT} {kA' : Option Addr} {kc' : Nat} {g cc' k : Nat} {done : List PT} (h : CloneInv w v keys kids kA' kc' (some ⟨g, 0, none⟩) cc' k done wr)
    {K K' : PT} (hK : kids[k]? = some K) (hb3 : Below wr.heap.size wr w3) (ho3 : OwnJ 9 29 w3 K') (hnd3 : K'.own.Nodup) (hlow3 : ∀ b ∈ K'.own, wr.heap.size ≤ b) (ht3 : K'.tree = K.tree) :
    CloneInv w v keys kids kA' kc' (some ⟨g, 0, none⟩) cc' (k + 1) (done ++ [K']) (((((((w3.setCell ⟨g, k * 7, none⟩ (.int .i64 K'.val.k)).setCell ⟨g, k * 7 + 1, none⟩ (.int .i64 K'.val.n)).setCell ⟨g, k * 7 + 2, none⟩ (.string K'.val.s)).setCell ⟨g, k * 7 + 3, none⟩ (.int .i64 K'.val.o)).setCell ⟨g, k * 7 + 4, none⟩ (.int .i64 K'.val.p)).setCell ⟨g, k * 7 + 5, none⟩ (.slice K'.kA K'.keys.length K'.kc)).setCell ⟨g, k * 7 + 6, none⟩ (.slice K'.cA K'.kids.length K'.cc)) := by
  have hlt := (List.getElem?_eq_some_iff.1 hK).1
  obtain ⟨cur, hBg, hcs⟩ : ∃ cur, Blk wr g 29 cur ∧ kids.length * 7 ≤ cur.size := by
    rcases h.kids.2 with ⟨_, hn0⟩ | ⟨g', cap, cur, hv, _, hg, h1, _, h2, _⟩
    · omega
    · injection hv with hv; injection hv with hv; injection hv with hv; subst hv; exact ⟨cur, hg, by rw [h2]; exact Nat.mul_le_mul_right _ h1⟩
  have hgl := h.low g (by simp [blkOf])
  have hgw : g < wr.heap.size := hBg.lt
  have hBg3 := hBg.below hb3 hgw
  have ho : Only (· = g) w3 _ := ((((((((Only.refl (· = g) w3).setCell (p := ⟨g, k * 7, none⟩) rfl (.int .i64 K'.val.k)).setCell (p := ⟨g, k * 7 + 1, none⟩) rfl (.int .i64 K'.val.n)).setCell (p := ⟨g, k * 7 + 2, none⟩) rfl (.string K'.val.s)).setCell (p := ⟨g, k * 7 + 3, none⟩) rfl (.int .i64 K'.val.o)).setCell (p := ⟨g, k * 7 + 4, none⟩) rfl (.int .i64 K'.val.p)).setCell (p := ⟨g, k * 7 + 5, none⟩) rfl (.slice K'.kA K'.keys.length K'.kc)).setCell (p := ⟨g, k * 7 + 6, none⟩) rfl (.slice K'.cA K'.kids.length K'.cc))
  have hBg4 := (((((((hBg3.set_ (k * 7) (.int .i64 K'.val.k)).set_ (k * 7 + 1) (.int .i64 K'.val.n)).set_ (k * 7 + 2) (.string K'.val.s)).set_ (k * 7 + 3) (.int .i64 K'.val.o)).set_ (k * 7 + 4) (.int .i64 K'.val.p)).set_ (k * 7 + 5) (.slice K'.kA K'.keys.length K'.kc)).set_ (k * 7 + 6) (.slice K'.cA K'.kids.length K'.cc))
  have hup := upd7 cur (k * 7) (.int .i64 K'.val.k) (.int .i64 K'.val.n) (.string K'.val.s) (.int .i64 K'.val.o) (.int .i64 K'.val.p) (.slice K'.kA K'.keys.length K'.kc) (.slice K'.cA K'.kids.length K'.cc) (by omega)
  obtain ⟨w4, hw4⟩ : ∃ w4, (((((((w3.setCell ⟨g, k * 7, none⟩ (.int .i64 K'.val.k)).setCell ⟨g, k * 7 + 1, none⟩ (.int .i64 K'.val.n)).setCell ⟨g, k * 7 + 2, none⟩ (.string K'.val.s)).setCell ⟨g, k * 7 + 3, none⟩ (.int .i64 K'.val.o)).setCell ⟨g, k * 7 + 4, none⟩ (.int .i64 K'.val.p)).setCell ⟨g, k * 7 + 5, none⟩ (.slice K'.kA K'.keys.length K'.kc)).setCell ⟨g, k * 7 + 6, none⟩ (.slice K'.cA K'.kids.length K'.cc)) = w4 := ⟨_, rfl⟩
  rw [hw4] at ho hBg4 ⊢
  have hnd := h.nd
  have hap := nd_apartB (A := blkOf kA') (B := [g]) (C := []) (K := PT.ownL done) (D := []) (by simpa [blkOf] using hnd) (b := g) (by simp)
  have hall : ∀ b ∈ blkOf kA' ++ (blkOf (some (⟨g, 0, none⟩ : Addr)) ++ PT.ownL done), b < wr.heap.size := by
    intro b hb
    rcases List.mem_append.1 hb with hb | hb
    · exact own_lt h.keys b hb
    · rcases List.mem_append.1 hb with hb | hb
      · exact own_lt h.kids b hb
      · exact ownL_lt h.own b hb
  have hkeep3 : ∀ b, b < wr.heap.size → b ≠ g → w4.heap[b]? = wr.heap[b]? := fun b hb hne => (ho.block b (Nat.lt_of_lt_of_le hb hb3.size) hne).trans (hb3.block b hb)
  have hset : (done ++ kids.drop k).set k K' = (done ++ [K']) ++ kids.drop (k + 1) := by
    rw [List.set_append_right _ _ (by rw [h.len]; exact Nat.le_refl _), h.len, Nat.sub_self, List.drop_eq_getElem_cons hlt, List.set_cons_zero, List.append_assoc]
    rfl
  have hownL : PT.ownL (done ++ [K']) = PT.ownL done ++ K'.own := by rw [PT.ownL_append]; simp [PT.ownL]
  refine ⟨by simp [h.len], ?_, ?_, ?_, ?_, ?_, ?_, ?_, ?_, ?_⟩
  · rw [List.map_append, h.trees, List.take_add_one, hK]
    simp [ht3]
  · intro D hD
    rcases List.mem_append.1 hD with hD | hD
    · exact (h.own D hD).keep fun b hb hlt => hkeep3 b hlt (fun e => hap.2.1 (by rw [← e]; exact PT.ownL_mem hD hb))
    · rw [List.mem_singleton] at hD
      subst hD
      exact ho3.only ho (fun b hb e => by have := hlow3 b hb; omega)
  · exact (h.box.below hb3 h.box.lt).only ho (by show w.heap.size ≠ g; omega)
  · exact (h.res.below hb3 h.res.lt).only ho (by show w.heap.size + 1 ≠ g; omega)
  · exact own_keep h.keys fun b hb hlt => hkeep3 b hlt (fun e => hap.1 (by rw [← e]; exact hb))
  · have h3 : w3.ownsRow 0 29 7 (.slice (some ⟨g, 0, none⟩) kids.length cc') kids.length (PT.cellsL (done ++ kids.drop k)) := own_keep h.kids fun b hb hlt => hb3.block b hlt
    have := own_upd h3 (i := k) (K' := K') (by simp [h.len]; omega) hBg3 hBg4 hup
    rw [hset] at this
    exact this
  · rw [hownL, ← List.append_assoc, ← List.append_assoc, List.append_assoc (blkOf kA'), List.append_assoc (blkOf kA')] at *
    rw [← List.append_assoc, ← List.append_assoc, List.nodup_append]
    refine ⟨by simpa [List.append_assoc] using hnd, hnd3, ?_⟩
    intro a ha b hb e
    have h1 := hall a (by simpa [List.append_assoc] using ha)
    have h2 := hlow3 b hb
    omega
  · intro b hb
    rw [hownL] at hb
    simp only [List.mem_append] at hb
    rcases hb with hb | hb | hb | hb
    · exact h.low b (by simp only [List.mem_append]; exact .inl hb)
    · exact h.low b (by simp only [List.mem_append]; exact .inr (.inl hb))
    · exact h.low b (by simp only [List.mem_append]; exact .inr (.inr hb))
    · have := hlow3 b hb; omega
  · exact (h.bel.trans (hb3.mono h.bel.size)).trans (ho.below (Nat.le_trans h.bel.size hb3.size) (fun q hq e => by omega))

set_option maxRecDepth 100000 in
set_option maxHeartbeats 2000000 in
theorem clone_any : ∀ (T : PT) (W0 : World) (hT : InJ W0 T) (hf : T.tree.formed = true) (hs : T.tree.size ≤ 400) (w : World) (hb : Below W0.heap.size W0 w),
    Calls Tryd.prog 19 #[T.value] w (CloneQ w T) := by
  intro T
  refine PT.ind (P := fun T => ∀ (W0 : World) (hT : InJ W0 T) (hf : T.tree.formed = true) (hs : T.tree.size ≤ 400) (w : World) (hb : Below W0.heap.size W0 w), Calls Tryd.prog 19 #[T.value] w (CloneQ w T)) ?_ T
  clear T
  intro v kA kc keys cA cc kids ih W0 hT hf hs w hb
  have hsl := hT.slot
  rw [show (PT.node v kA kc keys cA cc kids).tree = .node v keys (kids.map PT.tree) from PT.tree_eq _] at hf hs
  have htop := ((JT.formed_iff _).1 hf).1
  have hkf := ((JT.formed_iff _).1 hf).2
  have hcl : kids.length ≤ 400 := by
    have := JT.length_le_sizeL (kids.map PT.tree)
    rw [JT.size] at hs
    simp at this; omega
  have hkl : keys.length ≤ 400 := by
    rw [JT.top_node] at htop
    by_cases h5 : v.k = 5
    · rw [if_pos h5] at htop; simp at htop; omega
    · rw [if_neg h5] at htop
      by_cases h6 : v.k = 6
      · rw [if_pos h6] at htop; simp at htop; simp [htop.2]
      · rw [if_neg h6] at htop; simp at htop; simp [htop.2.1]
  have HCK := Lib.hid (fun (w1 : World) (h1 : Below W0.heap.size W0 w1) => cloneStr_any kA keys.length kc (keys.map Value.string) w1 (by simp) (hsl.keys.below h1) (by omega) (one_cells keys))
  have HCT := Lib.hid (fun (w1 : World) (h1 : Below W0.heap.size W0 w1) => cloneTree_any cA kids.length cc (PT.cellsL kids) w1 (by rw [PT.cellsL_length]) (hsl.kids.below h1) (by omega) (one_ptL kids))
  have HIH := Lib.hid (fun (k : PT) (hk : k ∈ kids) (w1 : World) (h1 : Below W0.heap.size W0 w1) => ih k hk W0 (hT.kids k hk) (hkf _ (List.mem_map_of_mem hk)) (by
    obtain ⟨j, hj⟩ := List.mem_iff_getElem?.1 hk
    have h2 := JT.sizeL_take_succ (l := kids.map PT.tree) (i := j) (k := k.tree) (by rw [List.getElem?_map, hj]; rfl)
    have h3 := JT.sizeL_take_le (kids.map PT.tree) (j + 1)
    rw [JT.size] at hs
    omega) w1 h1)
  have HS := Lib.hid hsl
  have HB := Lib.hid hb
  clear ih hf hs htop hkf hsl hb hT
  unfold PT.value PT.cells JV.cells
  simp only [PT.val, PT.keys, PT.kids, PT.kA, PT.kc, PT.cA, PT.cc]
  go_enter Tryd.func19, Tryd.ntmps19
  go_wp2_with fail
  have hA1 := ((Below.refl w.heap.size w).alloc (Nat.le_refl _) (.cells (PT.node v kA kc keys cA cc kids).cells.toArray 29)).alloc (by simp) (.cells #[.int .i64 0, .int .i64 0, .string ⟨#[]⟩, .int .i64 0, .int .i64 0, .slice none 0 0, .slice none 0 0] 29)
  have hB1 := (Blk.new w 29 (PT.node v kA kc keys cA cc kids).cells.toArray).alloc (.cells #[.int .i64 0, .int .i64 0, .string ⟨#[]⟩, .int .i64 0, .int .i64 0, .slice none 0 0, .slice none 0 0] 29)
  have hB1' := Blk.newer (w.alloc (.cells (PT.node v kA kc keys cA cc kids).cells.toArray 29)) 29 #[.int .i64 0, .int .i64 0, .string ⟨#[]⟩, .int .i64 0, .int .i64 0, .slice none 0 0, .slice none 0 0] (g := w.heap.size + 1) (by simp)
  refine (HCK.out _ (HB.out.trans (hA1.mono HB.out.size))).mono ?_
  rintro e w1 ⟨kA', kc', rfl, hk1, hb1, hn1⟩
  have hbt : w.heap.size ≠ w.heap.size + 1 := by omega
  have hs1 : w.heap.size + 2 ≤ w1.heap.size := by have := hb1.size; simp at this; omega
  have hB2 := hB1.below hb1 (by simp; omega)
  have hB2' := hB1'.below hb1 (by simp)
  have hA2 : Below w.heap.size w w1 := hA1.trans (hb1.mono (by simp; omega))
  have hn2 : ∀ b ∈ blkOf kA', w.heap.size + 2 ≤ b := fun b hb => by have := hn1 b hb; simp at this; omega
  have H1 := Lib.hid (And.intro hB2 (And.intro hB2' (And.intro hA2 (And.intro hn2 hk1))))
  clear hA1 hB1 hB1' hb1 hn1 hB2 hB2' hA2 hn2 hk1
  have c5 : w1.cell? ⟨w.heap.size, 5, none⟩ = some (.slice kA keys.length kc) := H1.out.1.cell 5
  have c6 : w1.cell? ⟨w.heap.size, 6, none⟩ = some (.slice cA kids.length cc) := H1.out.1.cell 6
  have z5 := H1.out.1.frozen 5
  clear hbt
  have hWw := HB.out.size
  have o1 := (Only.refl (· = w.heap.size) w1).setCell (p := ⟨w.heap.size, 5, none⟩) rfl (.slice kA' keys.length kc')
  have hB3 := H1.out.1.set_ 5 (.slice kA' keys.length kc')
  have hB3' := H1.out.2.1.only o1 (by show w.heap.size + 1 ≠ w.heap.size; omega)
  have hk3 := own_keep H1.out.2.2.2.2 (fun b hb hlt => o1.block b hlt (by have := H1.out.2.2.2.1 b hb; show b ≠ w.heap.size; omega))
  have hA3 := H1.out.2.2.1.trans (o1.below H1.out.2.2.1.size (fun k hk e => by omega))
  have H3 := Lib.hid (And.intro hB3 (And.intro hB3' (And.intro hA3 hk3)))
  clear o1 hB3 hB3' hk3 hA3
  go_wp2_with fail
  clear c5 c6 z5
  refine (HCT.out _ (HB.out.trans (H3.out.2.2.1.mono HB.out.size))).mono ?_
  rintro e w2 ⟨cA', cc', rfl, hk2, hb2, hn2⟩
  have hs2 : w1.heap.size ≤ w2.heap.size := by have := hb2.size; simpa using this
  have hB4 := H3.out.1.below hb2 (by simp; omega)
  have hB4' := H3.out.2.1.below hb2 (by simp; omega)
  have hA4 := H3.out.2.2.1.trans (hb2.mono (by simp; omega))
  have hk4 := owns_below H3.out.2.2.2 hb2
  have hn4 : ∀ b ∈ blkOf cA', w1.heap.size ≤ b := fun b hb => by have := hn2 b hb; simpa using this
  have hn4' : ∀ b ∈ blkOf kA', b < w1.heap.size := fun b hb => own_lt H1.out.2.2.2.2 b hb
  have hn4'' := H1.out.2.2.2.1
  have H4 := Lib.hid (And.intro hB4 (And.intro hB4' (And.intro hA4 (And.intro hk4 (And.intro hk2 (And.intro hn4 (And.intro hn4' hn4'')))))))
  clear H3 H1 hB4 hB4' hA4 hk4 hk2 hn4 hn4' hn4'' hb2 hn2
  have c6 : w2.cell? ⟨w.heap.size, 6, none⟩ = some (.slice cA kids.length cc) := H4.out.1.cell 6
  have z6 := H4.out.1.frozen 6
  go_wp2_with fail
  clear c6 z6
  have o5 := (Only.refl (· = w.heap.size) w2).setCell (p := ⟨w.heap.size, 6, none⟩) rfl (.slice cA' kids.length cc')
  have I0 : CloneInv w v keys kids kA' kc' cA' cc' 0 [] (w2.setCell ⟨w.heap.size, 6, none⟩ (.slice cA' kids.length cc')) := by
    refine ⟨rfl, rfl, by simp, H4.out.1.set_ 6 _, H4.out.2.1.only o5 (by show w.heap.size + 1 ≠ w.heap.size; omega), ?_, ?_, ?_, ?_, H4.out.2.2.1.trans (o5.below H4.out.2.2.1.size (fun k hk e => by omega))⟩
    · exact own_keep H4.out.2.2.2.1 (fun b hb hlt => o5.block b hlt (by have := H4.out.2.2.2.2.2.2.2 b hb; show b ≠ w.heap.size; omega))
    · exact own_keep H4.out.2.2.2.2.1 (fun b hb hlt => o5.block b hlt (by have := H4.out.2.2.2.2.2.1 b hb; show b ≠ w.heap.size; omega))
    · rw [PT.ownL, List.append_nil, List.nodup_append]
      refine ⟨by cases kA' <;> simp [blkOf], by cases cA' <;> simp [blkOf], ?_⟩
      intro a ha b hb e
      have := H4.out.2.2.2.2.2.1 b hb
      have := H4.out.2.2.2.2.2.2.1 a ha
      omega
    · intro b hb
      rw [PT.ownL, List.append_nil, List.mem_append] at hb
      rcases hb with hb | hb
      · exact H4.out.2.2.2.2.2.2.2 b hb
      · have := H4.out.2.2.2.2.2.1 b hb; omega
  have HI0 := Lib.hid I0
  clear I0 o5 H4
  go_loopw [15] (fun iv wr => ∃ (k : Nat) (done : List PT), iv = .int .i64 k ∧ k ≤ kids.length ∧ CloneInv w v keys kids kA' kc' cA' cc' k done wr) (fun iv _ => kids.length - (intOf iv).toNat)
  case atStart => exact ⟨0, [], rfl, by omega, HI0.out⟩
  case round =>
    obtain ⟨k, done, rfl, hk, hI⟩ := hrel
    by_cases hlt : k < kids.length
    · have hlti : (k : Int) < (kids.length : Int) := by omega
      obtain ⟨K, hK⟩ : ∃ K, kids[k]? = some K := ⟨_, List.getElem?_eq_getElem hlt⟩
      obtain ⟨g, cur, hg, hBg, hcs⟩ : ∃ g cur, cA' = some ⟨g, 0, none⟩ ∧ Blk wr g 29 cur ∧ kids.length * 7 ≤ cur.size := by
        rcases hI.kids.2 with ⟨_, hn0⟩ | ⟨g, cap, cur, hv, _, hg, h1, _, h2, _⟩
        · omega
        · injection hv with hv; exact ⟨g, cur, hv, hg, by rw [h2]; exact Nat.mul_le_mul_right _ h1⟩
      subst hg
      have c6 : wr.cell? ⟨w.heap.size, 6, none⟩ = some (.slice (some ⟨g, 0, none⟩) kids.length cc') := hI.box.cell 6
      obtain ⟨b, off, hA, g0, g1, g2, g3, g4, g5, g6⟩ := kid_cells (SlAt.of_owns hI.kids) (k := k) (T := K) (by rw [List.getElem?_append_right (by rw [hI.len]; exact Nat.le_refl _), hI.len, Nat.sub_self, List.getElem?_drop]; exact hK)
      injection hA with hA
      injection hA with e1 e2 _
      subst e1 e2
      simp only [Nat.zero_add] at g0 g1 g2 g3 g4 g5 g6
      have HG := Lib.hid (And.intro hBg (And.intro hcs (And.intro g0 (And.intro g1 (And.intro g2 (And.intro g3 (And.intro g4 (And.intro g5 g6))))))))
      clear hBg hcs
      have HI := Lib.hid hI
      have HK := Lib.hid hK
      have HC := Lib.hid (fun w1 h1 => HIH.out K (List.mem_of_getElem? hK) w1 h1)
      have HW := Lib.hid (HB.out.trans (hI.bel.mono HB.out.size))
      clear hI hK
      go_wp2_with fail
      go_region_with (go_at_call 19; refine (HC.out _ HW.out.drew).mono ?_; rintro e w3 ⟨K', rfl, hb3', ho3, hnd3, hlow3', ht3⟩; have hb3 : Below wr.heap.size wr w3 := ⟨hb3'.os, hb3'.tape, hb3'.output, hb3'.size, hb3'.block⟩; have hlow3 : ∀ b ∈ K'.own, wr.heap.size ≤ b := hlow3'; clear hb3' hlow3'; have hx := HI.out.box.below hb3 HI.out.box.lt; have c6' : w3.cell? ⟨w.heap.size, 6, none⟩ = some (.slice (some ⟨g, 0, none⟩) kids.length cc') := hx.cell 6; have zg : ∀ i, w3.frozen? ⟨g, i, none⟩ = false := (HG.out.1.below hb3 HG.out.1.lt).frozen; have q0 := cell_below hb3 HG.out.2.2.1; have q1 := cell_below hb3 HG.out.2.2.2.1; have q2 := cell_below hb3 HG.out.2.2.2.2.1; have q3 := cell_below hb3 HG.out.2.2.2.2.2.1; have q4 := cell_below hb3 HG.out.2.2.2.2.2.2.1; have q5 := cell_below hb3 HG.out.2.2.2.2.2.2.2.1; have q6 := cell_below hb3 HG.out.2.2.2.2.2.2.2.2; clear hx; rw [PT.value_eq])
      all_goals
        have HN := Lib.hid (HI.out.step HK.out hb3 ho3 hnd3 hlow3 ht3)
        clear ho3 hnd3 ht3 hb3 hlow3 c6' zg q0 q1 q2 q3 q4 q5 q6 c6 g0 g1 g2 g3 g4 g5 g6
        go_wp2_with fail
        go_roundw
        case rel => exact ⟨k + 1, done ++ [K'], by go_num, by omega, HN.out⟩
        case measure => simp [intOf] <;> omega
    · obtain rfl : k = kids.length := by omega
      have HI := Lib.hid hI
      clear hI
      have b0 : wr.cell? ⟨w.heap.size, 0, none⟩ = some (.int .i64 v.k) := HI.out.box.cell 0
      have b1 : wr.cell? ⟨w.heap.size, 1, none⟩ = some (.int .i64 v.n) := HI.out.box.cell 1
      have b2 : wr.cell? ⟨w.heap.size, 2, none⟩ = some (.string v.s) := HI.out.box.cell 2
      have b3 : wr.cell? ⟨w.heap.size, 3, none⟩ = some (.int .i64 v.o) := HI.out.box.cell 3
      have b4 : wr.cell? ⟨w.heap.size, 4, none⟩ = some (.int .i64 v.p) := HI.out.box.cell 4
      have b5 : wr.cell? ⟨w.heap.size, 5, none⟩ = some (.slice kA' keys.length kc') := HI.out.box.cell 5
      have b6 : wr.cell? ⟨w.heap.size, 6, none⟩ = some (.slice cA' kids.length cc') := HI.out.box.cell 6
      have r0 : wr.cell? ⟨w.heap.size + 1, 0, none⟩ = some (.int .i64 0) := HI.out.res.cell 0
      have r1 : wr.cell? ⟨w.heap.size + 1, 1, none⟩ = some (.int .i64 0) := HI.out.res.cell 1
      have r2 : wr.cell? ⟨w.heap.size + 1, 2, none⟩ = some (.string ⟨#[]⟩) := HI.out.res.cell 2
      have r3 : wr.cell? ⟨w.heap.size + 1, 3, none⟩ = some (.int .i64 0) := HI.out.res.cell 3
      have r4 : wr.cell? ⟨w.heap.size + 1, 4, none⟩ = some (.int .i64 0) := HI.out.res.cell 4
      have r5 : wr.cell? ⟨w.heap.size + 1, 5, none⟩ = some (.slice none 0 0) := HI.out.res.cell 5
      have r6 : wr.cell? ⟨w.heap.size + 1, 6, none⟩ = some (.slice none 0 0) := HI.out.res.cell 6
      have zr := HI.out.res.frozen
      go_wp2_with fail
      clear b0 b1 b2 b3 b4 b5 b6 r0 r1 r2 r3 r4 r5 r6
      refine bodyPost_ret (v := .agg #[.int .i64 v.k, .int .i64 v.n, .string v.s, .int .i64 v.o, .int .i64 v.p, .slice kA' keys.length kc', .slice cA' kids.length cc']) (results_cell_row Tryd.results19 _ _ (w.heap.size + 1) _ _ _ _ rfl (blk7 _ _ _ _ _ _ _ HI.out.res) Tryd.underlying29 rfl (by kernel_rfl)) rfl ?_
      have ho := only7 wr (w.heap.size + 1) (.int .i64 v.k) (.int .i64 v.n) (.string v.s) (.int .i64 v.o) (.int .i64 v.p) (.slice kA' keys.length kc') (.slice cA' kids.length cc') 0 1 2 3 4 5 6
      have hown : (PT.node v kA' kc' keys cA' cc' done).own = blkOf kA' ++ (blkOf cA' ++ PT.ownL done) := PT.own_eq _
      have hlen := HI.out.len
      have hoJ : OwnJ 9 29 wr (PT.node v kA' kc' keys cA' cc' done) := by
        refine OwnJ.mk_ ⟨HS.out.fit, HI.out.keys, ?_, HS.out.each⟩ HI.out.own
        have := HI.out.kids
        rw [List.drop_eq_nil_of_le (Nat.le_refl _), List.append_nil] at this
        simp only [PT.kids, PT.cA, PT.cc]
        rw [hlen]
        exact this
      refine ⟨PT.node v kA' kc' keys cA' cc' done, ?_, HI.out.bel.trans (ho.below HI.out.bel.size (fun q hq e => by omega)), hoJ.only ho ?_, by rw [hown]; exact HI.out.nd, ?_, ?_⟩
      · rw [PT.value_eq]
        simp only [PT.val, PT.keys, PT.kids, PT.kA, PT.kc, PT.cA, PT.cc]
        rw [hlen]
      · intro b hb e
        rw [hown] at hb
        have := HI.out.low b hb
        omega
      · intro b hb
        rw [hown] at hb
        have := HI.out.low b hb
        omega
      · rw [show (PT.node v kA' kc' keys cA' cc' done).tree = .node v keys (done.map PT.tree) from PT.tree_eq _, show (PT.node v kA kc keys cA cc kids).tree = .node v keys (kids.map PT.tree) from PT.tree_eq _, HI.out.trees, List.take_of_length_le (Nat.le_refl _)]
end Go.Proofs.YtmkebfclaehneaaDoor
