/- bookref3.Get: the contract. -/
import Derived.Test.YtljemaapicaioaaDoorRefIndex
import Derived.Test.YtljemaapicaioaaDoorGet
namespace Go.Proofs.YtljemaapicaioaaDoor
open Go.RowKit
set_option linter.unusedVariables false
set_option linter.unusedSimpArgs false

/-- The tree at the end of a path that there is; else none. -/
def RGetQ (w : World) (T : PT) (p : List St) (e : Ending) (w' : World) : Prop :=
  Below w.heap.size w w' ∧ ((T.tree.get p = none ∧ e = .returned (.tuple #[zTree, .bool false])) ∨
    ∃ (X : PT) (is : List Nat), T.tree.get p = some X.tree ∧ e = .returned (.tuple #[X.value, .bool true]) ∧ Lead T p is X)

theorem get_none {T0 X : PT} {p : List St} {k : Nat} {is : List Nat} {s : St} (hl : Lead T0 (p.take k) is X) (hs : p[k]? = some s) (hi : ridxN X.tree s < 0) : T0.tree.get p = none := by
  refine (find_none hl hs ?_).1
  unfold ridxN at hi
  split at hi
  · omega
  · assumption
theorem ridx_some {X : PT} {s : St} (hi : ¬ ridxN X.tree s < 0) : ∃ i : Nat, X.tree.idx s = some i ∧ ridxN X.tree s = i := by
  unfold ridxN at *
  split at hi
  · rename_i i h; exact ⟨i, h, rfl⟩
  · omega

set_option maxRecDepth 100000 in
set_option maxHeartbeats 2000000 in
theorem rget_any (T : PT) (A : Option Addr) (c : Nat) (p : List St) (w : World) (hT : InJ w T) (hA : SlAt w A (stCells p)) (hl : p.length ≤ maxLen) (hf : T.tree.formed = true) :
    Calls Tryd.prog 22 #[T.value, .slice A p.length c] w (RGetQ w T p) := by
  have hml : p.length ≤ 9223372036854775807 := Nat.le_trans hl (by decide)
  have HH := Lib.hid (And.intro hT (And.intro hA hf))
  clear hT hA hf hl
  rw [PT.value_eq]
  go_enter Tryd.func22, Tryd.ntmps22
  go_wp2_with fail
  refine wp_at (fun w1 => Below w.heap.size w w1 ∧ Blk w1 w.heap.size 47 #[.int .i64 T.val.k, .int .i64 T.val.n, .string T.val.s, .int .i64 T.val.o, .int .i64 T.val.p, .slice T.kA T.keys.length T.kc, .slice T.cA T.kids.length T.cc] ∧ Blk w1 (w.heap.size + 1) 47 #[.int .i64 0, .int .i64 0, .string ⟨#[]⟩, .int .i64 0, .int .i64 0, .slice none 0 0, .slice none 0 0] ∧ w.heap.size + 2 ≤ w1.heap.size) (boxes2 (Below.refl _ _)) ?_
  rintro w1 ⟨hB1, hB2, hB3, hB4⟩
  have HB := Lib.hid hB1
  go_loopw [6] (fun iv wr => ∃ (k : Nat) (is : List Nat) (X : PT), iv = .int .i64 k ∧ k ≤ p.length ∧ Lead T (p.take k) is X ∧ Below w.heap.size w wr ∧ Blk wr w.heap.size 47 X.cells.toArray ∧ Blk wr (w.heap.size + 1) 47 #[.int .i64 0, .int .i64 0, .string ⟨#[]⟩, .int .i64 0, .int .i64 0, .slice none 0 0, .slice none 0 0])
    (fun iv _ => p.length - (intOf iv).toNat)
  case atStart => exact ⟨0, [], T, rfl, by omega, rfl, hB1, hB2, hB3⟩
  case round =>
    obtain ⟨k, is, X, rfl, hk, hL, hb, hX, hZ⟩ := hrel
    have HX := Lib.hid (And.intro hL (And.intro hb (And.intro hX hZ)))
    have t0 : wr.cell? ⟨w.heap.size, 0, none⟩ = some (.int .i64 X.val.k) := hX.cell 0
    have t1 : wr.cell? ⟨w.heap.size, 1, none⟩ = some (.int .i64 X.val.n) := hX.cell 1
    have t2 : wr.cell? ⟨w.heap.size, 2, none⟩ = some (.string X.val.s) := hX.cell 2
    have t3 : wr.cell? ⟨w.heap.size, 3, none⟩ = some (.int .i64 X.val.o) := hX.cell 3
    have t4 : wr.cell? ⟨w.heap.size, 4, none⟩ = some (.int .i64 X.val.p) := hX.cell 4
    have t5 : wr.cell? ⟨w.heap.size, 5, none⟩ = some (.slice X.kA X.keys.length X.kc) := hX.cell 5
    have t6 : wr.cell? ⟨w.heap.size, 6, none⟩ = some (.slice X.cA X.kids.length X.cc) := hX.cell 6
    by_cases hlt : k < p.length
    · have hlti : (k : Int) < (p.length : Int) := by omega
      obtain ⟨s, hs⟩ : ∃ s, p[k]? = some s := ⟨_, List.getElem?_eq_getElem hlt⟩
      obtain ⟨bp, op, rfl, g0, g1⟩ := (HH.out.2.1.below hb).step hs
      have hXi : InJ wr X := (hL.inJ HH.out.1).below hb
      have HI := Lib.hid (rindex_any X s.key s.at_ { wr with drawn := wr.drawn + 1 } hXi.drew (hL.formed HH.out.2.2))
      have HS := Lib.hid hs
      clear hL hb hX hZ hs hXi hB1 hB2 hB3
      go_wp2_with fail
      go_still_tail 5, (by kernel_rfl)
      go_wp2_with fail
      refine HI.out.mono ?_
      rintro e w2 ⟨rfl, hb2⟩
      have hb3 : Below wr.heap.size wr w2 := ⟨hb2.os, hb2.tape, hb2.output, hb2.size, hb2.block⟩
      have hX2 := HX.out.2.2.1.below hb3 HX.out.2.2.1.lt
      have hZ2 := HX.out.2.2.2.below hb3 HX.out.2.2.2.lt
      have H2 := Lib.hid (And.intro (HX.out.2.1.trans (hb3.mono HX.out.2.1.size)) (And.intro hX2 (And.intro hZ2 hb3)))
      have r0 : w2.cell? ⟨w.heap.size + 1, 0, none⟩ = some (.int .i64 0) := hZ2.cell 0
      have r1 : w2.cell? ⟨w.heap.size + 1, 1, none⟩ = some (.int .i64 0) := hZ2.cell 1
      have r2 : w2.cell? ⟨w.heap.size + 1, 2, none⟩ = some (.string ⟨#[]⟩) := hZ2.cell 2
      have r3 : w2.cell? ⟨w.heap.size + 1, 3, none⟩ = some (.int .i64 0) := hZ2.cell 3
      have r4 : w2.cell? ⟨w.heap.size + 1, 4, none⟩ = some (.int .i64 0) := hZ2.cell 4
      have r5 : w2.cell? ⟨w.heap.size + 1, 5, none⟩ = some (.slice none 0 0) := hZ2.cell 5
      have r6 : w2.cell? ⟨w.heap.size + 1, 6, none⟩ = some (.slice none 0 0) := hZ2.cell 6
      have zr := hZ2.frozen
      have zx := hX2.frozen
      have d0 : w2.cell? ⟨w.heap.size, 0, none⟩ = some (.int .i64 X.val.k) := hX2.cell 0
      have d1 : w2.cell? ⟨w.heap.size, 1, none⟩ = some (.int .i64 X.val.n) := hX2.cell 1
      have d2 : w2.cell? ⟨w.heap.size, 2, none⟩ = some (.string X.val.s) := hX2.cell 2
      have d3 : w2.cell? ⟨w.heap.size, 3, none⟩ = some (.int .i64 X.val.o) := hX2.cell 3
      have d4 : w2.cell? ⟨w.heap.size, 4, none⟩ = some (.int .i64 X.val.p) := hX2.cell 4
      have d5 : w2.cell? ⟨w.heap.size, 5, none⟩ = some (.slice X.kA X.keys.length X.kc) := hX2.cell 5
      have d6 : w2.cell? ⟨w.heap.size, 6, none⟩ = some (.slice X.cA X.kids.length X.cc) := hX2.cell 6
      obtain ⟨r, hr⟩ : ∃ r, ridxN X.tree ⟨s.key, s.at_⟩ = r := ⟨_, rfl⟩
      rw [hr]
      have HR := Lib.hid hr
      clear t0 t1 t2 t3 t4 t5 t6 g0 g1 HI hb2 hb3 hX2 hZ2 hr
      by_cases hneg : r < 0
      · have HN := Lib.hid (get_none HX.out.1 HS.out (by show ridxN X.tree ⟨s.key, s.at_⟩ < 0; rw [HR.out]; exact hneg))
        clear d0 d1 d2 d3 d4 d5 d6 zx
        go_wp2_with fail
        clear r0 r1 r2 r3 r4 r5 r6
        refine bodyPost_ret (results_row_tmp Tryd.results22 _ _ (w.heap.size + 1) _ _ _ rfl (blk7 _ _ _ _ _ _ _ H2.out.2.2.1) Tryd.underlying47 rfl (by kernel_rfl)) rfl ?_
        exact ⟨H2.out.1.trans ((only7 w2 (w.heap.size + 1) _ _ _ _ _ _ _ _ _ _ _ _ _ _).below H2.out.1.size (fun q hq e => by omega)), .inl ⟨HN.out, rfl⟩⟩
      · obtain ⟨i, hi, hri⟩ := ridx_some (X := X) (s := s) (by show ¬ ridxN X.tree ⟨s.key, s.at_⟩ < 0; rw [HR.out]; exact hneg)
        have hri' : r = (i : Int) := HR.out.symm.trans hri
        subst hri'
        have hil := JT.idx_lt hi ((JT.formed_iff _).1 (HX.out.1.formed HH.out.2.2)).1
        rw [PT.tree_kids, List.length_map] at hil
        obtain ⟨K, hK⟩ : ∃ K, X.kids[i]? = some K := ⟨_, List.getElem?_eq_getElem hil⟩
        have hXi : InJ w2 X := (HX.out.1.inJ HH.out.1).below H2.out.1
        obtain ⟨bk, ok, hcA, p0, p1, p2, p3, p4, p5, p6⟩ := kid_cells hXi.slot.kids hK
        have hkl : X.kids.length ≤ 9223372036854775807 := Nat.le_trans hXi.slot.clen (by decide)
        rw [hcA] at d6
        have hii : (i : Int) < (X.kids.length : Int) := by omega
        have HK := Lib.hid (And.intro hi (And.intro hK hcA))
        clear hi hri hK hXi hcA r0 r1 r2 r3 r4 r5 r6 zr hneg HR
        go_wp2_with fail
        clear d0 d1 d2 d3 d4 d5 d6 p0 p1 p2 p3 p4 p5 p6 zx
        have ho := only7 w2 w.heap.size (.int .i64 K.val.k) (.int .i64 K.val.n) (.string K.val.s) (.int .i64 K.val.o) (.int .i64 K.val.p) (.slice K.kA K.keys.length K.kc) (.slice K.cA K.kids.length K.cc) 0 1 2 3 4 5 6
        have HO := Lib.hid ho
        clear ho
        go_roundw
        case rel =>
          refine ⟨k + 1, is ++ [i], K, by go_num, by omega, ?_, H2.out.1.trans (HO.out.below H2.out.1.size (fun q hq e => by omega)), blk7 _ _ _ _ _ _ _ H2.out.2.1, H2.out.2.2.1.only HO.out (by show w.heap.size + 1 ≠ w.heap.size; omega)⟩
          rw [List.take_add_one, HS.out]
          exact HX.out.1.snoc HK.out.1 HK.out.2.1
        case measure => simp [intOf] <;> omega
    · obtain rfl : k = p.length := by omega
      have hlti : ¬ (p.length : Int) < (p.length : Int) := by omega
      have r0 : wr.cell? ⟨w.heap.size + 1, 0, none⟩ = some (.int .i64 0) := hZ.cell 0
      have r1 : wr.cell? ⟨w.heap.size + 1, 1, none⟩ = some (.int .i64 0) := hZ.cell 1
      have r2 : wr.cell? ⟨w.heap.size + 1, 2, none⟩ = some (.string ⟨#[]⟩) := hZ.cell 2
      have r3 : wr.cell? ⟨w.heap.size + 1, 3, none⟩ = some (.int .i64 0) := hZ.cell 3
      have r4 : wr.cell? ⟨w.heap.size + 1, 4, none⟩ = some (.int .i64 0) := hZ.cell 4
      have r5 : wr.cell? ⟨w.heap.size + 1, 5, none⟩ = some (.slice none 0 0) := hZ.cell 5
      have r6 : wr.cell? ⟨w.heap.size + 1, 6, none⟩ = some (.slice none 0 0) := hZ.cell 6
      have zr := hZ.frozen
      have hbw := hX.lt
      clear hL hb hX hZ hB1 hB2 hB3
      go_wp2_with fail
      clear t0 t1 t2 t3 t4 t5 t6 r0 r1 r2 r3 r4 r5 r6
      refine bodyPost_ret (results_row_tmp Tryd.results22 _ _ (w.heap.size + 1) _ _ _ rfl (blk7 _ _ _ _ _ _ _ HX.out.2.2.2) Tryd.underlying47 rfl (by kernel_rfl)) rfl ?_
      have hL := HX.out.1
      rw [List.take_of_length_le (Nat.le_refl _)] at hL
      have hgt : T.tree.get p = some X.tree := by
        have := Lead.get [] hL
        rw [List.append_nil] at this
        rw [this]
        rfl
      have hbe := HX.out.2.1.trans ((only7 wr (w.heap.size + 1) (.int .i64 X.val.k) (.int .i64 X.val.n) (.string X.val.s) (.int .i64 X.val.o) (.int .i64 X.val.p) (.slice X.kA X.keys.length X.kc) (.slice X.cA X.kids.length X.cc) 0 1 2 3 4 5 6).below HX.out.2.1.size (fun q hq e => by omega))
      rw [RGetQ]
      refine ⟨hbe, .inr ⟨X, is, hgt, ?_, hL⟩⟩
      rw [PT.value_eq]
      rfl
end Go.Proofs.YtljemaapicaioaaDoor
