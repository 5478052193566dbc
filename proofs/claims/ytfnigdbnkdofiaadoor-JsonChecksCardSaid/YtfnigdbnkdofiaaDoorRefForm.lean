/- bookref3.Formed: the contract. -/
import Derived.Test.YtfnigdbnkdofiaaDoorRefCount
import Derived.Laws.Cover1
namespace Go.Proofs.YtfnigdbnkdofiaaDoor
open Go.RowKit
set_option linter.unusedVariables false
set_option linter.unusedSimpArgs false

theorem rvalue_is (k n : Int) (s : ByteArray) (o p : Int) (w : World) (r : Bool) (hr : (JV.ok ⟨k, n, s, o, p⟩) = r) : Calls Tryd.prog 34 #[.agg #[.int .i64 k, .int .i64 n, .string s, .int .i64 o, .int .i64 p]] w (BoolIs w r) := by
  rw [← hr]; exact rvalue_any ⟨k, n, s, o, p⟩ w

set_option maxRecDepth 100000 in
set_option maxHeartbeats 2000000 in
/-- No value that a tree may have. -/
theorem rform_head (T : PT) (w : World) (h : T.val.head = false) : Calls Tryd.prog 17 #[T.value] w (BoolIs w false) := by
  obtain ⟨⟨k, n, s, o, p⟩, kA, kc, keys, cA, cc, kids⟩ := T
  simp only [PT.val, JV.head] at h
  unfold PT.value PT.cells JV.cells
  simp only [PT.val, PT.keys, PT.kids, PT.kA, PT.kc, PT.cA, PT.cc]
  obtain ⟨r, hr⟩ : ∃ r, (o == 0 && p == 0) = r := ⟨_, rfl⟩
  obtain ⟨i, hi⟩ : ∃ i, JV.ok ⟨k, n, s, o, p⟩ = i := ⟨_, rfl⟩
  rw [hr, hi] at h
  have HR := Lib.hid (And.intro hr (And.intro hi h))
  clear hr hi h
  by_cases hk : k = 4
  · subst hk
    cases r <;> cases i
    all_goals
      go_enter Tryd.func17, Tryd.ntmps17
      go_wp2_with fail
      refine (rvalue_is _ _ _ _ _ _ _ HR.out.2.1).mono ?_
      rintro e w1 ⟨rfl, hb1⟩
      obtain ⟨hb, hT, hV, hs⟩ := boxes2 hb1
      have H1 := Lib.hid (And.intro hb (And.intro hT hV))
      have d0 : w1.cell? ⟨w.heap.size + 1, 0, none⟩ = some (.int .i64 4) := hV.cell 0
      have d3 : w1.cell? ⟨w.heap.size + 1, 3, none⟩ = some (.int .i64 o) := hV.cell 3
      have d4 : w1.cell? ⟨w.heap.size + 1, 4, none⟩ = some (.int .i64 p) := hV.cell 4
      clear hb1 hb hT hV
      go_wp2_with fail
      refine (rroot_is _ _ _ _ HR.out.1).mono ?_
      rintro e w2 ⟨rfl, hb2⟩
      have H2 := Lib.hid (H1.out.1.trans (hb2.mono H1.out.1.size))
      have e0 : w2.cell? ⟨w.heap.size + 1, 0, none⟩ = some (.int .i64 4) := cell_below hb2 d0
      clear hb2 d0 d3 d4
      go_wp2_with fail
      go_ret
      exact ⟨rfl, H2.out⟩
  · have hkb : (k == 4) = false := by simpa using hk
    cases r <;> cases i
    case true.true => have := HR.out.2.2; simp [hk] at this
    all_goals
      go_enter Tryd.func17, Tryd.ntmps17
      go_wp2_with fail
      refine (rvalue_is _ _ _ _ _ _ _ HR.out.2.1).mono ?_
      rintro e w1 ⟨rfl, hb1⟩
      obtain ⟨hb, hT, hV, hs⟩ := boxes2 hb1
      have H1 := Lib.hid (And.intro hb (And.intro hT hV))
      have d0 : w1.cell? ⟨w.heap.size + 1, 0, none⟩ = some (.int .i64 k) := hV.cell 0
      have d3 : w1.cell? ⟨w.heap.size + 1, 3, none⟩ = some (.int .i64 o) := hV.cell 3
      have d4 : w1.cell? ⟨w.heap.size + 1, 4, none⟩ = some (.int .i64 p) := hV.cell 4
      clear hb1 hb hT hV
      go_wp2_with fail
      refine (rroot_is _ _ _ _ HR.out.1).mono ?_
      rintro e w2 ⟨rfl, hb2⟩
      have H2 := Lib.hid (H1.out.1.trans (hb2.mono H1.out.1.size))
      have e0 : w2.cell? ⟨w.heap.size + 1, 0, none⟩ = some (.int .i64 k) := cell_below hb2 d0
      clear hb2 d0 d3 d4
      go_wp2_with fail
      go_ret
      exact ⟨rfl, H2.out⟩

theorem belowD {B : Nat} {w w' : World} (h : Below B w w') (n : Nat) : Below B w (w'.drewN n) := ⟨h.os, h.tape, h.output, h.size, h.block⟩

end Go.Proofs.YtfnigdbnkdofiaaDoor
