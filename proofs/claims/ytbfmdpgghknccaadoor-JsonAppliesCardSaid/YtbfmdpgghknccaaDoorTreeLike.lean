/- booksame.Error, booklaw3.tree: of what is as it should be they say so. -/
import Derived.Test.YtbfmdpgghknccaaDoorRefCheck
import Derived.Test.YtbfmdpgghknccaaDoorTold
import Derived.Test.YtbfmdpgghknccaaDoorSame
namespace Go.Proofs.YtbfmdpgghknccaaDoor
open Go.RowKit
set_option linter.unusedVariables false
set_option linter.unusedSimpArgs false

/-- An error, and the number that it is. -/
def ErrIs (ev : Value) (e : Int) : Prop := (ev = .nilIface ∧ e = 0) ∨ (ev = .iface 98 (.int .i64 e) ∧ I64 e)

theorem error_like (ev : Value) (e : Int) (w : World) (h : ErrIs ev e) (hg : ErrVar w) : Calls Tryd.prog 17 #[ev, .int .i64 e] w (BoolIs w true) := by
  rcases h with ⟨rfl, rfl⟩ | ⟨rfl, h⟩
  · refine (error_nil 0 w).mono ?_
    rintro r w' ⟨rfl, rfl⟩
    exact ⟨rfl, Below.refl _ _⟩
  · refine (error_is e e w hg h).mono ?_
    rintro r w' ⟨rfl, hb⟩
    exact ⟨by simp, hb⟩

theorem check_both (t : JT) : (checkV t = .nilIface ∧ rcheckN t = 0) ∨ (checkV t ≠ .nilIface ∧ rcheckN t ≠ 0 ∧ ErrIs (checkV t) (rcheckN t)) := by
  unfold checkV rcheckN
  split
  · split
    · exact .inl ⟨rfl, rfl⟩
    · exact .inr ⟨by simp, by simp, .inr ⟨rfl, by unfold I64; omega⟩⟩
  · exact .inr ⟨by simp, by simp, .inr ⟨rfl, by unfold I64; omega⟩⟩

set_option maxRecDepth 100000 in
set_option maxHeartbeats 2000000 in
theorem tree_like (T S : PT) (W0 w : World) (hT : InJ W0 T) (hS : InJ W0 S) (he : T.tree = S.tree) (hb : Below W0.heap.size W0 w) (ev : Value) (e : Int) (h : ErrIs ev e) (hg : ErrVar w) :
    Calls Tryd.prog 7 #[T.value, ev, S.value, .int .i64 e] w (BoolIs w true) := by
  have HE := Lib.hid (fun (w1 : World) (g : ErrVar w1) => error_like ev e w1 h g)
  have HS := Lib.hid (fun (w1 : World) (g : Below W0.heap.size W0 w1) => same_any T S W0 hT hS he w1 g)
  have HB := Lib.hid (And.intro hb hg)
  clear h hT hS he hb hg
  rw [PT.value_eq, PT.value_eq] at HS ⊢
  go_enter Tryd.func7, Tryd.ntmps7
  go_wp2_with fail
  refine (HE.out _ ((HB.out.2.alloc _).alloc _)).mono ?_
  rintro e w1 ⟨rfl, hb1⟩
  obtain ⟨hb, hX, hY, _⟩ := boxes2 hb1
  have H1 := Lib.hid (And.intro hb (HB.out.1.trans (hb.mono HB.out.1.size)))
  have hlt1 := hX.lt
  have hlt2 := hY.lt
  have c0 : w1.cell? ⟨w.heap.size, 0, none⟩ = some (.int .i64 T.val.k) := hX.cell 0
  have c1 : w1.cell? ⟨w.heap.size, 1, none⟩ = some (.int .i64 T.val.n) := hX.cell 1
  have c2 : w1.cell? ⟨w.heap.size, 2, none⟩ = some (.string T.val.s) := hX.cell 2
  have c3 : w1.cell? ⟨w.heap.size, 3, none⟩ = some (.int .i64 T.val.o) := hX.cell 3
  have c4 : w1.cell? ⟨w.heap.size, 4, none⟩ = some (.int .i64 T.val.p) := hX.cell 4
  have c5 : w1.cell? ⟨w.heap.size, 5, none⟩ = some (.slice T.kA T.keys.length T.kc) := hX.cell 5
  have c6 : w1.cell? ⟨w.heap.size, 6, none⟩ = some (.slice T.cA T.kids.length T.cc) := hX.cell 6
  have d0 : w1.cell? ⟨w.heap.size + 1, 0, none⟩ = some (.int .i64 S.val.k) := hY.cell 0
  have d1 : w1.cell? ⟨w.heap.size + 1, 1, none⟩ = some (.int .i64 S.val.n) := hY.cell 1
  have d2 : w1.cell? ⟨w.heap.size + 1, 2, none⟩ = some (.string S.val.s) := hY.cell 2
  have d3 : w1.cell? ⟨w.heap.size + 1, 3, none⟩ = some (.int .i64 S.val.o) := hY.cell 3
  have d4 : w1.cell? ⟨w.heap.size + 1, 4, none⟩ = some (.int .i64 S.val.p) := hY.cell 4
  have d5 : w1.cell? ⟨w.heap.size + 1, 5, none⟩ = some (.slice S.kA S.keys.length S.kc) := hY.cell 5
  have d6 : w1.cell? ⟨w.heap.size + 1, 6, none⟩ = some (.slice S.cA S.kids.length S.cc) := hY.cell 6
  clear hb1 hb hX hY
  go_wp2_with fail
  refine (HS.out _ H1.out.2).mono ?_
  clear c0 c1 c2 c3 c4 c5 c6 d0 d1 d2 d3 d4 d5 d6 hlt1 hlt2
  rintro e w2 ⟨rfl, hb2⟩
  have H2 := Lib.hid (H1.out.1.trans (hb2.mono H1.out.1.size))
  clear hb2
  go_wp2_with fail
  go_ret
  exact ⟨rfl, H2.out⟩
end Go.Proofs.YtbfmdpgghknccaaDoor
