/- An id that came in, opened. -/
import Derived.Test.YtljemaapicaioaaDoorIdRowWalk
import Derived.Deep.SlicePairs
namespace Go.Proofs.YtljemaapicaioaaDoor
open Go.RowKit Go.ChangeShapes Go.WideShapes Go.Deep
set_option linter.unusedVariables false
section
variable {H : Type} {enc : TypeId × Value → H} {W : World} {b0 base : Nat} {spare : Nat → Bool} {held : Bool} {r : Reach} {v : Value} {d : DataW H} {p : List MemPlace}
set_option maxRecDepth 100000 in
theorem open_IsId (hv : Value.okWide Tryd.prog W r b0 41 v) (h : DataW.Trod enc Tryd.prog W base spare held 41 v d p) : ∃ a, IsId W v a := by
  obtain ⟨cs, rfl, _⟩ := okWide_struct Tryd.underlying41 hv
  obtain ⟨fuel, hf⟩ := h
  have c1 : Tryd.prog.cellsOf 3 = 1 := by kernel_rfl
  have c3 : Tryd.prog.cellsOf 41 = 2 := by kernel_rfl
  obtain ⟨xs, n, rfl, _, hl, hxl, hg⟩ := DataW.trod_struct Tryd.underlying41 hf
  rw [c3] at hl
  have hcl : (Value.cells (.agg cs)).toList = cs.toList := rfl
  obtain ⟨l, hcs⟩ : ∃ l, cs.toList = l := ⟨_, rfl⟩
  rw [hcl, hcs] at hl hg
  match l, hl, xs, hxl with
  | [x, y], _, [z0, z1], _ =>
    have q0 : DataW.trod enc Tryd.prog W base spare held n 3 [x] = some z0 := tr_field hg 0 _ rfl rfl rfl c1 rfl
    have q1 : DataW.trod enc Tryd.prog W base spare held n 3 [y] = some z1 := tr_field hg 1 _ rfl rfl rfl c1 rfl
    obtain ⟨o, e3, _, w3⟩ := DataW.trod_int Tryd.underlying3 q0
    obtain ⟨q, e4, _, w4⟩ := DataW.trod_int Tryd.underlying3 q1
    simp only [List.cons.injEq, and_true] at e3 e4
    subst e3 e4
    refine ⟨(o, q), ?_⟩
    show Value.agg cs = .agg #[.int .i64 o, .int .i64 q]
    have : cs = #[.int .i64 o, .int .i64 q] := by apply Array.toList_inj.1; rw [hcs]
    rw [this]
end
end Go.Proofs.YtljemaapicaioaaDoor
