/- A tree that came in, opened. -/
import Derived.Test.YtfnigdbnkdofiaaDoorJsonMem
import Derived.Deep.SlicePairs
namespace Go.Proofs.YtfnigdbnkdofiaaDoor
open Go.RowKit Go.ChangeShapes Go.WideShapes Go.Deep
set_option linter.unusedVariables false

section
variable {H : Type} {enc : TypeId × Value → H} {W : World} {b0 base : Nat} {spare : Nat → Bool} {held : Bool} {r : Reach} {v : Value} {d : DataW H} {p : List MemPlace}

set_option maxRecDepth 100000 in
theorem open_IsTree (hv : Value.okWide Tryd.prog W r b0 29 v) (h : DataW.Trod enc Tryd.prog W base spare held 29 v d p) : ∃ T, IsTree W v T := by
  obtain ⟨cs, rfl, _⟩ := okWide_struct Tryd.underlying29 hv
  obtain ⟨fuel, hf⟩ := h
  obtain ⟨T, hT, hi⟩ := trod_tree fuel _ _ hf
  refine ⟨T, ?_, hi⟩
  have : cs.toList = T.cells := by simpa [Value.cells] using hT
  show Value.agg cs = .agg T.cells.toArray
  rw [← this]
end
end Go.Proofs.YtfnigdbnkdofiaaDoor
