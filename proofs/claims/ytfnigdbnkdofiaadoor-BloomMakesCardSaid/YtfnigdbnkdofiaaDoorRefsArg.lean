/- A slice of refs that came in; a ref that came in. -/
import Derived.Test.YtfnigdbnkdofiaaDoorOpen
import Derived.Test.YtfnigdbnkdofiaaDoorRefId
import Derived.Deep.SlicePairs
namespace Go.Proofs.YtfnigdbnkdofiaaDoor
open Go.RowKit Go.ChangeShapes Go.WideShapes Go.Deep
set_option linter.unusedVariables false

def IsRefs (W : World) (v : Value) (l : List (Int × Int)) : Prop := ∃ A c, v = .slice A l.length c ∧ SlAt W A (refs l) ∧ (∀ r ∈ l, I64 r.1 ∧ I64 r.2) ∧ l.length ≤ maxLen

set_option maxRecDepth 100000 in
theorem open_IsRefs {H : Type} {enc : TypeId × Value → H} {W : World} {b0 base : Nat} {spare : Nat → Bool} {held : Bool} {r : Reach} {v : Value} {d : DataW H} {p : List MemPlace} (hv : Value.okWide Tryd.prog W r b0 39 v) (h : DataW.Trod enc Tryd.prog W base spare held 39 v d p) :
    ∃ l, IsRefs W v l := by
  obtain ⟨a, len, cap, rfl⟩ := okWide_slice Tryd.underlying39 hv
  obtain ⟨fuel, hf⟩ := h
  obtain ⟨A, c, l, hcs, h1, h2, h3⟩ := trod_refs Tryd.underlying39 Tryd.underlying42 (by kernel_rfl) rfl rfl (by kernel_rfl) (by kernel_rfl) Tryd.underlying3 Tryd.underlying3 hf
  simp [Value.cells] at hcs
  obtain ⟨rfl, rfl, rfl⟩ := hcs
  exact ⟨l, _, _, rfl, h1, h2, h3⟩

def IsRef (v : Value) (r : Int × Int) : Prop := v = .agg #[.int .i64 r.1, .int .i64 r.2]
section
variable {H : Type} {enc : TypeId × Value → H} {W : World} {b0 base : Nat} {spare : Nat → Bool} {held : Bool} {r : Reach} {v : Value} {d : DataW H} {p : List MemPlace}
theorem tr_fld {w : World} {P : Program} {fs : Array Field} {n : Nat} {cs : List Value} {xs : List (DataW H × List MemPlace)}
    (hf : ∀ (i : Nat) (f : Field), fs[i]? = some f → DataW.trod enc P w base spare held n f.type ((cs.drop f.offset).take (P.cellsOf f.type)) = xs[i]?) (i : Nat) (f : Field) (hi : fs[i]? = some f)
    {t o m : Nat} (ht : f.type = t) (ho : f.offset = o) (hm : P.cellsOf t = m) {y : DataW H × List MemPlace} (hy : xs[i]? = some y) : DataW.trod enc P w base spare held n t ((cs.drop o).take m) = some y := by
  subst ht ho hm
  rw [← hy]
  exact hf i f hi
set_option maxRecDepth 100000 in
theorem open_IsRef (hv : Value.okWide Tryd.prog W r b0 42 v) (h : DataW.Trod enc Tryd.prog W base spare held 42 v d p) : ∃ a, IsRef v a := by
  obtain ⟨cs, rfl, _⟩ := okWide_struct Tryd.underlying42 hv
  obtain ⟨fuel, hf⟩ := h
  have c1 : Tryd.prog.cellsOf 3 = 1 := by kernel_rfl
  have c3 : Tryd.prog.cellsOf 42 = 2 := by kernel_rfl
  obtain ⟨xs, n, rfl, _, hl, hxl, hg⟩ := DataW.trod_struct Tryd.underlying42 hf
  rw [c3] at hl
  have hcl : (Value.cells (.agg cs)).toList = cs.toList := rfl
  obtain ⟨l, hcs⟩ : ∃ l, cs.toList = l := ⟨_, rfl⟩
  rw [hcl, hcs] at hl hg
  match l, hl, xs, hxl with
  | [x, y], _, [z0, z1], _ =>
    have q0 : DataW.trod enc Tryd.prog W base spare held n 3 [x] = some z0 := tr_fld hg 0 _ rfl rfl rfl c1 rfl
    have q1 : DataW.trod enc Tryd.prog W base spare held n 3 [y] = some z1 := tr_fld hg 1 _ rfl rfl rfl c1 rfl
    obtain ⟨o, e3, _, w3⟩ := DataW.trod_int Tryd.underlying3 q0
    obtain ⟨q, e4, _, w4⟩ := DataW.trod_int Tryd.underlying3 q1
    simp only [List.cons.injEq, and_true] at e3 e4
    subst e3 e4
    refine ⟨(o, q), ?_⟩
    show Value.agg cs = .agg #[.int .i64 o, .int .i64 q]
    have : cs = #[.int .i64 o, .int .i64 q] := by apply Array.toList_inj.1; rw [hcs]
    rw [this]
end
end Go.Proofs.YtfnigdbnkdofiaaDoor
