/- A slice of numbers that came in, opened (no other law's text behind it). -/
import Derived.Test.YthimkpkoimfkiaaGreatCg2
import Derived.ChangeSlices
import Derived.Test.YthimkpkoimfkiaaGreatProg
namespace Go.Proofs.YthimkpkoimfkiaaGreat
open Go.RowKit Go.ChangeShapes Go.WideShapes
set_option linter.unusedVariables false

/-- A slice of numbers that came in. -/
def IsInts (W : World) (v : Value) (l : List Int) : Prop := ∃ A c, v = .slice A l.length c ∧ SlAt W A (ints l) ∧ (∀ r ∈ l, I64 r) ∧ l.length ≤ maxLen
set_option maxRecDepth 100000 in
theorem open_IsInts {H : Type} {enc : TypeId × Value → H} {W : World} {b0 base : Nat} {spare : Nat → Bool} {held : Bool} {r : Reach} {v : Value} {d : DataW H} {p : List MemPlace} (hv : Value.okWide Tryz.prog W r b0 43 v) (h : DataW.Trod enc Tryz.prog W base spare held 43 v d p) :
    ∃ l, IsInts W v l := by
  obtain ⟨a, len, cap, rfl⟩ := okWide_slice Tryz.underlying43 hv
  obtain ⟨fuel, hf⟩ := h
  rcases open_ints Tryz.underlying43 Tryz.underlying3 (by kernel_rfl) hf with ⟨hcs, _⟩ | ⟨a', len', cap', zs, hcs, _, hl, hm, hzl, _, hcell, hwf⟩
  · simp [Value.cells] at hcs
    obtain ⟨rfl, rfl, rfl⟩ := hcs
    exact ⟨[], none, 0, rfl, .inl rfl, by simp, by simp⟩
  · simp [Value.cells] at hcs
    obtain ⟨rfl, rfl, rfl⟩ := hcs
    have hle : len ≤ zs.length := by rw [hzl]; split <;> omega
    have hlen : (zs.take len).length = len := by rw [List.length_take]; omega
    refine ⟨zs.take len, some a', cap, by rw [hlen], ?_, fun n hn => i64_of_wf (hwf n (List.mem_of_mem_take hn)), by rw [hlen]; omega⟩
    by_cases h0 : len = 0
    · subst h0; exact .inl rfl
    · have c0 := hcell 0 (by omega)
      have ha := addr_none c0
      refine .inr ⟨a'.block, a'.off, by rw [← ha], fun j u hu => ?_⟩
      have hj : j < len := by
        have := (List.getElem?_eq_some_iff.1 hu).1
        simp only [ints, List.length_map] at this
        omega
      have c := hcell j (by omega)
      rw [add_eq ha] at c
      rw [c]
      simp only [ints, List.getElem?_map, List.getElem?_take, if_pos hj] at hu
      rw [List.getD_eq_getElem?_getD]
      cases hz : zs[j]? with
      | none => rw [hz] at hu; simp at hu
      | some z => rw [hz] at hu; simp at hu; simp [← hu]
end Go.Proofs.YthimkpkoimfkiaaGreat
