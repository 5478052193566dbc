/- JsonArgs. -/
import Derived.Test.YtmkebfclaehneaaDoorBg29
import Derived.Test.YtmkebfclaehneaaDoorBg34
import Derived.Deep.SlicePairs
/- A tree, a path, a value that came in, opened. -/
namespace Go.Proofs.YtmkebfclaehneaaDoor
open Go.RowKit Go.ChangeShapes Go.WideShapes Go.Deep
set_option linter.unusedVariables false

theorem stCells_length (l : List St) : (stCells l).length = l.length * 2 := by
  induction l with
  | nil => rfl
  | cons x l ih => simp [stCells, St.cells] at *; omega

section
variable {H : Type} {enc : TypeId × Value → H} {W : World} {b0 base : Nat} {spare : Nat → Bool} {held : Bool} {r : Reach} {v : Value} {d : DataW H} {p : List MemPlace}

set_option maxRecDepth 100000 in
theorem open_IsVal (hv : Value.okWide Tryd.prog W r b0 25 v) (h : DataW.Trod enc Tryd.prog W base spare held 25 v d p) : ∃ x, IsVal W v x := by
  obtain ⟨cs, rfl, _⟩ := okWide_struct Tryd.underlying25 hv
  obtain ⟨fuel, hf⟩ := h
  obtain ⟨x, hx, hfit⟩ := trod_value hf
  refine ⟨x, ?_, hfit⟩
  have : cs.toList = x.cells := by simpa [Value.cells] using hx
  show Value.agg cs = .agg x.cells.toArray
  rw [← this]

set_option maxRecDepth 100000 in
theorem open_IsSteps (hv : Value.okWide Tryd.prog W r b0 42 v) (h : DataW.Trod enc Tryd.prog W base spare held 42 v d p) : ∃ l, IsSteps W v l := by
  obtain ⟨a0, len0, cap0, rfl⟩ := okWide_slice Tryd.underlying42 hv
  obtain ⟨fuel, hf⟩ := h
  rcases open_slice_pairs Tryd.underlying42 Tryd.underlying64 (by kernel_rfl) rfl rfl (by kernel_rfl) (by kernel_rfl) hf with ⟨hcs, _⟩ | ⟨a, len, cap, m, n, V0, V1, D0, D1, P0, P1, hcs, _, hl, hm, hmm, _, hx⟩
  · simp [Value.cells] at hcs
    obtain ⟨rfl, rfl, rfl⟩ := hcs
    exact ⟨[], none, 0, rfl, .inl rfl, by simp, by simp⟩
  · simp [Value.cells] at hcs
    obtain ⟨rfl, rfl, rfl⟩ := hcs
    have hlm : len0 ≤ m := by rw [hmm]; split <;> omega
    have each : ∀ i, i < len0 → ∃ q : St, W.cell? (a.add (i * 2)) = some (.string q.key) ∧ W.cell? (a.add (i * 2 + 1)) = some (.int .i64 q.at_) := by
      intro i hi
      obtain ⟨g0, g1, e0, e1⟩ := hx i (by omega)
      obtain ⟨n0, f0, _, _⟩ := DataW.trod_string Tryd.underlying9 e0
      obtain ⟨n1, f1, _, _⟩ := DataW.trod_int Tryd.underlying3 e1
      simp only [List.cons.injEq, and_true] at f0 f1
      exact ⟨⟨n0, n1⟩, by rw [g0, f0], by rw [g1, f1]⟩
    have : Inhabited St := ⟨⟨⟨#[]⟩, 0⟩⟩
    obtain ⟨q, hq⟩ := choose_lt each
    have hlen : ((List.range len0).map q).length = len0 := by simp
    refine ⟨(List.range len0).map q, some a, cap0, by rw [hlen], ?_, by rw [hlen]; omega, by rw [hlen]; omega⟩
    by_cases h0 : len0 = 0
    · subst h0; exact .inl rfl
    · obtain ⟨c0, _⟩ := hq 0 (by omega)
      have ha := addr_none (by simpa using c0)
      refine .inr ⟨a.block, a.off, by rw [← ha], fun j u hu => ?_⟩
      have hj : j < len0 * 2 := by
        have := (List.getElem?_eq_some_iff.1 hu).1
        rw [stCells_length, hlen] at this; exact this
      obtain ⟨g0, g1⟩ := hq (j / 2) (by omega)
      have hr := stCells_at ((List.range len0).map q) (j / 2) (q (j / 2)) (by rw [List.getElem?_map, List.getElem?_range (by omega)]; rfl)
      have hadd := add_eq ha
      rcases Nat.mod_two_eq_zero_or_one j with e | e
      · have ej : j / 2 * 2 = j := by omega
        rw [ej] at g0 hr
        rw [hr.1] at hu
        injection hu with hu
        rw [← hadd, g0, hu]
      · have ej : j / 2 * 2 + 1 = j := by omega
        rw [ej] at g1 hr
        rw [hr.2] at hu
        injection hu with hu
        rw [← hadd, g1, hu]
end
end Go.Proofs.YtmkebfclaehneaaDoor
