/- Rows of numbers that came in, opened. -/
import Derived.Test.YtbfmdpgghknccaaDoorPlaysWalk
import Derived.Deep.Slices
namespace Go.Proofs.YtbfmdpgghknccaaDoor
open Go.RowKit Go.ChangeShapes Go.WideShapes Go.Deep
set_option linter.unusedVariables false

theorem trod_ints {H : Type} {enc : TypeId × Value → H} {W : World} {base fuel : Nat} {spare : Nat → Bool} {held : Bool} {v : Value} {x : DataW H × List MemPlace} (hf : DataW.trod enc Tryd.prog W base spare held fuel 49 [v] = some x) :
    ∃ A c l, v = .slice A (List.length l) c ∧ SlAt W A (ints l) ∧ l.length ≤ maxLen ∧ ∀ n ∈ l, I64 n := by
  rcases open_ints Tryd.underlying49 Tryd.underlying3 (by kernel_rfl) hf with ⟨hcs, _⟩ | ⟨a', len', cap', zs, hcs, _, hl, hm, hzl, _, hcell, hwf⟩
  · obtain rfl : v = .slice none 0 0 := by simpa using hcs
    exact ⟨none, 0, [], rfl, .inl rfl, by simp, by simp⟩
  · obtain rfl : v = .slice (some a') len' cap' := by simpa using hcs
    have hle : len' ≤ zs.length := by rw [hzl]; split <;> omega
    have hlen : (zs.take len').length = len' := by rw [List.length_take]; omega
    refine ⟨some a', cap', zs.take len', by rw [hlen], ?_, by rw [hlen]; omega, fun n hn => i64_of_wf (hwf n (List.mem_of_mem_take hn))⟩
    by_cases h0 : len' = 0
    · subst h0; exact .inl rfl
    · have c0 := hcell 0 (by omega)
      have ha := addr_none c0
      refine .inr ⟨a'.block, a'.off, by rw [← ha], fun j u hu => ?_⟩
      have hj : j < len' := by
        have := (List.getElem?_eq_some_iff.1 hu).1
        simp only [ints, List.length_map] at this
        omega
      have c := hcell j (by omega)
      rw [add_eq ha] at c
      rw [c]
      simp only [ints, List.getElem?_map, List.getElem?_take, if_pos hj] at hu
      rw [List.getD_eq_getElem?_getD]
      cases hz : zs[j]? with
      | none => rw [hz] at hu; simp at hu
      | some z => rw [hz] at hu; simp at hu; simp [← hu]
set_option maxRecDepth 100000 in
theorem open_IsRows {H : Type} {enc : TypeId × Value → H} {W : World} {b0 base : Nat} {spare : Nat → Bool} {held : Bool} {r : Reach} {v : Value} {d : DataW H} {p : List MemPlace} (hv : Value.okWide Tryd.prog W r b0 39 v) (h : DataW.Trod enc Tryd.prog W base spare held 39 v d p) :
    ∃ n, IsRows W v n := by
  obtain ⟨a, len, cap, rfl⟩ := okWide_slice Tryd.underlying39 hv
  obtain ⟨fuel, hf⟩ := h
  rcases open_slice1 Tryd.underlying39 (by kernel_rfl) hf with ⟨hcs, _⟩ | ⟨a', len', cap', m, n, V, D, Pl, hcs, _, hl, hm, hmm, _, hx⟩
  · simp [Value.cells] at hcs
    obtain ⟨rfl, rfl, rfl⟩ := hcs
    exact ⟨0, none, 0, rfl, by simp, fun i hi => absurd hi (Nat.not_lt_zero _)⟩
  · simp [Value.cells] at hcs
    obtain ⟨rfl, rfl, rfl⟩ := hcs
    have hlm : len ≤ m := by rw [hmm]; split <;> omega
    refine ⟨len, some a', cap, rfl, by omega, fun i hi => ?_⟩
    obtain ⟨c0, _⟩ := hx 0 (by omega)
    have ha := addr_none c0
    obtain ⟨ci, ht⟩ := hx i (by omega)
    obtain ⟨A, c, l, hV, hS, hll, h64⟩ := trod_ints ht
    refine ⟨a'.block, a'.off, A, c, l, by rw [← ha], ?_, hS, hll, h64⟩
    rw [← add_eq ha, ci, hV]
end Go.Proofs.YtbfmdpgghknccaaDoor
