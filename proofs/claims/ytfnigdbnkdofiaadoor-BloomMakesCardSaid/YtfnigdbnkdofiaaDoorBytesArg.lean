/- A slice of bytes that came in, opened. -/
import Derived.Test.YtfnigdbnkdofiaaDoorBytesIs
import Derived.Test.YtfnigdbnkdofiaaDoorOpen
namespace Go.Proofs.YtfnigdbnkdofiaaDoor
open Go.RowKit Go.ChangeShapes Go.WideShapes
set_option linter.unusedVariables false

theorem u8_of_wf {x : Int} (h : (Lit.int .u8 x).wf = true) : 0 ≤ x ∧ x < 256 := by
  simp only [Lit.wf, Bool.and_eq_true, decide_eq_true_eq] at h
  have h1 : IntKind.min .u8 = 0 := by decide
  have h2 : IntKind.max .u8 = 255 := by decide
  rw [h1, h2] at h
  omega
set_option maxRecDepth 100000 in
theorem open_IsBytes {H : Type} {enc : TypeId × Value → H} {W : World} {b0 base : Nat} {spare : Nat → Bool} {held : Bool} {r : Reach} {v : Value} {d : DataW H} {p : List MemPlace} (hv : Value.okWide Tryd.prog W r b0 40 v) (h : DataW.Trod enc Tryd.prog W base spare held 40 v d p) :
    ∃ l, IsBytes W v l := by
  obtain ⟨a, len, cap, rfl⟩ := okWide_slice Tryd.underlying40 hv
  obtain ⟨fuel, hf⟩ := h
  rcases open_ints Tryd.underlying40 Tryd.underlying5 (by kernel_rfl) hf with ⟨hcs, _⟩ | ⟨a', len', cap', zs, hcs, _, hl, hm, hzl, _, hcell, hwf⟩
  · simp [Value.cells] at hcs
    obtain ⟨rfl, rfl, rfl⟩ := hcs
    exact ⟨[], none, 0, rfl, .inl rfl, by simp, by simp, by simp⟩
  · simp [Value.cells] at hcs
    obtain ⟨rfl, rfl, rfl⟩ := hcs
    have hle : len ≤ zs.length := by rw [hzl]; split <;> omega
    have hlen : (zs.take len).length = len := by rw [List.length_take]; omega
    refine ⟨zs.take len, some a', cap, by rw [hlen], ?_, fun n hn => u8_of_wf (hwf n (List.mem_of_mem_take hn)), by rw [hlen]; omega, hm⟩
    by_cases h0 : len = 0
    · subst h0; exact .inl rfl
    · have c0 := hcell 0 (by omega)
      have ha := addr_none c0
      refine .inr ⟨a'.block, a'.off, by rw [← ha], fun j u hu => ?_⟩
      have hj : j < len := by
        have := (List.getElem?_eq_some_iff.1 hu).1
        simp only [u8s, List.length_map] at this
        omega
      have c := hcell j (by omega)
      rw [add_eq ha] at c
      rw [c]
      simp only [u8s, List.getElem?_map, List.getElem?_take, if_pos hj] at hu
      rw [List.getD_eq_getElem?_getD]
      cases hz : zs[j]? with
      | none => rw [hz] at hu; simp at hu
      | some z => rw [hz] at hu; simp at hu; simp [← hu]
end Go.Proofs.YtfnigdbnkdofiaaDoor
