/- Bytes that came in, as a string. -/
import Derived.Test.YtdenaejhfgmihaaInfo8
import Derived.Test.YtdenaejhfgmihaaMem
import Derived.Lib.SlBytesRow
namespace Go.Proofs.Ytdenaejhfgmihaa
open Go.RowKit
set_option linter.unusedVariables false
set_option linter.unusedSimpArgs false

/-- Bytes that came in. -/
def IsBytes (W : World) (v : Value) (l : List Int) : Prop := ∃ A c, v = .slice A l.length c ∧ SlAt W A (u8s l) ∧ (∀ x ∈ l, 0 ≤ x ∧ x < 256) ∧ l.length ≤ c ∧ c ≤ maxLen

set_option maxRecDepth 100000 in
theorem conv_bytes (W : World) (A : Option Addr) (c : Nat) (l : List Int) (h : SlAt W A (u8s l)) : (convert 79 9 (.slice A l.length c)).run Try.prog W = .ok (.string (strOfNums l)) W := by
  cases A with
  | none =>
    have hl : l = [] := by
      rcases h with h | ⟨b, off, h, _⟩
      · simpa [u8s] using h
      · cases h
    subst hl
    exact run_convert_bytes_nil W _ _ Try.underlying79 Try.underlying5 0 c _ Try.underlying9
  | some a =>
    by_cases hl : l = []
    · subst hl
      obtain ⟨blk, off, sp⟩ := a
      show (convert 79 9 (.slice (some ⟨blk, off, sp⟩) 0 c)).run Try.prog W = _
      rw [run_convert_bytes_string (P := Try.prog) W _ _ 5 _ 0 c Try.underlying79 Try.underlying5 Try.underlying9]
      have hz : (loadCells ⟨blk, off, sp⟩ 0).run Try.prog W = .ok #[] W := by simp [loadCells, loadCellsFrom]
      rw [run_bytesToString W _ 0 c [] (by simpa using hz)]
      simp [strOfNums, ByteArray.empty, ByteArray.emptyWithCapacity]
      rfl
    · rcases h with h | ⟨b, off, h, hc⟩
      · exact absurd (by simpa [u8s] using h) hl
      · injection h with h
        subst h
        have hr := run_convert_bytes_arg W _ _ Try.underlying79 Try.underlying5 b off l.length c l rfl (fun i hi => hc i _ (by simp [u8s, List.getD, List.getElem?_eq_getElem hi])) 9 Try.underlying9
        exact hr
end Go.Proofs.Ytdenaejhfgmihaa
