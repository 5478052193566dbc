/- booksame.Error: of the error that is as it should be it says so. -/
import Derived.Test.YtfnigdbnkdofiaaDoorTold
namespace Go.Proofs.YtfnigdbnkdofiaaDoor
open Go.RowKit
set_option linter.unusedVariables false
set_option linter.unusedSimpArgs false

/-- An error, and the number that it is. -/
def ErrIs (ev : Value) (e : Int) : Prop := (ev = .nilIface ∧ e = 0) ∨ (ev = .iface 57 (.int .i64 e) ∧ I64 e)

theorem error_like (ev : Value) (e : Int) (w : World) (h : ErrIs ev e) (hg : ErrVar w) : Calls Tryd.prog 7 #[ev, .int .i64 e] w fun r w' => r = .returned (.bool true) ∧ Below w.heap.size w w' := by
  rcases h with ⟨rfl, rfl⟩ | ⟨rfl, h⟩
  · refine (error_nil 0 w).mono ?_
    rintro r w' ⟨rfl, rfl⟩
    exact ⟨rfl, Below.refl _ _⟩
  · refine (error_is e e w hg h).mono ?_
    rintro r w' ⟨rfl, hb⟩
    exact ⟨by simp, hb⟩

end Go.Proofs.YtfnigdbnkdofiaaDoor
