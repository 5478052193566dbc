/- plain.Told and booksame.Error: contracts. 'ErrVar': what errors.As reads of the library's own variable. -/
import Derived.Test.YtfnigdbnkdofiaaDoorAs
import Derived.Test.YtfnigdbnkdofiaaDoorOpen
namespace Go.Proofs.YtfnigdbnkdofiaaDoor
open Go.RowKit

/-- The cell of errors.errorType holds the type error's handle. -/
def ErrVar (w : World) : Prop := w.cell? ⟨0, 0, none⟩ = some (.iface 122 (.agg #[.pointer (some ⟨4, 32, none⟩)]))
theorem ErrVar.below {w w' : World} (h : ErrVar w) (hb : Below w.heap.size w w') : ErrVar w' := cell_below hb h
theorem ErrVar.alloc {w : World} (h : ErrVar w) (o : Obj) : ErrVar (w.alloc o) := h.below ((Below.refl _ _).alloc (Nat.le_refl _) o)

theorem told_nil (w : World) : Calls Tryd.prog 20 #[.nilIface] w fun e w' => e = .returned (.int .i64 0) ∧ w = w' := by
  go_enter Tryd.func20, Tryd.ntmps20
  go_wp2
  go_ret
  exact ⟨rfl, rfl⟩

theorem told_is (n : Int) (w : World) (hg : ErrVar w) : Calls Tryd.prog 20 #[.iface 57 (.int .i64 n)] w fun e w' => e = .returned (.int .i64 n) ∧ Below w.heap.size w w' := by
  have hgA := hg.alloc (.cells #[.int .i64 0] 57)
  go_enter Tryd.func20, Tryd.ntmps20
  go_wp2_with fail
  refine (as_hit n ⟨w.heap.size, 0, none⟩ (.int .i64 0) _ hgA (by simp) (by simp)).mono ?_
  rintro e w' ⟨rfl, rfl⟩
  go_wp2
  go_ret
  refine ⟨rfl, ?_⟩
  repeat (first | exact Below.refl _ _ | refine Below.drew ?_ | refine Below.alloc ?_ (by first | omega | (simp; done) | (simp; omega)) _)

theorem error_nil (e : Int) (w : World) : Calls Tryd.prog 7 #[.nilIface, .int .i64 e] w fun r w' => r = .returned (.bool (0 == e)) ∧ w = w' := by
  go_enter Tryd.func7, Tryd.ntmps7
  go_wp2_with (go_at_call 20; refine (told_nil _).mono ?_; rintro e w' ⟨rfl, rfl⟩)
  go_ret
  exact ⟨rfl, rfl⟩

theorem error_is (n e : Int) (w : World) (hg : ErrVar w) (hn : I64 n) : Calls Tryd.prog 7 #[.iface 57 (.int .i64 n), .int .i64 e] w fun r w' => r = .returned (.bool (n == e)) ∧ Below w.heap.size w w' := by
  obtain ⟨h1, h2⟩ := hn
  go_enter Tryd.func7, Tryd.ntmps7
  go_wp2_with (go_at_call 20; refine (told_is _ _ hg).mono ?_; rintro e w' ⟨rfl, hb⟩)
  go_ret
  exact ⟨rfl, hb⟩
end Go.Proofs.YtfnigdbnkdofiaaDoor
