/- id.Ref, and its parts: contracts. -/
import Derived.Test.YtfnigdbnkdofiaaDoorProg
import Derived.Test.YtfnigdbnkdofiaaDoorMem
namespace Go.Proofs.YtfnigdbnkdofiaaDoor
open Go.RowKit

def actorB (n : Int) : Bool := decide (1 ≤ n) && decide (n ≤ 99)
def numB (n : Int) : Bool := decide (1 ≤ n) && decide (n ≤ 1000000)
def refB (a s : Int) : Bool := actorB a && numB s

theorem actor_any (n : Int) (w : World) : Calls Tryd.prog 59 #[.int .i64 n] w fun e w' => e = .returned (.bool (actorB n)) ∧ w = w' := by
  by_cases h1 : 1 ≤ n <;> by_cases h2 : n ≤ 99
  all_goals
    go_enter Tryd.func59, Tryd.ntmps59
    go_wp2
    go_ret
    exact ⟨by simp [actorB, h1, h2], rfl⟩

theorem num_any (n : Int) (w : World) : Calls Tryd.prog 60 #[.int .i64 n] w fun e w' => e = .returned (.bool (numB n)) ∧ w = w' := by
  by_cases h1 : 1 ≤ n <;> by_cases h2 : n ≤ 1000000
  all_goals
    go_enter Tryd.func60, Tryd.ntmps60
    go_wp2
    go_ret
    exact ⟨by simp [numB, h1, h2], rfl⟩

theorem ref_any (a s : Int) (w : World) : Calls Tryd.prog 32 #[.agg #[.int .i64 a, .int .i64 s]] w fun e w' => e = .returned (.bool (refB a s)) ∧ Below w.heap.size w w' := by
  cases ha : actorB a with
  | false =>
    go_enter Tryd.func32, Tryd.ntmps32
    go_wp2_with (first | (go_at_call 59; refine (actor_any _ _).mono ?_; rintro e w' ⟨rfl, rfl⟩) | (go_at_call 60; refine (num_any _ _).mono ?_; rintro e w' ⟨rfl, rfl⟩))
    go_ret
    exact ⟨by simp [refB, ha], (Below.refl _ _).alloc (Nat.le_refl _) _⟩
  | true =>
    go_enter Tryd.func32, Tryd.ntmps32
    go_wp2_with (first | (go_at_call 59; refine (actor_any _ _).mono ?_; rintro e w' ⟨rfl, rfl⟩) | (go_at_call 60; refine (num_any _ _).mono ?_; rintro e w' ⟨rfl, rfl⟩))
    go_ret
    exact ⟨by simp [refB, ha], (Below.refl _ _).alloc (Nat.le_refl _) _⟩
end Go.Proofs.YtfnigdbnkdofiaaDoor
