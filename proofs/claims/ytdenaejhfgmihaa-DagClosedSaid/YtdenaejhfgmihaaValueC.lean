/- id.Real, id.Check, value.Check: contracts. -/
import Derived.Test.YtdenaejhfgmihaaJsonPlain
import Derived.Test.YtdenaejhfgmihaaProg
import Derived.Test.YtdenaejhfgmihaaMem
import Derived.Deep.QuietTactic
import Derived.BigQuiet
import Derived.WalkSmall
import Derived.Outline
namespace Go.Proofs.Ytdenaejhfgmihaa
open Go.RowKit
set_option linter.unusedVariables false
set_option linter.unusedSimpArgs false

/-- No error, or ErrRange. -/
def errIf (b : Bool) : Value := if b then .nilIface else .iface 47 (.int .i64 1)
theorem errIf_true : errIf true = .nilIface := rfl
theorem errIf_false : errIf false = .iface 47 (.int .i64 1) := rfl

theorem num_any (n : Int) (w : World) : Calls Try.prog 44 #[.int .i64 n] w fun e w' => e = .returned (.bool (decide (1 ≤ n) && decide (n ≤ 1000000))) ∧ w = w' := by
  by_cases h1 : 1 ≤ n
  · go_enter Try.func44, Try.ntmps44
    go_wp2
    go_ret
    exact ⟨by simp [h1], rfl⟩
  · have h2 : n < 1 := by omega
    go_enter Try.func44, Try.ntmps44
    go_wp2
    go_ret
    exact ⟨by rw [decide_eq_false (by omega : ¬ 1 ≤ n)]; rfl, rfl⟩
theorem actor_any (n : Int) (w : World) : Calls Try.prog 43 #[.int .i64 n] w fun e w' => e = .returned (.bool (decide (1 ≤ n) && decide (n ≤ 99))) ∧ w = w' := by
  by_cases h1 : 1 ≤ n
  · go_enter Try.func43, Try.ntmps43
    go_wp2
    go_ret
    exact ⟨by simp [h1], rfl⟩
  · have h2 : n < 1 := by omega
    go_enter Try.func43, Try.ntmps43
    go_wp2
    go_ret
    exact ⟨by rw [decide_eq_false (by omega : ¬ 1 ≤ n)]; rfl, rfl⟩

set_option maxRecDepth 100000 in
set_option maxHeartbeats 800000 in
theorem real_any (o p : Int) (w : World) : Calls Try.prog 46 #[.agg #[.int .i64 o, .int .i64 p]] w fun e w' => e = .returned (.bool (idReal o p)) ∧ Below w.heap.size w w' := by
  cases hb : (decide (1 ≤ o) && decide (o ≤ 1000000)) with
  | false =>
    rw [show idReal o p = false from by unfold idReal; rw [hb]; rfl]
    go_enter Try.func46, Try.ntmps46
    go_wp2_with (go_at_call 44; refine (num_any _ _).mono ?_; rintro e w' ⟨rfl, rfl⟩; rw [hb])
    go_ret
    exact ⟨rfl, (Below.refl _ _).alloc (Nat.le_refl _) _⟩
  | true =>
    rw [show idReal o p = (decide (1 ≤ p) && decide (p ≤ 99)) from by unfold idReal; rw [hb]; rfl]
    go_enter Try.func46, Try.ntmps46
    go_wp2_with ((first | (go_at_call 44; refine (num_any _ _).mono ?_; rintro e w' ⟨rfl, rfl⟩; rw [hb]) | (go_at_call 43; refine (actor_any _ _).mono ?_; rintro e w' ⟨rfl, rfl⟩)))
    go_ret
    exact ⟨rfl, (Below.refl _ _).alloc (Nat.le_refl _) _⟩

set_option maxRecDepth 100000 in
set_option maxHeartbeats 800000 in
theorem idCheck_any (o p : Int) (w : World) : Calls Try.prog 45 #[.agg #[.int .i64 o, .int .i64 p]] w fun e w' => e = .returned (errIf (idOk o p)) ∧ Below w.heap.size w w' := by
  by_cases h : o = 0 ∧ p = 0
  · obtain ⟨rfl, rfl⟩ := h
    go_enter Try.func45, Try.ntmps45
    go_wp2_with fail
    go_ret
    exact ⟨rfl, (Below.refl _ _).alloc (Nat.le_refl _) _⟩
  · have h2 : (o == 0 && p == 0) = false := by
      cases hx : (o == 0 && p == 0) with
      | false => rfl
      | true => simp at hx; exact absurd hx h
    rw [show idOk o p = idReal o p from by unfold idOk; rw [h2]; rfl]
    have HR := Lib.hid (fun w => real_any o p w)
    clear h2
    obtain ⟨r, hr⟩ : ∃ r, idReal o p = r := ⟨_, rfl⟩
    rw [hr] at HR ⊢
    clear hr
    by_cases h0 : o = 0
    · subst h0
      have h1 : ¬ p = 0 := fun e => h ⟨rfl, e⟩
      clear h
      cases r
      all_goals
        go_enter Try.func45, Try.ntmps45
        go_wp2_with (go_at_call 46; refine (HR.out _).mono ?_; rintro e w' ⟨rfl, hb'⟩)
        go_ret
        exact ⟨rfl, ((Below.refl _ _).alloc (Nat.le_refl _) _).trans (hb'.mono (by simp))⟩
    · clear h
      cases r
      all_goals
        go_enter Try.func45, Try.ntmps45
        go_wp2_with (go_at_call 46; refine (HR.out _).mono ?_; rintro e w' ⟨rfl, hb'⟩)
        go_ret
        exact ⟨rfl, ((Below.refl _ _).alloc (Nat.le_refl _) _).trans (hb'.mono (by simp))⟩

set_option maxRecDepth 100000 in
set_option maxHeartbeats 2000000 in
theorem valueCheck_any (v : JV) (w : World) : Calls Try.prog 48 #[.agg v.cells.toArray] w fun e w' => e = .returned (errIf v.ok) ∧ Below w.heap.size w w' := by
  obtain ⟨k, n, s, o, p⟩ := v
  have hk : k = 0 ∨ k = 1 ∨ k = 2 ∨ k = 3 ∨ k = 4 ∨ (k = 5 ∨ k = 6) ∨ (k ≠ 0 ∧ k ≠ 1 ∧ k ≠ 2 ∧ k ≠ 3 ∧ k ≠ 4 ∧ k ≠ 5 ∧ k ≠ 6) := by omega
  unfold JV.cells
  simp only
  rcases hk with rfl | rfl | rfl | rfl | rfl | hk | ⟨n0, n1, n2, n3, n4, n5, n6⟩
  case inr.inr.inr.inr.inr.inl =>
    have ho : o = 0 ∨ (o == 0) = false := by by_cases h : o = 0 <;> simp [h]
    have hp : p = 0 ∨ (p == 0) = false := by by_cases h : p = 0 <;> simp [h]
    obtain ⟨r, hr⟩ : ∃ r, idOk o p = r := ⟨_, rfl⟩
    rcases hk with rfl | rfl <;> rcases ho with rfl | ho <;> rcases hp with rfl | hp <;> cases r
    all_goals
      have HR := Lib.hid hr
      clear hr
      go_enter Try.func48, Try.ntmps48
      go_wp2_with (go_at_call 45; refine (idCheck_any _ _ _).mono ?_; rintro e w' ⟨rfl, hb'⟩; rw [HR.out]; first | rw [errIf_true] | rw [errIf_false])
      all_goals
        go_ret
        refine ⟨?_, ?_⟩
        · have hr := HR.out
          simp_all [JV.ok, JV.bare, errIf]
        · first
          | exact (Below.refl _ _).alloc (Nat.le_refl _) _
          | exact ((Below.refl _ _).alloc (Nat.le_refl _) _).trans (hb'.mono (by simp))
  case inr.inr.inr.inr.inr.inr =>
    go_enter Try.func48, Try.ntmps48
    go_wp2_with fail
    all_goals
      go_ret
      refine ⟨?_, (Below.refl _ _).alloc (Nat.le_refl _) _⟩
      simp_all [JV.ok, JV.bare, errIf]
  all_goals
    go_enter Try.func48, Try.ntmps48
    go_wp2_with fail
    all_goals
      go_ret
      refine ⟨?_, (Below.refl _ _).alloc (Nat.le_refl _) _⟩
      simp_all [JV.ok, JV.bare, errIf]
end Go.Proofs.Ytdenaejhfgmihaa
