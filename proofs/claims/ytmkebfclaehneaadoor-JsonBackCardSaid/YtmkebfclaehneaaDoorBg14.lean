/- ValueC, Value. -/
import Derived.Test.YtmkebfclaehneaaDoorBg3
import Derived.Test.YtmkebfclaehneaaDoorProg
import Derived.Test.YtmkebfclaehneaaDoorBg2
import Derived.Deep.QuietTactic
import Derived.BigQuiet
import Derived.WalkSmall
import Derived.Outline
import Derived.Test.YtmkebfclaehneaaDoorBg12
/- id.Real, id.Check, value.Check: contracts. -/
namespace Go.Proofs.YtmkebfclaehneaaDoor
open Go.RowKit
set_option linter.unusedVariables false
set_option linter.unusedSimpArgs false

/-- No error, or ErrRange. -/
def errIf (b : Bool) : Value := if b then .nilIface else .iface 44 (.int .i64 1)
theorem errIf_true : errIf true = .nilIface := rfl
theorem errIf_false : errIf false = .iface 44 (.int .i64 1) := rfl

theorem num_any (n : Int) (w : World) : Calls Tryd.prog 82 #[.int .i64 n] w fun e w' => e = .returned (.bool (decide (1 ≤ n) && decide (n ≤ 1000000))) ∧ w = w' := by
  by_cases h1 : 1 ≤ n
  · go_enter Tryd.func82, Tryd.ntmps82
    go_wp2
    go_ret
    exact ⟨by simp [h1], rfl⟩
  · have h2 : n < 1 := by omega
    go_enter Tryd.func82, Tryd.ntmps82
    go_wp2
    go_ret
    exact ⟨by rw [decide_eq_false (by omega : ¬ 1 ≤ n)]; rfl, rfl⟩
theorem actor_any (n : Int) (w : World) : Calls Tryd.prog 83 #[.int .i64 n] w fun e w' => e = .returned (.bool (decide (1 ≤ n) && decide (n ≤ 99))) ∧ w = w' := by
  by_cases h1 : 1 ≤ n
  · go_enter Tryd.func83, Tryd.ntmps83
    go_wp2
    go_ret
    exact ⟨by simp [h1], rfl⟩
  · have h2 : n < 1 := by omega
    go_enter Tryd.func83, Tryd.ntmps83
    go_wp2
    go_ret
    exact ⟨by rw [decide_eq_false (by omega : ¬ 1 ≤ n)]; rfl, rfl⟩

set_option maxRecDepth 100000 in
set_option maxHeartbeats 800000 in
theorem real_any (o p : Int) (w : World) : Calls Tryd.prog 69 #[.agg #[.int .i64 o, .int .i64 p]] w fun e w' => e = .returned (.bool (idReal o p)) ∧ Below w.heap.size w w' := by
  cases hb : (decide (1 ≤ o) && decide (o ≤ 1000000)) with
  | false =>
    rw [show idReal o p = false from by unfold idReal; rw [hb]; rfl]
    go_enter Tryd.func69, Tryd.ntmps69
    go_wp2_with (go_at_call 82; refine (num_any _ _).mono ?_; rintro e w' ⟨rfl, rfl⟩; rw [hb])
    go_ret
    exact ⟨rfl, (Below.refl _ _).alloc (Nat.le_refl _) _⟩
  | true =>
    rw [show idReal o p = (decide (1 ≤ p) && decide (p ≤ 99)) from by unfold idReal; rw [hb]; rfl]
    go_enter Tryd.func69, Tryd.ntmps69
    go_wp2_with ((first | (go_at_call 82; refine (num_any _ _).mono ?_; rintro e w' ⟨rfl, rfl⟩; rw [hb]) | (go_at_call 83; refine (actor_any _ _).mono ?_; rintro e w' ⟨rfl, rfl⟩)))
    go_ret
    exact ⟨rfl, (Below.refl _ _).alloc (Nat.le_refl _) _⟩

set_option maxRecDepth 100000 in
set_option maxHeartbeats 800000 in
theorem idCheck_any (o p : Int) (w : World) : Calls Tryd.prog 54 #[.agg #[.int .i64 o, .int .i64 p]] w fun e w' => e = .returned (errIf (idOk o p)) ∧ Below w.heap.size w w' := by
  by_cases h : o = 0 ∧ p = 0
  · obtain ⟨rfl, rfl⟩ := h
    go_enter Tryd.func54, Tryd.ntmps54
    go_wp2_with fail
    go_ret
    exact ⟨rfl, (Below.refl _ _).alloc (Nat.le_refl _) _⟩
  · have h2 : (o == 0 && p == 0) = false := by
      cases hx : (o == 0 && p == 0) with
      | false => rfl
      | true => simp at hx; exact absurd hx h
    rw [show idOk o p = idReal o p from by unfold idOk; rw [h2]; rfl]
    have HR := Lib.hid (fun w => real_any o p w)
    clear h2
    obtain ⟨r, hr⟩ : ∃ r, idReal o p = r := ⟨_, rfl⟩
    rw [hr] at HR ⊢
    clear hr
    by_cases h0 : o = 0
    · subst h0
      have h1 : ¬ p = 0 := fun e => h ⟨rfl, e⟩
      clear h
      cases r
      all_goals
        go_enter Tryd.func54, Tryd.ntmps54
        go_wp2_with (go_at_call 69; refine (HR.out _).mono ?_; rintro e w' ⟨rfl, hb'⟩)
        go_ret
        exact ⟨rfl, ((Below.refl _ _).alloc (Nat.le_refl _) _).trans (hb'.mono (by simp))⟩
    · clear h
      cases r
      all_goals
        go_enter Tryd.func54, Tryd.ntmps54
        go_wp2_with (go_at_call 69; refine (HR.out _).mono ?_; rintro e w' ⟨rfl, hb'⟩)
        go_ret
        exact ⟨rfl, ((Below.refl _ _).alloc (Nat.le_refl _) _).trans (hb'.mono (by simp))⟩

set_option maxRecDepth 100000 in
set_option maxHeartbeats 2000000 in
theorem valueCheck_any (v : JV) (w : World) : Calls Tryd.prog 32 #[.agg v.cells.toArray] w fun e w' => e = .returned (errIf v.ok) ∧ Below w.heap.size w w' := by
  obtain ⟨k, n, s, o, p⟩ := v
  have hk : k = 0 ∨ k = 1 ∨ k = 2 ∨ k = 3 ∨ k = 4 ∨ (k = 5 ∨ k = 6) ∨ (k ≠ 0 ∧ k ≠ 1 ∧ k ≠ 2 ∧ k ≠ 3 ∧ k ≠ 4 ∧ k ≠ 5 ∧ k ≠ 6) := by omega
  unfold JV.cells
  simp only
  rcases hk with rfl | rfl | rfl | rfl | rfl | hk | ⟨n0, n1, n2, n3, n4, n5, n6⟩
  case inr.inr.inr.inr.inr.inl =>
    have ho : o = 0 ∨ (o == 0) = false := by by_cases h : o = 0 <;> simp [h]
    have hp : p = 0 ∨ (p == 0) = false := by by_cases h : p = 0 <;> simp [h]
    obtain ⟨r, hr⟩ : ∃ r, idOk o p = r := ⟨_, rfl⟩
    rcases hk with rfl | rfl <;> rcases ho with rfl | ho <;> rcases hp with rfl | hp <;> cases r
    all_goals
      have HR := Lib.hid hr
      clear hr
      go_enter Tryd.func32, Tryd.ntmps32
      go_wp2_with (go_at_call 54; refine (idCheck_any _ _ _).mono ?_; rintro e w' ⟨rfl, hb'⟩; rw [HR.out]; first | rw [errIf_true] | rw [errIf_false])
      all_goals
        go_ret
        refine ⟨?_, ?_⟩
        · have hr := HR.out
          simp_all [JV.ok, JV.bare, errIf]
        · first
          | exact (Below.refl _ _).alloc (Nat.le_refl _) _
          | exact ((Below.refl _ _).alloc (Nat.le_refl _) _).trans (hb'.mono (by simp))
  case inr.inr.inr.inr.inr.inr =>
    go_enter Tryd.func32, Tryd.ntmps32
    go_wp2_with fail
    all_goals
      go_ret
      refine ⟨?_, (Below.refl _ _).alloc (Nat.le_refl _) _⟩
      simp_all [JV.ok, JV.bare, errIf]
  all_goals
    go_enter Tryd.func32, Tryd.ntmps32
    go_wp2_with fail
    all_goals
      go_ret
      refine ⟨?_, (Below.refl _ _).alloc (Nat.le_refl _) _⟩
      simp_all [JV.ok, JV.bare, errIf]
end Go.Proofs.YtmkebfclaehneaaDoor
/- json.key: a contract. -/
namespace Go.Proofs.YtmkebfclaehneaaDoor
open Go.RowKit
set_option linter.unusedVariables false
set_option linter.unusedSimpArgs false

theorem key_any (s : ByteArray) (w : World) : Calls Tryd.prog 33 #[.string s] w fun e w' => e = .returned (.bool (keyOk s)) ∧ w = w' := by
  cases h : s.toList.isEmpty with
  | true =>
    have h1 : s.toList = [] := by simpa using h
    rw [show keyOk s = false from by unfold keyOk; rw [h]; rfl]
    go_enter Tryd.func33, Tryd.ntmps33
    go_wp2
    go_ret
    exact ⟨rfl, rfl⟩
  | false =>
    have h1 : (!s.toList.isEmpty) = true := by rw [h]; rfl
    rw [show keyOk s = decide ((s.size : Int) ≤ 20) from by unfold keyOk; rw [h]; simp]
    go_enter Tryd.func33, Tryd.ntmps33
    go_wp2
    go_ret
    exact ⟨rfl, rfl⟩

end Go.Proofs.YtmkebfclaehneaaDoor
