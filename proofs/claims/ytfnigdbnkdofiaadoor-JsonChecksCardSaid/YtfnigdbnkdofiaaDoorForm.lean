/- json.form: the contract. -/
import Derived.Test.YtfnigdbnkdofiaaDoorJsonAny
import Derived.Test.YtfnigdbnkdofiaaDoorValue
namespace Go.Proofs.YtfnigdbnkdofiaaDoor
open Go.RowKit
set_option linter.unusedVariables false
set_option linter.unusedSimpArgs false

/-- This boolean, and nothing that was there has turned. -/
def BoolIs (w : World) (b : Bool) (e : Ending) (w' : World) : Prop := e = .returned (.bool b) ∧ Below w.heap.size w w'

set_option maxRecDepth 100000 in
set_option maxHeartbeats 2000000 in
theorem form1_any (T : PT) (b : Bool) (w : World)
    (h : ∀ w1, Below w.heap.size w w1 → Calls Tryd.prog 19 #[T.value] w1 (BoolIs w1 b)) :
    Calls Tryd.prog 40 #[T.value] w (BoolIs w (!b)) := by
  have H := Lib.hid h
  clear h
  unfold PT.value PT.cells JV.cells
  go_enter Tryd.func40, Tryd.ntmps40
  go_wp2_with fail
  have hb0 : Below w.heap.size w (w.alloc (.cells T.cells.toArray 29)) := (Below.refl _ _).alloc (Nat.le_refl _) _
  refine (H.out _ hb0).mono ?_
  rintro e w1 ⟨rfl, hb1⟩
  go_wp2_with fail
  go_ret
  exact ⟨rfl, hb0.trans (hb1.mono (by simp))⟩

set_option maxRecDepth 100000 in
set_option maxHeartbeats 2000000 in
/-- No value that a tree may have. -/
theorem form_head (T : PT) (w : World) (h : T.val.head = false) : Calls Tryd.prog 19 #[T.value] w (BoolIs w false) := by
  obtain ⟨⟨k, n, s, o, p⟩, kA, kc, keys, cA, cc, kids⟩ := T
  have hck := valueCheck_any ⟨k, n, s, o, p⟩
  simp only [PT.val, JV.head] at h
  unfold PT.value PT.cells JV.cells
  simp only [PT.val, PT.keys, PT.kids, PT.kA, PT.kc, PT.cA, PT.cc]
  simp only [JV.cells] at hck
  cases hr : (JV.ok ⟨k, n, s, o, p⟩) with
  | false =>
    rw [hr] at hck
    have HC := Lib.hid hck
    clear hck h hr
    go_enter Tryd.func19, Tryd.ntmps19
    go_wp2_with (go_at_call 38; refine (HC.out _).mono ?_; rintro e w' ⟨rfl, hb'⟩; rw [errIf_false]; obtain ⟨hc1, hc2⟩ := bcell hb')
    go_ret
    exact ⟨rfl, ((Below.refl _ _).alloc (Nat.le_refl _) _ |>.alloc (by simp) _).trans (hb'.mono (by simp; omega))⟩
  | true =>
    rw [hr] at hck h
    have HC := Lib.hid hck
    clear hck hr
    by_cases h4 : k = 4
    · subst h4
      clear h
      go_enter Tryd.func19, Tryd.ntmps19
      go_wp2_with (go_at_call 38; refine (HC.out _).mono ?_; rintro e w' ⟨rfl, hb'⟩; rw [errIf_true]; obtain ⟨hc1, hc2⟩ := bcell hb')
      go_ret
      exact ⟨rfl, ((Below.refl _ _).alloc (Nat.le_refl _) _ |>.alloc (by simp) _).trans (hb'.mono (by simp; omega))⟩
    · have h4b : (k == 4) = false := by simpa using h4
      by_cases ho : o = 0
      · subst ho
        have hp : (p == 0) = false := by
          cases hp : (p == 0) with
          | false => rfl
          | true => simp [hp, h4] at h
        clear h
        go_enter Tryd.func19, Tryd.ntmps19
        go_wp2_with (go_at_call 38; refine (HC.out _).mono ?_; rintro e w' ⟨rfl, hb'⟩; rw [errIf_true]; obtain ⟨hc1, hc2⟩ := bcell hb')
        go_ret
        exact ⟨rfl, ((Below.refl _ _).alloc (Nat.le_refl _) _ |>.alloc (by simp) _).trans (hb'.mono (by simp; omega))⟩
      · have ho2 : (o == 0) = false := by simpa using ho
        clear h
        go_enter Tryd.func19, Tryd.ntmps19
        go_wp2_with (go_at_call 38; refine (HC.out _).mono ?_; rintro e w' ⟨rfl, hb'⟩; rw [errIf_true]; obtain ⟨hc1, hc2⟩ := bcell hb')
        go_ret
        exact ⟨rfl, ((Below.refl _ _).alloc (Nat.le_refl _) _ |>.alloc (by simp) _).trans (hb'.mono (by simp; omega))⟩
end Go.Proofs.YtfnigdbnkdofiaaDoor
