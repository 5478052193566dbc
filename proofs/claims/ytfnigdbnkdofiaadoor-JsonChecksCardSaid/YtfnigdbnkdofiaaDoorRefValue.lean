/- bookref1.Root, Real, Id, Value: contracts. -/
import Derived.Test.YtfnigdbnkdofiaaDoorForm
import Derived.Test.YtfnigdbnkdofiaaDoorBlk
namespace Go.Proofs.YtfnigdbnkdofiaaDoor
open Go.RowKit
set_option linter.unusedVariables false
set_option linter.unusedSimpArgs false

theorem idbox {w w' : World} {x y : Value} {t : TypeId} (h : Below (w.alloc (.cells #[x, y] t (0, 0))).heap.size (w.alloc (.cells #[x, y] t (0, 0))) w') :
    w'.cell? ⟨w.heap.size, 0, none⟩ = some x ∧ w'.cell? ⟨w.heap.size, 1, none⟩ = some y ∧ w.heap.size < w'.heap.size := by
  have hB := (Blk.new w t #[x, y]).below h (by simp)
  exact ⟨hB.cell 0, hB.cell 1, hB.lt⟩
theorem valbox {w w' : World} {a b c d e : Value} {t : TypeId} (h : Below (w.alloc (.cells #[a, b, c, d, e] t (0, 0))).heap.size (w.alloc (.cells #[a, b, c, d, e] t (0, 0))) w') :
    (w'.cell? ⟨w.heap.size, 0, none⟩ = some a ∧ w'.cell? ⟨w.heap.size, 1, none⟩ = some b ∧ w'.cell? ⟨w.heap.size, 2, none⟩ = some c ∧ w'.cell? ⟨w.heap.size, 3, none⟩ = some d ∧ w'.cell? ⟨w.heap.size, 4, none⟩ = some e) ∧ w.heap.size < w'.heap.size := by
  have hB := (Blk.new w t #[a, b, c, d, e]).below h (by simp)
  exact ⟨⟨hB.cell 0, hB.cell 1, hB.cell 2, hB.cell 3, hB.cell 4⟩, hB.lt⟩

set_option maxRecDepth 100000 in
set_option maxHeartbeats 800000 in
theorem rroot_any (o p : Int) (w : World) : Calls Tryd.prog 35 #[.agg #[.int .i64 o, .int .i64 p]] w (BoolIs w (o == 0 && p == 0)) := by
  by_cases h : p = 0
  · subst h
    by_cases h : o = 0
    · subst h
      go_enter Tryd.func35, Tryd.ntmps35
      go_wp2_with fail
      go_ret
      exact ⟨rfl, (Below.refl _ _).alloc (Nat.le_refl _) _⟩
    · have hb : (o == 0) = false := by simpa using h
      go_enter Tryd.func35, Tryd.ntmps35
      go_wp2_with fail
      go_ret
      exact ⟨by rw [hb]; rfl, (Below.refl _ _).alloc (Nat.le_refl _) _⟩
  · have hb : (p == 0) = false := by simpa using h
    by_cases h : o = 0
    · subst h
      go_enter Tryd.func35, Tryd.ntmps35
      go_wp2_with fail
      go_ret
      exact ⟨by rw [hb]; rfl, (Below.refl _ _).alloc (Nat.le_refl _) _⟩
    · have hb2 : (o == 0) = false := by simpa using h
      go_enter Tryd.func35, Tryd.ntmps35
      go_wp2_with fail
      go_ret
      exact ⟨by rw [hb2]; rfl, (Below.refl _ _).alloc (Nat.le_refl _) _⟩

set_option maxRecDepth 100000 in
set_option maxHeartbeats 800000 in
theorem rreal_any (o p : Int) (w : World) : Calls Tryd.prog 80 #[.agg #[.int .i64 o, .int .i64 p]] w (BoolIs w (idReal o p)) := by
  by_cases h1 : 1 ≤ o
  · by_cases h2 : o ≤ 1000000
    · by_cases h3 : 1 ≤ p
      · go_enter Tryd.func80, Tryd.ntmps80
        go_wp2_with fail
        go_ret
        exact ⟨by simp [idReal, h1, h2, h3], (Below.refl _ _).alloc (Nat.le_refl _) _⟩
      · have h3' : p < 1 := by omega
        go_enter Tryd.func80, Tryd.ntmps80
        go_wp2_with fail
        go_ret
        exact ⟨by simp [idReal, h1, h2]; intro h; omega, (Below.refl _ _).alloc (Nat.le_refl _) _⟩
    · have h2' : 1000000 < o := by omega
      go_enter Tryd.func80, Tryd.ntmps80
      go_wp2_with fail
      go_ret
      exact ⟨by simp [idReal]; intro h; omega, (Below.refl _ _).alloc (Nat.le_refl _) _⟩
  · have h1' : o < 1 := by omega
    go_enter Tryd.func80, Tryd.ntmps80
    go_wp2_with fail
    go_ret
    exact ⟨by simp [idReal]; intro h; omega, (Below.refl _ _).alloc (Nat.le_refl _) _⟩

set_option maxRecDepth 100000 in
set_option maxHeartbeats 800000 in
theorem rid_any (o p : Int) (w : World) : Calls Tryd.prog 61 #[.agg #[.int .i64 o, .int .i64 p]] w (BoolIs w (idOk o p)) := by
  cases hr : (o == 0 && p == 0) with
  | true =>
    go_enter Tryd.func61, Tryd.ntmps61
    go_wp2_with (go_at_call 35; refine (rroot_any _ _ _).mono ?_; rintro e w' ⟨rfl, hb'⟩; rw [hr])
    go_ret
    exact ⟨by simp [idOk, hr], by first | exact hb' | exact ((Below.refl _ _).alloc (Nat.le_refl _) _).trans (hb'.mono (by simp))⟩
  | false =>
    have HR := Lib.hid hr
    go_enter Tryd.func61, Tryd.ntmps61
    go_wp2_with (first | (go_at_call 35; refine (rroot_any _ _ _).mono ?_; rintro e w' ⟨rfl, hb'⟩; rw [hr]; obtain ⟨hc0, hc1, hlt⟩ := idbox hb') | (go_at_call 80; refine (rreal_any _ _ _).mono ?_; rintro e w2 ⟨rfl, hb2⟩))
    go_ret
    exact ⟨by simp only [idOk, HR.out]; rfl, by first | exact hb'.trans (hb2.mono hb'.size) | exact ((Below.refl _ _).alloc (Nat.le_refl _) _).trans ((hb'.trans (hb2.mono hb'.size)).mono (by simp))⟩

theorem rroot_box (a b c d e : Value) (t : TypeId) (o p : Int) (w : World) (r : Bool) (hr : (o == 0 && p == 0) = r) : Calls Tryd.prog 35 #[.agg #[.int .i64 o, .int .i64 p]] (w.alloc (.cells #[a, b, c, d, e] t (0, 0))) fun en w' => en = .returned (.bool r) ∧ Below w.heap.size w w' ∧
    (w'.cell? ⟨w.heap.size, 0, none⟩ = some a ∧ w'.cell? ⟨w.heap.size, 1, none⟩ = some b ∧ w'.cell? ⟨w.heap.size, 2, none⟩ = some c ∧ w'.cell? ⟨w.heap.size, 3, none⟩ = some d ∧ w'.cell? ⟨w.heap.size, 4, none⟩ = some e) ∧ w.heap.size < w'.heap.size := by
  refine (rroot_any o p _).mono ?_
  rintro en w' ⟨rfl, hb⟩
  exact ⟨by rw [hr], ((Below.refl _ _).alloc (Nat.le_refl _) _).trans (hb.mono (by simp)), valbox hb⟩
theorem rroot_is (o p : Int) (w : World) (r : Bool) (hr : (o == 0 && p == 0) = r) : Calls Tryd.prog 35 #[.agg #[.int .i64 o, .int .i64 p]] w (BoolIs w r) := by
  rw [← hr]; exact rroot_any o p w
theorem rid_is (o p : Int) (w : World) (r : Bool) (hr : idOk o p = r) : Calls Tryd.prog 61 #[.agg #[.int .i64 o, .int .i64 p]] w (BoolIs w r) := by
  rw [← hr]; exact rid_any o p w

set_option maxRecDepth 100000 in
set_option maxHeartbeats 4000000 in
theorem rvalue_any (v : JV) (w : World) : Calls Tryd.prog 34 #[.agg v.cells.toArray] w (BoolIs w v.ok) := by
  obtain ⟨k, n, s, o, p⟩ := v
  have hk : k = 0 ∨ k = 1 ∨ k = 2 ∨ k = 3 ∨ k = 4 ∨ k = 5 ∨ k = 6 ∨ (k ≠ 0 ∧ k ≠ 1 ∧ k ≠ 2 ∧ k ≠ 3 ∧ k ≠ 4 ∧ k ≠ 5 ∧ k ≠ 6) := by omega
  unfold JV.cells
  simp only
  obtain ⟨r, hr⟩ : ∃ r, (o == 0 && p == 0) = r := ⟨_, rfl⟩
  obtain ⟨i, hi⟩ : ∃ i, idOk o p = i := ⟨_, rfl⟩
  have hsE : s.toList.isEmpty = true ∨ s.toList.isEmpty = false := by cases s.toList.isEmpty <;> simp
  have HR := Lib.hid (And.intro hr hi)
  clear hr hi
  rcases hk with rfl | rfl | rfl | rfl | rfl | rfl | rfl | ⟨n0, n1, n2, n3, n4, n5, n6⟩ <;> rcases hsE with hs | hs <;> cases r
  all_goals
    go_enter Tryd.func34, Tryd.ntmps34
    go_wp2_with (first
      | (go_at_call 35; refine (rroot_box _ _ _ _ _ _ _ _ _ _ HR.out.1).mono ?_; rintro en w' ⟨rfl, hb', ⟨c0, c1, c2, c3, c4⟩, hlt⟩)
      | (go_at_call 35; refine (rroot_is _ _ _ _ HR.out.1).mono ?_; rintro en w2 ⟨rfl, hb2⟩; obtain ⟨b1, b2⟩ := bcell hb2)
      | (go_at_call 61; refine (rid_is _ _ _ _ HR.out.2).mono ?_; rintro en w2 ⟨rfl, hb2⟩))
    all_goals
      go_ret
      refine ⟨?_, ?_⟩
      · obtain ⟨h1, h2⟩ := HR.out
        clear HR
        simp_all [JV.ok, JV.bare]
      · first
        | exact (Below.refl _ _).alloc (Nat.le_refl _) _
        | exact hb'
        | exact hb'.trans (hb2.mono hb'.size)
end Go.Proofs.YtfnigdbnkdofiaaDoor
