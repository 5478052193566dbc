/- slices.BinarySearch over texts that rise: where one stands, or would come in. -/
import Derived.Test.YtbfmdpgghknccaaDoorJsonLaw
import Derived.Test.YtbfmdpgghknccaaDoorProg
import Derived.Laws.Cover1
import Derived.Deep.QuietTactic
import Derived.BigQuiet
import Derived.WalkSmall
import Derived.Outline
namespace Go.Proofs.YtbfmdpgghknccaaDoor
open Go.RowKit
set_option linter.unusedVariables false
set_option linter.unusedSimpArgs false

/-- A place, and whether it is there; nothing has turned. -/
def FoundAt (w : World) (p : Nat) (b : Bool) (e : Ending) (w' : World) : Prop := e = .returned (.tuple #[.int .i64 p, .bool b]) ∧ w = w'
theorem cmpNaN_str (x : ByteArray) (w : World) : Calls Tryd.prog 109 #[.string x] w fun e w' => e = .returned (.bool false) ∧ w = w' := by
  go_enter Tryd.func109, Tryd.ntmps109
  go_wp2
  go_ret
  exact ⟨by simp, rfl⟩
theorem slNaN_str (x : ByteArray) (w : World) : Calls Tryd.prog 94 #[.string x] w fun e w' => e = .returned (.bool false) ∧ w = w' := by
  go_enter Tryd.func94, Tryd.ntmps94
  go_wp2
  go_ret
  exact ⟨by simp, rfl⟩

set_option maxRecDepth 100000 in
theorem less_str (x y : ByteArray) (w : World) : Calls Tryd.prog 82 #[.string x, .string y] w fun e w' => e = .returned (.bool (bl x y)) ∧ w = w' := by
  have hb : Op.bytesLess x.toList y.toList = bl x y := rfl
  obtain ⟨r, hr⟩ : ∃ r, bl x y = r := ⟨_, rfl⟩
  rw [hr] at hb ⊢
  clear hr
  go_enter Tryd.func82, Tryd.ntmps82
  go_wp2_with (go_at_call 109; refine (cmpNaN_str _ _).mono ?_; rintro e w' ⟨rfl, rfl⟩)
  go_ret
  exact ⟨rfl, rfl⟩

set_option maxRecDepth 100000 in
set_option maxHeartbeats 2000000 in
theorem search_str (A : Option Addr) (c : Nat) (l : List ByteArray) (x : ByteArray) (w : World) (hA : SlAt w A (l.map Value.string)) (hr : Rise l) (hl : l.length ≤ 1000) :
    Calls Tryd.prog 70 #[.slice A l.length c, .string x] w (FoundAt w (plc l x) (decide (l[plc l x]? = some x))) := by
  have hp := plc_le l x
  obtain ⟨p, hpe⟩ : ∃ p, plc l x = p := ⟨_, rfl⟩
  obtain ⟨fb, hfb⟩ : ∃ fb, decide (l[plc l x]? = some x) = fb := ⟨_, rfl⟩
  rw [hfb]
  rw [hpe] at hfb hp ⊢
  have HR := Lib.hid (And.intro hr (And.intro hpe hfb))
  have HA := Lib.hid hA
  clear hr hpe hA hfb
  go_enter Tryd.func70, Tryd.ntmps70
  go_wp2_with fail
  go_loop [7, 8] (fun iv jv => ∃ i j : Nat, iv = .int .i64 i ∧ jv = .int .i64 j ∧ i ≤ p ∧ p ≤ j ∧ j ≤ l.length) (fun iv jv => (intOf jv).toNat - (intOf iv).toNat)
  case atStart => exact ⟨0, l.length, rfl, rfl, by omega, hp, by omega⟩
  case round =>
    obtain ⟨i, j, rfl, rfl, h1, h2, h3⟩ := hrel
    by_cases hlt : i < j
    · have hlti : (i : Int) < (j : Int) := by omega
      obtain ⟨h, hh⟩ : ∃ h, (i + j) / 2 = h := ⟨_, rfl⟩
      obtain ⟨y, hy⟩ : ∃ y, l[h]? = some y := ⟨_, List.getElem?_eq_getElem (by omega)⟩
      obtain ⟨b, off, rfl, hcy⟩ := HA.out.at_ (j := h) (u := .string y) (by simp [hy])
      have hhi : ((i : Int) + (j : Int)) / 2 = (h : Int) := by omega
      have hhl : h < l.length := by omega
      have hb : bl y x = decide (h < p) := by
        by_cases hp' : h < p
        · rw [plc_lt (l := l) (x := x) (by rw [HR.out.2.1]; exact hp') hy]; simp [hp']
        · rw [plc_ge HR.out.1 (x := x) (by rw [HR.out.2.1]; omega) hy]; simp [hp']
      have HB := Lib.hid hb
      have HY := Lib.hid hy
      clear hb hy
      by_cases hp' : h < p
      · have HBB := Lib.hid (show bl y x = true from by rw [HB.out]; simp [hp'])
        go_wp2_with (go_at_call 82; refine (less_str _ _ _).mono ?_; rintro e w' ⟨rfl, rfl⟩; rw [HBB.out])
        go_round
        case rel => exact ⟨h + 1, j, by go_num, rfl, by omega, by omega, by omega⟩
        case measure => simp [intOf] <;> omega
      · have HBB := Lib.hid (show bl y x = false from by rw [HB.out]; simp [hp'])
        go_wp2_with (go_at_call 82; refine (less_str _ _ _).mono ?_; rintro e w' ⟨rfl, rfl⟩; rw [HBB.out])
        go_round
        case rel => exact ⟨i, h, rfl, by go_num, by omega, by omega, by omega⟩
        case measure => simp [intOf] <;> omega
    · obtain rfl : i = p := by omega
      obtain rfl : j = i := by omega
      have hlti : ¬ (j : Int) < (j : Int) := by omega
      by_cases hn : j < l.length
      · have hni : (j : Int) < (l.length : Int) := by omega
        obtain ⟨y, hy⟩ : ∃ y, l[j]? = some y := ⟨_, List.getElem?_eq_getElem hn⟩
        obtain ⟨b, off, rfl, hcy⟩ := HA.out.at_ (j := j) (u := .string y) (by simp [hy])
        by_cases he : y = x
        · subst he
          have HE := Lib.hid (show fb = true from by rw [← HR.out.2.2]; simp [hy])
          clear hy
          go_wp2_with (go_at_call 94; refine (slNaN_str _ _).mono ?_; rintro e w' ⟨rfl, rfl⟩)
          go_ret2
          exact ⟨by rw [HE.out]; rfl, rfl⟩
        · have heb : (y.toList == x.toList) = false := by
            cases hb : (y.toList == x.toList) with
            | false => rfl
            | true =>
              rw [beq_iff_eq, ByteArray.toList_eq, ByteArray.toList_eq] at hb
              exact absurd (Go.WideShapes.bytes_inj hb) he
          have HE := Lib.hid (show fb = false from by rw [← HR.out.2.2]; simp [hy, he])
          clear hy he
          go_wp2_with (go_at_call 94; refine (slNaN_str _ _).mono ?_; rintro e w' ⟨rfl, rfl⟩)
          go_ret2
          exact ⟨by rw [HE.out]; rfl, rfl⟩
      · have hni : ¬ (j : Int) < (l.length : Int) := by omega
        have HE := Lib.hid (show fb = false from by rw [← HR.out.2.2, List.getElem?_eq_none (by omega)]; simp)
        go_wp2_with fail
        go_ret2
        exact ⟨by rw [HE.out]; rfl, rfl⟩
end Go.Proofs.YtbfmdpgghknccaaDoor
