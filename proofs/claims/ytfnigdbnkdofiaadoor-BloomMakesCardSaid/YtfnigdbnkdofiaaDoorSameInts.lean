/- booksame.Ints: a contract. -/
import Derived.Test.YtfnigdbnkdofiaaDoorProg
import Derived.Test.YtfnigdbnkdofiaaDoorMem
import Derived.Deep.QuietTactic
import Derived.BigQuiet
import Derived.WalkSmall
import Derived.Outline
namespace Go.Proofs.YtfnigdbnkdofiaaDoor
open Go.RowKit
set_option linter.unusedVariables false

theorem ints_take_ne {a b : List Int} {k : Nat} {x y : Int} (hx : a[k]? = some x) (hy : b[k]? = some y) (h : x ≠ y) : a ≠ b := by
  intro e
  rw [e, hy] at hx
  injection hx with hx
  exact h hx.symm
theorem take_succ_eq {a b : List Int} {k : Nat} {x : Int} (hx : a[k]? = some x) (hy : b[k]? = some x) (h : a.take k = b.take k) : a.take (k + 1) = b.take (k + 1) := by
  have h1 := (List.getElem?_eq_some_iff.1 hx)
  have h2 := (List.getElem?_eq_some_iff.1 hy)
  rw [List.take_succ_eq_append_getElem h1.1, List.take_succ_eq_append_getElem h2.1, h, h1.2, h2.2]

set_option maxRecDepth 100000 in
set_option maxHeartbeats 800000 in
theorem sameInts_any (A B : Option Addr) (c d : Nat) (a b : List Int) (w : World) (hA : SlAt w A (ints a)) (hB : SlAt w B (ints b)) (ha : a.length ≤ 9223372036854775807) (hb : b.length ≤ 9223372036854775807) :
    Calls Tryd.prog 13 #[.slice A a.length c, .slice B b.length d] w fun e w' => e = .returned (.bool (decide (a = b))) ∧ Below w.heap.size w w' := by
  by_cases hl : a.length = b.length
  · obtain ⟨n, hn⟩ : ∃ n, b.length = n := ⟨_, rfl⟩
    rw [hl, hn]
    rw [hl, hn] at ha
    have HL := Lib.hid (And.intro hl hn)
    clear hl hn hb
    go_enter Tryd.func13, Tryd.ntmps13
    go_wp2_with fail
    go_loopw [5] (fun i wr => ∃ k : Nat, k ≤ n ∧ i = .int .i64 k ∧ a.take k = b.take k ∧ Below w.heap.size w wr) (fun i _ => n - (intOf i).toNat)
    case atStart => exact ⟨0, by omega, rfl, rfl, Below.refl _ _⟩
    case round =>
      obtain ⟨k, hk, rfl, ht, hbr⟩ := hrel
      have HT := Lib.hid ht; clear ht
      by_cases hlt : k < n
      · obtain ⟨b1, o1, x, rfl, hx, hcx⟩ := (hA.below hbr).int (k := k) (by rw [HL.out.1, HL.out.2]; exact hlt)
        obtain ⟨b2, o2, y, rfl, hy, hcy⟩ := (hB.below hbr).int (k := k) (by rw [HL.out.2]; exact hlt)
        have hlt2 : (k : Int) < (n : Int) := by omega
        have HX := Lib.hid hx; have HY := Lib.hid hy; clear hx hy
        cases hxy : (x == y) with
        | true =>
          have hne : (x != y) = false := by simpa using hxy
          have e : x = y := by simpa using hxy
          have HE := Lib.hid e
          clear e hxy
          go_wp2_with fail
          go_quiet (fail)
          go_wp2_with fail
          go_roundw
          case rel => exact ⟨k + 1, by omega, by go_num, take_succ_eq HX.out (by rw [HE.out]; exact HY.out) HT.out, by first | exact hbr | exact below_drewN hbr _⟩
          case measure => simp [intOf]; omega
        | false =>
          have hne : (x != y) = true := by simpa using hxy
          have e : x ≠ y := by simpa using hxy
          have HE := Lib.hid e
          clear e hxy
          go_wp2_with fail
          go_quiet (fail)
          go_wp2_with fail
          go_ret
          exact ⟨by rw [decide_eq_false (ints_take_ne HX.out HY.out HE.out)]; rfl, by first | exact hbr | exact below_drewN hbr _⟩
      · go_wp2_with fail
        go_ret
        have hkn : k = n := by omega
        have he : a = b := by
          have := HT.out
          rwa [List.take_of_length_le (by rw [HL.out.1, HL.out.2]; omega), List.take_of_length_le (by rw [HL.out.2]; omega)] at this
        exact ⟨by rw [decide_eq_true he]; rfl, hbr⟩
  · have hne : ((a.length : Int) != (b.length : Int)) = true := by simp; omega
    have HN := Lib.hid hl
    clear hl
    go_enter Tryd.func13, Tryd.ntmps13
    go_wp2_with fail
    go_ret
    exact ⟨by rw [decide_eq_false (fun e => HN.out (by rw [e]))]; rfl, Below.refl _ _⟩
end Go.Proofs.YtfnigdbnkdofiaaDoor
