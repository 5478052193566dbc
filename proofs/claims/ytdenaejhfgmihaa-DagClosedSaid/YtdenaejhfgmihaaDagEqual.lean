/- slices.Equal at refs, at ids: contracts; comparisons of pairs and values. -/
import Derived.Test.YtdenaejhfgmihaaDagPlain
import Derived.Deep.QuietTactic
import Derived.BigQuiet
import Derived.WalkSmall
import Derived.Outline
namespace Go.Proofs.Ytdenaejhfgmihaa
open Go.RowKit
set_option linter.unusedVariables false
set_option linter.unusedSimpArgs false

def pairSame (a b : Int × Int) : Bool := a.1 == b.1 && a.2 == b.2
theorem pairSame_iff (a b : Int × Int) : pairSame a b = true ↔ a = b := by
  obtain ⟨x, y⟩ := a
  obtain ⟨z, u⟩ := b
  simp [pairSame]
theorem run_eql_ref (a b : Int × Int) (w : World) : (binOp .eql 34 (.agg #[.int .i64 a.1, .int .i64 a.2]) (.agg #[.int .i64 b.1, .int .i64 b.2])).run Try.prog w = .ok (.bool (pairSame a b)) w := by
  go_simp
  unfold pairSame
  by_cases h1 : a.1 = b.1 <;> by_cases h2 : a.2 = b.2 <;> simp [h1, h2]
theorem run_eql_id (a b : Int × Int) (w : World) : (binOp .eql 59 (.agg #[.int .i64 a.1, .int .i64 a.2]) (.agg #[.int .i64 b.1, .int .i64 b.2])).run Try.prog w = .ok (.bool (pairSame a b)) w := by
  go_simp
  unfold pairSame
  by_cases h1 : a.1 = b.1 <;> by_cases h2 : a.2 = b.2 <;> simp [h1, h2]
theorem run_neq_ref (a b : Int × Int) (w : World) : (binOp .neq 34 (.agg #[.int .i64 a.1, .int .i64 a.2]) (.agg #[.int .i64 b.1, .int .i64 b.2])).run Try.prog w = .ok (.bool (!pairSame a b)) w := by
  go_simp
  unfold pairSame
  by_cases h1 : a.1 = b.1 <;> by_cases h2 : a.2 = b.2 <;> simp [h1, h2]
theorem run_neq_id (a b : Int × Int) (w : World) : (binOp .neq 59 (.agg #[.int .i64 a.1, .int .i64 a.2]) (.agg #[.int .i64 b.1, .int .i64 b.2])).run Try.prog w = .ok (.bool (!pairSame a b)) w := by
  go_simp
  unfold pairSame
  by_cases h1 : a.1 = b.1 <;> by_cases h2 : a.2 = b.2 <;> simp [h1, h2]
def jvSame (a b : JV) : Bool := a.k == b.k && a.n == b.n && decide (a.s = b.s) && a.o == b.o && a.p == b.p
theorem jvSame_iff (a b : JV) : jvSame a b = true ↔ a = b := by
  obtain ⟨k, n, s, o, p⟩ := a
  obtain ⟨k', n', s', o', p'⟩ := b
  simp [jvSame, and_assoc]
theorem run_eql_jv (v x : JV) (w : World) : (binOp .eql 61 (.agg #[.int .i64 v.k, .int .i64 v.n, .string v.s, .int .i64 v.o, .int .i64 v.p]) (.agg #[.int .i64 x.k, .int .i64 x.n, .string x.s, .int .i64 x.o, .int .i64 x.p])).run Try.prog w = .ok (.bool (jvSame v x)) w := by
  have hs : (v.s.toList = x.s.toList) ↔ v.s = x.s := ⟨fun h => Go.WideShapes.bytes_inj (by simpa [ByteArray.toList_eq] using h), fun h => by rw [h]⟩
  go_simp
  unfold jvSame
  by_cases h1 : v.k = x.k <;> by_cases h2 : v.n = x.n <;> by_cases h3 : v.s = x.s <;> by_cases h4 : v.o = x.o <;> by_cases h5 : v.p = x.p <;> simp [hs, h1, h2, h3, h4, h5]

theorem pair_take_ne {α : Type} {a b : List α} {k : Nat} {x y : α} (hx : a[k]? = some x) (hy : b[k]? = some y) (h : x ≠ y) : a ≠ b := by
  intro e
  rw [e, hy] at hx
  injection hx with hx
  exact h hx.symm
theorem pair_take_eq {α : Type} {a b : List α} {k : Nat} {x : α} (hx : a[k]? = some x) (hy : b[k]? = some x) (h : a.take k = b.take k) : a.take (k + 1) = b.take (k + 1) := by
  have h1 := (List.getElem?_eq_some_iff.1 hx)
  have h2 := (List.getElem?_eq_some_iff.1 hy)
  rw [List.take_succ_eq_append_getElem h1.1, List.take_succ_eq_append_getElem h2.1, h, h1.2, h2.2]

set_option maxRecDepth 100000 in
set_option maxHeartbeats 1000000 in
theorem equalRef_any (A B : Option Addr) (c d : Nat) (a b : List (Int × Int)) (w : World) (hA : SlAt w A (refs a)) (hB : SlAt w B (refs b)) (ha : a.length ≤ maxLen) (hb : b.length ≤ maxLen) :
    Calls Try.prog 31 #[.slice A a.length c, .slice B b.length d] w fun e w' => e = .returned (.bool (decide (a = b))) ∧ Below w.heap.size w w' := by
  unfold maxLen at ha hb
  by_cases hl : a.length = b.length
  · obtain ⟨n, hn⟩ : ∃ n, b.length = n := ⟨_, rfl⟩
    rw [hl, hn]
    rw [hl, hn] at ha
    have hni : n ≤ 9223372036854775807 := by omega
    have HL := Lib.hid (And.intro hl hn)
    clear hl hn hb ha
    go_enter Try.func31, Try.ntmps31
    go_wp2_with fail
    go_loopw [13, 5] (fun i _ wr => ∃ k : Nat, k ≤ n ∧ i = .int .i64 k ∧ a.take k = b.take k ∧ Below w.heap.size w wr) (fun i _ _ => n - (intOf i).toNat)
    case atStart => exact ⟨0, by omega, rfl, rfl, Below.refl _ _⟩
    case round =>
      obtain ⟨k, hk, rfl, ht, hbr⟩ := hrel
      have HT := Lib.hid ht; clear ht
      by_cases hlt : k < n
      · obtain ⟨b1, o1, x, rfl, hx, hcx, hcx2⟩ := (hA.below hbr).ref (k := k) (by rw [HL.out.1, HL.out.2]; exact hlt)
        obtain ⟨b2, o2, y, rfl, hy, hcy, hcy2⟩ := (hB.below hbr).ref (k := k) (by rw [HL.out.2]; exact hlt)
        have hlt2 : (k : Int) < (n : Int) := by omega
        have HX := Lib.hid hx; have HY := Lib.hid hy; clear hx hy
        have hq := fun w => run_neq_ref x y w
        cases hxy : pairSame x y with
        | true =>
          rw [hxy] at hq
          have HE := Lib.hid ((pairSame_iff x y).1 hxy)
          clear hxy
          go_wp2_with fail
          go_quiet (fail)
          go_wp2_with fail
          go_roundw
          case rel => exact ⟨k + 1, by omega, by go_num, pair_take_eq HX.out (by rw [HE.out]; exact HY.out) HT.out, below_drewN hbr _⟩
          case measure => simp [intOf]; omega
        | false =>
          rw [hxy] at hq
          have HE := Lib.hid (show x ≠ y from fun e => by rw [(pairSame_iff x y).2 e] at hxy; cases hxy)
          clear hxy
          go_wp2_with fail
          go_quiet (fail)
          go_wp2_with fail
          go_ret
          exact ⟨by rw [decide_eq_false (pair_take_ne HX.out HY.out HE.out)]; rfl, below_drewN hbr _⟩
      · go_wp2_with fail
        go_ret
        have hkn : k = n := by omega
        have he : a = b := by
          have := HT.out
          rwa [List.take_of_length_le (by rw [HL.out.1, HL.out.2]; omega), List.take_of_length_le (by rw [HL.out.2]; omega)] at this
        exact ⟨by rw [decide_eq_true he]; rfl, hbr⟩
  · have hne : ((a.length : Int) != (b.length : Int)) = true := by simp; omega
    have HN := Lib.hid hl
    clear hl
    go_enter Try.func31, Try.ntmps31
    go_wp2_with fail
    go_ret
    exact ⟨by rw [decide_eq_false (fun e => HN.out (by rw [e]))]; rfl, Below.refl _ _⟩

set_option maxRecDepth 100000 in
set_option maxHeartbeats 1000000 in
theorem equalId_any (A B : Option Addr) (c d : Nat) (a b : List (Int × Int)) (w : World) (hA : SlAt w A (refs a)) (hB : SlAt w B (refs b)) (ha : a.length ≤ maxLen) (hb : b.length ≤ maxLen) :
    Calls Try.prog 34 #[.slice A a.length c, .slice B b.length d] w fun e w' => e = .returned (.bool (decide (a = b))) ∧ Below w.heap.size w w' := by
  unfold maxLen at ha hb
  by_cases hl : a.length = b.length
  · obtain ⟨n, hn⟩ : ∃ n, b.length = n := ⟨_, rfl⟩
    rw [hl, hn]
    rw [hl, hn] at ha
    have hni : n ≤ 9223372036854775807 := by omega
    have HL := Lib.hid (And.intro hl hn)
    clear hl hn hb ha
    go_enter Try.func34, Try.ntmps34
    go_wp2_with fail
    go_loopw [13, 5] (fun i _ wr => ∃ k : Nat, k ≤ n ∧ i = .int .i64 k ∧ a.take k = b.take k ∧ Below w.heap.size w wr) (fun i _ _ => n - (intOf i).toNat)
    case atStart => exact ⟨0, by omega, rfl, rfl, Below.refl _ _⟩
    case round =>
      obtain ⟨k, hk, rfl, ht, hbr⟩ := hrel
      have HT := Lib.hid ht; clear ht
      by_cases hlt : k < n
      · obtain ⟨b1, o1, x, rfl, hx, hcx, hcx2⟩ := (hA.below hbr).ref (k := k) (by rw [HL.out.1, HL.out.2]; exact hlt)
        obtain ⟨b2, o2, y, rfl, hy, hcy, hcy2⟩ := (hB.below hbr).ref (k := k) (by rw [HL.out.2]; exact hlt)
        have hlt2 : (k : Int) < (n : Int) := by omega
        have HX := Lib.hid hx; have HY := Lib.hid hy; clear hx hy
        have hq := fun w => run_neq_id x y w
        cases hxy : pairSame x y with
        | true =>
          rw [hxy] at hq
          have HE := Lib.hid ((pairSame_iff x y).1 hxy)
          clear hxy
          go_wp2_with fail
          go_quiet (fail)
          go_wp2_with fail
          go_roundw
          case rel => exact ⟨k + 1, by omega, by go_num, pair_take_eq HX.out (by rw [HE.out]; exact HY.out) HT.out, below_drewN hbr _⟩
          case measure => simp [intOf]; omega
        | false =>
          rw [hxy] at hq
          have HE := Lib.hid (show x ≠ y from fun e => by rw [(pairSame_iff x y).2 e] at hxy; cases hxy)
          clear hxy
          go_wp2_with fail
          go_quiet (fail)
          go_wp2_with fail
          go_ret
          exact ⟨by rw [decide_eq_false (pair_take_ne HX.out HY.out HE.out)]; rfl, below_drewN hbr _⟩
      · go_wp2_with fail
        go_ret
        have hkn : k = n := by omega
        have he : a = b := by
          have := HT.out
          rwa [List.take_of_length_le (by rw [HL.out.1, HL.out.2]; omega), List.take_of_length_le (by rw [HL.out.2]; omega)] at this
        exact ⟨by rw [decide_eq_true he]; rfl, hbr⟩
  · have hne : ((a.length : Int) != (b.length : Int)) = true := by simp; omega
    have HN := Lib.hid hl
    clear hl
    go_enter Try.func34, Try.ntmps34
    go_wp2_with fail
    go_ret
    exact ⟨by rw [decide_eq_false (fun e => HN.out (by rw [e]))]; rfl, Below.refl _ _⟩
end Go.Proofs.Ytdenaejhfgmihaa
