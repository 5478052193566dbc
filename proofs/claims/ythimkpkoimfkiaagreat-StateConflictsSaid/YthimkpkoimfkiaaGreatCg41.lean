/- booksame.Values of two rows alike: a contract. -/
import Derived.Test.YthimkpkoimfkiaaGreatCg28
namespace Go.Proofs.YthimkpkoimfkiaaGreat
open Go.RowKit
set_option linter.unusedVariables false
set_option linter.unusedSimpArgs false

theorem below_v {B : Nat} {w w' : World} (h : Below B w w') (n : Nat) : Below B w (w'.drewN n) := ⟨h.os, h.tape, h.output, h.size, h.block⟩
set_option maxRecDepth 100000 in
set_option maxHeartbeats 2000000 in
theorem valuesEq_any (f : Vm) (ids : List (Int × Int)) (A B : Option Addr) (c1 c2 : Nat) (w : World) (hA : SlAt w A (valsCells f ids)) (hB : SlAt w B (valsCells f ids)) (hl : ids.length ≤ 1000) :
    Calls Tryz.prog 10 #[.slice A ids.length c1, .slice B ids.length c2] w fun e w' => e = .returned (.bool true) ∧ Below w.heap.size w w' := by
  have HH := Lib.hid (And.intro hA hB)
  have hl2 : ids.length ≤ 9223372036854775807 := by omega
  clear hA hB
  go_enter Tryz.func10, Tryz.ntmps10
  go_wp2_with fail
  go_loopw [5] (fun iv wr => ∃ k : Nat, iv = .int .i64 k ∧ k ≤ ids.length ∧ Below w.heap.size w wr) (fun iv _ => ids.length - (intOf iv).toNat)
  case atStart => exact ⟨0, rfl, Nat.zero_le _, Below.refl _ _⟩
  case round =>
    obtain ⟨k, rfl, hk, hb⟩ := hrel
    by_cases hlt : k < ids.length
    · obtain ⟨n, hn⟩ : ∃ n, ids[k]? = some n := ⟨_, List.getElem?_eq_getElem hlt⟩
      obtain ⟨b, off, rfl, hc1⟩ := (HH.out.1.below hb).valc hn
      obtain ⟨b2, off2, rfl, hc2⟩ := (HH.out.2.below hb).valc hn
      obtain ⟨v, hv⟩ : ∃ v, (f n).getD zJV = v := ⟨_, rfl⟩
      rw [hv] at hc1 hc2
      have q0 : wr.cell? ⟨b, off + k * 5, none⟩ = some (.int .i64 v.k) := hc1 0 _ rfl
      have q1 : wr.cell? ⟨b, off + k * 5 + 1, none⟩ = some (.int .i64 v.n) := hc1 1 _ rfl
      have q2 : wr.cell? ⟨b, off + k * 5 + 2, none⟩ = some (.string v.s) := hc1 2 _ rfl
      have q3 : wr.cell? ⟨b, off + k * 5 + 3, none⟩ = some (.int .i64 v.o) := hc1 3 _ rfl
      have q4 : wr.cell? ⟨b, off + k * 5 + 4, none⟩ = some (.int .i64 v.p) := hc1 4 _ rfl
      have r0 : wr.cell? ⟨b2, off2 + k * 5, none⟩ = some (.int .i64 v.k) := hc2 0 _ rfl
      have r1 : wr.cell? ⟨b2, off2 + k * 5 + 1, none⟩ = some (.int .i64 v.n) := hc2 1 _ rfl
      have r2 : wr.cell? ⟨b2, off2 + k * 5 + 2, none⟩ = some (.string v.s) := hc2 2 _ rfl
      have r3 : wr.cell? ⟨b2, off2 + k * 5 + 3, none⟩ = some (.int .i64 v.o) := hc2 3 _ rfl
      have r4 : wr.cell? ⟨b2, off2 + k * 5 + 4, none⟩ = some (.int .i64 v.p) := hc2 4 _ rfl
      have HB := Lib.hid hb
      clear hc1 hc2 hv hn hb
      go_upto_region 6 with (fail)
      go_quiet (fail)
      all_goals
        go_wp2_with fail
        exact ⟨⟨k + 1, by push_cast; rfl, by omega, below_v HB.out _⟩, by simp [intOf]; omega⟩
    · obtain rfl : k = ids.length := by omega
      have HB := Lib.hid hb
      clear hb
      go_wp2_with fail
      go_ret
      exact ⟨rfl, HB.out⟩
end Go.Proofs.YthimkpkoimfkiaaGreat
