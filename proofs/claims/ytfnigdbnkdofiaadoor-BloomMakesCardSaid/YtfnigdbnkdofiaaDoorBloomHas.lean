/- bloom.Has: a contract. -/
import Derived.Test.YtfnigdbnkdofiaaDoorBloomMake
namespace Go.Proofs.YtfnigdbnkdofiaaDoor
open Go.RowKit
set_option linter.unusedVariables false

def hasBit (b : List Int) (p : Int) : Bool := !(bits .and .u8 (b[p.toNat / 8]?.getD 0 / 2 ^ (p.toNat % 8)) 1 == 0)
def hasBits (b : List Int) (l : List Int) : Bool := l.all (hasBit b)

set_option maxRecDepth 100000 in
set_option maxHeartbeats 800000 in
theorem has_ok (A : Option Addr) (c : Nat) (bs : List Int) (a s : Int) (h1 : refB a s = true) (hl1 : 1 ≤ bs.length) (hl2 : bs.length ≤ 512) (w : World) (hA : SlAt w A (u8s bs)) :
    Calls Tryd.prog 15 #[.slice A bs.length c, .agg #[.int .i64 a, .int .i64 s]] w fun e w' =>
      e = .returned (.tuple #[.bool (hasBits bs (bplaces (a * 1000003 + s) (8 * bs.length) 3)), .nilIface]) ∧ Below w.heap.size w w' := by
  have hmany : manyB (8 * (bs.length : Int)) = true := by simp [manyB]; omega
  obtain ⟨m, hm⟩ : ∃ m, bs.length = m := ⟨_, rfl⟩
  rw [hm] at hl1 hl2 hmany ⊢
  have HM := Lib.hid hm; clear hm
  have hm0 : ((m : Int) == 0) = false := by simp; omega
  have hm5 : decide (512 < (m : Int)) = false := by simp; omega
  go_enter Tryd.func15, Tryd.ntmps15
  go_wp2_with (first
    | (go_at_call 12; refine (places_ok _ _ _ h1 hmany _).mono ?_; rintro e w2 ⟨A2, c2, rfl, hA2, hb2⟩))
  have hb3 : Below w.heap.size w w2 := (((Below.refl _ _).alloc (Nat.le_refl _) _).trans (hb2.mono (by simp)))
  have hA3 := hA.below hb3
  have hA4 := SlAt.of_owns hA2
  have hpl := fun j => bplace_range (a * 1000003 + s) (8 * m) j (by omega) (by omega)
  clear hA hA2 hb2
  go_loop [32] (fun i => ∃ (j : Nat), j ≤ 3 ∧ i = .int .i64 j ∧ hasBits bs (bplaces (a * 1000003 + s) (8 * m) j) = true)
    (fun i => 3 - (intOf i).toNat)
  case atStart => exact ⟨0, by omega, rfl, rfl⟩
  case round =>
    obtain ⟨j, hj, rfl, hall⟩ := hrel
    have HALL := Lib.hid hall; clear hall
    by_cases hj3 : j < 3
    · obtain ⟨b2, off2, x, rfl, hxj, hcx⟩ := hA4.int (k := j) (by simpa [bplaces] using hj3)
      have e : x = bplace (a * 1000003 + s) (8 * m) j := by
        have := hxj
        simp [bplaces, hj3] at this
        exact this.symm
      have hx0 : 0 ≤ x ∧ x < 8 * m := by rw [e]; exact hpl j
      have HE := Lib.hid e; clear e hxj hpl
      obtain ⟨q, rfl⟩ : ∃ q : Nat, x = q := ⟨x.toNat, by omega⟩
      have hq1 : q < 8 * m := by omega
      have hq : q / 8 < m := by omega
      have hq2 : (q : Int) / 8 < m := by omega
      obtain ⟨y, hy⟩ : ∃ y, bs[q / 8]? = some y := ⟨_, List.getElem?_eq_getElem (by rw [HM.out]; exact hq)⟩
      obtain ⟨b, off, rfl, hcy⟩ := hA3.at_ (j := q / 8) (u := .int .u8 y) (by simp [u8s, hy])
      have HY := Lib.hid hy; clear hy
      have hbit : hasBit bs q = !(bits .and .u8 (y / 2 ^ (q % 8)) 1 == 0) := by simp [hasBit, HY.out]
      have hnext : hasBits bs (bplaces (a * 1000003 + s) (8 * m) (j + 1)) = hasBit bs q := by
        have e2 : hasBits bs (bplaces (a * 1000003 + s) (8 * m) (j + 1)) = (hasBits bs (bplaces (a * 1000003 + s) (8 * m) j) && hasBit bs (bplace (a * 1000003 + s) (8 * m) j)) := by
          simp [hasBits, bplaces, List.range_succ]
        rw [e2, HALL.out, ← HE.out]; rfl
      have hno : hasBit bs q = false → hasBits bs (bplaces (a * 1000003 + s) (8 * m) 3) = false := by
        intro h
        rw [HE.out] at h
        simp only [hasBits, List.all_eq_false]
        exact ⟨_, List.mem_map.2 ⟨j, by simpa using hj3, rfl⟩, by simp [h]⟩
      have HB := Lib.hid (And.intro hbit (And.intro hnext hno)); clear hbit hnext hno
      cases ht : (bits .and .u8 (y / 2 ^ (q % 8)) 1 == 0) with
      | true =>
        go_wp2
        go_ret2
        obtain ⟨g1, g2, g3⟩ := HB.out
        exact ⟨by rw [g3 (by rw [g1, ht]; rfl)]; rfl, hb3⟩
      | false =>
        go_wp2
        go_round
        case rel =>
          obtain ⟨g1, g2, g3⟩ := HB.out
          exact ⟨j + 1, by omega, by go_num, by rw [g2, g1, ht]; rfl⟩
        case measure => simp [intOf]; omega
    · obtain rfl : j = 3 := by omega
      go_wp2
      go_ret2
      exact ⟨by rw [HALL.out]; rfl, hb3⟩
set_option maxRecDepth 100000 in
theorem has_no3 (A : Option Addr) (c m : Nat) (a s : Int) (h : m = 0 ∨ 512 < m) (w : World) :
    Calls Tryd.prog 15 #[.slice A m c, .agg #[.int .i64 a, .int .i64 s]] w fun e w' =>
      e = .returned (.tuple #[.bool false, .iface 57 (.int .i64 3)]) ∧ Below w.heap.size w w' := by
  have hb : Below w.heap.size w (w.alloc (.cells #[.int .i64 a, .int .i64 s] 42)) := (Below.refl _ _).alloc (Nat.le_refl _) _
  rcases h with h | h
  · subst h
    go_enter Tryd.func15, Tryd.ntmps15
    go_wp2
    go_ret2
    exact ⟨rfl, hb⟩
  · have hm0 : ((m : Int) == 0) = false := by simp; omega
    have hm5 : decide (512 < (m : Int)) = true := by simp; omega
    go_enter Tryd.func15, Tryd.ntmps15
    go_wp2
    go_ret2
    exact ⟨rfl, hb⟩

set_option maxRecDepth 100000 in
theorem has_no1 (A : Option Addr) (c m : Nat) (a s : Int) (h1 : refB a s = false) (hl1 : 1 ≤ m) (hl2 : m ≤ 512) (w : World) :
    Calls Tryd.prog 15 #[.slice A m c, .agg #[.int .i64 a, .int .i64 s]] w fun e w' =>
      e = .returned (.tuple #[.bool false, .iface 57 (.int .i64 1)]) ∧ Below w.heap.size w w' := by
  have hm0 : ((m : Int) == 0) = false := by simp; omega
  have hm5 : decide (512 < (m : Int)) = false := by simp; omega
  go_enter Tryd.func15, Tryd.ntmps15
  go_wp2_with (first
    | (go_at_call 12; refine (places_no _ _ _ (by simp [h1]) _).mono ?_; rintro e w2 ⟨rfl, hb2⟩))
  go_ret2
  exact ⟨rfl, (((Below.refl _ _).alloc (Nat.le_refl _) _).trans (hb2.mono (by simp)))⟩
end Go.Proofs.YtfnigdbnkdofiaaDoor
