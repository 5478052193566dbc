/- bloom: contracts. -/
import Derived.Test.YtfnigdbnkdofiaaDoorRefId
import Derived.Outline
namespace Go.Proofs.YtfnigdbnkdofiaaDoor
open Go.RowKit
set_option linter.unusedVariables false

def manyB (n : Int) : Bool := decide (8 ≤ n) && decide (n ≤ 4096) && decide (n % 8 = 0)

theorem many_any (n : Int) (w : World) : Calls Tryd.prog 33 #[.int .i64 n] w fun e w' => e = .returned (.bool (manyB n)) ∧ w = w' := by
  by_cases h1 : 8 ≤ n <;> by_cases h2 : n ≤ 4096
  all_goals
    go_enter Tryd.func33, Tryd.ntmps33
    go_wp2
    all_goals
      go_ret
      exact ⟨by simp [manyB, h1, h2]; first | done | omega | rfl, rfl⟩

theorem infoInt : (Tryd.prog.info? 3).map (fun i => (i.zero, i.size, i.bytes)) = some (some (.int .i64 0), 1, 8) := by kernel_rfl

def bstep (x : Int) : Int := IntKind.u64.wrap (IntKind.u64.wrap (x * 6364136223846793005) + 1442695040888963407)
def bx (x : Int) : Nat → Int
  | 0 => x
  | k + 1 => bstep (bx x k)
def bplace (x n : Int) (k : Nat) : Int := wrap64 ((bstep (bx x k) / 8589934592).tmod n)
def bplaces (x n : Int) (k : Nat) : List Int := (List.range k).map (bplace x n)
theorem bplaces_succ (x n : Int) (k : Nat) : ints (bplaces x n (k + 1)) = ints (bplaces x n k) ++ [.int .i64 (bplace x n k)] := by
  simp [bplaces, ints, List.range_succ]
theorem bplace_range (x n : Int) (k : Nat) (h1 : 8 ≤ n) (h2 : n ≤ 4096) : 0 ≤ bplace x n k ∧ bplace x n k < n := by
  unfold bplace
  have h0 : 0 ≤ bstep (bx x k) := by unfold bstep; rw [IntKind.wrap_u64]; omega
  generalize bstep (bx x k) = y at h0
  have h3 : 0 ≤ y / 8589934592 := by omega
  generalize y / 8589934592 = z at h3
  rw [Int.tmod_eq_emod_of_nonneg h3]
  have h4 := Int.emod_nonneg z (show n ≠ 0 by omega)
  have h5 := Int.emod_lt_of_pos z (show 0 < n by omega)
  rw [IntWalk.wrap64_in _ ⟨by omega, by omega⟩]
  exact ⟨h4, h5⟩
theorem bplaces_len (x n : Int) (k : Nat) : (bplaces x n k).length = k := by simp [bplaces]

set_option maxRecDepth 100000 in
set_option maxHeartbeats 400000 in
theorem places_ok (a s n : Int) (h1 : refB a s = true) (h2 : manyB n = true) (w : World) : Calls Tryd.prog 12 #[.agg #[.int .i64 a, .int .i64 s], .int .i64 n] w fun e w' => ∃ A c, e = .returned (.tuple #[.slice A 3 c, .nilIface]) ∧ w'.ownsRow w.heap.size 3 1 (.slice A 3 c) 3 (ints (bplaces (a * 1000003 + s) n 3)) ∧ Below w.heap.size w w' := by
  have hr : 1 ≤ a ∧ a ≤ 99 ∧ 1 ≤ s ∧ s ≤ 1000000 := by simp [refB, actorB, numB] at h1; omega
  have hn : 8 ≤ n ∧ n ≤ 4096 := by simp [manyB] at h2; omega
  obtain ⟨ha1, ha2, hs1, hs2⟩ := hr
  obtain ⟨hn1, hn2⟩ := hn
  go_enter Tryd.func12, Tryd.ntmps12
  go_wp2_with (first | (go_at_call 32; refine (ref_any _ _ _).mono ?_; rintro e w1 ⟨rfl, hb1⟩; obtain ⟨hc1, hf1⟩ := bcell hb1) | (go_at_call 33; refine (many_any _ _).mono ?_; rintro e w' ⟨rfl, rfl⟩))
  have hb : Below w.heap.size w w1 := ((Below.refl _ _).alloc (Nat.le_refl _) _).trans (hb1.mono (by simp))
  clear hb1 hc1 hf1
  have hbs := hb.size
  go_loopw [6, 7, 25] (fun x v i wr => ∃ (k : Nat) (A : Option Addr) (c : Nat), k ≤ 3 ∧ i = .int .i64 k ∧ x = .int .u64 (bx (a * 1000003 + s) k) ∧ v = .slice A k c ∧ wr.ownsRow w.heap.size 3 1 (.slice A k c) k (ints (bplaces (a * 1000003 + s) n k)) ∧ Below w.heap.size w wr)
    (fun _ _ i _ => 3 - (intOf i).toNat)
  case atStart => exact ⟨0, none, 0, by omega, rfl, rfl, rfl, World.ownsRow_nil _ _ _ _, hb⟩
  case round =>
    obtain ⟨k, A, c, hk, rfl, rfl, rfl, hown, hbr⟩ := hrel
    have hbrs := hbr.size
    go_wp2_with (first
      | (at_builtin; refine wpList_push _ rfl (.tmp 30) (.tmp 37) _ rfl w.heap.size 3 Tryd.underlying44 infoInt rfl (by decide) (by decide) _ _ _ rfl hown _ rfl rfl ?_ (by omega) hbrs ?_))
    · rfl
    · intro A' c' w2 hown' hg
      have hlt : (k : Int) < 3 := by assumption
      have hb2 := hbr.grown hg hbrs (ownBlock_ge hown)
      have hown2 : w2.ownsRow w.heap.size 3 1 (.slice A' (k + 1) c') (k + 1) (ints (bplaces (a * 1000003 + s) n (k + 1))) := by rw [bplaces_succ]; exact hown'
      clear hown' hg hown hbr hbrs
      go_wp2
      go_roundw
      case rel => exact ⟨k + 1, A', c', by omega, by go_num, rfl, rfl, hown2, hb2⟩
      case measure => simp [intOf]; omega
    · have hge : (3 : Int) ≤ k := by assumption
      obtain rfl : k = 3 := by omega
      go_ret2
      exact ⟨A, c, rfl, hown, hbr⟩

set_option maxRecDepth 100000 in
set_option maxHeartbeats 400000 in
theorem places_no (a s n : Int) (h : (refB a s && manyB n) = false) (w : World) : Calls Tryd.prog 12 #[.agg #[.int .i64 a, .int .i64 s], .int .i64 n] w fun e w' => e = .returned (.tuple #[.slice none 0 0, .iface 57 (.int .i64 1)]) ∧ Below w.heap.size w w' := by
  cases h1 : refB a s with
  | false =>
    go_enter Tryd.func12, Tryd.ntmps12
    go_wp2_with (first | (go_at_call 32; refine (ref_any _ _ _).mono ?_; rintro e w1 ⟨rfl, hb1⟩; obtain ⟨hc1, hf1⟩ := bcell hb1) | (go_at_call 33; refine (many_any _ _).mono ?_; rintro e w' ⟨rfl, rfl⟩))
    have hb : Below w.heap.size w w1 := ((Below.refl _ _).alloc (Nat.le_refl _) _).trans (hb1.mono (by simp))
    go_ret2
    exact ⟨rfl, hb⟩
  | true =>
    have h2 : manyB n = false := by simpa [h1] using h
    go_enter Tryd.func12, Tryd.ntmps12
    go_wp2_with (first | (go_at_call 32; refine (ref_any _ _ _).mono ?_; rintro e w1 ⟨rfl, hb1⟩; obtain ⟨hc1, hf1⟩ := bcell hb1) | (go_at_call 33; refine (many_any _ _).mono ?_; rintro e w' ⟨rfl, rfl⟩))
    have hb : Below w.heap.size w w1 := ((Below.refl _ _).alloc (Nat.le_refl _) _).trans (hb1.mono (by simp))
    go_ret2
    exact ⟨rfl, hb⟩
end Go.Proofs.YtfnigdbnkdofiaaDoor
