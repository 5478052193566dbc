/- package disk: Names of a disk without names; slices.Sort of a nil slice. -/
import Derived.Test.YtbfmdpgghknccaaDoorDiskCrash
namespace Go.Proofs.YtbfmdpgghknccaaDoor
open Go.RowKit Go.Maps
set_option linter.unusedVariables false
set_option linter.unusedSimpArgs false

set_option maxRecDepth 100000 in
theorem len64_0 (w : World) : Calls Tryd.prog 86 #[.int .u64 0] w fun e w' => e = .returned (.int .i64 0) ∧ w = w' := by
  go_enter Tryd.func86, Tryd.ntmps86
  go_wp2_with fail
  go_ret
  have h8 : Lib.len8 0 = 0 := by decide
  refine ⟨?_, rfl⟩
  show Ending.returned (.int .i64 (wrap64 (wrap64 (Lib.len8 0)))) = _
  have hz : wrap64 0 = 0 := by decide +kernel
  rw [h8, hz, hz]
set_option maxRecDepth 100000 in
theorem len_0 (w : World) : Calls Tryd.prog 61 #[.int .u64 0] w fun e w' => e = .returned (.int .i64 0) ∧ w = w' := by
  go_enter Tryd.func61, Tryd.ntmps61
  go_wp2_with fail
  refine (len64_0 _).mono ?_
  rintro e w1 ⟨rfl, rfl⟩
  go_wp2_with fail
  go_ret
  exact ⟨rfl, rfl⟩
set_option maxRecDepth 100000 in
theorem insertion_0 (w : World) : Calls Tryd.prog 76 #[.slice none 0 0, .int .i64 0, .int .i64 0] w fun e w' => e = .returned (.tuple #[]) ∧ w = w' := by
  go_enter Tryd.func76, Tryd.ntmps76
  go_wp2_with fail
  go_loop [6] (fun i => i = .int .i64 1) (fun _ => 0)
  case atStart => rfl
  case round =>
    subst hrel
    go_wp2_with fail
    first | go_end0 | (refine bodyPost_ret (results_none rfl _ _ _) rfl ?_)
    exact ⟨rfl, rfl⟩
set_option maxRecDepth 100000 in
theorem pdq_0 (w : World) : Calls Tryd.prog 60 #[.slice none 0 0, .int .i64 0, .int .i64 0, .int .i64 0] w fun e w' => e = .returned (.tuple #[]) ∧ w = w' := by
  go_enter Tryd.func60, Tryd.ntmps60
  go_wp2_with fail
  go_loop [1, 2] (fun a b => a = .int .i64 0 ∧ b = .int .i64 0) (fun _ _ => 0)
  case atStart => exact ⟨rfl, rfl⟩
  case round =>
    obtain ⟨rfl, rfl⟩ := hrel
    go_wp2_with fail
    refine (insertion_0 _).mono ?_
    rintro e w1 ⟨rfl, rfl⟩
    go_wp2_with fail
    first | go_end0 | (refine bodyPost_ret (results_none rfl _ _ _) rfl ?_)
    exact ⟨rfl, rfl⟩
set_option maxRecDepth 100000 in
theorem sort_0 (w : World) : Calls Tryd.prog 35 #[.slice none 0 0] w fun e w' => e = .returned (.tuple #[]) ∧ w = w' := by
  go_enter Tryd.func35, Tryd.ntmps35
  go_wp2_with fail
  refine (len_0 _).mono ?_
  rintro e w1 ⟨rfl, rfl⟩
  go_wp2_with fail
  refine (pdq_0 _).mono ?_
  rintro e w1 ⟨rfl, rfl⟩
  go_wp2_with fail
  first | go_end0 | (refine bodyPost_ret (results_none rfl _ _ _) rfl ?_)
  exact ⟨rfl, rfl⟩

set_option maxRecDepth 100000 in
set_option maxHeartbeats 1000000 in
theorem names_none (d bn bs : Nat) (N S : DataW Nat) (steps stop : Int) (w : World) (hd : Dk w d bn bs N S steps stop) (h0 : Maps.size N = 0) :
    Calls Tryd.prog 11 #[.pointer (some ⟨d, 0, none⟩)] w fun e w' => e = .returned (.slice none 0 0) ∧ Below w.heap.size w w' := by
  have HD := Lib.hid (And.intro hd h0)
  have c0 := hd.c0
  have hn := hd.nm.tight
  have hbl := hn.lt
  clear hd h0
  go_enter Tryd.func11, Tryd.ntmps11
  go_wp2_with (first | (at_range; refine wpList_range_own _ rfl _ 78 rfl 9 93 lawS Tryd.underlying78 _ bn _ _ rfl hn ?_; intro w1 hrg1 hg1 hs1) | fail)
  go_frame
  have hst : (∃ left, w1.ranges Tryd.prog 9 ptrElem bn w.heap.size (Maps.size N) N left 0) ∧ Below w.heap.size w w1 := ⟨⟨_, by have := hrg1; rw [HD.out.2] at this ⊢; exact this⟩, (Below.refl _ w).grown hg1 (Nat.le_refl _) (fun j hj => by cases hj)⟩
  have HST := Lib.hid hst
  clear hst hrg1 hg1 hs1 c0 hn
  go_loopw [3] (fun v wr => v = .slice none 0 0 ∧ (∃ left, wr.ranges Tryd.prog 9 ptrElem bn w.heap.size (Maps.size N) N left 0) ∧ Below w.heap.size w wr) (fun _ wr => wr.rangeLeft bn w.heap.size)
  case atStart => exact ⟨rfl, HST.out⟩
  case round =>
    obtain ⟨rfl, ⟨left, hrg⟩, hb⟩ := hrel
    have HB := Lib.hid hb
    clear hb
    go_wp2_with (first | (at_next; refine wpList_next_ptr _ rfl _ rfl 9 lawS Tryd.underlying9 bn w.heap.size _ _ _ _ rfl hrg ?_ ?_) | fail)
    intro hl0
    clear hl0 hrg
    go_wp2_with fail
    refine (sort_0 _).mono ?_
    rintro e w' ⟨rfl, rfl⟩
    go_wp2_with fail
    go_ret
    exact ⟨rfl, HB.out⟩
end Go.Proofs.YtbfmdpgghknccaaDoor
