/- json.index: lists; and where there is no such step. -/
import Derived.Test.YtbfmdpgghknccaaDoorSearch
import Derived.Test.YtbfmdpgghknccaaDoorClone
import Derived.Test.YtbfmdpgghknccaaDoorJsonLead
namespace Go.Proofs.YtbfmdpgghknccaaDoor
open Go.RowKit
set_option linter.unusedVariables false
set_option linter.unusedSimpArgs false

/-- Three answers, and nothing that was there has turned. -/
def IdxQ (w : World) (a : Int) (h m : Bool) (e : Ending) (w' : World) : Prop := e = .returned (.tuple #[.int .i64 a, .bool h, .bool m]) ∧ Below w.heap.size w w'
theorem below_drewN {w w1 : World} (h : Below w.heap.size w w1) (n : Nat) : Below w.heap.size w (w1.drewN n) := ⟨h.os, h.tape, h.output, h.size, h.block⟩

set_option maxRecDepth 100000 in
set_option maxHeartbeats 2000000 in
theorem index_list (A : Option Addr) (cc cn : Nat) (b o : Nat) (key : ByteArray) (at_ : Int) (w : World) (c0 : w.cell? ⟨b, o, none⟩ = some (.int .i64 6)) (c6 : w.cell? ⟨b, o + 6, none⟩ = some (.slice A cn cc)) (hbw : b < w.heap.size) (hcl : cn ≤ 9223372036854775807)
    (h1 : key.toList = []) (d1 : 0 ≤ at_) (d2 : at_ ≤ (cn : Int)) :
    Calls Tryd.prog 52 #[.pointer (some ⟨b, o, none⟩), .agg #[.string key, .int .i64 at_]] w (IdxQ w at_ (decide (at_ < (cn : Int))) true) := by
  have hb1 : Below w.heap.size w (w.alloc (.cells #[.string key, .int .i64 at_] 69)) := (Below.refl _ _).alloc (Nat.le_refl _) _
  obtain ⟨r, hr⟩ : ∃ r, decide (at_ < (cn : Int)) = r := ⟨_, rfl⟩
  rw [hr]
  cases r
  all_goals
    have d3 := hr
    clear hr
    simp only [decide_eq_true_eq, decide_eq_false_iff_not] at d3
    go_enter Tryd.func52, Tryd.ntmps52
    go_wp2_with fail
    go_quiet ((fail))
    go_wp2_with fail
    go_quiet ((fail))
    go_wp2_with fail
    go_ret3
    refine ⟨?_, below_drewN (below_drewN hb1 _) _⟩
    first | rfl | simp_all

set_option maxRecDepth 100000 in
set_option maxHeartbeats 2000000 in
theorem index_no_a (A : Option Addr) (cc cn : Nat) (b o : Nat) (key : ByteArray) (at_ : Int) (w : World) (c0 : w.cell? ⟨b, o, none⟩ = some (.int .i64 5)) (c6 : w.cell? ⟨b, o + 6, none⟩ = some (.slice A cn cc)) (hbw : b < w.heap.size) (hcl : cn ≤ 9223372036854775807)
    (h1 : key.toList = []) :
    Calls Tryd.prog 52 #[.pointer (some ⟨b, o, none⟩), .agg #[.string key, .int .i64 at_]] w (IdxQ w 0 false false) := by
  have hb1 : Below w.heap.size w (w.alloc (.cells #[.string key, .int .i64 at_] 69)) := (Below.refl _ _).alloc (Nat.le_refl _) _
  go_enter Tryd.func52, Tryd.ntmps52
  go_wp2_with fail
  go_quiet ((fail))
  go_wp2_with fail
  go_ret3
  exact ⟨rfl, below_drewN hb1 _⟩

set_option maxRecDepth 100000 in
set_option maxHeartbeats 2000000 in
theorem index_no_b (k : Int) (A : Option Addr) (cc cn : Nat) (b o : Nat) (key : ByteArray) (at_ : Int) (w : World) (c0 : w.cell? ⟨b, o, none⟩ = some (.int .i64 k)) (c6 : w.cell? ⟨b, o + 6, none⟩ = some (.slice A cn cc)) (hbw : b < w.heap.size) (hcl : cn ≤ 9223372036854775807)
    (h5 : (k == 5) = false) (h6 : (k == 6) = false) :
    Calls Tryd.prog 52 #[.pointer (some ⟨b, o, none⟩), .agg #[.string key, .int .i64 at_]] w (IdxQ w 0 false false) := by
  have hb1 : Below w.heap.size w (w.alloc (.cells #[.string key, .int .i64 at_] 69)) := (Below.refl _ _).alloc (Nat.le_refl _) _
  go_enter Tryd.func52, Tryd.ntmps52
  go_wp2_with fail
  go_quiet ((fail))
  go_wp2_with fail
  go_ret3
  exact ⟨rfl, below_drewN hb1 _⟩

set_option maxRecDepth 100000 in
set_option maxHeartbeats 2000000 in
theorem index_no_c (A : Option Addr) (cc cn : Nat) (b o : Nat) (key : ByteArray) (at_ : Int) (w : World) (c0 : w.cell? ⟨b, o, none⟩ = some (.int .i64 5)) (c6 : w.cell? ⟨b, o + 6, none⟩ = some (.slice A cn cc)) (hbw : b < w.heap.size) (hcl : cn ≤ 9223372036854775807)
    (h1 : (!key.toList.isEmpty) = true) (h0 : (at_ == 0) = false) :
    Calls Tryd.prog 52 #[.pointer (some ⟨b, o, none⟩), .agg #[.string key, .int .i64 at_]] w (IdxQ w 0 false false) := by
  have hb1 : Below w.heap.size w (w.alloc (.cells #[.string key, .int .i64 at_] 69)) := (Below.refl _ _).alloc (Nat.le_refl _) _
  go_enter Tryd.func52, Tryd.ntmps52
  go_wp2_with fail
  go_quiet ((fail))
  go_wp2_with fail
  go_ret3
  exact ⟨rfl, below_drewN hb1 _⟩

set_option maxRecDepth 100000 in
set_option maxHeartbeats 2000000 in
theorem index_no_d (A : Option Addr) (cc cn : Nat) (b o : Nat) (key : ByteArray) (at_ : Int) (w : World) (c0 : w.cell? ⟨b, o, none⟩ = some (.int .i64 6)) (c6 : w.cell? ⟨b, o + 6, none⟩ = some (.slice A cn cc)) (hbw : b < w.heap.size) (hcl : cn ≤ 9223372036854775807)
    (h1 : (!key.toList.isEmpty) = true) (h1' : key.toList.isEmpty = false) :
    Calls Tryd.prog 52 #[.pointer (some ⟨b, o, none⟩), .agg #[.string key, .int .i64 at_]] w (IdxQ w 0 false false) := by
  have hb1 : Below w.heap.size w (w.alloc (.cells #[.string key, .int .i64 at_] 69)) := (Below.refl _ _).alloc (Nat.le_refl _) _
  go_enter Tryd.func52, Tryd.ntmps52
  go_wp2_with fail
  go_quiet ((fail))
  go_wp2_with fail
  go_ret3
  exact ⟨rfl, below_drewN hb1 _⟩

set_option maxRecDepth 100000 in
set_option maxHeartbeats 2000000 in
theorem index_no_e (A : Option Addr) (cc cn : Nat) (b o : Nat) (key : ByteArray) (at_ : Int) (w : World) (c0 : w.cell? ⟨b, o, none⟩ = some (.int .i64 6)) (c6 : w.cell? ⟨b, o + 6, none⟩ = some (.slice A cn cc)) (hbw : b < w.heap.size) (hcl : cn ≤ 9223372036854775807)
    (h1 : key.toList = []) (d1 : decide (0 ≤ at_) = false) :
    Calls Tryd.prog 52 #[.pointer (some ⟨b, o, none⟩), .agg #[.string key, .int .i64 at_]] w (IdxQ w 0 false false) := by
  have hb1 : Below w.heap.size w (w.alloc (.cells #[.string key, .int .i64 at_] 69)) := (Below.refl _ _).alloc (Nat.le_refl _) _
  go_enter Tryd.func52, Tryd.ntmps52
  go_wp2_with fail
  go_quiet ((fail))
  go_wp2_with fail
  go_ret3
  exact ⟨rfl, below_drewN hb1 _⟩

set_option maxRecDepth 100000 in
set_option maxHeartbeats 2000000 in
theorem index_no_f (A : Option Addr) (cc cn : Nat) (b o : Nat) (key : ByteArray) (at_ : Int) (w : World) (c0 : w.cell? ⟨b, o, none⟩ = some (.int .i64 6)) (c6 : w.cell? ⟨b, o + 6, none⟩ = some (.slice A cn cc)) (hbw : b < w.heap.size) (hcl : cn ≤ 9223372036854775807)
    (h1 : key.toList = []) (d1 : decide (0 ≤ at_) = true) (d2 : decide (at_ ≤ (cn : Int)) = false) :
    Calls Tryd.prog 52 #[.pointer (some ⟨b, o, none⟩), .agg #[.string key, .int .i64 at_]] w (IdxQ w 0 false false) := by
  have hb1 : Below w.heap.size w (w.alloc (.cells #[.string key, .int .i64 at_] 69)) := (Below.refl _ _).alloc (Nat.le_refl _) _
  go_enter Tryd.func52, Tryd.ntmps52
  go_wp2_with fail
  go_quiet ((fail))
  go_wp2_with fail
  go_ret3
  exact ⟨rfl, below_drewN hb1 _⟩
end Go.Proofs.YtbfmdpgghknccaaDoor
