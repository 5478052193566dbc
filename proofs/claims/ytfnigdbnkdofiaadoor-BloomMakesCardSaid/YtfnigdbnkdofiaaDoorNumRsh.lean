/- commonbookbig: Rsh by 33, Uint64, Int64 at numbers that are none below nought. -/
import Derived.Test.YtfnigdbnkdofiaaDoorNumMod
import Derived.Test.YtfnigdbnkdofiaaDoorNumShr
namespace Go.Proofs.YtfnigdbnkdofiaaDoor
open Go.RowKit
set_option linter.unusedVariables false
set_option linter.unusedSimpArgs false

set_option maxRecDepth 100000 in
set_option maxHeartbeats 2000000 in
theorem rsh33 (z gx x : Nat) (w : World) (hz : IsZ w z) (hx : IsN w gx x) (hx2 : x < 18446744073709551616) :
    Calls Tryd.prog 30 #[.pointer (some ⟨z, 0, none⟩), .pointer (some ⟨gx, 0, none⟩), .int .u64 33] w (OpQ w z (x / 8589934592)) := by
  obtain ⟨Ax, nx, cx, bx, vx⟩ := hx
  have x0 : w.cell? ⟨gx, 0, none⟩ = some (.bool false) := bx.cell 0
  have x1 : w.cell? ⟨gx, 1, none⟩ = some (.slice Ax nx cx) := bx.cell 1
  have HR := Lib.hid (right33 _ x w vx hx2)
  have HZ := Lib.hid (And.intro hz bx)
  clear hz bx vx hx2
  go_enter Tryd.func30, Tryd.ntmps30
  go_wp2_with (first
    | (go_at_call 56
       (with_reducible refine HR.out.mono ?_)
       rintro e W1 ⟨v1, rfl, hn1, hb1⟩
       have HG := Lib.hid (give_pos z v1 (x / 8589934592) W1 (HZ.out.1.below hb1) hn1)
       have HB := Lib.hid hb1
       clear hn1 hb1)
    | (go_at_call 49
       (with_reducible refine HG.out.mono ?_)
       rintro e W2 ⟨rfl, hN, hO⟩
       have HE := Lib.hid (And.intro hN hO)
       clear hN hO))
  go_ret
  exact ⟨rfl, HE.out.1, (Only.of_below HB.out).trans HE.out.2⟩

set_option maxRecDepth 100000 in
set_option maxHeartbeats 2000000 in
theorem uint64_any (gx x : Nat) (w : World) (hx : IsN w gx x) (hx2 : x < 18446744073709551616) :
    Calls Tryd.prog 58 #[.pointer (some ⟨gx, 0, none⟩)] w fun e w' => e = .returned (.int .u64 x) ∧ w' = w := by
  obtain ⟨A, n, c, bx, vx⟩ := hx
  have x1 : w.cell? ⟨gx, 1, none⟩ = some (.slice A n c) := bx.cell 1
  obtain ⟨A1, c1, l1, hv, a1, a2, a3, a4, a5, a6⟩ := vx
  injection hv with e1 e2 e3
  subst e1 e2 e3
  have hn1 : l1.length ≤ 2 := trimW_le a3 (k := 2) (by rw [a4]; exact hx2)
  rcases l1 with _ | ⟨p, _ | ⟨q, _ | ⟨_, _⟩⟩⟩
  · subst a4
    replace x1 : w.cell? ⟨gx, 1, none⟩ = some (.slice A 0 c) := x1
    clear a1 a2 a3 a5 a6 bx hn1
    go_enter Tryd.func58, Tryd.ntmps58
    go_wp2_with fail
    go_ret
    exact ⟨rfl, rfl⟩
  · replace x1 : w.cell? ⟨gx, 1, none⟩ = some (.slice A 1 c) := x1
    obtain ⟨b, off, rfl, hc⟩ := a1.word_at (k := 0) (x := p) rfl
    rw [Nat.add_zero] at hc
    have hxx : x = p := by rw [← a4]; simp [valW]
    have HX := Lib.hid hxx
    have hp2 := a2 p (by simp)
    clear a1 a2 a3 a4 a5 a6 hxx bx hn1
    go_enter Tryd.func58, Tryd.ntmps58
    go_wp2_with fail
    go_ret
    exact ⟨by rw [HX.out]; rfl, rfl⟩
  · replace x1 : w.cell? ⟨gx, 1, none⟩ = some (.slice A 2 c) := x1
    obtain ⟨b, off, rfl, hc⟩ := a1.word_at (k := 0) (x := p) rfl
    rw [Nat.add_zero] at hc
    obtain ⟨b', off', hA', hc'⟩ := a1.word_at (k := 1) (x := q) rfl
    injection hA' with hA'
    injection hA' with e1 e2
    subst e1 e2
    have hxx : x = p + q * 4294967296 := by rw [← a4]; simp [valW]; omega
    have HX := Lib.hid hxx
    have hp2 := a2 p (by simp)
    have hq2 := a2 q (by simp)
    have hor := or_high p q hp2 hq2
    have hv1 : ((q : Nat) : Int) * 4294967296 < 18446744073709551616 := by omega
    obtain ⟨s, hs⟩ : ∃ s, s = p + q * 4294967296 := ⟨_, rfl⟩
    rw [← hs] at hor
    have HS := Lib.hid hs
    clear a1 a2 a3 a4 a5 a6 hxx hs bx hn1
    go_enter Tryd.func58, Tryd.ntmps58
    go_wp2_with fail
    go_ret
    exact ⟨by rw [HX.out, ← HS.out]; rfl, rfl⟩
  · simp at hn1

set_option maxRecDepth 100000 in
set_option maxHeartbeats 2000000 in
theorem int64_any (gx x : Nat) (w : World) (hx : IsN w gx x) (hx2 : x < 9223372036854775808) :
    Calls Tryd.prog 31 #[.pointer (some ⟨gx, 0, none⟩)] w fun e w' => e = .returned (.int .i64 x) ∧ w' = w := by
  have HU := Lib.hid (uint64_any gx x w hx (by omega))
  obtain ⟨A, n, c, bx, vx⟩ := hx
  have x0 : w.cell? ⟨gx, 0, none⟩ = some (.bool false) := bx.cell 0
  have hk : wrap64 ((x : Nat) : Int) = (x : Int) := IntWalk.wrap64_in _ ⟨by omega, by omega⟩
  clear bx vx
  go_enter Tryd.func31, Tryd.ntmps31
  go_wp2_with (first
    | (go_at_call 58
       (with_reducible refine HU.out.mono ?_)
       rintro e W1 ⟨rfl, rfl⟩))
  go_ret
  exact ⟨rfl, rfl⟩
end Go.Proofs.YtfnigdbnkdofiaaDoor
