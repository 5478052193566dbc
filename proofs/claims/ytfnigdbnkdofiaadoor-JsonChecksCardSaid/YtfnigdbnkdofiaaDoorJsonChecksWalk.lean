/- booklaw3.JsonChecks: the walk. -/
import Derived.Test.YtfnigdbnkdofiaaDoorWrite
import Derived.Test.YtfnigdbnkdofiaaDoorLike
namespace Go.Proofs.YtfnigdbnkdofiaaDoor
open Go.RowKit
set_option linter.unusedVariables false
set_option linter.unusedSimpArgs false

/-- The tree's box, and what is known of a world behind. -/
structure CBox (w : World) (T : PT) (W : World) : Prop where
  bel : Below w.heap.size w W
  t : Blk W w.heap.size 29 #[.int .i64 T.val.k, .int .i64 T.val.n, .string T.val.s, .int .i64 T.val.o, .int .i64 T.val.p, .slice T.kA T.keys.length T.kc, .slice T.cA T.kids.length T.cc]
theorem CBox.below {w W W' : World} {T : PT} (h : CBox w T W) (hb : Below W.heap.size W W') : CBox w T W' := ⟨h.bel.trans (hb.mono h.bel.size), h.t.below hb h.t.lt⟩

set_option maxRecDepth 100000 in
set_option maxHeartbeats 4000000 in
theorem jsonChecks_walk (w : World) (hp : Pow10 w) (hg : ErrVar w) (tv : Value) (T : PT) (hT : IsTree w tv T) :
    Calls Tryd.prog 3 #[tv] w fun e w' => e = .returned (.bool true) ∧ Below w.heap.size w w' := by
  obtain ⟨rfl, hT⟩ := hT
  have HH := Lib.hid (And.intro hT (And.intro hp hg))
  clear hT hp hg
  have hX0 : CBox w T (w.alloc (.cells #[.int .i64 T.val.k, .int .i64 T.val.n, .string T.val.s, .int .i64 T.val.o, .int .i64 T.val.p, .slice T.kA T.keys.length T.kc, .slice T.cA T.kids.length T.cc] 29)) := ⟨(Below.refl _ _).alloc (Nat.le_refl _) _, Blk.new w _ _⟩
  have HX0 := Lib.hid hX0
  clear hX0
  have HV := Lib.hid (PT.value_eq T)
  have HC0 := Lib.hid (rcheck_any T w _ HH.out.1 HX0.out.bel)
  rw [HV.out] at HC0 ⊢
  go_enter Tryd.func3, Tryd.ntmps3
  go_wp2_with (go_at_call 5; refine HC0.out.mono ?_)
  first | (rintro e w1 rfl hb1) | (rintro e w1 ⟨rfl, hb1⟩)
  have HX1 := Lib.hid (HX0.out.below hb1)
  clear hb1 HC0 HX0
  have HC1 := Lib.hid (check_any T w w1 HH.out.1 HX1.out.bel)
  rw [HV.out] at HC1
  have q0 : w1.cell? ⟨w.heap.size, 0, none⟩ = some (.int .i64 T.val.k) := HX1.out.t.cell 0
  have q1 : w1.cell? ⟨w.heap.size, 1, none⟩ = some (.int .i64 T.val.n) := HX1.out.t.cell 1
  have q2 : w1.cell? ⟨w.heap.size, 2, none⟩ = some (.string T.val.s) := HX1.out.t.cell 2
  have q3 : w1.cell? ⟨w.heap.size, 3, none⟩ = some (.int .i64 T.val.o) := HX1.out.t.cell 3
  have q4 : w1.cell? ⟨w.heap.size, 4, none⟩ = some (.int .i64 T.val.p) := HX1.out.t.cell 4
  have q5 : w1.cell? ⟨w.heap.size, 5, none⟩ = some (.slice T.kA T.keys.length T.kc) := HX1.out.t.cell 5
  have q6 : w1.cell? ⟨w.heap.size, 6, none⟩ = some (.slice T.cA T.kids.length T.cc) := HX1.out.t.cell 6
  go_wp2_with (go_at_call 6; refine HC1.out.mono ?_)
  first | (rintro e w2 rfl hb2) | (rintro e w2 ⟨rfl, hb2⟩)
  have HX2 := Lib.hid (HX1.out.below hb2)
  clear hb2 HC1 HX1 q0 q1 q2 q3 q4 q5 q6
  rcases check_both T.tree with ⟨hc, hr⟩ | ⟨hc, hr, he⟩
  · rw [hc, hr]
    have HOK := Lib.hid (checkV_ok hc)
    have HCV := Lib.hid hc
    clear hc hr
    have HE := Lib.hid (error_like .nilIface 0 w2 (.inl ⟨rfl, rfl⟩) (HH.out.2.2.below HX2.out.bel))
    go_wp2_with (go_at_call 7; refine HE.out.mono ?_)
    first | (rintro e w3 rfl hb3) | (rintro e w3 ⟨rfl, hb3⟩)
    have HX3 := Lib.hid (HX2.out.below hb3)
    clear hb3 HE HX2
    obtain ⟨X, hX⟩ : ∃ X : ByteArray, X = ⟨T.tree.text.toArray⟩ := ⟨_, rfl⟩
    have HC3 := Lib.hid (show Calls Tryd.prog 8 #[T.value] w3 (fun e w' => e = .returned (.string X) ∧ Below w3.heap.size w3 w') from by rw [hX]; exact rtext_any T w HH.out.1 HOK.out.1 HOK.out.2 w3 HX3.out.bel)
    rw [HV.out] at HC3
    have q0 : w3.cell? ⟨w.heap.size, 0, none⟩ = some (.int .i64 T.val.k) := HX3.out.t.cell 0
    have q1 : w3.cell? ⟨w.heap.size, 1, none⟩ = some (.int .i64 T.val.n) := HX3.out.t.cell 1
    have q2 : w3.cell? ⟨w.heap.size, 2, none⟩ = some (.string T.val.s) := HX3.out.t.cell 2
    have q3 : w3.cell? ⟨w.heap.size, 3, none⟩ = some (.int .i64 T.val.o) := HX3.out.t.cell 3
    have q4 : w3.cell? ⟨w.heap.size, 4, none⟩ = some (.int .i64 T.val.p) := HX3.out.t.cell 4
    have q5 : w3.cell? ⟨w.heap.size, 5, none⟩ = some (.slice T.kA T.keys.length T.kc) := HX3.out.t.cell 5
    have q6 : w3.cell? ⟨w.heap.size, 6, none⟩ = some (.slice T.cA T.kids.length T.cc) := HX3.out.t.cell 6
    go_wp2_with (go_at_call 8; refine HC3.out.mono ?_)
    first | (rintro e w4 rfl hb4) | (rintro e w4 ⟨rfl, hb4⟩)
    have HX4 := Lib.hid (HX3.out.below hb4)
    clear hb4 HC3 HX3 q0 q1 q2 q3 q4 q5 q6
    have HC4 := Lib.hid (show Calls Tryd.prog 9 #[T.value] w4 (fun e w' => e = .returned (.tuple #[.string X, .nilIface]) ∧ Below w4.heap.size w4 w') from by
      refine (print_any T w w4 HH.out.1 HX4.out.bel HH.out.2.1).mono ?_
      rintro e w' ⟨h, hb⟩
      rcases h with ⟨_, h⟩ | ⟨h, _⟩
      · exact ⟨by rw [hX]; exact h, hb⟩
      · exact absurd HCV.out h)
    rw [HV.out] at HC4
    clear hX
    have q0 : w4.cell? ⟨w.heap.size, 0, none⟩ = some (.int .i64 T.val.k) := HX4.out.t.cell 0
    have q1 : w4.cell? ⟨w.heap.size, 1, none⟩ = some (.int .i64 T.val.n) := HX4.out.t.cell 1
    have q2 : w4.cell? ⟨w.heap.size, 2, none⟩ = some (.string T.val.s) := HX4.out.t.cell 2
    have q3 : w4.cell? ⟨w.heap.size, 3, none⟩ = some (.int .i64 T.val.o) := HX4.out.t.cell 3
    have q4 : w4.cell? ⟨w.heap.size, 4, none⟩ = some (.int .i64 T.val.p) := HX4.out.t.cell 4
    have q5 : w4.cell? ⟨w.heap.size, 5, none⟩ = some (.slice T.kA T.keys.length T.kc) := HX4.out.t.cell 5
    have q6 : w4.cell? ⟨w.heap.size, 6, none⟩ = some (.slice T.cA T.kids.length T.cc) := HX4.out.t.cell 6
    go_wp2_with (go_at_call 9; refine HC4.out.mono ?_)
    first | (rintro e w5 rfl hb5) | (rintro e w5 ⟨rfl, hb5⟩)
    have HX5 := Lib.hid (HX4.out.below hb5)
    clear hb5 HC4 HX4 q0 q1 q2 q3 q4 q5 q6
    have HE5 := Lib.hid (error_like .nilIface 0 w5 (.inl ⟨rfl, rfl⟩) (HH.out.2.2.below HX5.out.bel))
    go_wp2_with (go_at_call 7; refine HE5.out.mono ?_)
    first | (rintro e w6 rfl hb6) | (rintro e w6 ⟨rfl, hb6⟩)
    have HX6 := Lib.hid (HX5.out.below hb6)
    clear hb6 HE5 HX5
    go_wp2_with fail
    go_ret
    exact ⟨rfl, HX6.out.bel⟩
  · obtain ⟨ev, hev⟩ : ∃ ev, ev = checkV T.tree := ⟨_, rfl⟩
    obtain ⟨n, hn⟩ : ∃ n, n = rcheckN T.tree := ⟨_, rfl⟩
    rw [← hev, ← hn]
    rw [← hn] at hr he
    rw [← hev] at he
    have hn0 : (n == 0) = false := by simpa using hr
    have HCV := Lib.hid (And.intro hc (And.intro he hev))
    clear hc he hev hn hr
    have HE := Lib.hid (error_like ev n w2 HCV.out.2.1 (HH.out.2.2.below HX2.out.bel))
    go_wp2_with (go_at_call 7; refine HE.out.mono ?_)
    first | (rintro e w3 rfl hb3) | (rintro e w3 ⟨rfl, hb3⟩)
    have HX3 := Lib.hid (HX2.out.below hb3)
    clear hb3 HE HX2
    have HC4 := Lib.hid (show Calls Tryd.prog 9 #[T.value] w3 (fun e w' => e = .returned (.tuple #[.string ⟨#[]⟩, ev]) ∧ Below w3.heap.size w3 w') from by
      refine (print_any T w w3 HH.out.1 HX3.out.bel HH.out.2.1).mono ?_
      rintro e w' ⟨h, hb⟩
      rcases h with ⟨h, _⟩ | ⟨_, h⟩
      · exact absurd h HCV.out.1
      · exact ⟨by rw [HCV.out.2.2]; exact h, hb⟩)
    rw [HV.out] at HC4
    have q0 : w3.cell? ⟨w.heap.size, 0, none⟩ = some (.int .i64 T.val.k) := HX3.out.t.cell 0
    have q1 : w3.cell? ⟨w.heap.size, 1, none⟩ = some (.int .i64 T.val.n) := HX3.out.t.cell 1
    have q2 : w3.cell? ⟨w.heap.size, 2, none⟩ = some (.string T.val.s) := HX3.out.t.cell 2
    have q3 : w3.cell? ⟨w.heap.size, 3, none⟩ = some (.int .i64 T.val.o) := HX3.out.t.cell 3
    have q4 : w3.cell? ⟨w.heap.size, 4, none⟩ = some (.int .i64 T.val.p) := HX3.out.t.cell 4
    have q5 : w3.cell? ⟨w.heap.size, 5, none⟩ = some (.slice T.kA T.keys.length T.kc) := HX3.out.t.cell 5
    have q6 : w3.cell? ⟨w.heap.size, 6, none⟩ = some (.slice T.cA T.kids.length T.cc) := HX3.out.t.cell 6
    go_wp2_with (go_at_call 9; refine HC4.out.mono ?_)
    first | (rintro e w5 rfl hb5) | (rintro e w5 ⟨rfl, hb5⟩)
    have HX5 := Lib.hid (HX3.out.below hb5)
    clear hb5 HC4 HX3 q0 q1 q2 q3 q4 q5 q6
    have HE5 := Lib.hid (error_like ev n w5 HCV.out.2.1 (HH.out.2.2.below HX5.out.bel))
    go_wp2_with (go_at_call 7; refine HE5.out.mono ?_)
    first | (rintro e w6 rfl hb6) | (rintro e w6 ⟨rfl, hb6⟩)
    have HX6 := Lib.hid (HX5.out.below hb6)
    clear hb6 HE5 HX5
    go_wp2_with fail
    go_ret
    exact ⟨rfl, HX6.out.bel⟩
end Go.Proofs.YtfnigdbnkdofiaaDoor
