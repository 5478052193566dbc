/- DocRuns: the walk. -/
import Derived.Test.YteknflimfdkhoaaGreatDrSteps
import Derived.BigQuiet
namespace Go.Proofs.YteknflimfdkhoaaGreat
open Go.RowKit Go.Maps Go.Sort
set_option linter.unusedVariables false
set_option linter.unusedSimpArgs false

/-- What was read last. -/
def lastAt (y k : Nat) : Int := if k = 0 then 0 else numAt y (k - 1)
def turnsAt (y k : Nat) : Int := if 0 < y ∧ y < k then 1 else 0
theorem below_r {B : Nat} {w w' : World} (h : Below B w w') (n : Nat) : Below B w (w'.drewN n) := ⟨h.os, h.tape, h.output, h.size, h.block⟩
set_option maxRecDepth 100000 in
set_option maxHeartbeats 4000000 in
theorem docRuns_walk (w : World) (x : Int) (hx : I64 x) (y : Int) (hy : I64 y) :
    Calls Tryz.prog 3 #[.int .i64 x, .int .i64 y] w fun e w' => e = .returned (.bool true) ∧ Below w.heap.size w w' := by
  by_cases h1 : x < 0
  · clear hx hy
    go_enter Tryz.func3, Tryz.ntmps3
    go_wp2_with fail
    go_ret
    exact ⟨rfl, Below.refl _ _⟩
  by_cases h2 : 30 < x
  · clear hx hy
    go_enter Tryz.func3, Tryz.ntmps3
    go_wp2_with fail
    go_ret
    exact ⟨rfl, Below.refl _ _⟩
  by_cases h3 : y < 0
  · clear hx hy
    go_enter Tryz.func3, Tryz.ntmps3
    go_wp2_with fail
    go_ret
    exact ⟨rfl, Below.refl _ _⟩
  by_cases h4 : 30 < y
  · clear hx hy
    go_enter Tryz.func3, Tryz.ntmps3
    go_wp2_with fail
    go_ret
    exact ⟨rfl, Below.refl _ _⟩
  obtain ⟨X, rfl⟩ := Int.eq_ofNat_of_zero_le (show 0 ≤ x by omega)
  obtain ⟨Y, rfl⟩ := Int.eq_ofNat_of_zero_le (show 0 ≤ y by omega)
  have hX : X ≤ 30 := by omega
  have hY : Y ≤ 30 := by omega
  clear hx hy
  go_enter Tryz.func3, Tryz.ntmps3
  go_upto_region 4 with (go_at_call 4; (with_reducible refine (two_any w).mono ?_); (rintro e w1 ⟨Ka, Kb, a, b, rfl, hT, hb1, hlow⟩); (have H1 := Lib.hid (And.intro hT (And.intro hb1 hlow))); clear hT hb1 hlow)
  obtain ⟨W1, hW1⟩ : ∃ W1, W1 = w1.alloc (.cells #[.int .i64 1, .int .i64 1] 24) := ⟨_, rfl⟩
  rw [← hW1]
  have hbl1 : Below w1.heap.size w1 W1 := by rw [hW1]; exact (Below.refl _ _).alloc (Nat.le_refl _) _
  have hbx1 : Blk W1 w1.heap.size 24 #[.int .i64 1, .int .i64 1] := by rw [hW1]; exact Blk.new _ _ _
  obtain ⟨lb, hlb⟩ : ∃ lb, lb = w1.heap.size := ⟨_, rfl⟩
  have hP1 : PairL w.heap.size W1 a b (hand1 1 (runL 1 1 0 0)) (hand1 2 (runL 2 2 0 0)) lb := by
    refine ⟨_, _, H1.out.1.below hbl1, fun i hi => H1.out.2.2 i (hi.imp And.left And.left), Nat.le_trans H1.out.2.1.size hbl1.size, ⟨fun k => ?_, fun k => ?_⟩, by rw [hlb]; exact hbx1⟩
    · have := k.2; omega
    · have := k.2; omega
  rw [← hlb]
  have HP1 := Lib.hid (And.intro hP1 (H1.out.2.1.trans (hbl1.mono H1.out.2.1.size)))
  clear hW1 hbl1 hbx1 hP1 hlb
  go_upto_block 0 with (fail)
  go_cut [9, 10] from 44 to 55 (fun _ _ wx => PairL w.heap.size wx a b (hand1 1 (runL 1 1 0 X)) (hand1 2 (runL 2 2 0 0)) lb ∧ Below w.heap.size w wx)
  case first =>
    go_wp2_with fail
    go_loopw [9, 10] (fun iv _ wr => ∃ k : Nat, iv = .int .i64 k ∧ k ≤ X ∧ PairL w.heap.size wr a b (hand1 1 (runL 1 1 0 k)) (hand1 2 (runL 2 2 0 0)) lb ∧ Below w.heap.size w wr) (fun iv _ _ => X - (intOf iv).toNat)
    case atStart => exact ⟨0, rfl, Nat.zero_le _, HP1.out.1, HP1.out.2⟩
    case round =>
      obtain ⟨k, rfl, hk, hP, hb⟩ := hrel
      have HP := Lib.hid (And.intro hP hb)
      clear hP hb
      by_cases hc : k < X
      · have q0 : wr.cell? ⟨lb, 0, none⟩ = some (.int .i64 1) := HP.out.1.box.cell 0
        have q1 : wr.cell? ⟨lb, 1, none⟩ = some (.int .i64 1) := HP.out.1.box.cell 1
        go_upto_region 10 with (go_at_call 5; (with_reducible refine (r_insX HP.out.1 (by omega)).mono ?_); (rintro e w2 ⟨v2, rfl, rfl, hP, hb⟩); (have HP2 := Lib.hid (And.intro hP (HP.out.2.trans hb))); clear hP hb)
        clear q0 q1
        go_wp2_with fail
        exact ⟨⟨k + 1, by push_cast; rfl, by omega, HP2.out.1, HP2.out.2⟩, by simp [intOf]; omega⟩
      · obtain rfl : k = X := by omega
        go_wp2_with fail
        go_meet
        exact HP.out
  case rest =>
  have HP2 := Lib.hid hcut
  clear hcut
  go_upto_block 2 with (fail)
  go_cut [11, 12] from 56 to 67 (fun _ _ wx => PairL w.heap.size wx a b (hand1 1 (runL 1 1 0 X)) (hand1 2 (runL 2 2 0 Y)) lb ∧ Below w.heap.size w wx)
  case first =>
    go_wp2_with fail
    go_loopw [11, 12] (fun iv _ wr => ∃ k : Nat, iv = .int .i64 k ∧ k ≤ Y ∧ PairL w.heap.size wr a b (hand1 1 (runL 1 1 0 X)) (hand1 2 (runL 2 2 0 k)) lb ∧ Below w.heap.size w wr) (fun iv _ _ => Y - (intOf iv).toNat)
    case atStart => exact ⟨0, rfl, Nat.zero_le _, HP2.out.1, HP2.out.2⟩
    case round =>
      obtain ⟨k, rfl, hk, hP, hb⟩ := hrel
      have HP := Lib.hid (And.intro hP hb)
      clear hP hb
      by_cases hc : k < Y
      · have q0 : wr.cell? ⟨lb, 0, none⟩ = some (.int .i64 1) := HP.out.1.box.cell 0
        have q1 : wr.cell? ⟨lb, 1, none⟩ = some (.int .i64 1) := HP.out.1.box.cell 1
        go_upto_region 16 with (go_at_call 5; (with_reducible refine (r_insY HP.out.1 (by omega)).mono ?_); (rintro e w2 ⟨v2, rfl, rfl, hP, hb⟩); (have HP3 := Lib.hid (And.intro hP (HP.out.2.trans hb))); clear hP hb)
        clear q0 q1
        go_wp2_with fail
        exact ⟨⟨k + 1, by push_cast; rfl, by omega, HP3.out.1, HP3.out.2⟩, by simp [intOf]; omega⟩
      · obtain rfl : k = Y := by omega
        go_wp2_with fail
        go_meet
        exact HP.out
  case rest =>
  have HP3 := Lib.hid hcut
  clear hcut
  go_upto_region 19 with (go_at_call 6; (with_reducible refine (r_comX HP3.out.1 hX).mono ?_); (rintro e w4 ⟨v4, ⟨ra, rb, rc, rfl⟩, rfl, hP, hb⟩); (have HP4 := Lib.hid (And.intro hP (HP3.out.2.trans hb))); clear hP hb)
  go_upto_region 20 with (go_at_call 6; (with_reducible refine (r_comY HP4.out.1 hY).mono ?_); (rintro e w5 ⟨v5, ⟨sa, sb, sc, rfl⟩, rfl, hP, hb⟩); (have HP5 := Lib.hid (And.intro hP (HP4.out.2.trans hb))); clear hP hb)
  go_upto_region 21 with (go_at_call 7; (with_reducible refine (r_mer HP5.out.1 hY).mono ?_); (rintro e w6 ⟨v6, ⟨n6, rfl⟩, rfl, hP, hb⟩); (have HP6 := Lib.hid (And.intro hP (HP5.out.2.trans hb))); clear hP hb)
  obtain ⟨M, hM⟩ : ∃ M, M = Y + X := ⟨_, rfl⟩
  have HM := Lib.hid hM
  have q0 : w6.cell? ⟨lb, 0, none⟩ = some (.int .i64 1) := HP6.out.1.box.cell 0
  have q1 : w6.cell? ⟨lb, 1, none⟩ = some (.int .i64 1) := HP6.out.1.box.cell 1
  have HLN := Lib.hid (show Calls Tryz.prog 8 #[.pointer (some ⟨a, 0, none⟩), .agg #[.int .i64 1, .int .i64 1]] w6 fun e w' => e = .returned (.tuple #[.int .i64 (M : Int), .nilIface]) ∧ Below w6.heap.size w6 w' from by rw [hM]; exact r_len HP6.out.1 hX hY)
  have hs1 : IntKind.i64.wrap ((X : Int) + (Y : Int)) = (M : Int) := by rw [IntKind.wrap_i64]; omega
  have hs2 : wrap64 ((X : Int) + (Y : Int)) = (M : Int) := by unfold wrap64; omega
  have hs3 : (X : Int) + (Y : Int) = (M : Int) := by omega
  have hM60 : M ≤ 60 := by omega
  clear hM
  go_upto_region 22 with (go_at_call 8; (with_reducible refine HLN.out.mono ?_); (rintro e w7 ⟨rfl, hb⟩); (have HP7 := Lib.hid (And.intro (HP6.out.1.below hb) (HP6.out.2.trans (hb.mono HP6.out.1.low)))); clear hb)
  clear q0 q1
  go_upto_block 4 with (fail)
  clear hs1 hs2 hs3
  go_wp2_with fail
  go_loopw [17, 18, 19, 20, 21] (fun tv lv iv _ _ wr => ∃ (k : Nat) (T La : Int), iv = .int .i64 k ∧ k ≤ M ∧ tv = .int .i64 T ∧ T = turnsAt Y k ∧ lv = .int .i64 La ∧ La = lastAt Y k ∧ PairL w.heap.size wr a b ⟨1, [chOne] ++ LiX X ++ LiY Y, [], []⟩ ⟨2, [chOne] ++ LiY Y, [], []⟩ lb ∧ Below w.heap.size w wr) (fun _ _ iv _ _ _ => M - (intOf iv).toNat)
  case atStart => exact ⟨0, 0, 0, rfl, Nat.zero_le _, rfl, by unfold turnsAt; rw [if_neg (by omega)], rfl, rfl, HP7.out.1, HP7.out.2⟩
  case round =>
    obtain ⟨k, T, La, rfl, hk, rfl, hT, rfl, hLa, hP, hb⟩ := hrel
    have HP := Lib.hid (And.intro hP hb)
    have HTL := Lib.hid (And.intro hT hLa)
    clear hP hb hT hLa
    by_cases hc : k < M
    · have q0 : wr.cell? ⟨lb, 0, none⟩ = some (.int .i64 1) := HP.out.1.box.cell 0
      have q1 : wr.cell? ⟨lb, 1, none⟩ = some (.int .i64 1) := HP.out.1.box.cell 1
      have HAT := Lib.hid (r_at HP.out.1 hX hY (i := k) (by have := HM.out; omega))
      go_upto_region 30 with (go_at_call 9; (with_reducible refine HAT.out.mono ?_); (rintro e w8 ⟨hb, g, off, c, rfl, hcell⟩); (have HP8 := Lib.hid (And.intro (HP.out.1.below hb) (HP.out.2.trans (hb.mono HP.out.1.low)))); (have HC8 := Lib.hid hcell); clear hb hcell)
      clear q0 q1
      have hcs : (k = 0) ∨ (0 < k ∧ k = Y) ∨ (0 < k ∧ k ≠ Y) := by omega
      rcases hcs with h0 | ⟨h0, h5⟩ | ⟨h0, h5⟩
      · have e1 : T = 0 := by rw [HTL.out.1]; unfold turnsAt; rw [if_neg (by omega)]
        have e2 : La = 0 := by rw [HTL.out.2]; unfold lastAt; rw [if_pos h0]
        have HT := Lib.hid (show turnsAt Y (k + 1) = 0 from by unfold turnsAt; rw [if_neg (by omega)])
        have HL := Lib.hid (show lastAt Y (k + 1) = numAt Y k from by unfold lastAt; rw [if_neg (by omega), Nat.add_sub_cancel])
        have g1 : decide ((0 : Int) < (k : Int)) = false := decide_eq_false (by omega)
        have hk0 : ¬ (0 < k) := by omega
        have g0 : decide (0 < k) = false := decide_eq_false hk0
        clear HTL h0
        subst e1 e2
        obtain ⟨v, hv⟩ : ∃ v, v = numAt Y k := ⟨_, rfl⟩
        have x1 : w8.cell? ⟨g, off + 1, none⟩ = some (.int .i64 v) := by rw [hv]; exact HC8.out
        have HV := Lib.hid hv
        clear hv
        go_wp2_with fail
        go_roundw
        case rel => exact ⟨k + 1, 0, v, by push_cast; rfl, by omega, rfl, HT.out.symm, rfl, by rw [HV.out, HL.out], HP8.out.1, HP8.out.2⟩
        case measure => simp [intOf]; omega
      · have e1 : T = 0 := by rw [HTL.out.1]; unfold turnsAt; rw [if_neg (by omega)]
        have e2 : La = 2 := by rw [HTL.out.2]; unfold lastAt numAt; rw [if_neg (by omega), if_pos (by omega)]
        have e3 : numAt Y k = 1 := by unfold numAt; rw [if_neg (by omega)]
        have HT := Lib.hid (show turnsAt Y (k + 1) = 1 from by unfold turnsAt; rw [if_pos (by omega)])
        have HL := Lib.hid (show lastAt Y (k + 1) = 1 from by unfold lastAt; rw [if_neg (by omega), Nat.add_sub_cancel, e3])
        have g1 : decide ((0 : Int) < (k : Int)) = true := decide_eq_true (by omega)
        have hk0 : 0 < k := h0
        have g0 : decide (0 < k) = true := decide_eq_true hk0
        clear HTL h5
        subst e1 e2
        have x1 : w8.cell? ⟨g, off + 1, none⟩ = some (.int .i64 1) := by have := HC8.out; rw [e3] at this; exact this
        clear e3 h0
        go_wp2_with fail
        go_roundw
        case rel => exact ⟨k + 1, 1, 1, by push_cast; rfl, by omega, rfl, HT.out.symm, rfl, HL.out.symm, HP8.out.1, HP8.out.2⟩
        case measure => simp [intOf]; omega
      · have e2 : La = numAt Y k := by
          rw [HTL.out.2]
          unfold lastAt numAt
          rw [if_neg (by omega)]
          by_cases hl : k < Y
          · rw [if_pos hl, if_pos (by omega)]
          · rw [if_neg hl, if_neg (by omega)]
        have HT := Lib.hid (show T = turnsAt Y (k + 1) from by
          rw [HTL.out.1]
          unfold turnsAt
          by_cases hl : 0 < Y ∧ Y < k
          · rw [if_pos hl, if_pos (by omega)]
          · rw [if_neg hl, if_neg (by omega)])
        have HL := Lib.hid (show La = lastAt Y (k + 1) from by rw [e2]; unfold lastAt; rw [if_neg (by omega), Nat.add_sub_cancel])
        have g1 : decide ((0 : Int) < (k : Int)) = true := decide_eq_true (by omega)
        have hk0 : 0 < k := h0
        have g0 : decide (0 < k) = true := decide_eq_true hk0
        have x1 : w8.cell? ⟨g, off + 1, none⟩ = some (.int .i64 La) := by have := HC8.out; rw [← e2] at this; exact this
        have g2 : (La != La) = false := by simp
        clear e2 h0 h5
        go_wp2_with fail
        go_roundw
        case rel => exact ⟨k + 1, T, La, by push_cast; rfl, by omega, rfl, HT.out, rfl, HL.out, HP8.out.1, HP8.out.2⟩
        case measure => simp [intOf]; omega
    · have hT1 : T ≤ 1 := by rw [HTL.out.1]; unfold turnsAt; split <;> omega
      have g3 : decide (T ≤ 1) = true := decide_eq_true hT1
      go_wp2_with fail
      go_ret
      exact ⟨rfl, HP.out.2⟩
end Go.Proofs.YteknflimfdkhoaaGreat
