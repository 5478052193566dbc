/- tree.height, count, width, fix: contracts. -/
import Derived.Test.YtnhmbpeicgnjaaaTreeMem
import Derived.Test.YtnhmbpeicgnjaaaProg
import Derived.Deep.QuietTactic
import Derived.BigQuiet
import Derived.StillTailTactics
import Derived.WalkSmall
import Derived.Outline
namespace Go.Proofs.Ytnhmbpeicgnjaaa
open Go.RowKit
set_option linter.unusedVariables false

abbrev NODE : TypeId := 55
abbrev ROW : TypeId := 53

theorem height_any (T : AV) (w : World) (h : InT NODE w T) : Calls Try.prog 28 #[T.ptr] w fun e w' => e = .returned (.int .i64 T.hgt) ∧ w = w' := by
  cases T with
  | nil =>
    unfold AV.ptr
    go_enter Try.func28, Try.ntmps28
    go_wp2
    go_ret
    exact ⟨rfl, rfl⟩
  | node b l th wd hi mn al r =>
    have hc := h.1.cell 4
    simp only [List.getElem?_toArray, List.getElem?_cons_succ, List.getElem?_cons_zero] at hc
    clear h
    unfold AV.ptr
    go_enter Try.func28, Try.ntmps28
    go_wp2
    go_ret
    exact ⟨rfl, rfl⟩
theorem count_any (T : AV) (w : World) (h : InT NODE w T) : Calls Try.prog 23 #[T.ptr] w fun e w' => e = .returned (.int .i64 T.cnt) ∧ w = w' := by
  cases T with
  | nil =>
    unfold AV.ptr
    go_enter Try.func23, Try.ntmps23
    go_wp2
    go_ret
    exact ⟨rfl, rfl⟩
  | node b l th wd hi mn al r =>
    have hc := h.1.cell 5
    simp only [List.getElem?_toArray, List.getElem?_cons_succ, List.getElem?_cons_zero] at hc
    clear h
    unfold AV.ptr
    go_enter Try.func23, Try.ntmps23
    go_wp2
    go_ret
    exact ⟨rfl, rfl⟩
theorem width_any (T : AV) (w : World) (h : InT NODE w T) : Calls Try.prog 22 #[T.ptr] w fun e w' => e = .returned (.int .i64 T.wid) ∧ w = w' := by
  cases T with
  | nil =>
    unfold AV.ptr
    go_enter Try.func22, Try.ntmps22
    go_wp2
    go_ret
    exact ⟨rfl, rfl⟩
  | node b l th wd hi mn al r =>
    have hc := h.1.cell 6
    simp only [List.getElem?_toArray, List.getElem?_cons_succ, List.getElem?_cons_zero] at hc
    clear h
    unfold AV.ptr
    go_enter Try.func22, Try.ntmps22
    go_wp2
    go_ret
    exact ⟨rfl, rfl⟩

theorem height_eq (T : AV) (w : World) (h : InT NODE w T) : Calls Try.prog 28 #[T.ptr] w fun e w' => e = .returned (.int .i64 T.hgt) ∧ w' = w := (height_any T w h).mono fun _ _ ⟨a, b⟩ => ⟨a, b.symm⟩
theorem count_eq (T : AV) (w : World) (h : InT NODE w T) : Calls Try.prog 23 #[T.ptr] w fun e w' => e = .returned (.int .i64 T.cnt) ∧ w' = w := (count_any T w h).mono fun _ _ ⟨a, b⟩ => ⟨a, b.symm⟩
theorem width_eq (T : AV) (w : World) (h : InT NODE w T) : Calls Try.prog 22 #[T.ptr] w fun e w' => e = .returned (.int .i64 T.wid) ∧ w' = w := (width_any T w h).mono fun _ _ ⟨a, b⟩ => ⟨a, b.symm⟩

/-- The numbers of a tree that fit. -/
structure Fits (T : AV) : Prop where
  h0 : 0 ≤ T.hgt
  h1 : T.hgt ≤ 100000
  c0 : 0 ≤ T.cnt
  c1 : T.cnt ≤ 100000
  w0 : 0 ≤ T.wid
  w1 : T.wid ≤ 1000000000000

set_option maxRecDepth 100000 in
set_option maxHeartbeats 1000000 in
theorem fix_any (b : Nat) (l r : AV) (th wd hi mn al : Int) (w : World) (hb : Blk w b NODE #[l.ptr, r.ptr, .int .i64 th, .int .i64 wd, .int .i64 hi, .int .i64 mn, .int .i64 al]) (hl : InT NODE w l) (hr : InT NODE w r)
    (nl : b ∉ l.blocks) (nr : b ∉ r.blocks) (fl : Fits l) (fr : Fits r) (w0 : 0 ≤ wd) (w1 : wd ≤ 1000000) :
    Calls Try.prog 20 #[.pointer (some ⟨b, 0, none⟩)] w fun e w' => e = .returned (.pointer (some ⟨b, 0, none⟩)) ∧ InT NODE w' (AV.fixV b l th wd r) ∧ Only (· = b) w w' := by
  have hmax : ∃ m : Int, 1 + max l.hgt r.hgt = m := ⟨_, rfl⟩
  obtain ⟨m, hm⟩ := hmax
  have c0 := hb.cell 0
  have c1 := hb.cell 1
  have c4 := hb.cell 4
  simp only [List.getElem?_toArray, List.getElem?_cons_succ, List.getElem?_cons_zero] at c0 c1 c4
  have z4 := hb.frozen 4
  obtain ⟨fl0, fl1, fl2, fl3, fl4, fl5⟩ := fl
  obtain ⟨fr0, fr1, fr2, fr3, fr4, fr5⟩ := fr
  have HKL : Hid (∀ {w' : World}, Only (· = b) w w' → InT NODE w' l) := fun h => hl.only h (fun x hx e => nl (by rw [← e]; exact hx))
  have HKR : Hid (∀ {w' : World}, Only (· = b) w w' → InT NODE w' r) := fun h => hr.only h (fun x hx e => nr (by rw [← e]; exact hx))
  have HM := Lib.hid hm
  clear nl nr hm
  go_enter Try.func20, Try.ntmps20
  go_wp2_with fail
  refine wp_region_still_tail 15 (by kernel_rfl) (by kernel_rfl) ?_
  simp only [List.take_succ_cons, List.take_zero, List.drop_succ_cons, List.drop_zero]
  repeat still_step
  still_call (height_eq l _ (by exact hl.drew))
  repeat still_step
  still_call (height_eq r _ (by exact hr.drew))
  repeat still_step
  refine wpStill_nil ?_
  go_wp2_with fail
  all_goals
    refine wp_at (fun w1 => Blk w1 b NODE #[l.ptr, r.ptr, .int .i64 th, .int .i64 wd, .int .i64 m, .int .i64 mn, .int .i64 al] ∧ Only (· = b) w w1) ⟨?_, ((Only.refl (· = b) w).setCell (p := ⟨b, 4, none⟩) rfl _).drew⟩ ?_
    · first
        | (rw [show m = 1 + r.hgt from by have := HM.out; omega]; exact hb.set_ 4 _)
        | (rw [show m = 1 + l.hgt from by have := HM.out; omega]; exact hb.set_ 4 _)
    clear c0 c1 c4 z4 hb hl hr
    rintro w1 ⟨hb1, ho1⟩
    have hl1 := HKL.out ho1
    have hr1 := HKR.out ho1
    have c0 := hb1.cell 0
    have c1 := hb1.cell 1
    have c5 := hb1.cell 5
    simp only [List.getElem?_toArray, List.getElem?_cons_succ, List.getElem?_cons_zero] at c0 c1 c5
    have z5 := hb1.frozen 5
    refine wp_region_still_tail 15 (by kernel_rfl) (by kernel_rfl) ?_
    simp only [List.take_succ_cons, List.take_zero, List.drop_succ_cons, List.drop_zero]
    repeat still_step
    still_call (count_eq l _ (by exact hl1.drew))
    repeat still_step
    still_call (count_eq r _ (by exact hr1.drew))
    repeat still_step
    refine wpStill_nil ?_
    go_wp2_with fail
    refine wp_at (fun w2 => Blk w2 b NODE #[l.ptr, r.ptr, .int .i64 th, .int .i64 wd, .int .i64 m, .int .i64 (1 + l.cnt + r.cnt), .int .i64 al] ∧ Only (· = b) w w2) ⟨hb1.set_ 5 _, (ho1.setCell (p := ⟨b, 5, none⟩) rfl _).drew⟩ ?_
    clear c0 c1 c5 z5 hb1 hl1 hr1 ho1
    rintro w2 ⟨hb2, ho2⟩
    have hl2 := HKL.out ho2
    have hr2 := HKR.out ho2
    have c0 := hb2.cell 0
    have c1 := hb2.cell 1
    have c3 := hb2.cell 3
    have c6 := hb2.cell 6
    simp only [List.getElem?_toArray, List.getElem?_cons_succ, List.getElem?_cons_zero] at c0 c1 c3 c6
    have z6 := hb2.frozen 6
    refine wp_region_still_tail 19 (by kernel_rfl) (by kernel_rfl) ?_
    simp only [List.take_succ_cons, List.take_zero, List.drop_succ_cons, List.drop_zero]
    repeat still_step
    still_call (width_eq l _ (by exact hl2.drew))
    repeat still_step
    still_call (width_eq r _ (by exact hr2.drew))
    repeat still_step
    refine wpStill_nil ?_
    go_wp2_with fail
    go_ret
    have ho3 := (ho2.setCell (p := ⟨b, 6, none⟩) rfl (.int .i64 (wd + l.wid + r.wid))).drew
    refine ⟨rfl, ?_, ho3⟩
    rw [AV.fixV, HM.out]
    exact ⟨hb2.set_ 6 _, HKL.out ho3, HKR.out ho3⟩
end Go.Proofs.Ytnhmbpeicgnjaaa
