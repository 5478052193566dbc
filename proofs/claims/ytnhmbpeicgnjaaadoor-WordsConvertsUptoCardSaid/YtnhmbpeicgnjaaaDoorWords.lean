/- words.Convert and words.Breaks: contracts. -/
import Derived.Test.YtnhmbpeicgnjaaaDoorRunes
import Derived.Test.YtnhmbpeicgnjaaaDoorShelfV
import Derived.Test.YtnhmbpeicgnjaaaDoorMem
import Derived.Laws.RangeAny
import Derived.Outline
namespace Go.Proofs.YtnhmbpeicgnjaaaDoor
open Go.RowKit Go.Lib
set_option linter.unusedVariables false
set_option linter.unusedSimpArgs false

/-- What utf8.ValidString reads of the library's tables. -/
def Tabs (w : World) : Prop := Lib.Utf8Tabs (Tryd.laysValid_ren.g 3) (Tryd.laysValid_ren.g 4) w

theorem size_any (c : Nat) (k : Int) (w : World) : Calls Tryd.prog 36 #[.int .i32 c, .int .i64 k] w fun e w' => e = .returned (.int .i64 (sz c k)) ∧ w = w' := by
  by_cases h1 : k = 1
  · subst h1
    go_enter Tryd.func36, Tryd.ntmps36
    go_wp2_with (go_at_call 62; refine (Tryd.utf8_RuneLen _ _).mono ?_; rintro e w' ⟨rfl, rfl⟩)
    go_ret
    exact ⟨rfl, rfl⟩
  · have hb : (k == 1) = false := by simpa using h1
    by_cases h3 : k = 3
    · subst h3
      by_cases hc : (65535 : Int) < c
      · go_enter Tryd.func36, Tryd.ntmps36
        go_wp2
        go_ret
        exact ⟨by simp [sz]; omega, rfl⟩
      · go_enter Tryd.func36, Tryd.ntmps36
        go_wp2
        go_ret
        exact ⟨by simp [sz]; omega, rfl⟩
    · have hb3 : (k == 3) = false := by simpa using h3
      go_enter Tryd.func36, Tryd.ntmps36
      go_wp2
      go_ret
      exact ⟨by simp [sz, h1, h3], rfl⟩

theorem wordly_any (c : Nat) (w : World) : Calls Tryd.prog 37 #[.int .i32 c] w fun e w' => e = .returned (.bool (wordB c)) ∧ w = w' := by
  by_cases h1 : (97 : Int) ≤ c <;> by_cases h2 : (c : Int) ≤ 122 <;> by_cases h3 : (65 : Int) ≤ c <;> by_cases h4 : (c : Int) ≤ 90 <;> by_cases h5 : (48 : Int) ≤ c <;> by_cases h6 : (c : Int) ≤ 57 <;> by_cases h7 : (128 : Int) ≤ c
  all_goals first | (exfalso; omega) | skip
  all_goals
    go_enter Tryd.func37, Tryd.ntmps37
    go_wp2
    go_ret
    refine ⟨?_, rfl⟩
    first
      | (rw [show wordB c = true from by simp [wordB]; omega]; rfl)
      | (rw [show wordB c = false from by simp [wordB]; omega]; rfl)

/-- What Convert gives where the text is valid and the numbers are right. -/
def ConvPost (w : World) (r : Int × Int) (at_ : Int) (e : Ending) (w' : World) : Prop :=
  Below w.heap.size w w' ∧ ((r.1 = at_ ∧ e = .returned (.tuple #[.int .i64 r.2, .nilIface])) ∨ (r.1 ≠ at_ ∧ e = .returned (.tuple #[.int .i64 0, .iface 78 (.int .i64 1)])))

set_option maxRecDepth 100000 in
set_option maxHeartbeats 800000 in
theorem convert_ok (s : ByteArray) (at_ f t : Int) (w : World) (hs : s.size ≤ 1048576) (hT : Tabs w) (hv : validD s.data.toList = true) (f1 : 1 ≤ f) (f2 : f ≤ 3) (t1 : 1 ≤ t) (t2 : t ≤ 3) (ha : 0 ≤ at_) :
    Calls Tryd.prog 9 #[.string s, .int .i64 at_, .int .i64 f, .int .i64 t] w (ConvPost w (convL at_ f t (runesD s.data.toList) 0 0) at_) := by
  go_enter Tryd.func9, Tryd.ntmps9
  go_wp2_with (go_at_call 35; refine (Tryd.utf8_ValidString _ _ (by omega) hT).mono ?_; rw [hv]; rintro e w1 ⟨rfl, hb⟩)
  go_loopw [10, 11] (fun x y wr => ∃ (pos : Nat) (a b : Int), wr = w1.iter s pos ∧ pos ≤ s.size ∧ x = .int .i64 a ∧ y = .int .i64 b ∧ 0 ≤ a ∧ a ≤ 4 * pos ∧ 0 ≤ b ∧ b ≤ 4 * pos ∧
      convL at_ f t (restD s pos) a b = convL at_ f t (runesD s.data.toList) 0 0)
    (fun _ _ wr => s.size - wr.iterPos w1.heap.size)
  case atStart => exact ⟨0, 0, 0, rfl, by omega, rfl, rfl, by omega, by omega, by omega, by omega, rfl⟩
  case round =>
    obtain ⟨pos, a, b, rfl, hp, rfl, rfl, ha1, ha2, hb1, hb2, hc⟩ := hrel
    have hb0 : ∀ q, Below w.heap.size w (w1.iter s q) := fun q => hb.trans (((Below.refl _ _).alloc (Nat.le_refl _) _).mono hb.size)
    by_cases hlt : pos < s.size
    · have hnx := fun ty => run_next_any (P := Tryd.prog) w1 s pos ty hlt
      by_cases hat : at_ ≤ a
      · have hfin : convL at_ f t (runesD s.data.toList) 0 0 = (a, b) := by
          rw [← hc, restD_step s pos hlt, convL, if_pos hat]
        have HF := Lib.hid hfin; clear hc hfin
        by_cases he : a = at_
        · have hbn : (a != at_) = false := by simp [he]
          clear he
          go_wp2_with fail
          go_ret2
          rw [HF.out]
          exact ⟨hb0 _, .inl ⟨by simpa using hbn, rfl⟩⟩
        · have hbn : (a != at_) = true := by simp [he]
          go_wp2_with fail
          go_ret2
          rw [HF.out]
          exact ⟨hb0 _, .inr ⟨he, rfl⟩⟩
      · have hd := dec_le s pos hlt
        have hg := dec_good s pos
        have hz1 := sz_good hg f
        have hz2 := sz_good hg t
        have hnext : convL at_ f t (restD s (pos + (Utf8.decode s pos).2)) (a + sz (Utf8.decode s pos).1 f) (b + sz (Utf8.decode s pos).1 t) = convL at_ f t (runesD s.data.toList) 0 0 := by
          rw [← hc, restD_step s pos hlt, convL, if_neg hat]
        have HN := Lib.hid hnext; clear hc hnext
        have hlt2 : a < at_ := by omega
        obtain ⟨hz1a, hz1b⟩ := hz1
        obtain ⟨hz2a, hz2b⟩ := hz2
        obtain ⟨hd1, hd2⟩ := hd
        clear hat hg
        go_wp2_with (go_at_call 36; refine (size_any _ _ _).mono ?_; rintro e w' ⟨rfl, rfl⟩)
        go_roundw
        case rel => exact ⟨pos + (Utf8.decode s pos).2, _, _, rfl, hd2, rfl, rfl, by omega, by omega, by omega, by omega, HN.out⟩
        case measure => simp; omega
    · have hnx := fun ty => run_next_end (P := Tryd.prog) w1 s pos ty hlt
      have hfin : convL at_ f t (runesD s.data.toList) 0 0 = (a, b) := by
        rw [← hc, restD_end s pos hlt, convL]
      have HF := Lib.hid hfin; clear hc hfin
      by_cases he : a = at_
      · have hbn : (a != at_) = false := by simp [he]
        clear he
        go_wp2_with fail
        go_ret2
        rw [HF.out]
        exact ⟨hb0 _, .inl ⟨by simpa using hbn, rfl⟩⟩
      · have hbn : (a != at_) = true := by simp [he]
        go_wp2_with fail
        go_ret2
        rw [HF.out]
        exact ⟨hb0 _, .inr ⟨he, rfl⟩⟩

set_option maxRecDepth 100000 in
theorem convert_bad (s : ByteArray) (at_ f t : Int) (w : World) (hs : s.size ≤ 1048576) (hT : Tabs w) (hv : validD s.data.toList = false) :
    Calls Tryd.prog 9 #[.string s, .int .i64 at_, .int .i64 f, .int .i64 t] w fun e w' => e = .returned (.tuple #[.int .i64 0, .iface 78 (.int .i64 2)]) ∧ Below w.heap.size w w' := by
  go_enter Tryd.func9, Tryd.ntmps9
  go_wp2_with (go_at_call 35; refine (Tryd.utf8_ValidString _ _ (by omega) hT).mono ?_; rw [hv]; rintro e w1 ⟨rfl, hb1⟩)
  go_ret2
  exact ⟨rfl, hb1⟩

/-- The numbers of a call of Convert that is no range error. -/
def convOk (at_ f t : Int) : Bool := decide (1 ≤ f) && decide (f ≤ 3) && decide (1 ≤ t) && decide (t ≤ 3) && decide (0 ≤ at_)

set_option maxRecDepth 100000 in
set_option maxHeartbeats 800000 in
theorem convert_no (s : ByteArray) (at_ f t : Int) (w : World) (hs : s.size ≤ 1048576) (hT : Tabs w) (hv : validD s.data.toList = true) (h : convOk at_ f t = false) :
    Calls Tryd.prog 9 #[.string s, .int .i64 at_, .int .i64 f, .int .i64 t] w fun e w' => e = .returned (.tuple #[.int .i64 0, .iface 78 (.int .i64 1)]) ∧ Below w.heap.size w w' := by
  by_cases h1 : f < 1
  · go_enter Tryd.func9, Tryd.ntmps9
    go_wp2_with (go_at_call 35; refine (Tryd.utf8_ValidString _ _ (by omega) hT).mono ?_; rw [hv]; rintro e w1 ⟨rfl, hb1⟩)
    go_ret2
    exact ⟨rfl, hb1⟩
  · by_cases h2 : 3 < f
    · go_enter Tryd.func9, Tryd.ntmps9
      go_wp2_with (go_at_call 35; refine (Tryd.utf8_ValidString _ _ (by omega) hT).mono ?_; rw [hv]; rintro e w1 ⟨rfl, hb1⟩)
      go_ret2
      exact ⟨rfl, hb1⟩
    · by_cases h3 : t < 1
      · go_enter Tryd.func9, Tryd.ntmps9
        go_wp2_with (go_at_call 35; refine (Tryd.utf8_ValidString _ _ (by omega) hT).mono ?_; rw [hv]; rintro e w1 ⟨rfl, hb1⟩)
        go_ret2
        exact ⟨rfl, hb1⟩
      · by_cases h4 : 3 < t
        · go_enter Tryd.func9, Tryd.ntmps9
          go_wp2_with (go_at_call 35; refine (Tryd.utf8_ValidString _ _ (by omega) hT).mono ?_; rw [hv]; rintro e w1 ⟨rfl, hb1⟩)
          go_ret2
          exact ⟨rfl, hb1⟩
        · have h5 : at_ < 0 := by
            simp only [convOk, Bool.and_eq_false_iff, decide_eq_false_iff_not] at h
            omega
          go_enter Tryd.func9, Tryd.ntmps9
          go_wp2_with (go_at_call 35; refine (Tryd.utf8_ValidString _ _ (by omega) hT).mono ?_; rw [hv]; rintro e w1 ⟨rfl, hb1⟩)
          go_ret2
          exact ⟨rfl, hb1⟩
end Go.Proofs.YtnhmbpeicgnjaaaDoor
