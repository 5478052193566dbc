/- WordsConverts: the walk. -/
import Derived.Test.YtnhmbpeicgnjaaaDoorRefBreaks
import Derived.Test.YtnhmbpeicgnjaaaDoorSameInts
import Derived.Test.YtnhmbpeicgnjaaaDoorTold
import Derived.Test.YtnhmbpeicgnjaaaDoorWordsThereWalk
namespace Go.Proofs.YtnhmbpeicgnjaaaDoor
open Go.RowKit
open Go.Lib (validD decodeL runeLen)
set_option linter.unusedVariables false
set_option linter.unusedSimpArgs false

theorem validFrom_zero (s : ByteArray) : ValidFrom s 0 = validD s.data.toList := by simp [ValidFrom]
theorem restD_zero (s : ByteArray) : restD s 0 = runesD s.data.toList := by simp [restD]

/-- What Convert answers, of any text and numbers: the reference's place and fault. -/
def faultV (e : Int) : Value := if e = 0 then .nilIface else .iface 78 (.int .i64 e)

theorem conv_same (s : ByteArray) (at_ f t : Int) (w : World) (hs : s.size ≤ 1048576) (hT : Tabs w) :
    Calls Tryd.prog 9 #[.string s, .int .i64 at_, .int .i64 f, .int .i64 t] w fun e w' =>
      e = .returned (.tuple #[.int .i64 (refConv s at_ f t).1, faultV (refConv s at_ f t).2]) ∧ Below w.heap.size w w' := by
  have hg := runes_good s s.size 0 (by omega)
  cases hv : validD s.data.toList with
  | false =>
    refine (convert_bad s at_ f t w hs hT hv).mono ?_
    rintro e w' ⟨rfl, hb⟩
    refine ⟨?_, hb⟩
    rw [refConv, if_neg (by rw [validFrom_zero, hv]; simp)]; rfl
  | true =>
    cases hc : convOk at_ f t with
    | false =>
      refine (convert_no s at_ f t w hs hT hv hc).mono ?_
      rintro e w' ⟨rfl, hb⟩
      refine ⟨?_, hb⟩
      have : refConv s at_ f t = (0, 1) := by
        rw [refConv, if_pos (by rw [validFrom_zero, hv])]
        by_cases h : f < 1 ∨ 3 < f ∨ t < 1 ∨ 3 < t
        · rw [if_pos h]
        · rw [if_neg h]
          have ha : at_ < 0 := by
            simp only [convOk, Bool.and_eq_false_iff, decide_eq_false_iff_not] at hc
            omega
          exact ref_past at_ f t _ hg 0 0 ha
      rw [this]; rfl
    | true =>
      have h3 := convOk_iff hc
      refine (convert_ok s at_ f t w hs hT hv (by omega) (by omega) (by omega) (by omega) (by omega)).mono fun e w' ⟨h1, h2⟩ => ⟨?_, h1⟩
      have : refConv s at_ f t = if (convL at_ f t (runesD s.data.toList) 0 0).1 = at_ then ((convL at_ f t (runesD s.data.toList) 0 0).2, 0) else (0, 1) := by
        rw [refConv, if_pos (by rw [validFrom_zero, hv]), if_neg (by omega), ref_conv at_ f t _ hg, restD_zero]
      rw [this]
      rcases h2 with ⟨h4, h5⟩ | ⟨h4, h5⟩
      · rw [h5, if_pos h4]; rfl
      · rw [h5, if_neg h4]; rfl

theorem refConv_fault (s : ByteArray) (at_ f t : Int) : (refConv s at_ f t).2 = 0 ∨ (refConv s at_ f t).2 = 1 ∨ (refConv s at_ f t).2 = 2 := by
  unfold refConv
  split
  · split
    · exact .inr (.inl rfl)
    · have : ∀ (l : List Nat) (x y : Int), (refL at_ f t l x y).2 = 0 ∨ (refL at_ f t l x y).2 = 1 := by
        intro l
        induction l with
        | nil => intro x y; rw [refL]; split <;> simp
        | cons c l ih => intro x y; rw [refL]; split; · simp
                         · exact ih _ _
      rcases this (restD s 0) 0 0 with h | h
      · exact .inl h
      · exact .inr (.inl h)
  · exact .inr (.inr rfl)

theorem error_same (n : Int) (w : World) (hg : ErrVar w) (hn : n = 0 ∨ n = 1 ∨ n = 2) :
    Calls Tryd.prog 14 #[faultV n, .int .i64 n] w fun r w' => r = .returned (.bool true) ∧ Below w.heap.size w w' := by
  rcases hn with rfl | rfl | rfl
  · refine (error_nil 0 w).mono ?_
    rintro r w' ⟨rfl, rfl⟩
    exact ⟨rfl, Below.refl _ _⟩
  · refine (error_is 1 1 w hg (by unfold I64; decide)).mono ?_
    rintro r w' ⟨rfl, hb⟩
    exact ⟨rfl, hb⟩
  · refine (error_is 2 2 w hg (by unfold I64; decide)).mono ?_
    rintro r w' ⟨rfl, hb⟩
    exact ⟨rfl, hb⟩

set_option maxRecDepth 100000 in
set_option maxHeartbeats 1000000 in
theorem wordsConverts_walk (w : World) (hT : Tabs w) (hE : ErrVar w) (s : ByteArray) (hs : s.size ≤ 1048576) (a : Int) (_ : (Lit.int .i64 a).wf = true) (f : Int) (_ : (Lit.int .i64 f).wf = true) (t : Int) (_ : (Lit.int .i64 t).wf = true) :
    Calls Tryd.prog 5 #[.string s, .int .i64 a, .int .i64 f, .int .i64 t] w fun e w' => e = .returned (.bool true) ∧ Below w.heap.size w w' := by
  have hf := refConv_fault s a f t
  have HF := Lib.hid hf; clear hf
  go_enter Tryd.func5, Tryd.ntmps5
  go_wp2_with fail
  refine (refConvert_any s a f t _ hs).mono ?_
  rintro e w1 ⟨rfl, hb1⟩
  have hT1 := hT.below hb1
  have hE1 := hE.below hb1
  go_wp2_with fail
  refine (conv_same s a f t _ hs hT1).mono ?_
  rintro e w2 ⟨rfl, hb2⟩
  have hbb2 := hb1.trans (hb2.mono hb1.size)
  have hT2 := hT1.below hb2
  have hE2 := hE1.below hb2
  clear hb1 hb2 hT hT1 hE hE1
  obtain ⟨n, hn⟩ : ∃ n, (refConv s a f t).2 = n := ⟨_, rfl⟩
  obtain ⟨y, hy⟩ : ∃ y, (refConv s a f t).1 = y := ⟨_, rfl⟩
  rw [hn] at HF
  rw [hn, hy]
  clear hn hy
  go_wp2_with fail
  refine (error_same n _ hE2 HF.out).mono ?_
  rintro e w3 ⟨rfl, hb3⟩
  have hbb3 := hbb2.trans (hb3.mono hbb2.size)
  have hT3 := hT2.below hb3
  have hE3 := hE2.below hb3
  clear hb3 hbb2 hT2 hE2
  go_wp2_with fail
  refine (refBreaks_any s _ hs).mono ?_
  rintro e w4 ⟨hb4, h4⟩
  have hbb4 := hbb3.trans (hb4.mono hbb3.size)
  have hT4 := hT3.below hb4
  have hE4 := hE3.below hb4
  clear hb4 hbb3 hT3 hE3
  rcases h4 with ⟨hv, A, c, rfl, hA⟩ | ⟨hv, rfl⟩
  · rw [validFrom_zero] at hv
    rw [restD_zero] at hA ⊢
    have hlen := brk_len (runesD s.data.toList) false 0
    have hrl : (runesD s.data.toList).length ≤ s.size := by have := runesD_len s.data.toList.length s.data.toList; rw [Lib.size_eq]; exact this
    have HV := Lib.hid hv; clear hv
    go_wp2_with fail
    refine (breaks_ok s _ hs hT4 HV.out).mono ?_
    rintro e w5 ⟨B, d, rfl, hB, hb5⟩
    have hbb5 := hbb4.trans (hb5.mono hbb4.size)
    have hE5 := hE4.below hb5
    have hA5 := hA.below hb5
    clear hb5 hbb4 hE4 hA
    obtain ⟨l, hl⟩ : ∃ l, brk (runesD s.data.toList) false 0 = l := ⟨_, rfl⟩
    rw [hl] at hA5 hB hlen
    rw [hl]
    clear hl
    go_wp2_with fail
    refine (error_nil 0 _).mono ?_
    rintro e w6 ⟨rfl, rfl⟩
    go_wp2_with fail
    refine (sameInts_any B A d c l l _ hB hA5 (by omega) (by omega)).mono ?_
    rintro e w7 ⟨rfl, hb7⟩
    rw [decide_eq_true rfl]
    have hbb7 := hbb5.trans (hb7.mono hbb5.size)
    clear hb7
    go_wp2
    go_ret
    exact ⟨rfl, hbb7⟩
  · rw [validFrom_zero] at hv
    have HV := Lib.hid hv; clear hv
    go_wp2_with fail
    refine (breaks_bad s _ hs hT4 HV.out).mono ?_
    rintro e w5 ⟨rfl, hb5⟩
    have hbb5 := hbb4.trans (hb5.mono hbb4.size)
    have hE5 := hE4.below hb5
    clear hb5 hbb4 hE4
    go_wp2_with fail
    refine (error_is 2 2 _ hE5 (by unfold I64; decide)).mono ?_
    rintro e w6 ⟨rfl, hb6⟩
    have hbb6 := hbb5.trans (hb6.mono hbb5.size)
    clear hb6
    go_wp2_with fail
    refine (sameInts_any none none 0 0 [] [] _ SlAt.nil SlAt.nil (by simp) (by simp)).mono ?_
    rintro e w7 ⟨rfl, hb7⟩
    rw [decide_eq_true rfl]
    have hbb7 := hbb6.trans (hb7.mono hbb6.size)
    clear hb7
    go_wp2
    go_ret
    exact ⟨rfl, hbb7⟩
end Go.Proofs.YtnhmbpeicgnjaaaDoor
