/- WordsThere: the walk. -/
import Derived.Test.YtnhmbpeicgnjaaaDoorBreaks
import Derived.Test.YtnhmbpeicgnjaaaDoorOpen
namespace Go.Proofs.YtnhmbpeicgnjaaaDoor
open Go.RowKit Go.Lib
set_option linter.unusedVariables false

def FoundAt (rs : List Nat) (at_ f t x : Int) : Prop := convOk at_ f t = true ∧ convL at_ f t rs 0 0 = (at_, x)
theorem convOk_iff {at_ f t : Int} (h : convOk at_ f t = true) : 1 ≤ f ∧ f ≤ 3 ∧ 1 ≤ t ∧ t ≤ 3 ∧ 0 ≤ at_ := by
  simp [convOk] at h; omega
theorem found_place {rs : List Nat} (hg : ∀ c ∈ rs, GoodRune c) {at_ f t x : Int} (h : FoundAt rs at_ f t x) : ∃ k, k ≤ rs.length ∧ at_ = total f (rs.take k) ∧ x = total t (rs.take k) := by
  obtain ⟨k, h1, h2, h3⟩ := conv_found hg at_ f t (by rw [h.2])
  exact ⟨k, h1, h2, by rw [← h3, h.2]⟩
theorem found_back {rs : List Nat} (hg : ∀ c ∈ rs, GoodRune c) {at_ f t x : Int} (h : FoundAt rs at_ f t x) : FoundAt rs x t f at_ := by
  obtain ⟨k, h1, rfl, rfl⟩ := found_place hg h
  have h3 := convOk_iff h.1
  have h4 := total_pos (l := rs.take k) (fun c hc => hg c (List.mem_of_mem_take hc)) t
  exact ⟨by simp [convOk]; omega, conv_of hg t f k h1⟩
theorem found_order {rs : List Nat} (hg : ∀ c ∈ rs, GoodRune c) {a b f t x y : Int} (h : FoundAt rs a f t x) (h2 : FoundAt rs b f t y) : decide (a < b) = decide (x < y) := by
  obtain ⟨k, hk, rfl, rfl⟩ := found_place hg h
  obtain ⟨j, hj, rfl, rfl⟩ := found_place hg h2
  rw [decide_eq_decide]
  rcases Nat.lt_trichotomy k j with hlt | rfl | hgt
  · have := total_mono hg f k j hlt hj; have := total_mono hg t k j hlt hj; omega
  · omega
  · have := total_mono hg f j k hgt hk; have := total_mono hg t j k hgt hk; omega
theorem found_end {rs : List Nat} (hg : ∀ c ∈ rs, GoodRune c) (n : Int) (h : total 1 rs = n) (h0 : 0 ≤ n) : FoundAt rs n 1 2 rs.length := by
  have := conv_of hg 1 2 rs.length (Nat.le_refl _)
  rw [List.take_length, h, total_two] at this
  exact ⟨by simp [convOk, h0], this⟩

/-- What Convert gives of a valid text. -/
def ConvAny (w : World) (rs : List Nat) (at_ f t : Int) (e : Ending) (w' : World) : Prop :=
  Below w.heap.size w w' ∧ ((∃ x, e = .returned (.tuple #[.int .i64 x, .nilIface]) ∧ FoundAt rs at_ f t x) ∨ e = .returned (.tuple #[.int .i64 0, .iface 78 (.int .i64 1)]))
theorem convert_any (s : ByteArray) (at_ f t : Int) (w : World) (hs : s.size ≤ 1048576) (hT : Tabs w) (hv : validD s.data.toList = true) :
    Calls Tryd.prog 9 #[.string s, .int .i64 at_, .int .i64 f, .int .i64 t] w (ConvAny w (runesD s.data.toList) at_ f t) := by
  cases hc : convOk at_ f t with
  | false => exact (convert_no s at_ f t w hs hT hv hc).mono fun e w' ⟨h1, h2⟩ => ⟨h2, .inr h1⟩
  | true =>
    have h3 := convOk_iff hc
    refine (convert_ok s at_ f t w hs hT hv (by omega) (by omega) (by omega) (by omega) (by omega)).mono fun e w' ⟨h1, h2⟩ => ⟨h1, ?_⟩
    rcases h2 with ⟨h4, h5⟩ | ⟨_, h5⟩
    · exact .inl ⟨_, h5, hc, Prod.ext h4 rfl⟩
    · exact .inr h5
theorem convert_found (s : ByteArray) (at_ f t x : Int) (w : World) (hs : s.size ≤ 1048576) (hT : Tabs w) (hv : validD s.data.toList = true) (hf : FoundAt (runesD s.data.toList) at_ f t x) :
    Calls Tryd.prog 9 #[.string s, .int .i64 at_, .int .i64 f, .int .i64 t] w fun e w' => e = .returned (.tuple #[.int .i64 x, .nilIface]) ∧ Below w.heap.size w w' := by
  have h3 := convOk_iff hf.1
  refine (convert_ok s at_ f t w hs hT hv (by omega) (by omega) (by omega) (by omega) (by omega)).mono fun e w' ⟨h1, h2⟩ => ⟨?_, h1⟩
  rcases h2 with ⟨h4, h5⟩ | ⟨h4, _⟩
  · rw [h5, hf.2]
  · rw [hf.2] at h4; exact absurd rfl h4

theorem Tabs.below {w w' : World} (h : Tabs w) (hb : Below w.heap.size w w') : Tabs w' := Utf8Tabs_below h hb

set_option maxRecDepth 100000 in
set_option maxHeartbeats 1000000 in
theorem wordsThere_walk (w : World) (hT : Tabs w) (s : ByteArray) (hs : s.size ≤ 1048576) (a : Int) (_ : (Lit.int .i64 a).wf = true) (b : Int) (_ : (Lit.int .i64 b).wf = true) (f : Int) (_ : (Lit.int .i64 f).wf = true) (t : Int) (_ : (Lit.int .i64 t).wf = true) :
    Calls Tryd.prog 3 #[.string s, .int .i64 a, .int .i64 b, .int .i64 f, .int .i64 t] w fun e w' => e = .returned (.bool true) ∧ Below w.heap.size w w' := by
  have hfact : FoundAt (runesD (⟨#[97, 195, 169, 32, 98]⟩ : ByteArray).data.toList) 3 1 2 2 := ⟨by decide, by decide⟩
  have hg := runes_good s s.size 0 (by omega)
  have HF := Lib.hid hfact; clear hfact
  have HG := Lib.hid hg; clear hg
  go_enter Tryd.func3, Tryd.ntmps3
  go_wp2_with fail
  refine (convert_found _ 3 1 2 2 _ (by decide) hT (by decide) HF.out).mono ?_
  rintro e w1 ⟨rfl, hb1⟩
  have hT1 := hT.below hb1
  go_wp2_with fail
  cases hv : validD s.data.toList with
  | false =>
    refine (breaks_bad s _ hs hT1 hv).mono ?_
    rintro e w2 ⟨rfl, hb2⟩
    have hbb2 := hb1.trans (hb2.mono hb1.size)
    have hT2 := hT1.below hb2
    go_wp2_with fail
    refine (convert_bad s 0 1 1 _ hs hT2 hv).mono ?_
    rintro e w3 ⟨rfl, hb3⟩
    go_wp2
    go_ret
    exact ⟨rfl, hbb2.trans (hb3.mono hbb2.size)⟩
  | true =>
    refine (breaks_ok s _ hs hT1 hv).mono ?_
    rintro e w2 ⟨A, c, rfl, hA, hb2⟩
    have hbb2 := hb1.trans (hb2.mono hb1.size)
    have hT2 := hT1.below hb2
    have heven := brk_even (runesD s.data.toList) false 0
    have hle := brk_le (runesD s.data.toList) false 0
    have hlen := brk_len (runesD s.data.toList) false 0
    obtain ⟨l, hl⟩ : ∃ l, brk (runesD s.data.toList) false 0 = l := ⟨_, rfl⟩
    rw [hl] at heven hle hlen hA ⊢
    have hrl : (runesD s.data.toList).length ≤ s.size := by have := runesD_len s.data.toList.length s.data.toList; rw [Lib.size_eq]; exact this
    have htot := valid_total s s.size 0 (by omega) (by omega) (by simpa using hv)
    have hend := found_end (rs := runesD s.data.toList) HG.out (s.size : Int) (by simpa [restD] using htot) (by omega)
    have HEND := Lib.hid hend
    have hmod : ((l.length : Int) % 2 == 0) = true := by
      simp only [Bool.false_eq_true, if_false] at heven
      simp; omega
    clear hb1 hb2 heven htot hend hT hT1 hl
    have hl2 : l.length ≤ 1048577 := by omega
    have HV := Lib.hid hv; clear hv
    have HLE := Lib.hid hle; clear hle
    have hnn : (0 : Int) ≤ (l.length : Int) := by omega
    go_wp2_with fail
    refine (convert_found s (s.size : Int) 1 2 _ _ hs hT2 HV.out HEND.out).mono ?_
    rintro e w3 ⟨rfl, hb3⟩
    have hbb3 := hbb2.trans (hb3.mono hbb2.size)
    have hT3 := hT2.below hb3
    have hA3 := hA.below hb3
    clear hb3 hT2 hA
    by_cases h0 : l.length = 0
    · have hn0 : ¬ (0 : Int) < (l.length : Int) := by omega
      clear h0
      go_wp2_with fail
      refine (convert_any s a f t _ hs hT3 HV.out).mono ?_
      rintro e w4 ⟨hb4, h4⟩
      have hbb4 := hbb3.trans (hb4.mono hbb3.size)
      have hT4 := hT3.below hb4
      clear hb4 hT3 hbb3
      rcases h4 with ⟨x, rfl, hx⟩ | rfl
      · have HX := Lib.hid hx; clear hx
        go_wp2_with fail
        refine (convert_any s b f t _ hs hT4 HV.out).mono ?_
        rintro e w5 ⟨hb5, h5⟩
        have hbb5 := hbb4.trans (hb5.mono hbb4.size)
        have hT5 := hT4.below hb5
        clear hb5 hT4 hbb4
        rcases h5 with ⟨y, rfl, hy⟩ | rfl
        · have HO := Lib.hid (found_order HG.out HX.out hy)
          clear hy
          go_wp2_with fail
          refine (convert_found s x t f a _ hs hT5 HV.out (found_back HG.out HX.out)).mono ?_
          rintro e w6 ⟨rfl, hb6⟩
          have hbb6 := hbb5.trans (hb6.mono hbb5.size)
          clear hb6
          go_wp2
          go_ret
          exact ⟨by simp [HO.out], hbb6⟩
        · go_wp2_with fail
          refine (convert_found s x t f a _ hs hT5 HV.out (found_back HG.out HX.out)).mono ?_
          rintro e w6 ⟨rfl, hb6⟩
          have hbb6 := hbb5.trans (hb6.mono hbb5.size)
          clear hb6
          go_wp2
          go_ret
          exact ⟨rfl, hbb6⟩
      · go_wp2_with fail
        refine (convert_any s b f t _ hs hT4 HV.out).mono ?_
        rintro e w5 ⟨hb5, h5⟩
        have hbb5 := hbb4.trans (hb5.mono hbb4.size)
        clear hb5
        rcases h5 with ⟨y, rfl, hy⟩ | rfl
        · clear hy
          go_wp2
          go_ret
          exact ⟨rfl, hbb5⟩
        · go_wp2
          go_ret
          exact ⟨rfl, hbb5⟩
    · have hn0 : (0 : Int) < (l.length : Int) := by omega
      obtain ⟨bb, off, z, rfl, hz, hc⟩ := hA3.int (k := l.length - 1) (by omega)
      have hxle := HLE.out z (List.mem_of_getElem? hz)
      have hxn : ¬ ((runesD s.data.toList).length : Int) < z := by omega
      have hi1 : (l.length : Int) - 1 < l.length := by omega
      have hi0 : 0 ≤ (l.length : Int) - 1 := by omega
      clear hz hxle h0
      go_wp2_with fail
      clear hc hxn
      refine (convert_any s a f t _ hs hT3 HV.out).mono ?_
      rintro e w4 ⟨hb4, h4⟩
      have hbb4 := hbb3.trans (hb4.mono hbb3.size)
      have hT4 := hT3.below hb4
      clear hb4 hT3 hbb3
      rcases h4 with ⟨x, rfl, hx⟩ | rfl
      · have HX := Lib.hid hx; clear hx
        go_wp2_with fail
        refine (convert_any s b f t _ hs hT4 HV.out).mono ?_
        rintro e w5 ⟨hb5, h5⟩
        have hbb5 := hbb4.trans (hb5.mono hbb4.size)
        have hT5 := hT4.below hb5
        clear hb5 hT4 hbb4
        rcases h5 with ⟨y, rfl, hy⟩ | rfl
        · have HO := Lib.hid (found_order HG.out HX.out hy)
          clear hy
          go_wp2_with fail
          refine (convert_found s x t f a _ hs hT5 HV.out (found_back HG.out HX.out)).mono ?_
          rintro e w6 ⟨rfl, hb6⟩
          have hbb6 := hbb5.trans (hb6.mono hbb5.size)
          clear hb6
          go_wp2
          go_ret
          exact ⟨by simp [HO.out], hbb6⟩
        · go_wp2_with fail
          refine (convert_found s x t f a _ hs hT5 HV.out (found_back HG.out HX.out)).mono ?_
          rintro e w6 ⟨rfl, hb6⟩
          have hbb6 := hbb5.trans (hb6.mono hbb5.size)
          clear hb6
          go_wp2
          go_ret
          exact ⟨rfl, hbb6⟩
      · go_wp2_with fail
        refine (convert_any s b f t _ hs hT4 HV.out).mono ?_
        rintro e w5 ⟨hb5, h5⟩
        have hbb5 := hbb4.trans (hb5.mono hbb4.size)
        clear hb5
        rcases h5 with ⟨y, rfl, hy⟩ | rfl
        · clear hy
          go_wp2
          go_ret
          exact ⟨rfl, hbb5⟩
        · go_wp2
          go_ret
          exact ⟨rfl, hbb5⟩
end Go.Proofs.YtnhmbpeicgnjaaaDoor
