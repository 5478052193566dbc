/- bookref1.Show, value.Show, at plain values: contracts. -/
import Derived.Test.YtfnigdbnkdofiaaDoorQuote
import Derived.Test.YtfnigdbnkdofiaaDoorRefQuote
import Derived.Test.YtfnigdbnkdofiaaDoorNumText
import Derived.Test.YtfnigdbnkdofiaaDoorShelfN
import Derived.Shelf.Unicode.PredsPay
namespace Go.Proofs.YtfnigdbnkdofiaaDoor
open Go.RowKit
set_option linter.unusedVariables false
set_option linter.unusedSimpArgs false

def Pow10 (w : World) : Prop := Lib.TabIs Tryd.prog w "internal/strconv.uint64pow10" .u64 Lib.pow10Tab
theorem Pow10.below {w w' : World} (h : Pow10 w) (hb : Below w.heap.size w w') : Pow10 w' := TabIs_below (g := 1) (by kernel_rfl) h hb
theorem grow_is_below (w : World) (k : Nat) (os : Array Obj) : Below w.heap.size w (Go.Sort.grow (w.drewN k) os) :=
  ⟨rfl, rfl, rfl, by simp [Go.Sort.grow, World.drewN], fun i hi => by
    show (w.heap ++ os)[i]? = w.heap[i]?
    rw [Array.getElem?_append_left hi]⟩
theorem itoa_any (n : Int) (h : I64 n) (w : World) (hp : Pow10 w) : Calls Tryd.prog 71 #[.int .i64 n] w fun e w' => e = .returned (.string ⟨(Lib.itoa n).toArray⟩) ∧ Below w.heap.size w w' := by
  refine (Tryd.strconv_Itoa n (by have := h.1; omega) (by have := h.2; omega) w hp).mono ?_
  rintro e w' ⟨rfl, k, os, rfl⟩
  exact ⟨rfl, grow_is_below _ _ _⟩

set_option maxRecDepth 100000 in
set_option maxHeartbeats 1000000 in
theorem rshow_any (v : JV) (hk0 : 0 ≤ v.k) (hk4 : v.k ≤ 4) (hn : I64 v.n) (hs : v.k = 3 → v.s.size ≤ 60) (w : World) :
    Calls Tryd.prog 21 #[.agg v.cells.toArray] w fun e w' => e = .returned (.string ⟨(showL v).toArray⟩) ∧ Below w.heap.size w w' := by
  obtain ⟨k, n, s, o, p⟩ := v
  simp only at hk0 hk4 hn hs
  have hbx : Below w.heap.size w (w.alloc (.cells #[.int .i64 k, .int .i64 n, .string s, .int .i64 o, .int .i64 p] 25)) := (Below.refl _ _).alloc (Nat.le_refl _) _
  have HX := Lib.hid hbx
  clear hbx
  unfold JV.cells
  simp only
  have hks : k = 0 ∨ k = 1 ∨ k = 2 ∨ k = 3 ∨ k = 4 := by omega
  have HS := Lib.hid hs
  clear hs
  rcases hks with rfl | rfl | rfl | rfl | rfl
  · rw [show showL ⟨0, n, s, o, p⟩ = [110, 117, 108, 108] from rfl]
    go_enter Tryd.func21, Tryd.ntmps21
    go_wp2_with fail
    go_ret
    exact ⟨rfl, HX.out⟩
  · by_cases h1 : n = 1
    · subst h1
      rw [show showL ⟨1, 1, s, o, p⟩ = [116, 114, 117, 101] from rfl]
      go_enter Tryd.func21, Tryd.ntmps21
      go_wp2_with fail
      go_ret
      exact ⟨rfl, HX.out⟩
    · rw [show showL ⟨1, n, s, o, p⟩ = [102, 97, 108, 115, 101] from by simp [showL, h1]]
      have h1b : (n == 1) = false := by simpa using h1
      go_enter Tryd.func21, Tryd.ntmps21
      go_wp2_with fail
      go_ret
      exact ⟨rfl, HX.out⟩
  · have HD := Lib.hid (show Calls Tryd.prog 42 #[.int .i64 n] (w.alloc (.cells #[.int .i64 2, .int .i64 n, .string s, .int .i64 o, .int .i64 p] 25)) _ from digits_any n (by have := hn.1; omega) (by have := hn.2; omega) _)
    rw [show showL ⟨2, n, s, o, p⟩ = Lib.itoa n from rfl]
    go_enter Tryd.func21, Tryd.ntmps21
    go_wp2_with (go_at_call 42; refine HD.out.mono ?_; rintro e w1 ⟨rfl, hb⟩; have HB := Lib.hid hb; clear hb)
    go_ret
    exact ⟨rfl, HX.out.trans (HB.out.mono HX.out.size)⟩
  · have HD := Lib.hid (rquote_any s (by have := HS.out rfl; omega) (w.alloc (.cells #[.int .i64 3, .int .i64 n, .string s, .int .i64 o, .int .i64 p] 25)))
    rw [show showL ⟨3, n, s, o, p⟩ = quoteL s.data.toList from rfl]
    go_enter Tryd.func21, Tryd.ntmps21
    go_wp2_with (go_at_call 22; refine HD.out.mono ?_; rintro e w1 ⟨rfl, hb⟩; have HB := Lib.hid hb; clear hb)
    go_ret
    exact ⟨rfl, HX.out.trans (HB.out.mono HX.out.size)⟩
  · have HD := Lib.hid (show Calls Tryd.prog 42 #[.int .i64 n] (w.alloc (.cells #[.int .i64 4, .int .i64 n, .string s, .int .i64 o, .int .i64 p] 25)) _ from digits_any n (by have := hn.1; omega) (by have := hn.2; omega) _)
    rw [show showL ⟨4, n, s, o, p⟩ = Lib.itoa n from rfl]
    go_enter Tryd.func21, Tryd.ntmps21
    go_wp2_with (go_at_call 42; refine HD.out.mono ?_; rintro e w1 ⟨rfl, hb⟩; have HB := Lib.hid hb; clear hb)
    go_ret
    exact ⟨rfl, HX.out.trans (HB.out.mono HX.out.size)⟩

set_option maxRecDepth 100000 in
set_option maxHeartbeats 1000000 in
theorem show_any (v : JV) (hk0 : 0 ≤ v.k) (hk4 : v.k ≤ 4) (hn : I64 v.n) (hs : v.k = 3 → v.s.size ≤ 60) (w : World) (hp : Pow10 w) :
    Calls Tryd.prog 46 #[.agg v.cells.toArray] w fun e w' => e = .returned (.string ⟨(showL v).toArray⟩) ∧ Below w.heap.size w w' := by
  obtain ⟨k, n, s, o, p⟩ := v
  simp only at hk0 hk4 hn hs
  have hbx : Below w.heap.size w (w.alloc (.cells #[.int .i64 k, .int .i64 n, .string s, .int .i64 o, .int .i64 p] 25)) := (Below.refl _ _).alloc (Nat.le_refl _) _
  have HX := Lib.hid hbx
  clear hbx
  unfold JV.cells
  simp only
  have hks : k = 0 ∨ k = 1 ∨ k = 2 ∨ k = 3 ∨ k = 4 := by omega
  have HS := Lib.hid hs
  clear hs
  rcases hks with rfl | rfl | rfl | rfl | rfl
  · rw [show showL ⟨0, n, s, o, p⟩ = [110, 117, 108, 108] from rfl]
    go_enter Tryd.func46, Tryd.ntmps46
    go_wp2_with fail
    go_ret
    exact ⟨rfl, HX.out⟩
  · by_cases h1 : n = 1
    · subst h1
      rw [show showL ⟨1, 1, s, o, p⟩ = [116, 114, 117, 101] from rfl]
      go_enter Tryd.func46, Tryd.ntmps46
      go_wp2_with (first | (go_at_call 70; go_in) | (go_at_call 87; go_in))
      go_ret
      exact ⟨rfl, HX.out⟩
    · rw [show showL ⟨1, n, s, o, p⟩ = [102, 97, 108, 115, 101] from by simp [showL, h1]]
      have h1b : (n == 1) = false := by simpa using h1
      go_enter Tryd.func46, Tryd.ntmps46
      go_wp2_with (first | (go_at_call 70; go_in) | (go_at_call 87; go_in))
      go_ret
      exact ⟨rfl, HX.out⟩
  · have HD := Lib.hid (show Calls Tryd.prog 71 #[.int .i64 n] (w.alloc (.cells #[.int .i64 2, .int .i64 n, .string s, .int .i64 o, .int .i64 p] 25)) _ from itoa_any n hn _ (hp.below HX.out))
    rw [show showL ⟨2, n, s, o, p⟩ = Lib.itoa n from rfl]
    go_enter Tryd.func46, Tryd.ntmps46
    go_wp2_with (go_at_call 71; refine HD.out.mono ?_; rintro e w1 ⟨rfl, hb⟩; have HB := Lib.hid hb; clear hb)
    go_ret
    exact ⟨rfl, HX.out.trans (HB.out.mono HX.out.size)⟩
  · have HD := Lib.hid (quote_any s (by have := HS.out rfl; omega) (w.alloc (.cells #[.int .i64 3, .int .i64 n, .string s, .int .i64 o, .int .i64 p] 25)))
    rw [show showL ⟨3, n, s, o, p⟩ = quoteL s.data.toList from rfl]
    go_enter Tryd.func46, Tryd.ntmps46
    go_wp2_with (go_at_call 48; refine HD.out.mono ?_; rintro e w1 ⟨rfl, hb⟩; have HB := Lib.hid hb; clear hb)
    go_ret
    exact ⟨rfl, HX.out.trans (HB.out.mono HX.out.size)⟩
  · have HD := Lib.hid (show Calls Tryd.prog 71 #[.int .i64 n] (w.alloc (.cells #[.int .i64 4, .int .i64 n, .string s, .int .i64 o, .int .i64 p] 25)) _ from itoa_any n hn _ (hp.below HX.out))
    rw [show showL ⟨4, n, s, o, p⟩ = Lib.itoa n from rfl]
    go_enter Tryd.func46, Tryd.ntmps46
    go_wp2_with (go_at_call 71; refine HD.out.mono ?_; rintro e w1 ⟨rfl, hb⟩; have HB := Lib.hid hb; clear hb)
    go_ret
    exact ⟨rfl, HX.out.trans (HB.out.mono HX.out.size)⟩
end Go.Proofs.YtfnigdbnkdofiaaDoor
