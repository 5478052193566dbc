/- commonbookbig: one by 64 to the left; how long that is; division by one number of another, both of two words at most: contracts. -/
import Derived.Test.YtfnigdbnkdofiaaDoorNumCmp
import Derived.Deep.RegionWith
namespace Go.Proofs.YtfnigdbnkdofiaaDoor
open Go.RowKit
set_option linter.unusedVariables false
set_option linter.unusedSimpArgs false

theorem row_one {l : List Nat} (h : trimW l = l) (hv : valW l = 1) (hw : ∀ y ∈ l, y < 4294967296) : l = [1] := by
  have h1 : l.length ≤ 1 := trimW_le h (by rw [hv]; decide)
  match l, h1 with
  | [], _ => simp [valW] at hv
  | [p], _ => simp [valW] at hv; subst hv; rfl
theorem row_three {l : List Nat} {t : Nat} (h : trimW l = l) (hv : valW l = 18446744073709551616 * t) (ht : 0 < t) (ht2 : t < 4294967296) (hw : ∀ y ∈ l, y < 4294967296) : l = [0, 0, t] := by
  have h1 : l.length ≤ 3 := trimW_le h (by rw [hv]; omega)
  match l, h1 with
  | [], _ => simp [valW] at hv; omega
  | [p], _ => have := hw p (by simp); simp [valW] at hv; omega
  | [p, q], _ =>
    have hp := hw p (by simp)
    have hq := hw q (by simp)
    simp [valW] at hv
    omega
  | [p, q, r], _ =>
    have hp := hw p (by simp)
    have hq := hw q (by simp)
    have hr := hw r (by simp)
    simp only [valW] at hv
    have e1 : p = 0 := by omega
    have e2 : q = 0 := by omega
    have e3 : r = t := by omega
    rw [e1, e2, e3]

set_option maxRecDepth 100000 in
set_option maxHeartbeats 2000000 in
theorem left64 (v : Value) (w : World) (h1 : NW w v 1) :
    Calls Tryd.prog 50 #[v, .int .u64 64] w fun e w' => ∃ v', e = .returned v' ∧ NW w' v' 18446744073709551616 ∧ Below w.heap.size w w' := by
  obtain ⟨A1, c1, l1, rfl, a1, a2, a3, a4, a5, a6⟩ := h1
  obtain ⟨i0, hi, hz0, hz1, hz2⟩ := info_parts infoW
  have hl := row_one a3 a4 a2
  subst hl
  have HA := Lib.hid a1
  clear a1 a2 a3 a4 a5 a6
  have hor1 : bits .or .u32 0 1 = 1 := by decide
  have hor2 : bits .or .u32 0 0 = 0 := by decide
  go_enter Tryd.func50, Tryd.ntmps50
  go_wp2_with (at_make; refine wpList_make_full _ rfl _ _ 67 rfl w.heap.size 98 i0 _ 1 Tryd.underlying67 hi hz0 hz1 _ _ _ _ 4 rfl rfl (by omega) (by omega) (by rw [hz2]; omega) (by simp only [maxLen]; omega) (Nat.le_refl _) ?_)
  intro w1 hown1 hg1
  have hb1 : Below w.heap.size w w1 := (Below.refl _ _).grown hg1 (Nat.le_refl _) (by simp)
  rw [made_zero] at hown1
  refine wpList_at (fun w1 => w1.ownsRow w.heap.size 98 1 (.slice (some ⟨w.heap.size, 0, none⟩) 4 4) 4 (u32s [0, 0, 0, 0]) ∧ Below w.heap.size w w1) ⟨hown1, hb1⟩ ?_
  clear hown1 hb1 hg1
  intro w1 HW1
  replace HW1 := Lib.hid HW1
  go_wp2_with fail
  go_loopw [8] (fun iv wr => (iv = .int .i64 0 ∧ wr.ownsRow w.heap.size 98 1 (.slice (some ⟨w.heap.size, 0, none⟩) 4 4) 4 (u32s [0, 0, 0, 0]) ∧ Below w.heap.size w wr) ∨ (iv = .int .i64 1 ∧ wr.ownsRow w.heap.size 98 1 (.slice (some ⟨w.heap.size, 0, none⟩) 4 4) 4 (u32s [0, 0, 1, 0]) ∧ Below w.heap.size w wr)) (fun iv _ => 1 - (intOf iv).toNat)
  case atStart => exact .inl ⟨rfl, HW1.out.1, HW1.out.2⟩
  case round =>
    clear HW1
    rcases hrel with ⟨rfl, hown, hb⟩ | ⟨rfl, hown, hb⟩
    · obtain ⟨b, off, hA, hcell⟩ := (HA.out.below hb).word_at (k := 0) (x := 1) rfl
      rw [Nat.add_zero] at hcell
      subst hA
      have hc2 : wr.cell? ⟨w.heap.size, 2, none⟩ = some (.int .u32 0) := by rw [hown.cellAt 2 (by omega)]; rfl
      have hc3 : wr.cell? ⟨w.heap.size, 3, none⟩ = some (.int .u32 0) := by rw [hown.cellAt 3 (by omega)]; rfl
      have hf2 := hown.frozenAt 2
      have hf3 := hown.frozenAt 3
      have hst2 := ((hown.stored 2 (.int .u32 1)).1.stored 3 (.int .u32 0)).1
      have hb2 := (hb.setCell (p := ⟨w.heap.size, 2, none⟩) (Nat.le_refl _) (.int .u32 1)).setCell (p := ⟨w.heap.size, 3, none⟩) (Nat.le_refl _) (.int .u32 0)
      have HN := Lib.hid (And.intro hst2 hb2)
      clear hst2 hb2 hown hb
      go_wp2_with fail
      go_roundw
      case rel => exact .inr ⟨by go_num, HN.out.1, HN.out.2⟩
      case measure => simp [intOf]
    · have HT := Lib.hid (trim_any (some ⟨w.heap.size, 0, none⟩) 4 [0, 0, 1, 0] _ (SlAt.of_owns hown) (by simp) (by simp))
      have hN := NW.of_trim (c := 4) (SlAt.of_owns hown) (by intro z hz; simp at hz; omega) (by simp) (by simp)
      have HN := Lib.hid (And.intro hN hb)
      clear hN hown hb
      go_wp2_with (go_at_call 74; refine HT.out.mono ?_; rintro e w2 ⟨rfl, rfl⟩)
      go_ret
      exact ⟨_, rfl, HN.out.1, HN.out.2⟩

set_option maxRecDepth 100000 in
set_option maxHeartbeats 2000000 in
theorem length65 (A : Option Addr) (c : Nat) (w : World) (h1 : SlAt w A (u32s [0, 0, 1])) :
    Calls Tryd.prog 94 #[.slice A 3 c] w fun e w' => e = .returned (.int .i64 65) ∧ w' = w := by
  obtain ⟨b, off, rfl, hcell⟩ := h1.word_at (k := 2) (x := 1) rfl
  clear h1
  go_enter Tryd.func94, Tryd.ntmps94
  go_wp2_with fail
  go_loopw [3, 4] (fun nv tv wr => ((nv = .int .i64 0 ∧ tv = .int .u32 1) ∨ (nv = .int .i64 1 ∧ tv = .int .u32 0)) ∧ wr = w) (fun nv _ _ => 1 - (intOf nv).toNat)
  case atStart => exact ⟨.inl ⟨rfl, rfl⟩, rfl⟩
  case round =>
    obtain ⟨h, rfl⟩ := hrel
    rcases h with ⟨rfl, rfl⟩ | ⟨rfl, rfl⟩
    · go_wp2_with fail
      go_roundw
      case rel => exact ⟨.inr ⟨by go_num, by go_num⟩, trivial⟩
      case measure => simp [intOf]
    · go_wp2_with fail
      go_ret
      exact ⟨rfl, rfl⟩

set_option maxRecDepth 100000 in
set_option maxHeartbeats 2000000 in
theorem div_small (v1 v2 : Value) (x y : Nat) (w : World) (h1 : NW w v1 x) (h2 : NW w v2 y) (hx : x < 18446744073709551616) (hy : y < 18446744073709551616) (hy0 : 0 < y) :
    Calls Tryd.prog 90 #[v1, v2] w fun e w' => ∃ A n c v', e = .returned (.tuple #[.slice A n c, v']) ∧ NW w' v' (x % y) ∧ Below w.heap.size w w' := by
  have HC := Lib.hid (cmp_any v1 v2 x y w h1 h2)
  have H1 := Lib.hid h1
  have H2 := Lib.hid h2
  obtain ⟨A1, c1, l1, rfl, a1, a2, a3, a4, a5, a6⟩ := h1
  obtain ⟨A2, c2, l2, rfl, b1, b2, b3, b4, b5, b6⟩ := h2
  have hn1 : l1.length ≤ 2 := trimW_le a3 (k := 2) (by rw [a4]; exact hx)
  have hn2 : l2.length ≠ 0 := by
    intro e
    rw [List.eq_nil_of_length_eq_zero e] at b4
    simp [valW] at b4
    omega
  obtain ⟨n, e1⟩ : ∃ n, n = l1.length := ⟨_, rfl⟩
  obtain ⟨m, e2⟩ : ∃ n, n = l2.length := ⟨_, rfl⟩
  rw [← e1] at hn1 HC H1 ⊢
  rw [← e2] at hn2 HC H2 ⊢
  clear e1 e2 a1 a2 a3 a4 a5 a6 b1 b2 b3 b4 b5 b6
  have hmb : (((m : Nat) : Int) == 0) = false := by simpa using hn2
  have hm0 : ¬ ((m : Nat) : Int) = 0 := by omega
  by_cases hlt : x < y
  · have hc : cmpN x y = -1 := by unfold cmpN; rw [if_pos hlt]
    rw [hc] at HC
    have HXY := Lib.hid (show x % y = x from Nat.mod_eq_of_lt hlt)
    clear hc hlt hx hy
    go_enter Tryd.func90, Tryd.ntmps90
    go_wp2_with (go_at_call 76; refine HC.out.mono ?_)
    first | (rintro e w1 rfl hb1) | (rintro e w1 ⟨rfl, hb1⟩)
    have HT := Lib.hid (twin_any _ x w1 (H1.out.below hb1))
    have HB := Lib.hid hb1
    clear hb1 HC
    go_wp2_with (go_at_call 89; refine HT.out.mono ?_; rintro e w2 ⟨v', rfl, hn, hb2⟩; have HN := Lib.hid (And.intro hn (HB.out.trans (hb2.mono HB.out.size))); clear hn hb2)
    go_ret2
    exact ⟨none, 0, 0, v', rfl, by rw [HXY.out]; exact HN.out.1, HN.out.2⟩
  · obtain ⟨cc, hcc⟩ : ∃ cc : Int, cc = cmpN x y := ⟨_, rfl⟩
    have hc0 : 0 ≤ cc := by rw [hcc]; unfold cmpN; rw [if_neg hlt]; split <;> omega
    rw [← hcc] at HC
    have hc1 : ¬ cc < 0 := by omega
    have hn2i : ((n : Nat) : Int) ≤ 2 := by omega
    have hy1 : ¬ ((y : Nat) : Int) = 0 := by omega
    have hd3 : ((x : Nat) : Int) / (y : Int) = ((x / y : Nat) : Int) := (Int.natCast_ediv x y).symm
    have hd4 : ((x : Nat) : Int) % (y : Int) = ((x % y : Nat) : Int) := (Int.natCast_emod x y).symm
    obtain ⟨q, hq⟩ : ∃ q, q = x / y := ⟨_, rfl⟩
    obtain ⟨r, hr⟩ : ∃ r, r = x % y := ⟨_, rfl⟩
    have hq2 : q < 18446744073709551616 := by rw [hq]; exact Nat.lt_of_le_of_lt (Nat.div_le_self _ _) hx
    have hr2 : r < 18446744073709551616 := by rw [hr]; exact Nat.lt_trans (Nat.mod_lt _ hy0) hy
    have hd5 : Int.tmod ((x : Nat) : Int) (y : Int) = ((x % y : Nat) : Int) := (Int.ofNat_tmod x y).symm
    have hd6 : Int.tdiv ((x : Nat) : Int) (y : Int) = ((x / y : Nat) : Int) := (Int.ofNat_tdiv x y).symm
    rw [← hq] at hd3 hd6
    rw [← hr] at hd4 hd5
    have hwq := wrap_u64 q hq2
    rw [← hr]
    clear hcc hlt hq hr
    go_enter Tryd.func90, Tryd.ntmps90
    go_wp2_with (go_at_call 76; refine HC.out.mono ?_)
    first | (rintro e w1 rfl hb1) | (rintro e w1 ⟨rfl, hb1⟩)
    have HP1 := Lib.hid (plain_any _ x w1 (H1.out.below hb1) hx)
    have HP2 := Lib.hid (plain_any _ y w1 (H2.out.below hb1) hy)
    have HB := Lib.hid hb1
    clear hb1 HC
    go_wp2_with (go_at_call 93; first
      | (refine HP1.out.mono ?_; rintro e w2 ⟨rfl, rfl⟩; clear HP1)
      | (refine HP2.out.mono ?_; rintro e w2 ⟨rfl, rfl⟩))
    have HQ := Lib.hid (fun w1 => words_any q hq2 w1)
    have HR := Lib.hid (fun w1 => words_any r hr2 w1)
    go_region_with (first
      | (go_at_call_of 75 (Value.int .u64 q); (with_reducible refine (HQ.out _).mono ?_); rintro e w3 ⟨vq, rfl, ⟨Aq, cq, lq, rfl, hq9⟩, hb3⟩; have HB3 := Lib.hid hb3; clear hq9 hb3)
      | (go_at_call_of 75 (Value.int .u64 r); (with_reducible refine (HR.out _).mono ?_); rintro e w4 ⟨vr, rfl, hn4, hb4⟩; have HN4 := Lib.hid (And.intro hn4 hb4); clear hn4 hb4))
    all_goals (
      go_wp2_with fail
      go_ret2
      exact ⟨Aq, lq.length, cq, vr, rfl, HN4.out.1, (HB.out.drew.trans (HB3.out.mono HB.out.size)).trans (HN4.out.2.mono (Nat.le_trans HB.out.size HB3.out.size))⟩)
end Go.Proofs.YtfnigdbnkdofiaaDoor
