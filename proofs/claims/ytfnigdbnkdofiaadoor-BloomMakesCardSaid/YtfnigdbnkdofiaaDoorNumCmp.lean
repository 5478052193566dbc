/- commonbookbig.cmp; right by 33; left of one by 64; length: contracts. -/
import Derived.Test.YtfnigdbnkdofiaaDoorNumShr
import Derived.BigRegion
namespace Go.Proofs.YtfnigdbnkdofiaaDoor
open Go.RowKit
set_option linter.unusedVariables false
set_option linter.unusedSimpArgs false

set_option maxRecDepth 100000 in
set_option maxHeartbeats 2000000 in
theorem right33 (v : Value) (x : Nat) (w : World) (h1 : NW w v x) (hx : x < 18446744073709551616) :
    Calls Tryd.prog 56 #[v, .int .u64 33] w fun e w' => ∃ v', e = .returned v' ∧ NW w' v' (x / 8589934592) ∧ Below w.heap.size w w' := by
  obtain ⟨A1, c1, l1, rfl, a1, a2, a3, a4, a5, a6⟩ := h1
  obtain ⟨i0, hi, hz0, hz1, hz2⟩ := info_parts infoW
  have hn1 : l1.length ≤ 2 := trimW_le a3 (k := 2) (by rw [a4]; exact hx)
  match l1, hn1, a1, a2, a4 with
  | [], _, a1, a2, a4 =>
    have hxx : x / 8589934592 = 0 := by rw [← a4]; rfl
    have HX := Lib.hid hxx
    clear a1 a2 a3 a4 a5 a6 hx hxx
    go_enter Tryd.func56, Tryd.ntmps56
    go_wp2_with fail
    go_ret
    exact ⟨_, rfl, by rw [HX.out]; exact NW.zero, Below.refl _ _⟩
  | [p], _, a1, a2, a4 =>
    have hp2 := a2 p (by simp)
    have hxx : x / 8589934592 = 0 := by rw [← a4]; simp only [valW]; omega
    have HX := Lib.hid hxx
    clear a1 a2 a3 a4 a5 a6 hx hxx
    go_enter Tryd.func56, Tryd.ntmps56
    go_wp2_with fail
    go_ret
    exact ⟨_, rfl, by rw [HX.out]; exact NW.zero, Below.refl _ _⟩
  | [p, q], _, a1, a2, a4 =>
    have hp2 := a2 p (by simp)
    have hq2 := a2 q (by simp)
    have hxx : x / 8589934592 = q / 2 := by rw [← a4]; simp only [valW]; omega
    have HX := Lib.hid (And.intro hxx a1)
    clear a1 a2 a3 a4 a5 a6 hx hxx
    go_enter Tryd.func56, Tryd.ntmps56
    go_wp2_with (at_make; refine wpList_make_full _ rfl _ _ 67 rfl w.heap.size 98 i0 _ 1 Tryd.underlying67 hi hz0 hz1 _ _ _ _ 1 rfl rfl (by omega) (by omega) (by rw [hz2]; omega) (by simp only [maxLen]; omega) (Nat.le_refl _) ?_)
    intro w1 hown1 hg1
    have hb1 : Below w.heap.size w w1 := (Below.refl _ _).grown hg1 (Nat.le_refl _) (by simp)
    rw [made_zero] at hown1
    refine wpList_at (fun w1 => w1.ownsRow w.heap.size 98 1 (.slice (some ⟨w.heap.size, 0, none⟩) 1 1) 1 (u32s [0]) ∧ Below w.heap.size w w1) ⟨hown1, hb1⟩ ?_
    clear hown1 hb1 hg1
    intro w1 HW1
    replace HW1 := Lib.hid HW1
    go_wp2_with fail
    go_loopw [8] (fun iv wr => (iv = .int .i64 0 ∧ wr.ownsRow w.heap.size 98 1 (.slice (some ⟨w.heap.size, 0, none⟩) 1 1) 1 (u32s [0]) ∧ Below w.heap.size w wr) ∨ (iv = .int .i64 1 ∧ wr.ownsRow w.heap.size 98 1 (.slice (some ⟨w.heap.size, 0, none⟩) 1 1) 1 (u32s [q / 2]) ∧ Below w.heap.size w wr)) (fun iv _ => 1 - (intOf iv).toNat)
    case atStart => exact .inl ⟨rfl, HW1.out.1, HW1.out.2⟩
    case round =>
      clear HW1
      rcases hrel with ⟨rfl, hown, hb⟩ | ⟨rfl, hown, hb⟩
      · obtain ⟨b, off, hA, hcell⟩ := (HX.out.2.below hb).word_at (k := 1) (x := q) rfl
        subst hA
        have hc0 : wr.cell? ⟨w.heap.size, 0, none⟩ = some (.int .u32 0) := by rw [hown.cellAt 0 (by omega)]; rfl
        have hf0 := hown.frozenAt 0
        obtain ⟨lo, hlo⟩ : ∃ lo, lo = q / 2 := ⟨_, rfl⟩
        have hv2 : ((q : Nat) : Int) / 2 = (lo : Int) := by omega
        have hv3 : ((lo : Nat) : Int) % 4294967296 = (lo : Int) := by omega
        have hst2 := (hown.stored 0 (.int .u32 lo)).1
        rw [u32s_set, hlo] at hst2
        have hb2 := hb.setCell (p := ⟨w.heap.size, 0, none⟩) (Nat.le_refl _) (.int .u32 ((q / 2 : Nat) : Int))
        have HN := Lib.hid (And.intro hst2 (And.intro hb2 hlo))
        clear hst2 hb2 hlo hown hb
        go_wp2_with fail
        go_roundw
        case rel =>
          rw [HN.out.2.2]
          exact .inr ⟨by go_num, HN.out.1, HN.out.2.1⟩
        case measure => simp [intOf]
      · have hwd : ∀ z ∈ [q / 2], z < 4294967296 := by intro z hz; simp at hz; omega
        have HT := Lib.hid (trim_any (some ⟨w.heap.size, 0, none⟩) 1 [q / 2] _ (SlAt.of_owns hown) (by simp) (by simp))
        have hN := NW.of_trim (c := 1) (SlAt.of_owns hown) hwd (by simp) (by simp)
        have HN := Lib.hid (And.intro hN hb)
        clear hN hown hb hwd
        go_wp2_with (go_at_call 74; refine HT.out.mono ?_; rintro e w2 ⟨rfl, rfl⟩)
        go_ret
        exact ⟨_, rfl, by rw [HX.out.1]; exact HN.out.1, HN.out.2⟩

theorem cmp_words {a b : List Nat} (ha : ∀ y ∈ a, y < 4294967296) {j p q : Nat} (hp : a[j]? = some p) (hq : b[j]? = some q) (hd : a.drop (j + 1) = b.drop (j + 1)) (h : p < q) : valW a < valW b := by
  have hj1 := (List.getElem?_eq_some_iff.1 hp).1
  have hj2 := (List.getElem?_eq_some_iff.1 hq).1
  have e1 : valW a = valW (a.take j) + 4294967296 ^ j * (p + 4294967296 * valW (a.drop (j + 1))) := by
    conv => lhs; rw [← List.take_append_drop j a]
    rw [valW_append, List.length_take, Nat.min_eq_left (by omega), List.drop_eq_getElem_cons hj1, (List.getElem?_eq_some_iff.1 hp).2]
    rfl
  have e2 : valW b = valW (b.take j) + 4294967296 ^ j * (q + 4294967296 * valW (b.drop (j + 1))) := by
    conv => lhs; rw [← List.take_append_drop j b]
    rw [valW_append, List.length_take, Nat.min_eq_left (by omega), List.drop_eq_getElem_cons hj2, (List.getElem?_eq_some_iff.1 hq).2]
    rfl
  have h1 := valW_lt (l := a.take j) (fun y hy => ha y (List.mem_of_mem_take hy))
  rw [List.length_take, Nat.min_eq_left (by omega)] at h1
  rw [e1, e2, hd]
  have h2 : 4294967296 ^ j * (p + 4294967296 * valW (b.drop (j + 1)) + 1) ≤ 4294967296 ^ j * (q + 4294967296 * valW (b.drop (j + 1))) := Nat.mul_le_mul_left _ (by omega)
  rw [Nat.mul_add, Nat.mul_one] at h2
  omega

/-- What cmp gives. -/
def cmpN (x y : Nat) : Int := if x < y then -1 else if x = y then 0 else 1
set_option maxRecDepth 100000 in
set_option maxHeartbeats 2000000 in
theorem cmp_any (v1 v2 : Value) (x y : Nat) (w : World) (h1 : NW w v1 x) (h2 : NW w v2 y) :
    Calls Tryd.prog 76 #[v1, v2] w fun e w' => e = .returned (.int .i64 (cmpN x y)) ∧ Below w.heap.size w w' := by
  obtain ⟨A1, c1, l1, rfl, a1, a2, a3, a4, a5, a6⟩ := h1
  obtain ⟨A2, c2, l2, rfl, b1, b2, b3, b4, b5, b6⟩ := h2
  by_cases hl : l1.length = l2.length
  · obtain ⟨n, e1⟩ : ∃ n, n = l1.length := ⟨_, rfl⟩
    have H1 := Lib.hid (And.intro e1 (And.intro a1 (And.intro a2 a4)))
    have H2 := Lib.hid (And.intro (e1.trans hl) (And.intro b1 (And.intro b2 b4)))
    have hn1 : n ≤ 1000 := by omega
    rw [← hl, ← e1]
    clear e1 hl a1 a2 a3 a4 a5 a6 b1 b2 b3 b4 b5 b6
    go_enter Tryd.func76, Tryd.ntmps76
    go_wp2_with fail
    go_loopw [5] (fun iv wr => ∃ i : Nat, iv = .int .i64 ((i : Int) - 1) ∧ i ≤ n ∧ l1.drop i = l2.drop i ∧ Below w.heap.size w wr) (fun iv _ => (intOf iv + 1).toNat)
    case atStart => exact ⟨n, rfl, Nat.le_refl _, by rw [List.drop_of_length_le (by rw [← H1.out.1]; exact Nat.le_refl _), List.drop_of_length_le (by rw [← H2.out.1]; exact Nat.le_refl _)], Below.refl _ _⟩
    case round =>
      obtain ⟨i, rfl, hin, hd, hb⟩ := hrel
      rcases Nat.eq_zero_or_pos i with hi0 | hi0
      · subst hi0
        rw [List.drop_zero, List.drop_zero] at hd
        have hxy : cmpN x y = 0 := by
          have : x = y := by rw [← H1.out.2.2.2, ← H2.out.2.2.2, hd]
          unfold cmpN
          rw [if_neg (by omega), if_pos this]
        have HX := Lib.hid (And.intro hxy hb)
        clear hxy hd hb
        go_wp2_with fail
        go_ret
        exact ⟨by rw [HX.out.1]; rfl, HX.out.2⟩
      · obtain ⟨j, rfl⟩ : ∃ j, i = j + 1 := ⟨i - 1, by omega⟩
        obtain ⟨p, hp⟩ : ∃ p, l1[j]? = some p := ⟨_, List.getElem?_eq_getElem (by rw [← H1.out.1]; omega)⟩
        obtain ⟨q, hq⟩ : ∃ q, l2[j]? = some q := ⟨_, List.getElem?_eq_getElem (by rw [← H2.out.1]; omega)⟩
        obtain ⟨b, off, hA, hcell⟩ := (H1.out.2.1.below hb).word_at hp
        obtain ⟨b', off', hA', hcell'⟩ := (H2.out.2.1.below hb).word_at hq
        subst hA
        subst hA'
        have hj1 : ((j + 1 : Nat) : Int) - 1 = (j : Int) := by omega
        have hj2 : ((j : Nat) : Int) < (n : Int) := by omega
        by_cases hpq : p = q
        · subst hpq
          have hd2 : l1.drop j = l2.drop j := by
            rw [List.drop_eq_getElem_cons (l := l1) (by rw [← H1.out.1]; omega), List.drop_eq_getElem_cons (l := l2) (by rw [← H2.out.1]; omega), hd, (List.getElem?_eq_some_iff.1 hp).2, (List.getElem?_eq_some_iff.1 hq).2]
          have HN := Lib.hid (And.intro hd2 hb)
          clear hd2 hd hb hp hq
          go_wp2_with fail
          go_region
          go_wp2_with fail
          go_roundw
          case rel => exact ⟨j, by go_num, by omega, HN.out.1, HN.out.2.drew⟩
          case measure => simp [intOf]
        · have hne : ((((p : Nat) : Int)) != ((q : Nat) : Int)) = true := by simp; omega
          have hne2 : ¬ ((p : Nat) : Int) = ((q : Nat) : Int) := by omega
          by_cases hlt : p < q
          · have hlti : ((p : Nat) : Int) < ((q : Nat) : Int) := by omega
            have hxy : cmpN x y = -1 := by
              have := cmp_words H1.out.2.2.1 hp hq hd hlt
              rw [H1.out.2.2.2, H2.out.2.2.2] at this
              unfold cmpN
              rw [if_pos this]
            have HN := Lib.hid (And.intro hxy hb)
            clear hxy hd hb hp hq
            go_wp2_with fail
            go_region
            go_wp2_with fail
            go_region
            go_wp2_with fail
            go_ret
            exact ⟨by rw [HN.out.1]; rfl, HN.out.2.drew.drew⟩
          · have hlti : ¬ ((p : Nat) : Int) < ((q : Nat) : Int) := by omega
            have hxy : cmpN x y = 1 := by
              have := cmp_words H2.out.2.2.1 hq hp hd.symm (by omega)
              rw [H1.out.2.2.2, H2.out.2.2.2] at this
              unfold cmpN
              rw [if_neg (by omega), if_neg (by omega)]
            have HN := Lib.hid (And.intro hxy hb)
            clear hxy hd hb hp hq
            go_wp2_with fail
            go_region
            go_wp2_with fail
            go_region
            go_wp2_with fail
            go_ret
            exact ⟨by rw [HN.out.1]; rfl, HN.out.2.drew.drew⟩
  · have hne : ¬ ((l1.length : Nat) : Int) = (l2.length : Int) := by omega
    have hneb : ((((l1.length : Nat) : Int)) != ((l2.length : Nat) : Int)) = true := by simp; omega
    obtain ⟨n, e1⟩ : ∃ n, n = l1.length := ⟨_, rfl⟩
    obtain ⟨m, e2⟩ : ∃ n, n = l2.length := ⟨_, rfl⟩
    rw [← e1, ← e2] at hl hne hneb
    by_cases hlt : n < m
    · have hlti : ((n : Nat) : Int) < (m : Int) := by omega
      have hxy : cmpN x y = -1 := by
        have := trimW_lt a2 b3 (by rw [← e1, ← e2]; exact hlt)
        unfold cmpN
        rw [if_pos (by omega)]
      rw [hxy, ← e1, ← e2]
      clear hxy a1 a2 a3 a4 a5 a6 b1 b2 b3 b4 b5 b6 e1 e2
      go_enter Tryd.func76, Tryd.ntmps76
      go_wp2_with fail
      go_ret
      exact ⟨rfl, Below.refl _ _⟩
    · have hlti : ¬ ((n : Nat) : Int) < (m : Int) := by omega
      have hxy : cmpN x y = 1 := by
        have := trimW_lt b2 a3 (by rw [← e1, ← e2]; omega)
        unfold cmpN
        rw [if_neg (by omega), if_neg (by omega)]
      rw [hxy, ← e1, ← e2]
      clear hxy a1 a2 a3 a4 a5 a6 b1 b2 b3 b4 b5 b6 e1 e2
      go_enter Tryd.func76, Tryd.ntmps76
      go_wp2_with fail
      go_ret
      exact ⟨rfl, Below.refl _ _⟩
end Go.Proofs.YtfnigdbnkdofiaaDoor
