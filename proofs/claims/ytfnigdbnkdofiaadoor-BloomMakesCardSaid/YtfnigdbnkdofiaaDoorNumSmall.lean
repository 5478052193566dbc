/- commonbookbig.small: a row of words by one word: the contract. -/
import Derived.Test.YtfnigdbnkdofiaaDoorNum
import Derived.Laws.BitsAllLaws
import Derived.Laws.OwnMore
namespace Go.Proofs.YtfnigdbnkdofiaaDoor
open Go.RowKit
set_option linter.unusedVariables false
set_option linter.unusedSimpArgs false

theorem or_word (r x : Nat) (hr : r < 4294967296) (hx : x < 4294967296) : bits .or .u64 ((r : Int) * 4294967296) (x : Int) = ((r * 4294967296 + x : Nat) : Int) := by
  have h1 := u64_or_nat (r * 4294967296) x (by omega) (by omega)
  have h2 := Nat.two_pow_add_eq_or_of_lt (i := 32) (b := x) (by omega) r
  rw [show (2 : Nat) ^ 32 = 4294967296 from rfl, Nat.mul_comm 4294967296 r] at h2
  rw [← h2] at h1
  rw [show ((r : Int) * 4294967296) = ((r * 4294967296 : Nat) : Int) from by omega]
  exact h1

theorem wrap_u64 (q : Nat) (h : q < 18446744073709551616) : IntKind.u64.wrap (q : Int) = (q : Int) := by
  have : ((q : Nat) : Int) % 18446744073709551616 = (q : Int) := by omega
  simp [IntKind.wrap, IntKind.signed, IntKind.bits, this]

set_option maxRecDepth 100000 in
set_option maxHeartbeats 1000000 in
theorem small_any (v : Value) (x d : Nat) (w : World) (h : NW w v x) (hd : 0 < d) (hd2 : d < 4294967296) :
    Calls Tryd.prog 91 #[v, .int .u32 d] w fun e w' => ∃ v', e = .returned (.tuple #[v', .int .u32 ((x % d : Nat) : Int)]) ∧ NW w' v' (x / d) ∧ Below w.heap.size w w' ∧ v'.ownBlock = some w.heap.size := by
  obtain ⟨A, c, l, rfl, h1, h2, h3, h4, h5, h6⟩ := h
  obtain ⟨i0, hi, hz0, hz1, hz2⟩ := info_parts infoW
  obtain ⟨n, hn⟩ : ∃ n, n = l.length := ⟨_, rfl⟩
  have HL := Lib.hid (And.intro hn (And.intro h1 (And.intro h2 h4)))
  rw [← hn]
  have hn2 : n ≤ 1000 := by omega
  clear hn h1 h2 h3 h4 h5 h6
  have hdi : ¬ ((d : Nat) : Int) = 0 := by omega
  go_enter Tryd.func91, Tryd.ntmps91
  go_wp2_with (at_make; refine wpList_make_full _ rfl _ _ 67 rfl w.heap.size 98 i0 _ 1 Tryd.underlying67 hi hz0 hz1 _ _ _ _ n rfl rfl (by omega) (by omega) (by rw [hz2]; omega) (by simp only [maxLen]; omega) (Nat.le_refl _) ?_)
  intro w1 hown1 hg1
  have hb1 : Below w.heap.size w w1 := (Below.refl _ _).grown hg1 (Nat.le_refl _) (by simp)
  have hown1' : w1.ownsRow w.heap.size 98 1 (.slice (some ⟨w.heap.size, 0, none⟩) n n) n (u32s (List.replicate n 0)) := by
    have : (madeCells #[Value.int .u32 0] n).toList = u32s (List.replicate n 0) := by
      rw [toList_madeCells_one]
      simp [u32s]
    rw [this] at hown1
    exact hown1
  have HW1 := Lib.hid (And.intro hown1' hb1)
  clear hown1 hown1' hb1 hg1
  go_wp2_with fail
  go_loopw [7, 8] (fun r m wr => ∃ (k r' : Nat) (qs : List Nat), r = .int .u64 r' ∧ m = .int .i64 ((k : Int) - 1) ∧ SmallR d l k qs r' ∧ wr.ownsRow w.heap.size 98 1 (.slice (some ⟨w.heap.size, 0, none⟩) n n) n (u32s (List.replicate k 0 ++ qs)) ∧ Below w.heap.size w wr) (fun _ m _ => (intOf m + 1).toNat)
  case atStart => exact ⟨n, 0, [], rfl, rfl, ⟨by have := HL.out.1; omega, by simp [HL.out.1], hd, by rw [HL.out.1]; simp [valW], by simp⟩, by simpa using HW1.out.1, HW1.out.2⟩
  case round =>
    clear HW1
    obtain ⟨k, r, qs, rfl, rfl, hS, hown, hb⟩ := hrel
    have hbs := hb.size
    have hr := hS.lt
    have hkl := hS.le
    replace hS := Lib.hid hS
    have hHA := HL.out.2.1.below hb
    rcases Nat.eq_zero_or_pos k with hk0 | hk0
    · subst hk0
      obtain ⟨e1, e2, e3⟩ := hS.out.done hd
      rw [List.replicate_zero, List.nil_append] at hown
      have hqn : qs.length = n := by rw [e3, HL.out.1]
      have HT := Lib.hid (trim_any (some ⟨w.heap.size, 0, none⟩) n qs wr (SlAt.of_owns hown) (by omega) (by omega))
      have hN := NW.of_trim (c := n) (SlAt.of_owns hown) hS.out.words (by omega) (by omega)
      rw [e1, HL.out.2.2.2] at hN
      rw [HL.out.2.2.2] at e2
      have HN := Lib.hid (And.intro hN (And.intro hb e2))
      rw [hqn] at HT
      have hr3 : ((r : Nat) : Int) % 4294967296 = (r : Int) := by omega
      clear hN e1 e2 e3 hown hb hS hHA
      go_wp2_with (go_at_call 74; refine HT.out.mono ?_; rintro e w2 ⟨rfl, rfl⟩)
      go_ret2
      exact ⟨_, by rw [← HN.out.2.2]; rfl, HN.out.1, HN.out.2.1, rfl⟩
    · obtain ⟨j, rfl⟩ : ∃ j, k = j + 1 := ⟨k - 1, by omega⟩
      obtain ⟨b, off, hA, hcell⟩ := hHA.word (k := j) (by omega)
      obtain ⟨y, hy⟩ : ∃ y, y = l[j] := ⟨_, rfl⟩
      rw [← hy] at hcell
      have hyl : l[j]? = some y := by rw [hy]; exact List.getElem?_eq_getElem _
      have hy2 : y < 4294967296 := HL.out.2.2.1 y (List.mem_of_getElem? hyl)
      have hstep := hS.out.step hd hyl hy2
      have hn3 : j < n := by rw [HL.out.1]; omega
      have hfit := small_word (d := d) hr hy2
      have hor := or_word r y (by omega) hy2
      have hcy : wr.cell? ⟨w.heap.size, j, none⟩ = some (.int .u32 0) := by
        rw [hown.cellAt j (by omega)]
        simp only [u32s, List.getElem?_map]
        rw [List.getElem?_append_left (by simp), List.getElem?_replicate, if_pos (by omega)]
        rfl
      have hfy := hown.frozenAt j
      have HO := Lib.hid (And.intro hown (And.intro hb hstep))
      subst hA
      clear hy hyl hHA hstep hown hb hS
      have hj1 : ((j + 1 : Nat) : Int) - 1 = (j : Int) := by omega
      have hj2 : (0 : Int) ≤ (j : Int) := by omega
      have hj3 : ((j : Nat) : Int) < (n : Int) := by omega
      have hr2 : ((r : Nat) : Int) * 4294967296 < 18446744073709551616 := by omega
      have hr3 : (0 : Int) ≤ ((r : Nat) : Int) * 4294967296 := by omega
      obtain ⟨s, hs⟩ : ∃ s, s = r * 4294967296 + y := ⟨_, rfl⟩
      rw [← hs] at hor hfit
      have HS := Lib.hid hs
      clear hs
      obtain ⟨q, hq⟩ : ∃ q, q = s / d := ⟨_, rfl⟩
      obtain ⟨t, ht⟩ : ∃ t, t = s % d := ⟨_, rfl⟩
      have hd3 : ((s : Nat) : Int) / (d : Int) = (q : Int) := by rw [hq]; exact (Int.natCast_ediv s d).symm
      have hd4 : ((s : Nat) : Int) % (d : Int) = (t : Int) := by rw [ht]; exact (Int.natCast_emod s d).symm
      have hwr := wrap_u64 q (by rw [hq]; omega)
      rw [← hq] at hfit
      have hfit2 : ((q : Nat) : Int) < 4294967296 := by omega
      have HQT := Lib.hid (And.intro hq ht)
      clear hq ht
      have hq3 : ((q : Nat) : Int) % 4294967296 = (q : Int) := by omega
      go_wp2_with fail
      have hq4 : r * 4294967296 + y = s := HS.out.symm
      have hst := (HO.out.1.stored j (Value.int .u32 (q : Int))).1
      rw [hd4]
      refine ⟨⟨j, t, q :: qs, rfl, rfl, ?_, ?_, HO.out.2.1.setCell (p := ⟨w.heap.size, j, none⟩) (Nat.le_refl _) _⟩, by simp only [intOf]; omega⟩
      · have := HO.out.2.2
        rw [hq4, ← HQT.out.1, ← HQT.out.2] at this
        exact this
      · rw [show u32s (List.replicate j 0 ++ q :: qs) = (u32s (List.replicate (j + 1) 0 ++ qs)).set j (.int .u32 (q : Int)) from by
          simp only [u32s, ← List.map_set]
          congr 1
          rw [List.set_append_left _ _ (by simp), List.replicate_succ', List.set_append_right _ _ (by simp)]
          simp]
        exact hst
end Go.Proofs.YtfnigdbnkdofiaaDoor
