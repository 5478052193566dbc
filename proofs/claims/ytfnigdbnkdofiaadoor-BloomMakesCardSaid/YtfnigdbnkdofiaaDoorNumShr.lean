/- commonbookbig.right, at the counts that are wanted; left of one by 64; plain; length: contracts. -/
import Derived.Test.YtfnigdbnkdofiaaDoorNumShift
namespace Go.Proofs.YtfnigdbnkdofiaaDoor
open Go.RowKit
set_option linter.unusedVariables false
set_option linter.unusedSimpArgs false

set_option maxRecDepth 100000 in
set_option maxHeartbeats 2000000 in
theorem right31f (v : Value) (x : Nat) (w : World) (h1 : NW w v x) (hx : x < 4294967296 ^ 8) :
    Calls Tryd.prog 56 #[v, .int .u64 31] w fun e w' => ∃ v', e = .returned v' ∧ NW w' v' (x / 2147483648) ∧ Below w.heap.size w w' ∧ ∀ k, v'.ownBlock = some k → w.heap.size ≤ k := by
  obtain ⟨A1, c1, l1, rfl, a1, a2, a3, a4, a5, a6⟩ := h1
  obtain ⟨i0, hi, hz0, hz1, hz2⟩ := info_parts infoW
  have hn1 : l1.length ≤ 8 := trimW_le a3 (by rw [a4]; exact hx)
  obtain ⟨n, e1⟩ : ∃ n, n = l1.length := ⟨_, rfl⟩
  have H1 := Lib.hid (And.intro e1 (And.intro a1 (And.intro a2 a4)))
  rw [← e1] at hn1 ⊢
  clear e1 a1 a2 a3 a4 a5 a6 hx
  by_cases hn0 : n = 0
  · have hx0 : x = 0 := by
      have h := H1.out.1
      rw [hn0] at h
      rw [← H1.out.2.2.2, List.eq_nil_of_length_eq_zero h.symm]
      rfl
    have HX := Lib.hid hx0
    subst hn0
    clear hx0
    go_enter Tryd.func56, Tryd.ntmps56
    go_wp2_with fail
    go_ret
    exact ⟨_, rfl, by rw [HX.out]; exact NW.zero, Below.refl _ _, fun k hk => by simp [Value.ownBlock] at hk⟩
  have hn0' : (0 : Int) < ((n : Nat) : Int) := by omega
  have hn0'' : ¬ ((n : Nat) : Int) ≤ 0 := by omega
  go_enter Tryd.func56, Tryd.ntmps56
  go_wp2_with (at_make; refine wpList_make_full _ rfl _ _ 67 rfl w.heap.size 98 i0 _ 1 Tryd.underlying67 hi hz0 hz1 _ _ _ _ n rfl rfl (by omega) (by omega) (by rw [hz2]; omega) (by simp only [maxLen]; omega) (Nat.le_refl _) ?_)
  intro w1 hown1 hg1
  have hb1 : Below w.heap.size w w1 := (Below.refl _ _).grown hg1 (Nat.le_refl _) (by simp)
  rw [made_zero] at hown1
  refine wpList_at (fun w1 => w1.ownsRow w.heap.size 98 1 (.slice (some ⟨w.heap.size, 0, none⟩) n n) n (u32s (List.replicate n 0)) ∧ Below w.heap.size w w1) ⟨hown1, hb1⟩ ?_
  clear hown1 hb1 hg1
  intro w1 HW1
  replace HW1 := Lib.hid HW1
  go_wp2_with fail
  go_loopw [8] (fun iv wr => ∃ (i : Nat) (ws : List Nat), iv = .int .i64 i ∧ i ≤ n ∧ ShrR l1 i ws ∧ wr.ownsRow w.heap.size 98 1 (.slice (some ⟨w.heap.size, 0, none⟩) n n) n (u32s (ws ++ List.replicate (n - i) 0)) ∧ Below w.heap.size w wr) (fun iv _ => n - (intOf iv).toNat)
  case atStart => exact ⟨0, [], rfl, by omega, ShrR.start _, HW1.out.1, HW1.out.2⟩
  case round =>
    clear HW1
    obtain ⟨i, ws, rfl, hin, hR, hown, hb⟩ := hrel
    by_cases hlt : i < n
    · have hlti : ((i : Nat) : Int) < (n : Int) := by omega
      obtain ⟨p, hp⟩ : ∃ p, l1[i]? = some p := ⟨_, List.getElem?_eq_getElem (by rw [← H1.out.1]; exact hlt)⟩
      have hp2 : p < 4294967296 := H1.out.2.2.1 p (List.mem_of_getElem? hp)
      obtain ⟨b, off, hA, hcell⟩ := (H1.out.2.1.below hb).word_at hp
      subst hA
      have hlen := hR.len
      obtain ⟨m, hm⟩ : ∃ m, n - i = m + 1 := ⟨n - i - 1, by omega⟩
      rw [hm] at hown
      have hc0 : wr.cell? ⟨w.heap.size, i, none⟩ = some (.int .u32 0) := by
        rw [hown.cellAt i (by omega), u32s, List.getElem?_map]
        have := row_at ws m
        rw [hlen] at this
        rw [this]
        rfl
      have hf0 := hown.frozenAt i
      by_cases hlast : i + 1 < n
      · have hlasti : ((i : Nat) : Int) + 1 < (n : Int) := by omega
        obtain ⟨q, hq⟩ : ∃ q, l1[i + 1]? = some q := ⟨_, List.getElem?_eq_getElem (by rw [← H1.out.1]; exact hlast)⟩
        have hq2 : q < 4294967296 := H1.out.2.2.1 q (List.mem_of_getElem? hq)
        have hcellq : wr.cell? ⟨b, off + (i + 1), none⟩ = some (.int .u32 q) := by
          obtain ⟨b', off', hA', hc'⟩ := (H1.out.2.1.below hb).word_at hq
          injection hA' with hA'
          injection hA' with e1 e2
          subst e1 e2
          exact hc'
        have hst := hR.step H1.out.2.2.1 hp (y := q) (by rw [hq]; rfl)
        have hor := or_high p q hp2 hq2
        obtain ⟨s, hs⟩ : ∃ s, s = p + q * 4294967296 := ⟨_, rfl⟩
        rw [← hs] at hst hor
        obtain ⟨lo, hlo⟩ : ∃ lo, lo = s / 2147483648 % 4294967296 := ⟨_, rfl⟩
        rw [← hlo] at hst
        have hv1 : ((q : Nat) : Int) * 4294967296 < 18446744073709551616 := by omega
        have hv2 : ((s : Nat) : Int) / 2147483648 % 4294967296 = (lo : Int) := by omega
        have hst2 := (hown.stored i (.int .u32 lo)).1
        have hset := row_set ws m lo
        rw [hlen] at hset
        rw [u32s_set, hset, show m = n - (i + 1) from by omega] at hst2
        have hb2 := hb.setCell (p := ⟨w.heap.size, i, none⟩) (Nat.le_refl _) (.int .u32 lo)
        have HN := Lib.hid (And.intro hst (And.intro hst2 hb2))
        clear hst hst2 hb2 hset hs hlo hlen hown hb hR hp hm hq
        go_wp2_with fail
        go_roundw
        case rel => exact ⟨i + 1, _, by go_num, by omega, HN.out.1, HN.out.2.1, HN.out.2.2⟩
        case measure => simp [intOf] <;> omega
      · have hlasti : ¬ ((i : Nat) : Int) + 1 < (n : Int) := by omega
        have hq : l1[i + 1]? = none := List.getElem?_eq_none_iff.2 (by rw [← H1.out.1]; omega)
        have hst : ShrR l1 (i + 1) (ws ++ [p / 2147483648 % 4294967296]) := by
          have h := hR.step H1.out.2.2.1 hp (y := 0) (by rw [hq]; rfl)
          rw [show p + 0 * 4294967296 = p from by omega] at h
          exact h
        obtain ⟨lo, hlo⟩ : ∃ lo, lo = p / 2147483648 % 4294967296 := ⟨_, rfl⟩
        rw [← hlo] at hst
        have hv2 : ((p : Nat) : Int) / 2147483648 = (lo : Int) := by omega
        have hv3 : ((lo : Nat) : Int) % 4294967296 = (lo : Int) := by omega
        have hst2 := (hown.stored i (.int .u32 lo)).1
        have hset := row_set ws m lo
        rw [hlen] at hset
        rw [u32s_set, hset, show m = n - (i + 1) from by omega] at hst2
        have hb2 := hb.setCell (p := ⟨w.heap.size, i, none⟩) (Nat.le_refl _) (.int .u32 lo)
        have HN := Lib.hid (And.intro hst (And.intro hst2 hb2))
        clear hst hst2 hb2 hset hlo hlen hown hb hR hp hm hq
        go_wp2_with fail
        go_roundw
        case rel => exact ⟨i + 1, _, by go_num, by omega, HN.out.1, HN.out.2.1, HN.out.2.2⟩
        case measure => simp [intOf] <;> omega
    · obtain rfl : i = n := by omega
      have hlti : ¬ ((i : Nat) : Int) < (i : Int) := by omega
      have hval := ShrR.done (by rw [H1.out.1] at hR; exact hR) H1.out.2.2.1
      rw [Nat.sub_self, List.replicate_zero, List.append_nil] at hown
      have hwl : ws.length = i := hR.len
      have HT := Lib.hid (trim_any (some ⟨w.heap.size, 0, none⟩) i ws _ (SlAt.of_owns hown) (by omega) (by omega))
      have hN := NW.of_trim (c := i) (SlAt.of_owns hown) hR.words (by omega) (by omega)
      rw [hval, H1.out.2.2.2] at hN
      rw [hwl] at HT
      have HN := Lib.hid (And.intro hN hb)
      clear hN hval hown hb hR hwl
      go_wp2_with (go_at_call 74; refine HT.out.mono ?_; rintro e w2 ⟨rfl, rfl⟩)
      go_ret
      exact ⟨_, rfl, HN.out.1, HN.out.2, fun k hk => by simp [Value.ownBlock] at hk; omega⟩

theorem right31 (v : Value) (x : Nat) (w : World) (h1 : NW w v x) (hx : x < 4294967296 ^ 8) :
    Calls Tryd.prog 56 #[v, .int .u64 31] w fun e w' => ∃ v', e = .returned v' ∧ NW w' v' (x / 2147483648) ∧ Below w.heap.size w w' :=
  (right31f v x w h1 hx).mono (fun e w' ⟨v', h1, h2, h3, _⟩ => ⟨v', h1, h2, h3⟩)

set_option maxRecDepth 100000 in
set_option maxHeartbeats 2000000 in
theorem plain_any (v : Value) (x : Nat) (w : World) (h1 : NW w v x) (hx : x < 18446744073709551616) :
    Calls Tryd.prog 93 #[v] w fun e w' => e = .returned (.int .u64 x) ∧ w' = w := by
  obtain ⟨A1, c1, l1, rfl, a1, a2, a3, a4, a5, a6⟩ := h1
  have hn1 : l1.length ≤ 2 := trimW_le a3 (k := 2) (by rw [a4]; exact hx)
  match l1, hn1, a1, a2, a4 with
  | [], _, a1, a2, a4 =>
    subst a4
    clear a1 a2 a3 a5 a6
    go_enter Tryd.func93, Tryd.ntmps93
    go_wp2_with fail
    go_ret
    exact ⟨rfl, rfl⟩
  | [p], _, a1, a2, a4 =>
    obtain ⟨b, off, rfl, hc⟩ := a1.word_at (k := 0) (x := p) rfl
    rw [Nat.add_zero] at hc
    have hxx : x = p := by rw [← a4]; simp [valW]
    have HX := Lib.hid hxx
    have hp2 := a2 p (by simp)
    clear a1 a2 a3 a4 a5 a6 hxx
    go_enter Tryd.func93, Tryd.ntmps93
    go_wp2_with fail
    go_ret
    exact ⟨by rw [HX.out]; rfl, rfl⟩
  | [p, q], _, a1, a2, a4 =>
    obtain ⟨b, off, rfl, hc⟩ := a1.word_at (k := 0) (x := p) rfl
    rw [Nat.add_zero] at hc
    obtain ⟨b', off', hA', hc'⟩ := a1.word_at (k := 1) (x := q) rfl
    injection hA' with hA'
    injection hA' with e1 e2
    subst e1 e2
    have hxx : x = p + q * 4294967296 := by rw [← a4]; simp [valW]; omega
    have HX := Lib.hid hxx
    have hp2 := a2 p (by simp)
    have hq2 := a2 q (by simp)
    have hor := or_high p q hp2 hq2
    have hv1 : ((q : Nat) : Int) * 4294967296 < 18446744073709551616 := by omega
    obtain ⟨s, hs⟩ : ∃ s, s = p + q * 4294967296 := ⟨_, rfl⟩
    rw [← hs] at hor
    have HS := Lib.hid hs
    clear a1 a2 a3 a4 a5 a6 hxx hs
    go_enter Tryd.func93, Tryd.ntmps93
    go_wp2_with fail
    go_ret
    exact ⟨by rw [HX.out, ← HS.out]; rfl, rfl⟩
end Go.Proofs.YtfnigdbnkdofiaaDoor
