/- commonbookbig.left, right, at the counts that are wanted: contracts. -/
import Derived.Test.YtfnigdbnkdofiaaDoorNumMul
namespace Go.Proofs.YtfnigdbnkdofiaaDoor
open Go.RowKit
set_option linter.unusedVariables false
set_option linter.unusedSimpArgs false

theorem or_low (h x : Nat) (hh : h < 2147483648) (hx : x < 4294967296) : bits .or .u32 (h : Int) ((x * 2147483648 % 4294967296 : Nat) : Int) = ((h + x * 2147483648 % 4294967296 : Nat) : Int) := by
  have h1 := u32_or_nat h (x * 2147483648 % 4294967296) (by omega) (by omega)
  have h2 := Nat.two_pow_add_eq_or_of_lt (i := 31) (b := h) (by omega) (x % 2)
  rw [show (2 : Nat) ^ 31 = 2147483648 from rfl] at h2
  rw [h1, Nat.or_comm, show x * 2147483648 % 4294967296 = 2147483648 * (x % 2) from by omega, ← h2, Nat.add_comm]
theorem or_zero (x : Nat) (hx : x < 4294967296) : bits .or .u32 0 (x : Int) = (x : Int) := by
  have h1 := u32_or_nat 0 x (by omega) hx
  simpa using h1
theorem or_high (x y : Nat) (hx : x < 4294967296) (hy : y < 4294967296) : bits .or .u64 (x : Int) ((y : Int) * 4294967296) = ((x + y * 4294967296 : Nat) : Int) := by
  have h1 := u64_or_nat x (y * 4294967296) (by omega) (by omega)
  have h2 := Nat.two_pow_add_eq_or_of_lt (i := 32) (b := x) (by omega) y
  rw [show (2 : Nat) ^ 32 = 4294967296 from rfl, Nat.mul_comm 4294967296 y] at h2
  rw [Nat.or_comm, ← h2] at h1
  rw [show ((y : Int) * 4294967296) = ((y * 4294967296 : Nat) : Int) from by omega, h1, Nat.add_comm]
theorem shl_set (ws : List Nat) (h k a b : Nat) : ((ws ++ h :: List.replicate (k + 1) 0).set ws.length a).set (ws.length + 1) b = (ws ++ [a]) ++ b :: List.replicate k 0 := by
  rw [List.set_append_right _ _ (Nat.le_refl _), List.set_append_right _ _ (by omega)]
  simp [List.replicate_succ]

set_option maxRecDepth 100000 in
set_option maxHeartbeats 2000000 in
theorem left31 (v : Value) (x : Nat) (w : World) (h1 : NW w v x) (hx : x < 4294967296 ^ 8) :
    Calls Tryd.prog 50 #[v, .int .u64 31] w fun e w' => ∃ v', e = .returned v' ∧ NW w' v' (x * 2147483648) ∧ Below w.heap.size w w' ∧ ∀ k, v'.ownBlock = some k → w.heap.size ≤ k := by
  obtain ⟨A1, c1, l1, rfl, a1, a2, a3, a4, a5, a6⟩ := h1
  obtain ⟨i0, hi, hz0, hz1, hz2⟩ := info_parts infoW
  have hn1 : l1.length ≤ 8 := trimW_le a3 (by rw [a4]; exact hx)
  obtain ⟨n, e1⟩ : ∃ n, n = l1.length := ⟨_, rfl⟩
  have H1 := Lib.hid (And.intro e1 (And.intro a1 (And.intro a2 a4)))
  rw [← e1] at hn1 ⊢
  clear e1 a1 a2 a3 a4 a5 a6 hx
  by_cases hn0 : n = 0
  · have hx0 : x = 0 := by
      have h := H1.out.1
      rw [hn0] at h
      rw [← H1.out.2.2.2, List.eq_nil_of_length_eq_zero h.symm]
      rfl
    have HX := Lib.hid hx0
    subst hn0
    clear hx0
    go_enter Tryd.func50, Tryd.ntmps50
    go_wp2_with fail
    go_ret
    exact ⟨_, rfl, by rw [HX.out, Nat.zero_mul]; exact NW.zero, Below.refl _ _, by intro k hk; simp [Value.ownBlock] at hk⟩
  have hnb : (((n : Nat) : Int) == 0) = false := by simpa using hn0
  have hn0' : ¬ ((n : Nat) : Int) = 0 := by omega
  go_enter Tryd.func50, Tryd.ntmps50
  go_wp2_with (at_make; refine wpList_make_full _ rfl _ _ 67 rfl w.heap.size 98 i0 _ 1 Tryd.underlying67 hi hz0 hz1 _ _ _ _ (n + 1) rfl rfl (by omega) (by omega) (by rw [hz2]; omega) (by simp only [maxLen]; omega) (Nat.le_refl _) ?_)
  intro w1 hown1 hg1
  have hb1 : Below w.heap.size w w1 := (Below.refl _ _).grown hg1 (Nat.le_refl _) (by simp)
  rw [made_zero] at hown1
  refine wpList_at (fun w1 => w1.ownsRow w.heap.size 98 1 (.slice (some ⟨w.heap.size, 0, none⟩) (n + 1) (n + 1)) (n + 1) (u32s (List.replicate (n + 1) 0)) ∧ Below w.heap.size w w1) ⟨hown1, hb1⟩ ?_
  clear hown1 hb1 hg1
  intro w1 HW1
  replace HW1 := Lib.hid HW1
  go_wp2_with fail
  go_loopw [8] (fun iv wr => ∃ (i h : Nat) (ws : List Nat), iv = .int .i64 i ∧ i ≤ n ∧ ShlR l1 i h ws ∧ wr.ownsRow w.heap.size 98 1 (.slice (some ⟨w.heap.size, 0, none⟩) (n + 1) (n + 1)) (n + 1) (u32s (ws ++ h :: List.replicate (n - i) 0)) ∧ Below w.heap.size w wr) (fun iv _ => n - (intOf iv).toNat)
  case atStart => exact ⟨0, 0, [], rfl, by omega, ShlR.start _, by simpa [List.replicate_succ] using HW1.out.1, HW1.out.2⟩
  case round =>
    clear HW1
    obtain ⟨i, h, ws, rfl, hin, hR, hown, hb⟩ := hrel
    have hh := hR.hi
    by_cases hlt : i < n
    · have hlti : ((i : Nat) : Int) < (n : Int) := by omega
      obtain ⟨p, hp⟩ : ∃ p, l1[i]? = some p := ⟨_, List.getElem?_eq_getElem (by rw [← H1.out.1]; exact hlt)⟩
      have hp2 : p < 4294967296 := H1.out.2.2.1 p (List.mem_of_getElem? hp)
      obtain ⟨b, off, hA, hcell⟩ := (H1.out.2.1.below hb).word_at hp
      subst hA
      have hlen := hR.len
      obtain ⟨m, hm⟩ : ∃ m, n - i = m + 1 := ⟨n - i - 1, by omega⟩
      rw [hm] at hown
      have hc0 : wr.cell? ⟨w.heap.size, i, none⟩ = some (.int .u32 h) := by
        rw [hown.cellAt i (by omega), u32s, List.getElem?_map, List.getElem?_append_right (by omega), hlen]
        simp
      have hc1 : wr.cell? ⟨w.heap.size, i + 1, none⟩ = some (.int .u32 0) := by
        rw [hown.cellAt (i + 1) (by omega), u32s, List.getElem?_map, List.getElem?_append_right (by omega), hlen]
        simp [List.replicate_succ]
      have hf0 := hown.frozenAt i
      have hf1 := hown.frozenAt (i + 1)
      obtain ⟨lo, hlo⟩ : ∃ lo, lo = p * 2147483648 % 4294967296 := ⟨_, rfl⟩
      obtain ⟨up, hup⟩ : ∃ up, up = p / 2 := ⟨_, rfl⟩
      have hst := hR.step hp hp2
      have ho1 := or_low h p hh hp2
      rw [← hlo] at hst ho1
      rw [← hup] at hst
      obtain ⟨nx, hnx⟩ : ∃ nx, nx = h + lo := ⟨_, rfl⟩
      rw [← hnx] at hst ho1
      have hup2 : up < 4294967296 := by omega
      have ho2 := or_zero up hup2
      have hv1 : ((p : Nat) : Int) * 2147483648 < 18446744073709551616 := by omega
      have hv2 : (((p : Nat) : Int) * 2147483648) % 4294967296 = (lo : Int) := by omega
      have hv3 : (((p : Nat) : Int) * 2147483648) / 4294967296 = (up : Int) := by omega
      have hv4 : ((up : Nat) : Int) % 4294967296 = (up : Int) := by omega
      have hin1 : ((i : Nat) : Int) < ((n : Nat) : Int) + 1 := by omega
      have hst2 := ((hown.stored i (.int .u32 nx)).1.stored (i + 1) (.int .u32 up)).1
      have hset := shl_set ws h m nx up
      rw [hlen] at hset
      rw [u32s_set, u32s_set, hset, show m = n - (i + 1) from by omega] at hst2
      have hb2 := (hb.setCell (p := ⟨w.heap.size, i, none⟩) (Nat.le_refl _) (.int .u32 nx)).setCell (p := ⟨w.heap.size, i + 1, none⟩) (Nat.le_refl _) (.int .u32 up)
      have HN := Lib.hid (And.intro hst (And.intro hst2 hb2))
      have hne : ¬ i = i + 1 := by omega
      clear hst hst2 hb2 hset hnx hlo hup hlen hown hb hR hp hm
      go_wp2_with fail
      go_roundw
      case rel => exact ⟨i + 1, up, _, by go_num, by omega, HN.out.1, HN.out.2.1, HN.out.2.2⟩
      case measure => simp [intOf] <;> omega
    · obtain rfl : i = n := by omega
      have hlti : ¬ ((i : Nat) : Int) < (i : Int) := by omega
      have hval := ShlR.done (by rw [H1.out.1] at hR; exact hR)
      rw [Nat.sub_self, List.replicate_zero] at hown
      have hwl : (ws ++ [h]).length = i + 1 := by simp [hR.len]
      have hwd : ∀ z ∈ ws ++ [h], z < 4294967296 := by
        intro z hz
        rcases List.mem_append.1 hz with hz | hz
        · exact hR.words z hz
        · simp at hz; omega
      have HT := Lib.hid (trim_any (some ⟨w.heap.size, 0, none⟩) (i + 1) (ws ++ [h]) _ (SlAt.of_owns hown) (by omega) (by omega))
      have hN := NW.of_trim (c := i + 1) (SlAt.of_owns hown) hwd (by omega) (by omega)
      rw [hval, H1.out.2.2.2] at hN
      rw [hwl] at HT
      have HN := Lib.hid (And.intro hN hb)
      clear hN hval hown hb hR hwl hwd
      go_wp2_with (go_at_call 74; refine HT.out.mono ?_; rintro e w2 ⟨rfl, rfl⟩)
      go_ret
      exact ⟨_, rfl, HN.out.1, HN.out.2, by intro k hk; simp [Value.ownBlock] at hk; omega⟩
end Go.Proofs.YtfnigdbnkdofiaaDoor
