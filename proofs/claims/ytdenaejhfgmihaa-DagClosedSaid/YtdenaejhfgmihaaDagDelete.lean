/- slices.Delete of one ref: a contract. -/
import Derived.Test.YtdenaejhfgmihaaDagClone
import Derived.Test.YtdenaejhfgmihaaDelHead
namespace Go.Proofs.Ytdenaejhfgmihaa
open Go.RowKit
set_option linter.unusedVariables false
set_option linter.unusedSimpArgs false
def DelRQ (E : TypeId) (sz : Nat) (w : World) (A : Option Addr) (n c i : Nat) (xs : List Value) (e : Ending) (w' : World) : Prop :=
  e = .returned (.slice A (n - 1) c) ∧ w'.ownsRow 0 E sz (.slice A (n - 1) c) (n - 1) (xs.take (i * sz) ++ xs.drop ((i + 1) * sz)) ∧ Only (· ∈ blkOf A) w w'


set_option maxRecDepth 100000 in
set_option maxHeartbeats 2000000 in
theorem deleteRef_any (A : Option Addr) (n c i : Nat) (xs : List Value) (w : World) (hown : w.ownsRow 0 34 2 (.slice A n c) n xs) (hn : n ≤ 1000) (hi : i < n) (h2 : ∀ u ∈ xs, u.oneCell' = true) :
    Calls Try.prog 24 #[.slice A n c, .int .i64 i, .int .i64 ((i : Int) + 1)] w (DelRQ 34 2 w A n c i xs) := by
  rcases hown.2 with ⟨hv, h0⟩ | ⟨g, cap, cur, hv, hb0, hg, hnc, hcm, hcs, htk⟩
  · omega
  injection hv with hA _ hc
  subst hA hc
  have hxl : xs.length = n * 2 := hown.1
  obtain ⟨inf, hi1, hz1, hs1, hb1⟩ := info_parts (P := Try.prog) (e := 34) infoRef
  have hg' : Blk w g 34 cur := hg
  have hnews : (xs.drop ((i + 1) * 2)).length = (n - (i + 1)) * 2 := by rw [List.length_drop, hxl]; omega
  have hsrcv : ∀ j u, (xs.drop ((i + 1) * 2))[j]? = some u → w.drew.cell? ⟨g, (i + 1) * 2 + j, none⟩ = some u := by
    intro j u hu
    rw [List.getElem?_drop, ← htk, List.getElem?_take] at hu
    split at hu
    · rw [Array.getElem?_toList] at hu
      exact (hg'.cell _).trans hu
    · cases hu
  obtain ⟨n1, hn1⟩ : ∃ n1, n1 = n - 1 := ⟨_, rfl⟩
  obtain ⟨S, hS, hsrc⟩ : ∃ S : Addr, (if c = i + 1 then (some ⟨g, 0, none⟩ : Option Addr) else some ⟨g, (i + 1) * 2, none⟩) = some S ∧ Hid (∀ j u, (xs.drop ((i + 1) * 2))[j]? = some u → w.drew.cell? (S.add j) = some u) := by
    by_cases h : c = i + 1
    · refine ⟨⟨g, 0, none⟩, by rw [if_pos h], fun j u hu => ?_⟩
      have h0 : n - (i + 1) = 0 := by omega
      rw [h0, Nat.zero_mul] at hnews
      rw [List.length_eq_zero_iff.1 hnews] at hu
      simp at hu
    · exact ⟨⟨g, (i + 1) * 2, none⟩, by rw [if_neg h], fun j u hu => by rw [Addr.add_lit]; have := hsrcv j u hu; simpa only [Nat.mul_one] using this⟩
  obtain ⟨W1, hW1⟩ : ∃ W1, W1 = w.drew.setCells g (0 + i * 2) (xs.drop ((i + 1) * 2)) := ⟨_, rfl⟩
  obtain ⟨hB1, hO1⟩ := Blk.setCells_ (xs.drop ((i + 1) * 2)) w.drew (0 + i * 2) cur hg'
  rw [← hW1] at hB1 hO1
  have s1 := Lib.hid hnews
  have s2 : Hid (∀ u ∈ xs.drop ((i + 1) * 2), u.oneCell' = true) := Lib.hid (fun u hu => h2 u (List.mem_of_mem_drop hu))
  have s3 : Hid (∀ t, t < (xs.drop ((i + 1) * 2)).length → (w.drew.cell? ⟨g, 0 + i * 2 + t, none⟩).isSome = true ∧ w.drew.frozen? ⟨g, 0 + i * 2 + t, none⟩ = false) := Lib.hid (fun t ht => by
    rw [hnews] at ht
    refine ⟨?_, (show Blk w.drew g _ cur from hg').frozen _⟩
    show (w.cell? _).isSome = true
    rw [hg'.cell, Array.getElem?_eq_getElem (by omega)]
    rfl)
  have hzs : (.agg #[.int .i64 0, .int .i64 0] : Value).cells.size = 2 := by decide
  obtain ⟨W2, hW2⟩ : ∃ W2, W2 = W1.setCells g (n1 * 2) (.agg #[.int .i64 0, .int .i64 0] : Value).cells.toList := ⟨_, rfl⟩
  have hcl : ∀ ty, (Builtin.clear_ #[28] ty #[.slice (some ⟨g, n1 * 2, none⟩) 1 (c - n1)]).run Try.prog W1 = .ok (.tuple #[]) W2 := fun ty => by
    rw [hW2]
    exact run_clear_one W1 _ _ ty _ Try.underlying28 (by intro w; kernel_rfl) g (n1 * 2) _ (by decide) (fun j hj => by
      rw [hzs] at hj
      rw [hB1.cell, Array.getElem?_eq_getElem (by rw [setL_size]; omega)]
      rfl) (fun j _ => hB1.frozen _)
  obtain ⟨hB2, hO2⟩ := Blk.setCells_ (.agg #[.int .i64 0, .int .i64 0] : Value).cells.toList W1 (n1 * 2) _ hB1
  have HFIN := Lib.hid (show DelRQ 34 2 w (some ⟨g, 0, none⟩) n c i xs (.returned (.slice (some ⟨g, 0, none⟩) (n - 1) c)) W2 from by
    rw [hW2]
    subst hn1
    have hd := del_row (zs := (.agg #[.int .i64 0, .int .i64 0] : Value).cells.toList) hcs htk hnc hi (by simpa using hzs) (by decide)
    try rw [Nat.mul_one (n - 1)] at hd
    have hone : Only (· ∈ blkOf (some ⟨g, 0, none⟩)) w W1 := ((Only.refl (· = g) w).drew.trans hO1).mono (fun k _ h => by subst h; simp [blkOf])
    refine ⟨rfl, ⟨?_, .inr ⟨g, c, _, rfl, hb0, hB2, by omega, hcm, ?_, ?_⟩⟩, hone.trans (hO2.mono (fun k _ h => by subst h; simp [blkOf]))⟩
    · rw [List.length_append, List.length_take, List.length_drop, hxl]; omega
    · rw [setL_size, setL_size]; exact hcs
    · rw [Nat.zero_add]; simpa only [Nat.mul_one] using hd)
  have hW := Lib.hid hW1
  have hni : (n : Int) ≤ 1000 := by omega
  have hii : (i : Int) + 1 ≤ (n : Int) := by omega
  have HNN := Lib.hid (show i + (n - (i + 1)) = n1 by omega)
  have HN1 := Lib.hid hn1
  have hcn : (c : Int) ≤ 9223372036854775807 := by unfold maxLen at hcm; omega
  have hn1c : n1 < n := by omega
  have hs : ∀ w, (Go.sizeOf 34).run Try.prog w = .ok 2 w := by intro w; kernel_rfl
  have he : Try.prog.elem 28 = 34 := by simp [Program.elem, Try.underlying28]
  have hsl1 : ∀ W, (Instr.slice 28 (.slice (some ⟨g, 0, none⟩) n c) none (some (.int .i64 (i : Int))) none).run Try.prog W = .ok (.slice (some ⟨g, 0, none⟩) i c) W := fun W => by
    rw [run_slice_h W 28 _ n c (by rw [he]; exact Try.underlying28) .i64 i (by omega) (by omega), he, hs]
    simp [Result.andThen, sliced, Addr.add]
  have hsl2 : ∀ W, (Instr.slice 28 (.slice (some ⟨g, 0, none⟩) n c) (some (.int .i64 ((i : Int) + 1))) none none).run Try.prog W = .ok (.slice (some S) (n - (i + 1)) (c - (i + 1))) W := fun W => by
    have ht : ((i : Int) + 1).toNat = i + 1 := by omega
    rw [run_slice_l W 28 _ n c (by rw [he]; exact Try.underlying28) .i64 ((i : Int) + 1) (by omega) (by omega), he, hs]
    simp only [Result.andThen, sliced, ht]
    rw [← hS]
    simp [Addr.add_lit]
  have hsl3 : ∀ W, (Instr.slice 28 (.slice (some ⟨g, 0, none⟩) n1 c) (some (.int .i64 (n1 : Int))) (some (.int .i64 (n : Int))) none).run Try.prog W = .ok (.slice (some ⟨g, n1 * 2, none⟩) 1 (c - n1)) W := fun W => by
    rw [run_slice_lh W 28 _ n1 c (by rw [he]; exact Try.underlying28) .i64 .i64 n1 n (by omega) (by omega) (by omega), he, hs]
    simp only [Result.andThen, sliced, Int.toNat_natCast]
    rw [if_neg (by omega), show n - n1 = 1 by omega]
    simp [Addr.add_lit]
  have hne : ((i : Int) == (i : Int) + 1) = false := by
    simp only [beq_eq_false_iff_ne]
    omega
  have HCL := Lib.hid hcl
  clear hcl hW2 hW1 hB1 hO1 hB2 hO2 hg hg' hnews hsrcv hxl htk hcs hown hzs hb0 hS hn1 hs he
  go_enter Try.func24, Try.ntmps24
  go_wp2_with fail
  go_region_law (refine step_append_room rfl (.tmp 22) (.tmp 25) 28 rfl 34 inf 2 Try.underlying28 hi1 hs1 g 0 i c (by simp [Act.eval, Act.put]) S (n - (i + 1)) (c - (i + 1)) (xs.drop ((i + 1) * 2)) (by simp [Act.eval, Act.put]) s1.out hsrc.out s2.out (by omega) s3.out ?_; rw [← hW.out, HNN.out])
  all_goals go_wp2_with (first | ((with_reducible refine wpList_clear_run (o := ⟨none, _, _, _, _, _⟩) _ ?g1 (.tmp 31) 28 ?g2 (.slice (some ⟨g, n1 * 2, none⟩) 1 (c - n1)) ?g3 (HCL.out _) ?_); (case g1 => rfl); (case g2 => rfl); (case g3 => rfl)) | fail)
  all_goals
    go_ret
    rw [← HN1.out] at HFIN
    exact HFIN.out
end Go.Proofs.Ytdenaejhfgmihaa
