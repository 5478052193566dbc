/- slices.DeleteFunc at refs: how many are left. -/
import Derived.Test.YtdenaejhfgmihaaDagDelete
import Derived.Test.YtdenaejhfgmihaaDagIdx
import Derived.Test.YtdenaejhfgmihaaDagRising
import Derived.Outline
namespace Go.Proofs.Ytdenaejhfgmihaa
open Go.RowKit
set_option linter.unusedVariables false
set_option linter.unusedSimpArgs false

theorem run_clear_many {P : Program} (w : World) (t e ty : TypeId) (z : Value) (ht : P.underlying t = some (.slice e)) (hv : ∀ w, (zeroValue e).run P w = .ok z w) (b o c m : Nat) (hz : 0 < z.cells.size) (h1 : ∀ u ∈ z.cells.toList, u.oneCell' = true)
    (hc : ∀ j, j < (m + 1) * z.cells.size → (w.cell? ⟨b, o + j, none⟩).isSome = true) (hf : ∀ j, j < (m + 1) * z.cells.size → w.frozen? ⟨b, o + j, none⟩ = false) :
    (Builtin.clear_ #[t] ty #[.slice (some ⟨b, o, none⟩) (m + 1) c]).run P w = .ok (.tuple #[]) (w.setCells b o (Builtin.zeroCells z.cells (m + 1)).toList) := by
  have hl : (Builtin.zeroCells z.cells (m + 1)).toList.length = (m + 1) * z.cells.size := by simp [Builtin.zeroCells]
  have h2 : ∀ u ∈ (Builtin.zeroCells z.cells (m + 1)).toList, u.oneCell' = true := by
    intro u hu
    simp [Builtin.zeroCells] at hu
    obtain ⟨i, _, rfl⟩ := hu
    have hlt : i % z.cells.size < z.cells.size := Nat.mod_lt _ hz
    rw [getElem!_pos z.cells _ hlt]
    exact h1 _ (by simp)
  have hst := run_storeCells_cells (P := P) b o (Builtin.zeroCells z.cells (m + 1)).toList 0 w (by rw [hl]; simpa using hc) (by rw [hl]; simpa using hf) h2
  simp only [Nat.add_zero] at hst
  simp [Builtin.clear_, run_underlying ht, hv, hst]
theorem setCells_only : ∀ (vs : List Value) (w : World) (g o : Nat), Only (· = g) w (w.setCells g o vs)
  | [], w, g, o => Only.refl _ _
  | v :: vs, w, g, o => ((Only.refl (· = g) w).setCell (p := ⟨g, o, none⟩) rfl v).trans (setCells_only vs _ g (o + 1))

/-- How many are kept. -/
def keptN (p : Int × Int → Bool) (l : List (Int × Int)) : Nat := (l.filter fun r => !p r).length
theorem keptN_snoc (p : Int × Int → Bool) (l : List (Int × Int)) (r : Int × Int) : keptN p (l ++ [r]) = keptN p l + if p r = true then 0 else 1 := by
  unfold keptN
  rw [List.filter_append]
  cases h : p r <;> simp [h]
def DelFQ (w : World) (A : Option Addr) (p : Int × Int → Bool) (l : List (Int × Int)) (e : Ending) (w' : World) : Prop := ∃ c', e = .returned (.slice A (keptN p l) c') ∧ Only (· ∈ blkOf A) w w'
/-- What holds at each round. -/
structure DelI (g c : Nat) (p : Int × Int → Bool) (l : List (Int × Int)) (w : World) (i j : Nat) (W : World) : Prop where
  lt : i < j
  le : j ≤ l.length
  cnt : i = keptN p (l.take j)
  only : Only (· = g) w W
  row : ∃ cur, Blk W g 34 cur ∧ cur.size = c * 2 ∧ ∀ k r, j ≤ k → l[k]? = some r → cur[k * 2]? = some (.int .i64 r.1) ∧ cur[k * 2 + 1]? = some (.int .i64 r.2)
theorem refs_two : ∀ (l : List (Int × Int)) (k : Nat) (r : Int × Int), l[k]? = some r → (refs l)[k * 2]? = some (.int .i64 r.1) ∧ (refs l)[k * 2 + 1]? = some (.int .i64 r.2)
  | [], k, r, h => by simp at h
  | x :: l, 0, r, h => by simp at h; subst h; exact ⟨rfl, rfl⟩
  | x :: l, k + 1, r, h => by
    have ih := refs_two l k r (by simpa using h)
    rw [show (k + 1) * 2 = k * 2 + 1 + 1 by omega]
    exact ih
theorem idx_facts {p : Int × Int → Bool} {l : List (Int × Int)} : (idxOf p l = -1 ∧ keptN p l = l.length) ∨ ∃ k : Nat, idxOf p l = (k : Int) ∧ k < l.length ∧ keptN p (l.take (k + 1)) = k := by
  unfold idxOf
  cases hf : l.findIdx? p with
  | none =>
    left
    refine ⟨rfl, ?_⟩
    rw [List.findIdx?_eq_none_iff] at hf
    unfold keptN
    rw [List.filter_eq_self.2 (fun x hx => by rw [hf x hx]; rfl)]
  | some k =>
    right
    obtain ⟨hk, hp, hb⟩ := List.findIdx?_eq_some_iff_getElem.1 hf
    refine ⟨k, rfl, hk, ?_⟩
    have e : l.take (k + 1) = l.take k ++ [l[k]] := by rw [List.take_succ_eq_append_getElem hk]
    rw [e, keptN_snoc, if_pos hp]
    unfold keptN
    rw [List.filter_eq_self.2 (fun x hx => by
      obtain ⟨i, hi, rfl⟩ := List.getElem_of_mem hx
      rw [List.getElem_take]
      rw [List.length_take] at hi
      have := hb i (by omega)
      simpa using this)]
    simp
    omega

set_option maxRecDepth 100000 in
set_option maxHeartbeats 2000000 in
theorem delF_any (cap1 : Value) (p : Int × Int → Bool) (l : List (Int × Int)) (A : Option Addr) (c : Nat) (w : World) (hown : w.ownsRow 0 34 2 (.slice A l.length c) l.length (refs l)) (hl : l.length ≤ 1000)
    (hcall : ∀ r ∈ l, ∀ W, Only (· ∈ blkOf A) w W → Calls Try.prog 27 #[.agg #[.int .i64 r.1, .int .i64 r.2], cap1] W fun e w' => e = .returned (.bool (p r)) ∧ Below W.heap.size W w') :
    Calls Try.prog 26 #[.slice A l.length c, (.func (.func 27) #[] #[cap1])] w (DelFQ w A p l) := by
  have HC := Lib.hid (idx_heads cap1 p l A c w (by unfold maxLen; omega) (SlAt.of_owns hown) (fun r hr W hW => hcall r hr W (Only.of_below hW)))
  rcases idx_facts (p := p) (l := l) with ⟨hi, hk⟩ | ⟨k, hi, hkl, hk⟩
  · rw [hi] at HC
    have HK := Lib.hid hk
    clear hi hk hcall hown
    go_enter Try.func26, Try.ntmps26
    go_wp2_with (go_at_call 20; (with_reducible refine HC.out.mono ?_); rintro e w1 ⟨rfl, hb1⟩)
    go_ret
    exact ⟨c, by rw [HK.out]; rfl, Only.of_below hb1⟩
  · rw [hi] at HC
    rcases hown.2 with ⟨hv, h0⟩ | ⟨g, cap, cur, hv, hb0, hg, hnc, hcm, hcs, htk⟩
    · omega
    injection hv with hA _ hc
    subst hA hc
    have hg' : Blk w g 34 cur := hg
    have h0 : ∀ W, Below w.heap.size w W → DelI g c p l w k (k + 1) W := fun W hW => ⟨by omega, hkl, hk.symm, Only.of_below hW, cur, hg'.below hW hg'.lt, hcs, fun q r hq hr => by
      have h1 := refs_two l q r hr
      have hql := (List.getElem?_eq_some_iff.1 hr).1
      rw [← htk, List.getElem?_take, List.getElem?_take, if_pos (by omega), if_pos (by omega)] at h1
      simpa using h1⟩
    have H0 := Lib.hid (And.intro h0 hcall)
    have hkc : (k : Int) ≤ 1000 := by omega
    have hcn : (c : Int) ≤ 9223372036854775807 := by unfold maxLen at hcm; omega
    have hne1 : ((k : Int) == -1) = false := by simp
    have hcp : 2 * l.length ≤ 2 * c := by omega
    clear h0 hcall hown hg hg' htk hcs hi hk hb0 hcm
    go_enter Try.func26, Try.ntmps26
    go_wp2_with (go_at_call 20; (with_reducible refine HC.out.mono ?_); rintro e w1 ⟨rfl, hb1⟩)
    have HB1 := Lib.hid hb1
    clear hb1
    go_loopw [5, 6, 7] (fun iv jv _ wr => ∃ i j : Nat, iv = .int .i64 i ∧ jv = .int .i64 j ∧ DelI g c p l w i j wr) (fun _ jv _ _ => l.length - (intOf jv).toNat)
    case atStart => exact ⟨k, k + 1, rfl, by push_cast; rfl, H0.out.1 _ HB1.out⟩
    case round =>
      obtain ⟨i, j, rfl, rfl, hI⟩ := hrel
      have HI := Lib.hid hI
      have hij := hI.lt
      have hjl := hI.le
      clear hI
      by_cases hlt : j < l.length
      · have hr := List.getElem?_eq_getElem hlt
        generalize l[j] = r at hr
        obtain ⟨cur2, hB, hsz, hcl⟩ := HI.out.row
        obtain ⟨e1, e2⟩ := hcl j r (Nat.le_refl _) hr
        have q1 : wr.cell? ⟨g, j * 2, none⟩ = some (.int .i64 r.1) := (hB.cell _).trans e1
        have q2 : wr.cell? ⟨g, j * 2 + 1, none⟩ = some (.int .i64 r.2) := (hB.cell _).trans e2
        obtain ⟨b, hpb⟩ : ∃ b, p r = b := ⟨_, rfl⟩
        have hal : Below wr.heap.size wr (wr.alloc (.cells #[.int .i64 r.1, .int .i64 r.2] 34)) := (Below.refl _ _).alloc (Nat.le_refl _) _
        have HCC := Lib.hid (H0.out.2 r (List.mem_of_getElem? hr) (wr.alloc (.cells #[.int .i64 r.1, .int .i64 r.2] 34)) ((HI.out.only.trans (Only.of_below hal)).mono (fun k _ e => by subst e; simp [blkOf])))
        rw [hpb] at HCC
        have hBx : Blk (wr.alloc (.cells #[.int .i64 r.1, .int .i64 r.2] 34)) wr.heap.size 34 #[.int .i64 r.1, .int .i64 r.2] := Blk.new _ _ _
        have hgl := hB.lt
        have HX := Lib.hid (And.intro hr (And.intro hpb (And.intro hal (And.intro hBx (And.intro hB (And.intro hsz hcl))))))
        clear hr hpb hal hBx e1 e2 hB hsz hcl
        have hj1 : (j : Int) ≤ 1000 := by omega
        have hi1 : (i : Int) ≤ 1000 := by omega
        obtain ⟨u1, hu1⟩ : ∃ u, cur2[i * 2]? = some u := ⟨_, Array.getElem?_eq_getElem (by have := HX.out.2.2.2.2.2.1; omega)⟩
        obtain ⟨u2, hu2⟩ : ∃ u, cur2[i * 2 + 1]? = some u := ⟨_, Array.getElem?_eq_getElem (by have := HX.out.2.2.2.2.2.1; omega)⟩
        have HU := Lib.hid (fun (w3 : World) (hb3 : Below (wr.alloc (.cells #[.int .i64 r.1, .int .i64 r.2] 34)).heap.size (wr.alloc (.cells #[.int .i64 r.1, .int .i64 r.2] 34)) w3) =>
          have hB3 : Blk w3 g 34 cur2 := (HX.out.2.2.2.2.1.alloc _).below hb3 (HX.out.2.2.2.2.1.alloc _).lt
          (show w3.cell? ⟨g, i * 2, none⟩ = some u1 ∧ w3.cell? ⟨g, i * 2 + 1, none⟩ = some u2 ∧ w3.frozen? ⟨g, i * 2, none⟩ = false ∧ w3.frozen? ⟨g, i * 2 + 1, none⟩ = false ∧ Blk w3 g 34 cur2 from ⟨(hB3.cell _).trans hu1, (hB3.cell _).trans hu2, hB3.frozen _, hB3.frozen _, hB3⟩))
        clear hu1 hu2
        cases b with
        | true =>
          go_wp2_with (go_at_call 27; (with_reducible refine HCC.out.mono ?_); rintro e w3 ⟨rfl, hb3⟩)
          have HEND : DelI g c p l w i (j + 1) w3 := by
            obtain ⟨hr, hpb, hal, hBx, hB, hsz, hcl⟩ := HX.out
            have hB3 := (HU.out w3 hb3).2.2.2.2
            refine ⟨by omega, by omega, ?_, (HI.out.only.trans (Only.of_below hal)).trans (Only.of_below hb3), _, hB3, hsz, fun q s hq hs => hcl q s (by omega) hs⟩
            rw [List.take_add_one, hr, Option.toList_some, keptN_snoc, hpb, if_pos rfl, ← HI.out.cnt]
            rfl
          exact ⟨⟨i, j + 1, rfl, by push_cast; rfl, HEND⟩, by simp [intOf]; omega⟩
        | false =>
          go_wp2_with (go_at_call 27; (with_reducible refine HCC.out.mono ?_); rintro e w3 ⟨rfl, hb3⟩; have y1 := ((HX.out.2.2.2.1.below hb3 HX.out.2.2.2.1.lt).cell 0); have y2 := ((HX.out.2.2.2.1.below hb3 HX.out.2.2.2.1.lt).cell 1); simp at y1 y2; obtain ⟨z1, z2, f1, f2, _⟩ := HU.out w3 hb3)
          have HEND : DelI g c p l w (i + 1) (j + 1) ((w3.setCell ⟨g, i * 2, none⟩ (.int .i64 r.1)).setCell ⟨g, i * 2 + 1, none⟩ (.int .i64 r.2)) := by
            obtain ⟨hr, hpb, hal, hBx, hB, hsz, hcl⟩ := HX.out
            have hB3 := (HU.out w3 hb3).2.2.2.2
            have ho : Only (· = g) w ((w3.setCell ⟨g, i * 2, none⟩ (.int .i64 r.1)).setCell ⟨g, i * 2 + 1, none⟩ (.int .i64 r.2)) := (((HI.out.only.trans (Only.of_below hal)).trans (Only.of_below hb3)).setCell (p := ⟨g, i * 2, none⟩) rfl _).setCell (p := ⟨g, i * 2 + 1, none⟩) rfl _
            refine ⟨by omega, by omega, ?_, ho, _, (hB3.set_ _ _).set_ _ _, by simp [hsz], fun q s hq hs => ?_⟩
            · rw [List.take_add_one, hr, Option.toList_some, keptN_snoc, hpb, if_neg (by decide), ← HI.out.cnt]
            · have h1 := hcl q s (by omega) hs
              rw [Array.getElem?_setIfInBounds_ne (by omega), Array.getElem?_setIfInBounds_ne (by omega), Array.getElem?_setIfInBounds_ne (by omega), Array.getElem?_setIfInBounds_ne (by omega)]
              exact h1
          exact ⟨⟨i + 1, j + 1, by push_cast; rfl, by push_cast; rfl, HEND⟩, by simp [intOf]; omega⟩
      · obtain rfl : j = l.length := by omega
        obtain ⟨m, hm⟩ : ∃ m, l.length - i = m + 1 := ⟨l.length - i - 1, by omega⟩
        obtain ⟨cur2, hB, hsz, hcl⟩ := HI.out.row
        have hs : ∀ w, (Go.sizeOf 34).run Try.prog w = .ok 2 w := by intro w; kernel_rfl
        have he : Try.prog.elem 28 = 34 := by simp [Program.elem, Try.underlying28]
        have hsl1 : ∀ W, (Instr.slice 28 (.slice (some ⟨g, 0, none⟩) l.length c) (some (.int .i64 (i : Int))) none none).run Try.prog W = .ok (.slice (some ⟨g, i * 2, none⟩) (m + 1) (c - i)) W := fun W => by
          rw [run_slice_l W 28 _ l.length c (by rw [he]; exact Try.underlying28) .i64 (i : Int) (by omega) (by omega), he, hs]
          simp only [Result.andThen, sliced, Int.toNat_natCast]
          rw [if_neg (by omega), hm]
          simp [Addr.add_lit]
        have hsl2 : ∀ W, (Instr.slice 28 (.slice (some ⟨g, 0, none⟩) l.length c) none (some (.int .i64 (i : Int))) none).run Try.prog W = .ok (.slice (some ⟨g, 0, none⟩) i c) W := fun W => by
          rw [run_slice_h W 28 _ l.length c (by rw [he]; exact Try.underlying28) .i64 i (by omega) (by omega), he, hs]
          simp [Result.andThen, sliced, Addr.add]
        have hzs : (zTwo : Value).cells.size = 2 := by decide
        have hcl1 : ∀ ty, (Builtin.clear_ #[28] ty #[.slice (some ⟨g, i * 2, none⟩) (m + 1) (c - i)]).run Try.prog wr = .ok (.tuple #[]) (wr.setCells g (i * 2) (Builtin.zeroCells (zTwo : Value).cells (m + 1)).toList) := fun ty =>
          run_clear_many wr _ _ ty zTwo Try.underlying28 (by intro w; kernel_rfl) g (i * 2) _ m (by decide) (by decide) (fun q hq => by
            rw [hzs] at hq
            rw [hB.cell, Array.getElem?_eq_getElem (by omega)]
            rfl) (fun q _ => hB.frozen _)
        have HCL := Lib.hid hcl1
        have HEND := Lib.hid (HI.out.only.trans (setCells_only (Builtin.zeroCells (zTwo : Value).cells (m + 1)).toList wr g (i * 2)))
        have hi1 : (i : Int) ≤ 1000 := by omega
        have HCNT := Lib.hid HI.out.cnt
        clear hs he hcl1 hm hB hsz hcl hzs
        obtain ⟨W9, hW9⟩ : ∃ W9, W9 = wr.setCells g (i * 2) (Builtin.zeroCells (zTwo : Value).cells (m + 1)).toList := ⟨_, rfl⟩
        rw [← hW9] at HCL HEND
        clear hW9
        go_wp2_with (first | ((with_reducible refine wpList_clear_run (o := ⟨none, _, _, _, _, _⟩) _ ?g1 (.tmp 38) 28 ?g2 (.slice (some ⟨g, i * 2, none⟩) (m + 1) (c - i)) ?g3 (HCL.out _) ?_); (case g1 => rfl); (case g2 => rfl); (case g3 => rfl)) | fail)
        go_ret
        refine ⟨c, ?_, HEND.out.mono (fun k _ e => by subst e; simp [blkOf])⟩
        have := HCNT.out
        rw [List.take_length] at this
        rw [← this]
        rfl
end Go.Proofs.Ytdenaejhfgmihaa
