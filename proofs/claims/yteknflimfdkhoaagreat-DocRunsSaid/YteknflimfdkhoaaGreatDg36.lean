/- slices.DeleteFunc at refs: how many are left. dag.Book.Heads: are there any? -/
import Derived.Test.YteknflimfdkhoaaGreatDg26
import Derived.Test.YteknflimfdkhoaaGreatDg14
import Derived.Test.YteknflimfdkhoaaGreatDg9
import Derived.Outline
import Derived.Test.YteknflimfdkhoaaGreatDg22
namespace Go.Proofs.YteknflimfdkhoaaGreat
open Go.RowKit
set_option linter.unusedVariables false
set_option linter.unusedSimpArgs false

theorem run_clear_many {P : Program} (w : World) (t e ty : TypeId) (z : Value) (ht : P.underlying t = some (.slice e)) (hv : ∀ w, (zeroValue e).run P w = .ok z w) (b o c m : Nat) (hz : 0 < z.cells.size) (h1 : ∀ u ∈ z.cells.toList, u.oneCell' = true)
    (hc : ∀ j, j < (m + 1) * z.cells.size → (w.cell? ⟨b, o + j, none⟩).isSome = true) (hf : ∀ j, j < (m + 1) * z.cells.size → w.frozen? ⟨b, o + j, none⟩ = false) :
    (Builtin.clear_ #[t] ty #[.slice (some ⟨b, o, none⟩) (m + 1) c]).run P w = .ok (.tuple #[]) (w.setCells b o (Builtin.zeroCells z.cells (m + 1)).toList) := by
  have hl : (Builtin.zeroCells z.cells (m + 1)).toList.length = (m + 1) * z.cells.size := by simp [Builtin.zeroCells]
  have h2 : ∀ u ∈ (Builtin.zeroCells z.cells (m + 1)).toList, u.oneCell' = true := by
    intro u hu
    simp [Builtin.zeroCells] at hu
    obtain ⟨i, _, rfl⟩ := hu
    have hlt : i % z.cells.size < z.cells.size := Nat.mod_lt _ hz
    rw [getElem!_pos z.cells _ hlt]
    exact h1 _ (by simp)
  have hst := run_storeCells_cells (P := P) b o (Builtin.zeroCells z.cells (m + 1)).toList 0 w (by rw [hl]; simpa using hc) (by rw [hl]; simpa using hf) h2
  simp only [Nat.add_zero] at hst
  simp [Builtin.clear_, run_underlying ht, hv, hst]
theorem setCells_only : ∀ (vs : List Value) (w : World) (g o : Nat), Only (· = g) w (w.setCells g o vs)
  | [], w, g, o => Only.refl _ _
  | v :: vs, w, g, o => ((Only.refl (· = g) w).setCell (p := ⟨g, o, none⟩) rfl v).trans (setCells_only vs _ g (o + 1))

/-- How many are kept. -/
def keptN (p : Int × Int → Bool) (l : List (Int × Int)) : Nat := (l.filter fun r => !p r).length
theorem keptN_snoc (p : Int × Int → Bool) (l : List (Int × Int)) (r : Int × Int) : keptN p (l ++ [r]) = keptN p l + if p r = true then 0 else 1 := by
  unfold keptN
  rw [List.filter_append]
  cases h : p r <;> simp [h]
def DelFQ (w : World) (A : Option Addr) (p : Int × Int → Bool) (l : List (Int × Int)) (e : Ending) (w' : World) : Prop := ∃ c', e = .returned (.slice A (keptN p l) c') ∧ Only (· ∈ blkOf A) w w' ∧ SlAt w' A (refs (l.filter fun r => !p r))
/-- What holds at each round. -/
structure DelI (g c : Nat) (p : Int × Int → Bool) (l : List (Int × Int)) (w : World) (i j : Nat) (W : World) : Prop where
  lt : i < j
  le : j ≤ l.length
  cnt : i = keptN p (l.take j)
  only : Only (· = g) w W
  row : ∃ cur, Blk W g 33 cur ∧ cur.size = c * 2 ∧ ∀ k r, j ≤ k → l[k]? = some r → cur[k * 2]? = some (.int .i64 r.1) ∧ cur[k * 2 + 1]? = some (.int .i64 r.2)
  kept : ∀ cur, Blk W g 33 cur → ∀ q r, ((l.take j).filter fun r => !p r)[q]? = some r → cur[q * 2]? = some (.int .i64 r.1) ∧ cur[q * 2 + 1]? = some (.int .i64 r.2)
theorem blk_one {w : World} {g : Nat} {t : TypeId} {a b : Array Value} (h : Blk w g t a) (k : Blk w g t b) : a = b := by
  unfold Blk at h k
  rw [h] at k
  injection k with k
  injection k
theorem refs_two : ∀ (l : List (Int × Int)) (k : Nat) (r : Int × Int), l[k]? = some r → (refs l)[k * 2]? = some (.int .i64 r.1) ∧ (refs l)[k * 2 + 1]? = some (.int .i64 r.2)
  | [], k, r, h => by simp at h
  | x :: l, 0, r, h => by simp at h; subst h; exact ⟨rfl, rfl⟩
  | x :: l, k + 1, r, h => by
    have ih := refs_two l k r (by simpa using h)
    rw [show (k + 1) * 2 = k * 2 + 1 + 1 by omega]
    exact ih
theorem idx_facts {p : Int × Int → Bool} {l : List (Int × Int)} : (idxOf p l = -1 ∧ keptN p l = l.length ∧ (l.filter fun r => !p r) = l) ∨ ∃ k : Nat, idxOf p l = (k : Int) ∧ k < l.length ∧ keptN p (l.take (k + 1)) = k ∧ ((l.take (k + 1)).filter fun r => !p r) = l.take k := by
  unfold idxOf
  cases hf : l.findIdx? p with
  | none =>
    left
    rw [List.findIdx?_eq_none_iff] at hf
    refine ⟨rfl, ?_, List.filter_eq_self.2 (fun x hx => by rw [hf x hx]; rfl)⟩
    unfold keptN
    rw [List.filter_eq_self.2 (fun x hx => by rw [hf x hx]; rfl)]
  | some k =>
    right
    obtain ⟨hk, hp, hb⟩ := List.findIdx?_eq_some_iff_getElem.1 hf
    have e : l.take (k + 1) = l.take k ++ [l[k]] := by rw [List.take_succ_eq_append_getElem hk]
    have hfs : ((l.take k).filter fun r => !p r) = l.take k := List.filter_eq_self.2 (fun x hx => by
      obtain ⟨i, hi, rfl⟩ := List.getElem_of_mem hx
      rw [List.getElem_take]
      rw [List.length_take] at hi
      have := hb i (by omega)
      simpa using this)
    refine ⟨k, rfl, hk, ?_, ?_⟩
    · rw [e, keptN_snoc, if_pos hp]
      unfold keptN
      rw [hfs]
      simp
      omega
    · rw [e, List.filter_append, hfs]
      simp [hp]

set_option maxRecDepth 100000 in
set_option maxHeartbeats 2000000 in
theorem delF_any (cap1 : Value) (p : Int × Int → Bool) (l : List (Int × Int)) (A : Option Addr) (c : Nat) (w : World) (hown : w.ownsRow 0 33 2 (.slice A l.length c) l.length (refs l)) (hl : l.length ≤ 1000)
    (hcall : ∀ r ∈ l, ∀ W, Only (· ∈ blkOf A) w W → Calls Tryz.prog 38 #[.agg #[.int .i64 r.1, .int .i64 r.2], cap1] W fun e w' => e = .returned (.bool (p r)) ∧ Below W.heap.size W w') :
    Calls Tryz.prog 36 #[.slice A l.length c, (.func (.func 38) #[] #[cap1])] w (DelFQ w A p l) := by
  have HC := Lib.hid (idx_heads cap1 p l A c w (by unfold maxLen; omega) (SlAt.of_owns hown) (fun r hr W hW => hcall r hr W (Only.of_below hW)))
  rcases idx_facts (p := p) (l := l) with ⟨hi, hk, hke⟩ | ⟨k, hi, hkl, hk, hke⟩
  · rw [hi] at HC
    have HK := Lib.hid (And.intro hk (And.intro hke (SlAt.of_owns hown)))
    clear hi hk hke hcall hown
    go_enter Tryz.func36, Tryz.ntmps36
    go_wp2_with (go_at_call 39; (with_reducible refine HC.out.mono ?_); rintro e w1 ⟨rfl, hb1⟩)
    go_ret
    exact ⟨c, by rw [HK.out.1]; rfl, Only.of_below hb1, by rw [HK.out.2.1]; exact HK.out.2.2.below hb1⟩
  · rw [hi] at HC
    rcases hown.2 with ⟨hv, h0⟩ | ⟨g, cap, cur, hv, hb0, hg, hnc, hcm, hcs, htk⟩
    · omega
    injection hv with hA _ hc
    subst hA hc
    have hg' : Blk w g 33 cur := hg
    have h0 : ∀ W, Below w.heap.size w W → DelI g c p l w k (k + 1) W := fun W hW => ⟨by omega, hkl, hk.symm, Only.of_below hW, ⟨cur, hg'.below hW hg'.lt, hcs, fun q r hq hr => by
      have h1 := refs_two l q r hr
      have hql := (List.getElem?_eq_some_iff.1 hr).1
      rw [← htk, List.getElem?_take, List.getElem?_take, if_pos (by omega), if_pos (by omega)] at h1
      simpa using h1⟩, fun cur2 hcur2 q r hr => by
      have := blk_one hcur2 (hg'.below hW hg'.lt)
      subst this
      rw [hke] at hr
      have hql := (List.getElem?_eq_some_iff.1 hr).1
      rw [List.length_take] at hql
      rw [List.getElem?_take, if_pos (by omega)] at hr
      have h1 := refs_two l q r hr
      rw [← htk, List.getElem?_take, List.getElem?_take, if_pos (by omega), if_pos (by omega)] at h1
      simpa using h1⟩
    have H0 := Lib.hid (And.intro h0 hcall)
    have hkc : (k : Int) ≤ 1000 := by omega
    have hcn : (c : Int) ≤ 9223372036854775807 := by unfold maxLen at hcm; omega
    have hne1 : ((k : Int) == -1) = false := by simp
    have hcp : 2 * l.length ≤ 2 * c := by omega
    clear h0 hcall hown hg hg' htk hcs hi hk hke hb0 hcm
    go_enter Tryz.func36, Tryz.ntmps36
    go_wp2_with (go_at_call 39; (with_reducible refine HC.out.mono ?_); rintro e w1 ⟨rfl, hb1⟩)
    have HB1 := Lib.hid hb1
    clear hb1
    go_loopw [5, 6, 7] (fun iv jv _ wr => ∃ i j : Nat, iv = .int .i64 i ∧ jv = .int .i64 j ∧ DelI g c p l w i j wr) (fun _ jv _ _ => l.length - (intOf jv).toNat)
    case atStart => exact ⟨k, k + 1, rfl, by push_cast; rfl, H0.out.1 _ HB1.out⟩
    case round =>
      obtain ⟨i, j, rfl, rfl, hI⟩ := hrel
      have HI := Lib.hid hI
      have hij := hI.lt
      have hjl := hI.le
      clear hI
      by_cases hlt : j < l.length
      · have hr := List.getElem?_eq_getElem hlt
        generalize l[j] = r at hr
        obtain ⟨cur2, hB, hsz, hcl⟩ := HI.out.row
        obtain ⟨e1, e2⟩ := hcl j r (Nat.le_refl _) hr
        have q1 : wr.cell? ⟨g, j * 2, none⟩ = some (.int .i64 r.1) := (hB.cell _).trans e1
        have q2 : wr.cell? ⟨g, j * 2 + 1, none⟩ = some (.int .i64 r.2) := (hB.cell _).trans e2
        obtain ⟨b, hpb⟩ : ∃ b, p r = b := ⟨_, rfl⟩
        have hal : Below wr.heap.size wr (wr.alloc (.cells #[.int .i64 r.1, .int .i64 r.2] 33)) := (Below.refl _ _).alloc (Nat.le_refl _) _
        have HCC := Lib.hid (H0.out.2 r (List.mem_of_getElem? hr) (wr.alloc (.cells #[.int .i64 r.1, .int .i64 r.2] 33)) ((HI.out.only.trans (Only.of_below hal)).mono (fun k _ e => by subst e; simp [blkOf])))
        rw [hpb] at HCC
        have hBx : Blk (wr.alloc (.cells #[.int .i64 r.1, .int .i64 r.2] 33)) wr.heap.size 33 #[.int .i64 r.1, .int .i64 r.2] := Blk.new _ _ _
        have hgl := hB.lt
        have HX := Lib.hid (And.intro hr (And.intro hpb (And.intro hal (And.intro hBx (And.intro hB (And.intro hsz hcl))))))
        clear hr hpb hal hBx e1 e2 hB hsz hcl
        have hj1 : (j : Int) ≤ 1000 := by omega
        have hi1 : (i : Int) ≤ 1000 := by omega
        obtain ⟨u1, hu1⟩ : ∃ u, cur2[i * 2]? = some u := ⟨_, Array.getElem?_eq_getElem (by have := HX.out.2.2.2.2.2.1; omega)⟩
        obtain ⟨u2, hu2⟩ : ∃ u, cur2[i * 2 + 1]? = some u := ⟨_, Array.getElem?_eq_getElem (by have := HX.out.2.2.2.2.2.1; omega)⟩
        have HU := Lib.hid (fun (w3 : World) (hb3 : Below (wr.alloc (.cells #[.int .i64 r.1, .int .i64 r.2] 33)).heap.size (wr.alloc (.cells #[.int .i64 r.1, .int .i64 r.2] 33)) w3) =>
          have hB3 : Blk w3 g 33 cur2 := (HX.out.2.2.2.2.1.alloc _).below hb3 (HX.out.2.2.2.2.1.alloc _).lt
          (show w3.cell? ⟨g, i * 2, none⟩ = some u1 ∧ w3.cell? ⟨g, i * 2 + 1, none⟩ = some u2 ∧ w3.frozen? ⟨g, i * 2, none⟩ = false ∧ w3.frozen? ⟨g, i * 2 + 1, none⟩ = false ∧ Blk w3 g 33 cur2 from ⟨(hB3.cell _).trans hu1, (hB3.cell _).trans hu2, hB3.frozen _, hB3.frozen _, hB3⟩))
        clear hu1 hu2
        cases b with
        | true =>
          go_wp2_with (go_at_call 38; (with_reducible refine HCC.out.mono ?_); rintro e w3 ⟨rfl, hb3⟩)
          have HEND : DelI g c p l w i (j + 1) w3 := by
            obtain ⟨hr, hpb, hal, hBx, hB, hsz, hcl⟩ := HX.out
            have hB3 := (HU.out w3 hb3).2.2.2.2
            refine ⟨by omega, by omega, ?_, (HI.out.only.trans (Only.of_below hal)).trans (Only.of_below hb3), ⟨_, hB3, hsz, fun q s hq hs => hcl q s (by omega) hs⟩, fun cur3 h3 q s hs => ?_⟩
            rotate_left
            · have := blk_one h3 hB3
              subst this
              refine HI.out.kept _ hB q s ?_
              rw [List.take_add_one, hr, Option.toList_some, List.filter_append] at hs
              simpa [hpb] using hs
            rw [List.take_add_one, hr, Option.toList_some, keptN_snoc, hpb, if_pos rfl, ← HI.out.cnt]
            rfl
          exact ⟨⟨i, j + 1, rfl, by push_cast; rfl, HEND⟩, by simp [intOf]; omega⟩
        | false =>
          go_wp2_with (go_at_call 38; (with_reducible refine HCC.out.mono ?_); rintro e w3 ⟨rfl, hb3⟩; have y1 := ((HX.out.2.2.2.1.below hb3 HX.out.2.2.2.1.lt).cell 0); have y2 := ((HX.out.2.2.2.1.below hb3 HX.out.2.2.2.1.lt).cell 1); simp at y1 y2; obtain ⟨z1, z2, f1, f2, _⟩ := HU.out w3 hb3)
          have HEND : DelI g c p l w (i + 1) (j + 1) ((w3.setCell ⟨g, i * 2, none⟩ (.int .i64 r.1)).setCell ⟨g, i * 2 + 1, none⟩ (.int .i64 r.2)) := by
            obtain ⟨hr, hpb, hal, hBx, hB, hsz, hcl⟩ := HX.out
            have hB3 := (HU.out w3 hb3).2.2.2.2
            have ho : Only (· = g) w ((w3.setCell ⟨g, i * 2, none⟩ (.int .i64 r.1)).setCell ⟨g, i * 2 + 1, none⟩ (.int .i64 r.2)) := (((HI.out.only.trans (Only.of_below hal)).trans (Only.of_below hb3)).setCell (p := ⟨g, i * 2, none⟩) rfl _).setCell (p := ⟨g, i * 2 + 1, none⟩) rfl _
            have hq2 : i * 2 + 1 < cur2.size := by omega
            refine ⟨by omega, by omega, ?_, ho, ⟨_, (hB3.set_ _ _).set_ _ _, by simp [hsz], fun q s hq hs => ?_⟩, fun cur3 h3 q s hs => ?_⟩
            · rw [List.take_add_one, hr, Option.toList_some, keptN_snoc, hpb, if_neg (by decide), ← HI.out.cnt]
            rotate_left
            · have := blk_one h3 ((hB3.set_ _ _).set_ _ _)
              subst this
              have hcnt := HI.out.cnt
              unfold keptN at hcnt
              rw [List.take_add_one, hr, Option.toList_some, List.filter_append, List.filter_cons, List.filter_nil, hpb] at hs
              simp only [Bool.not_false, if_true] at hs
              by_cases hqi : q < i
              · rw [List.getElem?_append_left (by omega)] at hs
                have h1 := HI.out.kept _ hB q s hs
                rw [Array.getElem?_setIfInBounds_ne (by omega), Array.getElem?_setIfInBounds_ne (by omega), Array.getElem?_setIfInBounds_ne (by omega), Array.getElem?_setIfInBounds_ne (by omega)]
                exact h1
              · have hqi2 : q = i := by
                  have := (List.getElem?_eq_some_iff.1 hs).1
                  simp at this
                  omega
                subst hqi2
                rw [List.getElem?_append_right (by omega), show q - _ = 0 by omega] at hs
                have : r = s := by simpa using hs
                subst this
                refine ⟨?_, ?_⟩
                · rw [Array.getElem?_setIfInBounds_ne (by omega), Array.getElem?_setIfInBounds_self_of_lt (by omega)]
                · rw [Array.getElem?_setIfInBounds_self_of_lt (by simp; omega)]
            · have h1 := hcl q s (by omega) hs
              rw [Array.getElem?_setIfInBounds_ne (by omega), Array.getElem?_setIfInBounds_ne (by omega), Array.getElem?_setIfInBounds_ne (by omega), Array.getElem?_setIfInBounds_ne (by omega)]
              exact h1
          exact ⟨⟨i + 1, j + 1, by push_cast; rfl, by push_cast; rfl, HEND⟩, by simp [intOf]; omega⟩
      · obtain rfl : j = l.length := by omega
        obtain ⟨m, hm⟩ : ∃ m, l.length - i = m + 1 := ⟨l.length - i - 1, by omega⟩
        obtain ⟨cur2, hB, hsz, hcl⟩ := HI.out.row
        have hs : ∀ w, (Go.sizeOf 33).run Tryz.prog w = .ok 2 w := by intro w; kernel_rfl
        have he : Tryz.prog.elem 53 = 33 := by simp [Program.elem, Tryz.underlying53]
        have hsl1 : ∀ W, (Instr.slice 53 (.slice (some ⟨g, 0, none⟩) l.length c) (some (.int .i64 (i : Int))) none none).run Tryz.prog W = .ok (.slice (some ⟨g, i * 2, none⟩) (m + 1) (c - i)) W := fun W => by
          rw [run_slice_l W 53 _ l.length c (by rw [he]; exact Tryz.underlying53) .i64 (i : Int) (by omega) (by omega), he, hs]
          simp only [Result.andThen, sliced, Int.toNat_natCast]
          rw [if_neg (by omega), hm]
          simp [Addr.add_lit]
        have hsl2 : ∀ W, (Instr.slice 53 (.slice (some ⟨g, 0, none⟩) l.length c) none (some (.int .i64 (i : Int))) none).run Tryz.prog W = .ok (.slice (some ⟨g, 0, none⟩) i c) W := fun W => by
          rw [run_slice_h W 53 _ l.length c (by rw [he]; exact Tryz.underlying53) .i64 i (by omega) (by omega), he, hs]
          simp [Result.andThen, sliced, Addr.add]
        have hzs : (zTwo : Value).cells.size = 2 := by decide
        have hcl1 : ∀ ty, (Builtin.clear_ #[53] ty #[.slice (some ⟨g, i * 2, none⟩) (m + 1) (c - i)]).run Tryz.prog wr = .ok (.tuple #[]) (wr.setCells g (i * 2) (Builtin.zeroCells (zTwo : Value).cells (m + 1)).toList) := fun ty =>
          run_clear_many wr _ _ ty zTwo Tryz.underlying53 (by intro w; kernel_rfl) g (i * 2) _ m (by decide) (by decide) (fun q hq => by
            rw [hzs] at hq
            rw [hB.cell, Array.getElem?_eq_getElem (by omega)]
            rfl) (fun q _ => hB.frozen _)
        have HCL := Lib.hid hcl1
        have hzl : (Builtin.zeroCells (zTwo : Value).cells (m + 1)).toList.length = (m + 1) * 2 := by simp [Builtin.zeroCells, hzs]
        have hsl : SlAt (wr.setCells g (i * 2) (Builtin.zeroCells (zTwo : Value).cells (m + 1)).toList) (some ⟨g, 0, none⟩) (refs (l.filter fun r => !p r)) := by
          have hk := HI.out.kept _ hB
          rw [List.take_length] at hk
          have hcn2 := HI.out.cnt
          rw [List.take_length] at hcn2
          unfold keptN at hcn2
          have hB2 := (Blk.setCells_ (Builtin.zeroCells (zTwo : Value).cells (m + 1)).toList wr (i * 2) cur2 hB).1
          refine .inr ⟨g, 0, rfl, fun q u hu => ?_⟩
          have hql := (List.getElem?_eq_some_iff.1 hu).1
          rw [refs_length] at hql
          rw [Nat.zero_add, hB2.cell, setL_get _ _ _ _ (by rw [hzl]; omega), if_neg (by omega), ← hu]
          obtain ⟨s, hs⟩ : ∃ s, (l.filter fun r => !p r)[q / 2]? = some s := ⟨_, List.getElem?_eq_getElem (by omega)⟩
          have h1 := hk _ s hs
          have h2 := refs_two _ _ s hs
          rcases Nat.mod_two_eq_zero_or_one q with h | h
          · rw [show q = q / 2 * 2 by omega]
            exact h1.1.trans h2.1.symm
          · rw [show q = q / 2 * 2 + 1 by omega]
            exact h1.2.trans h2.2.symm
        have HEND := Lib.hid (And.intro (HI.out.only.trans (setCells_only (Builtin.zeroCells (zTwo : Value).cells (m + 1)).toList wr g (i * 2))) hsl)
        have hi1 : (i : Int) ≤ 1000 := by omega
        have HCNT := Lib.hid HI.out.cnt
        clear hs he hcl1 hm hB hsz hcl hzs hzl hsl
        obtain ⟨W9, hW9⟩ : ∃ W9, W9 = wr.setCells g (i * 2) (Builtin.zeroCells (zTwo : Value).cells (m + 1)).toList := ⟨_, rfl⟩
        rw [← hW9] at HCL HEND
        clear hW9
        go_wp2_with (first | ((with_reducible refine wpList_clear_run (o := ⟨none, _, _, _, _, _⟩) _ ?g1 (.tmp 38) 53 ?g2 (.slice (some ⟨g, i * 2, none⟩) (m + 1) (c - i)) ?g3 (HCL.out _) ?_); (case g1 => rfl); (case g2 => rfl); (case g3 => rfl)) | fail)
        go_ret
        refine ⟨c, ?_, HEND.out.1.mono (fun k _ e => by subst e; simp [blkOf]), HEND.out.2⟩
        have := HCNT.out
        rw [List.take_length] at this
        rw [← this]
        rfl
end Go.Proofs.YteknflimfdkhoaaGreat
namespace Go.Proofs.YteknflimfdkhoaaGreat
open Go.RowKit Go.Maps
set_option linter.unusedVariables false
set_option linter.unusedSimpArgs false

theorem nodup_injP {L : List PCh} (hn : (L.map PCh.ref).Nodup) {a b : PCh} (ha : a ∈ L) (hb : b ∈ L) (h : a.ref = b.ref) : a = b := by
  have e1 := findC_of hn ha
  have e2 := findC_of hn hb
  rw [h, e2] at e1
  exact (Option.some.inj e1).symm
set_option maxRecDepth 100000 in
set_option maxHeartbeats 1000000 in
theorem heads1_any (db dm : Nat) (Dd : DataW Value) (done : List (Int × Int)) (r : Int × Int) (w : World) (hd : Blk w db 92 #[.map (some dm)]) (hs : SetM w dm Dd done) (hr : I2 r) :
    Calls Tryz.prog 38 #[.agg #[.int .i64 r.1, .int .i64 r.2], .pointer (some ⟨db, 0, none⟩)] w fun e w' => e = .returned (.bool (decide (r ∈ done))) ∧ Below w.heap.size w w' := by
  obtain ⟨W0, hW0⟩ : ∃ W0, W0 = w.alloc (.cells #[.int .i64 r.1, .int .i64 r.2] 33) := ⟨_, rfl⟩
  have hb0 : Below w.heap.size w W0 := by rw [hW0]; exact (Below.refl _ _).alloc (Nat.le_refl _) _
  have c0 : W0.cell? ⟨db, 0, none⟩ = some (.map (some dm)) := (hd.below hb0 hd.lt).cell 0
  have hN : Blk W0 w.heap.size 33 #[.int .i64 r.1, .int .i64 r.2] := by rw [hW0]; exact Blk.new _ _ _
  have c1 : W0.cell? ⟨w.heap.size, 0, none⟩ = some (.int .i64 r.1) := hN.cell 0
  have c2 : W0.cell? ⟨w.heap.size, 1, none⟩ = some (.int .i64 r.2) := hN.cell 1
  obtain ⟨z, hz⟩ : ∃ z, decide (r ∈ done) = z := ⟨_, rfl⟩
  have hq : (Instr.lookup 92 (.map (some dm)) (.agg #[.int .i64 r.1, .int .i64 r.2]) false).run Tryz.prog W0 = .ok (.bool z) W0 := by
    have := run_look pairRef (w := W0) (hs.below hb0).own Tryz.underlying92 (zeroBool _) hr
    rw [hs.look hr, hz] at this
    exact this
  have HB := Lib.hid (And.intro hb0 hW0)
  rw [hz]
  clear hz hb0 hW0 hd hs hN
  go_enter Tryz.func38, Tryz.ntmps38
  go_upto_region 1 with (fail)
  rw [← HB.out.2]
  go_wp2_with fail
  go_ret
  exact ⟨rfl, HB.out.1⟩

/-- Is there one on which none hangs? -/
def headsF (L : List PCh) : List (Int × Int) := (sortR (L.map PCh.ref)).filter fun r => !(L.any fun c => decide (r ∈ c.deps))
def HeadsX (w : World) (L : List PCh) (e : Ending) (w' : World) : Prop := ∃ (A : Option Addr) (c : Nat), e = .returned (.slice A (headsF L).length c) ∧ SlAt w' A (refs (headsF L)) ∧ Below w.heap.size w w' ∧ (∀ b ∈ blkOf A, w.heap.size ≤ b) ∧ (headsF L).length ≤ 120
/-- What has been gone through so far. -/
def HolP (L : List PCh) (left : Lit → Bool) (ol : List (Int × Int)) : Prop := (∀ r ∈ ol, ∃ c ∈ L, r ∈ c.deps) ∧ (∀ c ∈ L, left (rlit c.ref) = false → ∀ d ∈ c.deps, d ∈ ol)
def HeadsQ (w : World) (L : List PCh) (e : Ending) (w' : World) : Prop := ∃ (A : Option Addr) (n c : Nat), e = .returned (.slice A n c) ∧ (n = 0 ↔ L = []) ∧ n ≤ 120 ∧ Below w.heap.size w w'
theorem own_base0H {w : World} {B e sz n : Nat} {v : Value} {xs : List Value} (h : w.ownsRow B e sz v n xs) : w.ownsRow 0 e sz v n xs := by
  obtain ⟨h1, h2⟩ := h
  refine ⟨h1, ?_⟩
  rcases h2 with h2 | ⟨g, cap, cur, hv, hb, hr⟩
  · exact .inl h2
  · exact .inr ⟨g, cap, cur, hv, Nat.zero_le _, hr⟩
theorem own_lowH {w : World} {B e sz n c : Nat} {A : Option Addr} {xs : List Value} (h : w.ownsRow B e sz (.slice A n c) n xs) : ∀ b ∈ blkOf A, B ≤ b := by
  rcases h.2 with ⟨hv, _⟩ | ⟨g, cap, cur, hv, hb, _⟩
  · injection hv with hA _ _
    subst hA
    intro b hb
    cases hb
  · injection hv with hA _ _
    subst hA
    intro b hb'
    simp [blkOf] at hb'
    omega
/-- The last that came: none hangs on it. -/
theorem last_head {w : World} {bk h wt bh : Nat} {Dh Dw Db : DataW Value} {L : List PCh} (H : Dag w bk h wt bh Dh Dw Db L) (hne : L ≠ []) : ∃ r ∈ L.map PCh.ref, ∀ c ∈ L, r ∉ c.deps := by
  rcases List.eq_nil_or_concat L with rfl | ⟨L0, y, hL⟩
  · exact absurd rfl hne
  · rw [List.concat_eq_append] at hL
    subst hL
    refine ⟨y.ref, by simp, fun c hc hd => ?_⟩
    obtain ⟨L1, L2, e⟩ := List.append_of_mem hc
    have hm := H.shut L1 c L2 e y.ref hd
    have hn := H.ndp
    have e2 : L0 ++ [y] = L1 ++ c :: L2 := e
    have hL1 : ∃ t, L0 = L1 ++ t := by
      rcases List.eq_nil_or_concat L2 with rfl | ⟨L3, z, hL3⟩
      · exact ⟨[], by have := List.append_inj' (show L0 ++ [y] = L1 ++ [c] from e2) rfl; rw [this.1]; simp⟩
      · rw [List.concat_eq_append] at hL3
        subst hL3
        exact ⟨c :: L3, by have := List.append_inj' (show L0 ++ [y] = (L1 ++ c :: L3) ++ [z] by rw [e2]; simp) rfl; exact this.1⟩
    obtain ⟨t, ht⟩ := hL1
    rw [List.map_append, List.nodup_append] at hn
    exact hn.2.2 y.ref (by rw [ht, List.map_append]; exact List.mem_append.2 (.inl hm)) y.ref (by simp) rfl

set_option maxRecDepth 100000 in
set_option maxHeartbeats 4000000 in
theorem heads_is (bk h wt bh : Nat) (Dh Dw Db : DataW Value) (L : List PCh) (w : World) (H : Dag w bk h wt bh Dh Dw Db L) :
    Calls Tryz.prog 16 #[.pointer (some ⟨bk, 0, none⟩)] w (HeadsX w L) := by
  have hmm := @run_makeMap Tryz.prog
  obtain ⟨W2, hW2⟩ : ∃ W2, W2 = (w.alloc (.map #[] 0)).alloc (.cells #[.map (some w.heap.size)] 92) := ⟨_, rfl⟩
  have hb2 : Below w.heap.size w W2 := by rw [hW2]; exact ((Below.refl _ _).alloc (Nat.le_refl _) _).alloc (by simp) _
  obtain ⟨dm, hdm⟩ : ∃ dm, dm = w.heap.size := ⟨_, rfl⟩
  have hd2 : Blk W2 (dm + 1) 92 #[.map (some dm)] := by rw [hW2, hdm]; exact Blk.newer _ _ _ (by simp)
  have hm2 : SetM W2 dm (.map []) [] := by
    refine ⟨?_, fun r hr => by rw [mget_empty]; rfl⟩
    have := (World.ownsMap_made w Tryz.prog 33 anyElem).alloc (.cells #[.map (some w.heap.size)] 92)
    rw [← hW2, ← hdm] at this
    exact OM.of this
  have hs2 : W2.heap.size = dm + 2 := by rw [hW2, hdm]; simp
  have H2 := Lib.hid (And.intro hb2 (And.intro hd2 (And.intro hm2 (And.intro H (And.intro hW2 (And.intro hdm hs2))))))
  have p1 : W2.cell? ⟨bk, 0, none⟩ = some (.map (some h)) := (H.below hb2).bkm.blk.cell 0
  have HO := (show W2.ownsMap Tryz.prog 33 anyElem h (Maps.size Dh) Dh from (H.below hb2).bkm.has)
  have hsz : Maps.size Dh ≤ 120 := by have := H.sz; omega
  clear hb2 hd2 hm2 H hW2 hdm hs2
  go_enter Tryz.func16, Tryz.ntmps16
  go_upto_region 2 with (fail)
  rw [← H2.out.2.2.2.2.1, ← H2.out.2.2.2.2.2.1]
  go_wp2_with (first | (at_range; refine wpList_range_own _ rfl _ 93 rfl 33 65 keyedRef Tryz.underlying93 _ h _ _ rfl HO ?_; intro w1 hrg1 hg1 hs1) | fail)
  go_frame
  obtain ⟨it, hit⟩ : ∃ it, it = W2.heap.size := ⟨_, rfl⟩
  rw [← hit] at hrg1 ⊢
  have ho1 : Only (fun _ => False) W2 w1 := only_grown0 hg1
  have hb1 : Below W2.heap.size W2 w1 := ho1.below (Nat.le_refl _) (fun _ _ h => h)
  have HI := Lib.hid (And.intro hrg1 (And.intro hb1 (And.intro hit hs1)))
  clear hrg1 hg1 hs1 ho1 hb1 hit p1 HO
  go_loopw [5, 7] (fun _ _ wj => ∃ (left : Lit → Bool) (cnt : Nat), wj.ranges Tryz.prog 33 anyElem h it (Maps.size Dh) Dh left cnt ∧ Only (fun i => i = dm ∨ i = it) w1 wj ∧ ∃ Dd ol, SetM wj dm Dd ol ∧ HolP L left ol ∧ Maps.size Dd + 12 * cnt ≤ 1440) (fun _ _ wj => wj.rangeLeft h it)
  case atStart => exact ⟨_, _, HI.out.1, Only.refl _ _, .map [], [], H2.out.2.2.1.below HI.out.2.1, ⟨fun r hr => (by cases hr), fun c hc h0 => by
      have hr := (chE_good (H2.out.2.2.2.1.good c hc).2).i2
      rw [hasD_ref H2.out.2.2.2.1.bkm.has hr, (H2.out.2.2.2.1.hasB_mem hr).2 (List.mem_map_of_mem hc)] at h0
      cases h0⟩, by have : Maps.size (DataW.map [] : DataW Value) = 0 := rfl; omega⟩
  case round =>
    obtain ⟨left, cnt, hrg, honly, Dd, ol, hset, hol, hds⟩ := hrel
    have hwd : w.heap.size = dm := H2.out.2.2.2.2.2.1.symm
    have hitd : it = dm + 2 := by rw [HI.out.2.2.1]; exact H2.out.2.2.2.2.2.2
    have hbw : Below w.heap.size w wr := (H2.out.1.trans (HI.out.2.1.mono H2.out.1.size)).trans (honly.below (Nat.le_trans H2.out.1.size HI.out.2.1.size) (fun k hk e => by omega))
    have hDw := H2.out.2.2.2.1.below hbw
    have hdx : Blk wr (dm + 1) 92 #[.map (some dm)] := (H2.out.2.1.below HI.out.2.1 H2.out.2.1.lt).only honly (fun e => by omega)
    have HR := Lib.hid (And.intro honly (And.intro hset (And.intro hol (And.intro hds (And.intro hbw (And.intro hDw hdx))))))
    have HN := Lib.hid (And.intro hwd hitd)
    clear honly hset hol hds hbw hDw hdx hwd hitd
    go_wp2_with (first | (at_next; refine wpList_next_pair _ rfl _ rfl 33 pairRef h it _ Dh _ _ rfl hrg ?_ ?_) | fail)
    · intro hc0 hl0
      have HL0 := Lib.hid hl0
      clear hc0 hl0 hrg
      have p1 : wr.cell? ⟨bk, 0, none⟩ = some (.map (some h)) := HR.out.2.2.2.2.2.1.bkm.blk.cell 0
      have HO2 := Lib.hid (show wr.ownsMap Tryz.prog 33 anyElem h (Maps.size Dh) Dh from HR.out.2.2.2.2.2.1.bkm.has)
      go_wp2_with (first
        | (go_at_call 37; (with_reducible refine (rising_any h _ Dh _ HO2.out (by omega)).mono ?_); rintro e w4 ⟨l, A, cA, hk, hl, rfl, hown, hb4⟩; have HK := Lib.hid (And.intro hk (And.intro hl (And.intro hown hb4))); clear hk hl hown hb4; have hll : (sortR l).length ≤ 120 := (by rw [sortR_len]; have := HK.out.2.1; omega); rw [← sortR_len l])
        | (go_at_call 36; (with_reducible refine (delF_any (.pointer (some ⟨dm + 1, 0, none⟩)) (fun r => decide (r ∈ ol)) (sortR l) A cA _ (by rw [sortR_len]; exact own_base0H HK.out.2.2.1) (by omega) ?hc).mono ?_); (case hc => exact (fun r hr W hW => heads1_any (dm + 1) dm Dd ol r W ((HR.out.2.2.2.2.2.2.below HK.out.2.2.2 HR.out.2.2.2.2.2.2.lt).only hW (fun e => by have h1 := own_lowH HK.out.2.2.1 _ e; have h2 := HR.out.2.2.2.2.2.2.lt; omega)) ((HR.out.2.1.below HK.out.2.2.2).only hW (fun e => by have h1 := own_lowH HK.out.2.2.1 _ e; have h2 := HR.out.2.1.own.lt; omega)) (HK.out.1.i2 r ((sortR_mem l r).1 hr)))); rintro e w5 ⟨c', rfl, ho5, hk5⟩))
      go_ret
      have hbw := HR.out.2.2.2.2.1
      have hb4 := HK.out.2.2.2
      have hp := HK.out.1.perm HR.out.2.2.2.2.2.1
      have hf : ((sortR l).filter fun r => !decide (r ∈ ol)) = headsF L := by
        unfold headsF
        rw [sortR_eq hp]
        refine List.filter_congr fun r _ => ?_
        refine congrArg (fun b => !b) ?_
        rw [Bool.eq_iff_iff, decide_eq_true_eq, List.any_eq_true]
        constructor
        · intro h
          obtain ⟨c, hc, hd⟩ := HR.out.2.2.1.1 r h
          exact ⟨c, hc, by simpa using hd⟩
        · rintro ⟨c, hc, hd⟩
          exact HR.out.2.2.1.2 c hc (HL0.out _) r (by simpa using hd)
      rw [hf] at hk5
      refine ⟨A, c', by unfold keptN; rw [hf]; rfl, hk5, (hbw.trans (hb4.mono hbw.size)).trans (ho5.below (Nat.le_trans hbw.size hb4.size) (fun k hk e => by have := own_lowH HK.out.2.2.1 _ e; have := hbw.size; omega)), fun b hb => by have := own_lowH HK.out.2.2.1 _ hb; have := hbw.size; omega, ?_⟩
      rw [← hf]
      exact Nat.le_trans (List.length_filter_le _ _) hll
    · intro x1 x2 v w2 cnt2 hx hl2 hat hrg2 hlt2 ho2 hs2 hen2
      obtain ⟨x, hxL, hxr, rfl⟩ : ∃ x ∈ L, x.ref = (x1, x2) ∧ v = x.value := by
        rw [HR.out.2.2.2.2.2.1.has _ hx] at hat
        obtain ⟨x, hf, e⟩ := Option.map_eq_some_iff.1 hat
        exact ⟨x, (findC_some hf).1, (findC_some hf).2, e.symm⟩
      have HXR := Lib.hid (show ∀ c ∈ L, (left (rlit c.ref) && !(rlit c.ref).sameKey (rlit (x1, x2))) = false → c = x ∨ left (rlit c.ref) = false from fun c hc h => by
        rw [left_struck pairRef hx ((chE_good (H2.out.2.2.2.1.good c hc).2).i2)] at h
        by_cases e : c.ref = (x1, x2)
        · exact .inl (nodup_injP H2.out.2.2.2.1.ndp hc hxL (e.trans hxr.symm))
        · simp [e] at h
          exact .inr h)
      clear hxr
      unfold PCh.value at hen2 ⊢
      have hg := chE_good (HR.out.2.2.2.2.2.1.good x hxL).2
      have hd12 := hg.deps
      have hxI := (HR.out.2.2.2.2.2.1.good x hxL).1
      obtain ⟨W5, hW5⟩ : ∃ W5, W5 = w2.alloc (.cells #[.int .i64 x.actor, .int .i64 x.seq, .int .i64 x.start, .slice x.dA x.deps.length x.dc, .slice x.oA x.ops.length x.oc] 65) := ⟨_, rfl⟩
      have hb5 : Below w2.heap.size w2 W5 := by rw [hW5]; exact (Below.refl _ _).alloc (Nat.le_refl _) _
      have hX5 : Blk W5 w2.heap.size 65 #[.int .i64 x.actor, .int .i64 x.seq, .int .i64 x.start, .slice x.dA x.deps.length x.dc, .slice x.oA x.ops.length x.oc] := by rw [hW5]; exact Blk.new _ _ _
      have hlc := hrg.left_eq
      have h2b : Below wr.heap.size wr w2 ∨ True := .inr trivial
      have hw2 : Below w.heap.size wr w2 := ho2.below HR.out.2.2.2.2.1.size (fun k hk e => by have h1 := HN.out.1; have h2 := HN.out.2; have : k = it := e; omega)
      have hbw5 : Below w.heap.size w W5 := (HR.out.2.2.2.2.1.trans hw2).trans (hb5.mono (Nat.le_trans HR.out.2.2.2.2.1.size ho2.size))
      have hdm2 : ¬ (dm = it) := by have h2 := HN.out.2; omega
      have hset5 := (HR.out.2.1.only ho2 hdm2).below hb5
      have hdx5 : Blk W5 (dm + 1) 92 #[.map (some dm)] := (HR.out.2.2.2.2.2.2.only ho2 (fun e => by have h2 := HN.out.2; have : dm + 1 = it := e; omega)).below hb5 (by have := HR.out.2.2.2.2.2.2.lt; omega)
      have hI5 : InC W5 x := (H2.out.2.2.2.1.good x hxL).1.below hbw5
      have hrg5 : W5.ranges Tryz.prog 33 anyElem h it (Maps.size Dh) Dh (fun z => left z && !z.sameKey (rlit (x1, x2))) cnt2 := by rw [hW5]; exact hrg2.alloc _
      have ho5 : Only (fun i => i = dm ∨ i = it) w1 W5 := (HR.out.1.trans (ho2.mono (fun k _ e => .inr e))).trans (Only.of_below hb5)
      have H5 := Lib.hid (And.intro hX5 (And.intro hset5 (And.intro hdx5 (And.intro hI5 (And.intro hrg5 (And.intro ho5 (And.intro hbw5 (And.intro hlt2 (And.intro hlc hxL)))))))))
      have q3 : W5.cell? ⟨w2.heap.size, 3, none⟩ = some (.slice x.dA x.deps.length x.dc) := hX5.cell 3
      clear hrg hrg2 hat hl2 ho2 hs2 hlt2 hx hxI hg hb5 hX5 hlc h2b hw2 hbw5 hset5 hdx5 hI5 hrg5 ho5 hxL
      go_upto_region 5 with (fail)
      rw [← hW5]
      clear hW5 hen2
      go_wp2_with fail
      clear q3
      go_loopw [21, 7] (fun iv _ wj => ∃ k : Nat, iv = .int .i64 k ∧ k ≤ x.deps.length ∧ Only (fun i => i = dm) W5 wj ∧ ∃ Dd ol, SetM wj dm Dd ol ∧ (HolP L left ol ∧ ∀ d ∈ x.deps.take k, d ∈ ol) ∧ Maps.size Dd + 12 * cnt ≤ 1440 + k) (fun iv _ _ => x.deps.length - (intOf iv).toNat)
      case atStart => exact ⟨0, rfl, Nat.zero_le _, Only.refl _ _, Dd, ol, H5.out.2.1, ⟨HR.out.2.2.1, fun d hd => (by simp at hd)⟩, by have := HR.out.2.2.2.1; omega⟩
      case round =>
        obtain ⟨k, rfl, hk, honly, Dd2, ol2, hset, hol, hds⟩ := hrel
        by_cases hlt : k < x.deps.length
        · obtain ⟨b, off, d, ha, hd, hx1, hx2⟩ := (H5.out.2.2.2.1.deps.maps honly (fun i e => by have : i = dm := e; rw [this]; exact H5.out.2.1.own.isMapB)).ref hlt
          have hdi := H5.out.2.2.2.1.dep d (List.mem_of_getElem? hd)
          have hdx : Blk wr (dm + 1) 92 #[.map (some dm)] := H5.out.2.2.1.only honly (fun e => by have : dm + 1 = dm := e; omega)
          have hal : Below wr.heap.size wr (wr.alloc (.cells #[.int .i64 d.1, .int .i64 d.2] 33)) := (Below.refl _ _).alloc (Nat.le_refl _) _
          have q1 : (wr.alloc (.cells #[.int .i64 d.1, .int .i64 d.2] 33)).cell? ⟨dm + 1, 0, none⟩ = some (.map (some dm)) := (hdx.below hal hdx.lt).cell 0
          have hm6 : OM (wr.alloc (.cells #[.int .i64 d.1, .int .i64 d.2] 33)) dm Dd2 := hset.own.below hal
          have hmx : Maps.size Dd2 < maxLen := by unfold maxLen; omega
          have hk12 : (k : Int) ≤ 12 := by omega
          have HS := Lib.hid (And.intro honly (And.intro hset (And.intro hol (And.intro hds (And.intro hd (And.intro hal hm6))))))
          clear honly hset hol hds hd hal hdx
          rw [ha]
          have HAA := Lib.hid ha
          clear ha
          go_wp2_with (first
            | (at_mapUpdate; refine wpList_upd _ rfl _ _ _ 92 rfl 33 4 pairRef Tryz.underlying92 dm _ Dd2 rfl hm6 hmx d rfl hdi (.bool true) rfl ?_; intro w7 hm7 ho7 hs7; go_frame)
            | fail)
          have HE : Only (fun i => i = dm) W5 w7 ∧ ∃ Dd ol, SetM w7 dm Dd ol ∧ (HolP L left ol ∧ ∀ d ∈ x.deps.take (k + 1), d ∈ ol) ∧ Maps.size Dd + 12 * cnt ≤ 1440 + (k + 1) := by
            obtain ⟨honly, hset, hol, hds, hd, hal, hm6'⟩ := HS.out
            refine ⟨(honly.alloc _).trans ho7, _, d :: ol2, ⟨OM.of hm7, fun r hr => ?_⟩, ⟨⟨fun r hr => ?_, fun c hc h0 e he => List.mem_cons_of_mem _ (hol.1.2 c hc h0 e he)⟩, fun e he => ?_⟩, ?_⟩
            · rw [hm6'.get_put hdi hr, hset.get r hr]
              by_cases e : r = d <;> simp [e]
            · rcases List.mem_cons.1 hr with rfl | hr
              · exact ⟨x, H5.out.2.2.2.2.2.2.2.2.2, List.mem_of_getElem? hd⟩
              · exact hol.1.1 r hr
            · rw [List.take_add_one, hd] at he
              rcases List.mem_append.1 he with he | he
              · exact List.mem_cons_of_mem _ (hol.2 e he)
              · simp at he
                rw [he]
                exact List.mem_cons_self
            · have := hset.own.size_put d (.held (.bool true))
              omega
          exact ⟨⟨k + 1, by push_cast; rfl, by omega, HE⟩, by simp [intOf]; omega⟩
        · obtain rfl : k = x.deps.length := by omega
          have HS := Lib.hid (And.intro honly (And.intro hset (And.intro hol hds)))
          clear honly hset hol hds
          go_wp2_with fail
          obtain ⟨honly, hset, hol, hds⟩ := HS.out
          have hit5 : it < W5.heap.size := by
            have h1 := H5.out.2.2.2.2.2.1.size
            have h2 := HI.out.2.2.2
            have h3 := HI.out.2.2.1
            omega
          have hne1 : ¬ (h = dm) := fun e => by
            have h1 := H2.out.2.2.2.1.bkm.has.lt
            have h2 := HN.out.1
            omega
          have hne2 : ¬ (it = dm) := by have := HN.out.2; omega
          refine ⟨⟨_, cnt2, ranges_only H5.out.2.2.2.2.1 honly hne1 hne2, H5.out.2.2.2.2.2.1.trans (honly.mono (fun k _ e => .inl e)), Dd2, ol2, hset, ⟨hol.1.1, fun c hc h0 => ?_⟩, ?_⟩, ?_⟩
          · rcases HXR.out c hc h0 with rfl | h0
            · rw [List.take_length] at hol
              exact hol.2
            · exact hol.1.2 c hc h0
          · have := H5.out.2.2.2.2.2.2.2.1
            omega
          · rw [H5.out.2.2.2.2.2.2.2.2.1, (ranges_only H5.out.2.2.2.2.1 honly hne1 hne2).left_eq]
            exact H5.out.2.2.2.2.2.2.2.1
theorem heads_any (bk h wt bh : Nat) (Dh Dw Db : DataW Value) (L : List PCh) (w : World) (H : Dag w bk h wt bh Dh Dw Db L) :
    Calls Tryz.prog 16 #[.pointer (some ⟨bk, 0, none⟩)] w (HeadsQ w L) := by
  refine (heads_is bk h wt bh Dh Dw Db L w H).mono ?_
  rintro e w' ⟨A, c, rfl, h1, h2, h3, h4⟩
  refine ⟨A, _, c, rfl, ⟨fun h0 => Classical.byContradiction fun hne => ?_, fun h0 => by subst h0; unfold headsF; rw [List.map_nil, show sortR ([] : List (Int × Int)) = [] from List.length_eq_zero_iff.1 (sortR_len [])]; rfl⟩, h4, h2⟩
  obtain ⟨r, hr, hno⟩ := last_head H hne
  unfold headsF at h0
  rw [List.length_eq_zero_iff, List.filter_eq_nil_iff] at h0
  refine h0 r ((sortR_mem _ r).2 hr) ?_
  simp only [Bool.not_eq_true', List.any_eq_false, decide_eq_true_eq]
  exact hno
end Go.Proofs.YteknflimfdkhoaaGreat
