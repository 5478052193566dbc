/- Cells stored one behind the other; clear; the row behind a Delete of one element. slices.Delete of one ref: a contract. -/
import Derived.Test.YthimkpkoimfkiaaGreatCg8
import Derived.Deep.RegionLaw
import Derived.Lib.SliceRun
import Derived.Lib.Hide
import Derived.Outline
import Derived.Test.YthimkpkoimfkiaaGreatCg9
namespace Go.Proofs.YthimkpkoimfkiaaGreat
open Go.RowKit
set_option linter.unusedVariables false
set_option linter.unusedSimpArgs false

def setL (cs : Array Value) : Nat → List Value → Array Value
  | _, [] => cs
  | o, v :: vs => setL (cs.setIfInBounds o v) (o + 1) vs
theorem setL_size : ∀ (vs : List Value) (cs : Array Value) (o : Nat), (setL cs o vs).size = cs.size
  | [], _, _ => rfl
  | v :: vs, cs, o => by rw [setL, setL_size vs]; simp
theorem setL_get : ∀ (vs : List Value) (cs : Array Value) (o k : Nat), o + vs.length ≤ cs.size → (setL cs o vs)[k]? = if o ≤ k ∧ k < o + vs.length then vs[k - o]? else cs[k]?
  | [], cs, o, k, _ => by rw [setL, if_neg (by rintro ⟨h1, h2⟩; simp at h2; omega)]
  | v :: vs, cs, o, k, h => by
    simp only [List.length_cons] at h
    rw [setL, setL_get vs _ _ _ (by simp; omega)]
    simp only [List.length_cons]
    by_cases h1 : o + 1 ≤ k ∧ k < o + 1 + vs.length
    · rw [if_pos h1, if_pos (by omega)]
      obtain ⟨j, rfl⟩ : ∃ j, k = o + 1 + j := ⟨k - (o + 1), by omega⟩
      rw [show o + 1 + j - (o + 1) = j by omega, show o + 1 + j - o = j + 1 by omega, List.getElem?_cons_succ]
    · rw [if_neg h1]
      by_cases h2 : k = o
      · subst h2
        rw [if_pos (by omega), Nat.sub_self, List.getElem?_cons_zero, Array.getElem?_setIfInBounds_self_of_lt (by omega)]
      · rw [if_neg (by omega), Array.getElem?_setIfInBounds_ne (by omega)]
theorem Blk.setCells_ {g : Nat} {t : TypeId} : ∀ (vs : List Value) (w : World) (o : Nat) (cs : Array Value), Blk w g t cs → Blk (w.setCells g o vs) g t (setL cs o vs) ∧ Only (· = g) w (w.setCells g o vs)
  | [], w, o, cs, h => ⟨h, Only.refl _ _⟩
  | v :: vs, w, o, cs, h => by
    have h1 := h.set_ o v
    have h2 := Blk.setCells_ vs (w.setCell ⟨g, o, none⟩ v) (o + 1) _ h1
    exact ⟨h2.1, ((Only.refl (· = g) w).setCell (p := ⟨g, o, none⟩) rfl v).trans h2.2⟩

theorem run_clear_one {P : Program} (w : World) (t e ty : TypeId) (z : Value) (ht : P.underlying t = some (.slice e)) (hv : ∀ w, (zeroValue e).run P w = .ok z w) (b o c : Nat) (h1 : ∀ u ∈ z.cells.toList, u.oneCell' = true)
    (hc : ∀ j, j < z.cells.size → (w.cell? ⟨b, o + j, none⟩).isSome = true) (hf : ∀ j, j < z.cells.size → w.frozen? ⟨b, o + j, none⟩ = false) :
    (Builtin.clear_ #[t] ty #[.slice (some ⟨b, o, none⟩) 1 c]).run P w = .ok (.tuple #[]) (w.setCells b o z.cells.toList) := by
  have hzc : (Builtin.zeroCells z.cells 1).toList = z.cells.toList := by
    apply List.ext_getElem
    · simp [Builtin.zeroCells]
    · intro i h1 h2
      simp [Builtin.zeroCells] at h1 h2 ⊢
      rw [Nat.mod_eq_of_lt h2]
      exact getElem!_pos z.cells i h2
  have hst := run_storeCells_cells (P := P) b o z.cells.toList 0 w (by simpa using hc) (by simpa using hf) h1
  simp only [Nat.add_zero] at hst
  simp [Builtin.clear_, run_underlying ht, hv, hzc, hst]

/-- 'clear' where its run is known. -/
theorem wp_clear_run {P : Program} (w : World) {o : Oper} {a : Act} {K : Act → World → Prop} {Q : Exit → Act → World → Prop} (d : Operand) (t : TypeId)
    (ho : o.op = .call { callee := .builtin .clear, args := #[d], argTypes := #[t] }) (v : Value) (hd : a.eval d = v) {v' : Value} {w' : World}
    (hr : (Builtin.clear_ #[t] o.type #[v]).run P w = .ok v' w') (h : K (a.put o.dst v') w') : o.wp P a w K Q := by
  unfold Oper.wp execOp
  simp only [ho, resolve, invoke, builtin, Sem.run_bind, Sem.run_pure, Result.andThen_ok, List.map_toArray, List.map_cons, List.map_nil, hd, hr]
  exact h
theorem wpList_clear_run {P : Program} (w : World) {ops : Array Oper} {rest : List Oper} {o : Oper} {a : Act} {Q : Exit → Act → World → Prop} (hgd : o.guard = none) (d : Operand) (t : TypeId)
    (ho : o.op = .call { callee := .builtin .clear, args := #[d], argTypes := #[t] }) (v : Value) (hd : a.eval d = v) {v' : Value} {w' : World}
    (hr : (Builtin.clear_ #[t] o.type #[v]).run P w = .ok v' w') (h : wpList P ops Q rest (a.put o.dst v') w') : wpList P ops Q (o :: rest) a w :=
  wpList_plain hgd fun _ hK => wp_clear_run w d t ho v hd hr (hK _ _ h)

/-- What the row holds. -/
theorem del_row {cur : Array Value} {xs zs : List Value} {c n i sz : Nat} (hcs : cur.size = c * sz) (htk : cur.toList.take (n * sz) = xs) (hnc : n ≤ c) (hi : i < n) (hz : zs.length = sz) (hsz : 0 < sz) :
    (setL (setL cur (i * sz) (xs.drop ((i + 1) * sz))) ((n - 1) * sz) zs).toList.take ((n - 1) * sz) = xs.take (i * sz) ++ xs.drop ((i + 1) * sz) := by
  have e1 : (i + 1) * sz = i * sz + sz := by rw [Nat.add_mul, Nat.one_mul]
  have e2 : (n - 1) * sz + sz = n * sz := by
    rw [← Nat.succ_mul]
    congr 1
    omega
  have e3 : (i + 1) * sz ≤ n * sz := Nat.mul_le_mul_right _ hi
  have e4 : n * sz ≤ c * sz := Nat.mul_le_mul_right _ hnc
  have hxl : xs.length = n * sz := by rw [← htk, List.length_take, Array.length_toList]; omega
  have hdl : (xs.drop ((i + 1) * sz)).length = n * sz - (i + 1) * sz := by rw [List.length_drop, hxl]
  apply List.ext_getElem?
  intro k
  rw [List.getElem?_take]
  by_cases hk : k < (n - 1) * sz
  · rw [if_pos hk, Array.getElem?_toList, setL_get _ _ _ _ (by rw [setL_size, hz]; omega), if_neg (by omega), setL_get _ _ _ _ (by rw [hdl]; omega), hdl]
    by_cases hk2 : k < i * sz
    · rw [if_neg (by omega), List.getElem?_append_left (by rw [List.length_take]; omega), List.getElem?_take, if_pos hk2, ← htk, List.getElem?_take, if_pos (by omega), Array.getElem?_toList]
    · rw [if_pos (by omega), List.getElem?_append_right (by rw [List.length_take]; omega), List.length_take, Nat.min_eq_left (by omega)]
  · rw [if_neg hk, List.getElem?_eq_none (by rw [List.length_append, List.length_take, hdl]; omega)]
end Go.Proofs.YthimkpkoimfkiaaGreat
namespace Go.Proofs.YthimkpkoimfkiaaGreat
open Go.RowKit
set_option linter.unusedVariables false
set_option linter.unusedSimpArgs false
def DelRQ (E : TypeId) (sz : Nat) (w : World) (A : Option Addr) (n c i : Nat) (xs : List Value) (e : Ending) (w' : World) : Prop :=
  e = .returned (.slice A (n - 1) c) ∧ w'.ownsRow 0 E sz (.slice A (n - 1) c) (n - 1) (xs.take (i * sz) ++ xs.drop ((i + 1) * sz)) ∧ Only (· ∈ blkOf A) w w'


set_option maxRecDepth 100000 in
set_option maxHeartbeats 2000000 in
theorem deleteRef_any (A : Option Addr) (n c i : Nat) (xs : List Value) (w : World) (hown : w.ownsRow 0 33 2 (.slice A n c) n xs) (hn : n ≤ 1000) (hi : i < n) (h2 : ∀ u ∈ xs, u.oneCell' = true) :
    Calls Tryz.prog 42 #[.slice A n c, .int .i64 i, .int .i64 ((i : Int) + 1)] w (DelRQ 33 2 w A n c i xs) := by
  rcases hown.2 with ⟨hv, h0⟩ | ⟨g, cap, cur, hv, hb0, hg, hnc, hcm, hcs, htk⟩
  · omega
  injection hv with hA _ hc
  subst hA hc
  have hxl : xs.length = n * 2 := hown.1
  obtain ⟨inf, hi1, hz1, hs1, hb1⟩ := info_parts (P := Tryz.prog) (e := 33) infoRef
  have hg' : Blk w g 33 cur := hg
  have hnews : (xs.drop ((i + 1) * 2)).length = (n - (i + 1)) * 2 := by rw [List.length_drop, hxl]; omega
  have hsrcv : ∀ j u, (xs.drop ((i + 1) * 2))[j]? = some u → w.drew.cell? ⟨g, (i + 1) * 2 + j, none⟩ = some u := by
    intro j u hu
    rw [List.getElem?_drop, ← htk, List.getElem?_take] at hu
    split at hu
    · rw [Array.getElem?_toList] at hu
      exact (hg'.cell _).trans hu
    · cases hu
  obtain ⟨n1, hn1⟩ : ∃ n1, n1 = n - 1 := ⟨_, rfl⟩
  obtain ⟨S, hS, hsrc⟩ : ∃ S : Addr, (if c = i + 1 then (some ⟨g, 0, none⟩ : Option Addr) else some ⟨g, (i + 1) * 2, none⟩) = some S ∧ Hid (∀ j u, (xs.drop ((i + 1) * 2))[j]? = some u → w.drew.cell? (S.add j) = some u) := by
    by_cases h : c = i + 1
    · refine ⟨⟨g, 0, none⟩, by rw [if_pos h], fun j u hu => ?_⟩
      have h0 : n - (i + 1) = 0 := by omega
      rw [h0, Nat.zero_mul] at hnews
      rw [List.length_eq_zero_iff.1 hnews] at hu
      simp at hu
    · exact ⟨⟨g, (i + 1) * 2, none⟩, by rw [if_neg h], fun j u hu => by rw [Addr.add_lit]; have := hsrcv j u hu; simpa only [Nat.mul_one] using this⟩
  obtain ⟨W1, hW1⟩ : ∃ W1, W1 = w.drew.setCells g (0 + i * 2) (xs.drop ((i + 1) * 2)) := ⟨_, rfl⟩
  obtain ⟨hB1, hO1⟩ := Blk.setCells_ (xs.drop ((i + 1) * 2)) w.drew (0 + i * 2) cur hg'
  rw [← hW1] at hB1 hO1
  have s1 := Lib.hid hnews
  have s2 : Hid (∀ u ∈ xs.drop ((i + 1) * 2), u.oneCell' = true) := Lib.hid (fun u hu => h2 u (List.mem_of_mem_drop hu))
  have s3 : Hid (∀ t, t < (xs.drop ((i + 1) * 2)).length → (w.drew.cell? ⟨g, 0 + i * 2 + t, none⟩).isSome = true ∧ w.drew.frozen? ⟨g, 0 + i * 2 + t, none⟩ = false) := Lib.hid (fun t ht => by
    rw [hnews] at ht
    refine ⟨?_, (show Blk w.drew g _ cur from hg').frozen _⟩
    show (w.cell? _).isSome = true
    rw [hg'.cell, Array.getElem?_eq_getElem (by omega)]
    rfl)
  have hzs : (.agg #[.int .i64 0, .int .i64 0] : Value).cells.size = 2 := by decide
  obtain ⟨W2, hW2⟩ : ∃ W2, W2 = W1.setCells g (n1 * 2) (.agg #[.int .i64 0, .int .i64 0] : Value).cells.toList := ⟨_, rfl⟩
  have hcl : ∀ ty, (Builtin.clear_ #[55] ty #[.slice (some ⟨g, n1 * 2, none⟩) 1 (c - n1)]).run Tryz.prog W1 = .ok (.tuple #[]) W2 := fun ty => by
    rw [hW2]
    exact run_clear_one W1 _ _ ty _ Tryz.underlying55 (by intro w; kernel_rfl) g (n1 * 2) _ (by decide) (fun j hj => by
      rw [hzs] at hj
      rw [hB1.cell, Array.getElem?_eq_getElem (by rw [setL_size]; omega)]
      rfl) (fun j _ => hB1.frozen _)
  obtain ⟨hB2, hO2⟩ := Blk.setCells_ (.agg #[.int .i64 0, .int .i64 0] : Value).cells.toList W1 (n1 * 2) _ hB1
  have HFIN := Lib.hid (show DelRQ 33 2 w (some ⟨g, 0, none⟩) n c i xs (.returned (.slice (some ⟨g, 0, none⟩) (n - 1) c)) W2 from by
    rw [hW2]
    subst hn1
    have hd := del_row (zs := (.agg #[.int .i64 0, .int .i64 0] : Value).cells.toList) hcs htk hnc hi (by simpa using hzs) (by decide)
    try rw [Nat.mul_one (n - 1)] at hd
    have hone : Only (· ∈ blkOf (some ⟨g, 0, none⟩)) w W1 := ((Only.refl (· = g) w).drew.trans hO1).mono (fun k _ h => by subst h; simp [blkOf])
    refine ⟨rfl, ⟨?_, .inr ⟨g, c, _, rfl, hb0, hB2, by omega, hcm, ?_, ?_⟩⟩, hone.trans (hO2.mono (fun k _ h => by subst h; simp [blkOf]))⟩
    · rw [List.length_append, List.length_take, List.length_drop, hxl]; omega
    · rw [setL_size, setL_size]; exact hcs
    · rw [Nat.zero_add]; simpa only [Nat.mul_one] using hd)
  have hW := Lib.hid hW1
  have hni : (n : Int) ≤ 1000 := by omega
  have hii : (i : Int) + 1 ≤ (n : Int) := by omega
  have HNN := Lib.hid (show i + (n - (i + 1)) = n1 by omega)
  have HN1 := Lib.hid hn1
  have hcn : (c : Int) ≤ 9223372036854775807 := by unfold maxLen at hcm; omega
  have hn1c : n1 < n := by omega
  have hs : ∀ w, (Go.sizeOf 33).run Tryz.prog w = .ok 2 w := by intro w; kernel_rfl
  have he : Tryz.prog.elem 55 = 33 := by simp [Program.elem, Tryz.underlying55]
  have hsl1 : ∀ W, (Instr.slice 55 (.slice (some ⟨g, 0, none⟩) n c) none (some (.int .i64 (i : Int))) none).run Tryz.prog W = .ok (.slice (some ⟨g, 0, none⟩) i c) W := fun W => by
    rw [run_slice_h W 55 _ n c (by rw [he]; exact Tryz.underlying55) .i64 i (by omega) (by omega), he, hs]
    simp [Result.andThen, sliced, Addr.add]
  have hsl2 : ∀ W, (Instr.slice 55 (.slice (some ⟨g, 0, none⟩) n c) (some (.int .i64 ((i : Int) + 1))) none none).run Tryz.prog W = .ok (.slice (some S) (n - (i + 1)) (c - (i + 1))) W := fun W => by
    have ht : ((i : Int) + 1).toNat = i + 1 := by omega
    rw [run_slice_l W 55 _ n c (by rw [he]; exact Tryz.underlying55) .i64 ((i : Int) + 1) (by omega) (by omega), he, hs]
    simp only [Result.andThen, sliced, ht]
    rw [← hS]
    simp [Addr.add_lit]
  have hsl3 : ∀ W, (Instr.slice 55 (.slice (some ⟨g, 0, none⟩) n1 c) (some (.int .i64 (n1 : Int))) (some (.int .i64 (n : Int))) none).run Tryz.prog W = .ok (.slice (some ⟨g, n1 * 2, none⟩) 1 (c - n1)) W := fun W => by
    rw [run_slice_lh W 55 _ n1 c (by rw [he]; exact Tryz.underlying55) .i64 .i64 n1 n (by omega) (by omega) (by omega), he, hs]
    simp only [Result.andThen, sliced, Int.toNat_natCast]
    rw [if_neg (by omega), show n - n1 = 1 by omega]
    simp [Addr.add_lit]
  have hne : ((i : Int) == (i : Int) + 1) = false := by
    simp only [beq_eq_false_iff_ne]
    omega
  have HCL := Lib.hid hcl
  clear hcl hW2 hW1 hB1 hO1 hB2 hO2 hg hg' hnews hsrcv hxl htk hcs hown hzs hb0 hS hn1 hs he
  go_enter Tryz.func42, Tryz.ntmps42
  go_wp2_with fail
  go_region_law (refine step_append_room rfl (.tmp 22) (.tmp 25) 55 rfl 33 inf 2 Tryz.underlying55 hi1 hs1 g 0 i c (by simp [Act.eval, Act.put]) S (n - (i + 1)) (c - (i + 1)) (xs.drop ((i + 1) * 2)) (by simp [Act.eval, Act.put]) s1.out hsrc.out s2.out (by omega) s3.out ?_; rw [← hW.out, HNN.out])
  all_goals go_wp2_with (first | ((with_reducible refine wpList_clear_run (o := ⟨none, _, _, _, _, _⟩) _ ?g1 (.tmp 31) 55 ?g2 (.slice (some ⟨g, n1 * 2, none⟩) 1 (c - n1)) ?g3 (HCL.out _) ?_); (case g1 => rfl); (case g2 => rfl); (case g3 => rfl)) | fail)
  all_goals
    go_ret
    rw [← HN1.out] at HFIN
    exact HFIN.out
end Go.Proofs.YthimkpkoimfkiaaGreat
