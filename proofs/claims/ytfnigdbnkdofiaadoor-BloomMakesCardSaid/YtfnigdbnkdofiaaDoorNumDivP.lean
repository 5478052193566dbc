/- Division by 2^64, word by word: plain; and what is known in its loops. -/
import Derived.Test.YtfnigdbnkdofiaaDoorNumDiv1
namespace Go.Proofs.YtfnigdbnkdofiaaDoor
open Go.RowKit
set_option linter.unusedVariables false
set_option linter.unusedSimpArgs false

/-- The row where word k + 2 is the highest that is left. -/
def divU (U0 : List Nat) (k : Nat) : List Nat := U0.take (k + 2) ++ (U0.getD (k + 2) 0 % 2147483648) :: List.replicate (U0.length - (k + 3)) 0
theorem divU_len {U0 : List Nat} {k : Nat} (h : k + 3 ≤ U0.length) : (divU U0 k).length = U0.length := by
  simp [divU]; omega
theorem divU_hi {U0 : List Nat} {k : Nat} (h : k + 3 ≤ U0.length) : (divU U0 k)[k + 2]? = some (U0.getD (k + 2) 0 % 2147483648) := by
  unfold divU
  rw [List.getElem?_append_right (by simp; omega)]
  simp [List.length_take, Nat.min_eq_left (show k + 2 ≤ U0.length by omega)]
theorem divU_lo {U0 : List Nat} {k i : Nat} (hi : i < k + 2) (h : k + 3 ≤ U0.length) : (divU U0 k)[i]? = some (U0.getD i 0) := by
  unfold divU
  rw [List.getElem?_append_left (by simp; omega), List.getElem?_take, if_pos hi, List.getElem?_eq_getElem (by omega)]
  simp [List.getD, List.getElem?_eq_getElem (show i < U0.length by omega)]
theorem divU_start {U0 : List Nat} {k : Nat} (h : k + 3 = U0.length) (h0 : U0.getD (k + 2) 0 = 0) : U0 = divU U0 k := by
  unfold divU
  rw [h0, h, Nat.sub_self]
  have h1 : k + 2 < U0.length := by omega
  have h2 : U0[k + 2] = 0 := by simpa [List.getD, List.getElem?_eq_getElem h1] using h0
  conv => lhs; rw [← List.take_append_drop (k + 2) U0]
  rw [List.drop_eq_getElem_cons h1, h2, List.drop_of_length_le (by omega)]
  rfl
theorem divU_step {U0 : List Nat} {j : Nat} (h : j + 4 ≤ U0.length) : ((divU U0 (j + 1)).set (j + 2) (U0.getD (j + 2) 0 % 2147483648)).set (j + 3) 0 = divU U0 j := by
  apply List.ext_getElem?
  intro i
  have hl1 : (divU U0 (j + 1)).length = U0.length := divU_len (by omega)
  have hl2 : (divU U0 j).length = U0.length := divU_len (by omega)
  by_cases hi : i < U0.length
  · by_cases h3 : i = j + 3
    · subst h3
      rw [List.getElem?_set_self (by simp [hl1]; omega)]
      unfold divU
      rw [List.getElem?_append_right (by simp; omega)]
      simp [List.length_take, Nat.min_eq_left (show j + 2 ≤ U0.length by omega), List.getElem?_cons, List.getElem?_replicate]
      omega
    · rw [List.getElem?_set_ne (by omega)]
      by_cases h2 : i = j + 2
      · subst h2
        rw [List.getElem?_set_self (by rw [hl1]; omega), divU_hi (by omega)]
      · rw [List.getElem?_set_ne (by omega)]
        by_cases h1 : i < j + 2
        · rw [divU_lo (by omega) (by omega), divU_lo h1 (by omega)]
        · unfold divU
          rw [List.getElem?_append_right (by simp; omega), List.getElem?_append_right (by simp; omega)]
          simp only [List.length_take, Nat.min_eq_left (show j + 1 + 2 ≤ U0.length by omega), Nat.min_eq_left (show j + 2 ≤ U0.length by omega)]
          rw [List.getElem?_cons, List.getElem?_cons, if_neg (by omega), if_neg (by omega), List.getElem?_replicate, List.getElem?_replicate, if_pos (by omega), if_pos (by omega)]
  · rw [List.getElem?_eq_none (by simp [hl1]; omega), List.getElem?_eq_none (by rw [hl2]; omega)]
theorem divU_words {U0 : List Nat} (h : ∀ y ∈ U0, y < 4294967296) (k : Nat) : ∀ y ∈ divU U0 k, y < 4294967296 := by
  intro y hy
  unfold divU at hy
  rcases List.mem_append.1 hy with hy | hy
  · exact h y (List.mem_of_mem_take hy)
  · rcases List.mem_cons.1 hy with rfl | hy
    · omega
    · have := (List.mem_replicate.1 hy).2; omega
theorem divU_done {U0 : List Nat} (h : 3 ≤ U0.length) (hw : ∀ y ∈ U0, y < 4294967296) : valW (divU U0 0) = valW U0 % 39614081257132168796771975168 := by
  match U0, h with
  | a :: b :: c :: l, _ =>
    have ha := hw a (by simp)
    have hb := hw b (by simp)
    have hc := hw c (by simp)
    have h1 : divU (a :: b :: c :: l) 0 = a :: b :: (c % 2147483648) :: List.replicate l.length 0 := by
      simp [divU]
    rw [h1]
    simp only [valW, valW_zeros]
    omega
theorem div_words {h e : Nat} (hh : h < 2147483648) (he : e < 4294967296) {H : Nat} (hH : H = h * 4294967296 + e) : H / 2147483648 < 4294967296 ∧ H / 2147483648 * 2147483648 % 4294967296 = e - e % 2147483648 ∧ H / 2147483648 * 2147483648 / 4294967296 = h ∧ H % 2147483648 = e % 2147483648 := by
  omega
theorem own_blk {w : World} {base g n : Nat} {e : TypeId} {xs : List Value} (h : w.ownsRow base e 1 (.slice (some ⟨g, 0, none⟩) n n) n xs) (hn : 0 < n) : Blk w g e xs.toArray := by
  rcases h.2 with ⟨hv, h0⟩ | ⟨g', cap, cur, hv, hb, hg, hnc, hcm, hcs, ht⟩
  · omega
  · injection hv with e1 e2 e3
    injection e1 with e1
    injection e1 with e1 _
    subst e1 e3
    unfold Blk
    rw [hg]
    congr
    have : cur.toList.length = n * 1 := by simpa using hcs
    rw [← ht, List.take_of_length_le (by omega)]
theorem SlAt.blk {w : World} {g : Nat} {t : TypeId} {l : List Value} (h : Blk w g t l.toArray) : SlAt w (some ⟨g, 0, none⟩) l :=
  .inr ⟨g, 0, rfl, fun j u hu => by rw [Nat.zero_add, h.cell]; simpa using hu⟩

/-- In the loops. -/
structure DV (w : World) (gu gq gv ov : Nat) (U Q : List Nat) (W : World) : Prop where
  u : Blk W gu 98 (u32s U).toArray
  q : Blk W gq 98 (u32s Q).toArray
  v : SlAt W (some ⟨gv, ov, none⟩) (u32s [0, 0, 2147483648])
  bel : Below w.heap.size w W
  uq : gu ≠ gq
  uv : gu ≠ gv
  qv : gq ≠ gv
  bu : w.heap.size ≤ gu
  bq : w.heap.size ≤ gq
theorem DV.drew {w W : World} {gu gq gv ov : Nat} {U Q : List Nat} (h : DV w gu gq gv ov U Q W) : DV w gu gq gv ov U Q W.drew := ⟨h.u, h.q, h.v, h.bel.drew, h.uq, h.uv, h.qv, h.bu, h.bq⟩
theorem DV.setU {w W : World} {gu gq gv ov : Nat} {U Q : List Nat} (h : DV w gu gq gv ov U Q W) (i x : Nat) : DV w gu gq gv ov (U.set i x) Q (W.setCell ⟨gu, i, none⟩ (.int .u32 x)) := by
  have ho := (Only.refl (fun k => k = gu) W).setCell (p := ⟨gu, i, none⟩) rfl (.int .u32 x)
  refine ⟨?_, h.q.only ho (fun e => h.uq e.symm), h.v.only ho (fun b off s e => by injection e with e; injection e with e _; subst e; exact fun e => h.uv e.symm), h.bel.setCell (p := ⟨gu, i, none⟩) h.bu _, h.uq, h.uv, h.qv, h.bu, h.bq⟩
  have := h.u.set_ i (.int .u32 x)
  rw [← u32s_set]
  simpa using this
theorem DV.setQ {w W : World} {gu gq gv ov : Nat} {U Q : List Nat} (h : DV w gu gq gv ov U Q W) (i x : Nat) : DV w gu gq gv ov U (Q.set i x) (W.setCell ⟨gq, i, none⟩ (.int .u32 x)) := by
  have ho := (Only.refl (fun k => k = gq) W).setCell (p := ⟨gq, i, none⟩) rfl (.int .u32 x)
  refine ⟨h.u.only ho (fun e => h.uq e), ?_, h.v.only ho (fun b off s e => by injection e with e; injection e with e _; subst e; exact fun e => h.qv e.symm), h.bel.setCell (p := ⟨gq, i, none⟩) h.bq _, h.uq, h.uv, h.qv, h.bu, h.bq⟩
  have := h.q.set_ i (.int .u32 x)
  rw [← u32s_set]
  simpa using this
theorem DV.cu {w W : World} {gu gq gv ov : Nat} {U Q : List Nat} (h : DV w gu gq gv ov U Q W) {i x : Nat} (hx : U[i]? = some x) : W.cell? ⟨gu, i, none⟩ = some (.int .u32 x) := by
  rw [h.u.cell]; simp [u32s, hx]
theorem DV.cq {w W : World} {gu gq gv ov : Nat} {U Q : List Nat} (h : DV w gu gq gv ov U Q W) {i : Nat} (hx : i < Q.length) : ∃ x, W.cell? ⟨gq, i, none⟩ = some (.int .u32 x) := by
  exact ⟨((Q[i] : Nat) : Int), by rw [h.q.cell]; simp [u32s, List.getElem?_eq_getElem hx]⟩
theorem DV.cv {w W : World} {gu gq gv ov : Nat} {U Q : List Nat} (h : DV w gu gq gv ov U Q W) : W.cell? ⟨gv, ov, none⟩ = some (.int .u32 0) ∧ W.cell? ⟨gv, ov + 1, none⟩ = some (.int .u32 0) ∧ W.cell? ⟨gv, ov + 2, none⟩ = some (.int .u32 2147483648) := by
  obtain ⟨b, o, hA, h0⟩ := h.v.word_at (k := 0) (x := 0) rfl
  obtain ⟨b1, o1, hA1, h1⟩ := h.v.word_at (k := 1) (x := 0) rfl
  obtain ⟨b2, o2, hA2, h2⟩ := h.v.word_at (k := 2) (x := 2147483648) rfl
  injection hA with hA; injection hA with e1 e2; subst e1 e2
  injection hA1 with hA1; injection hA1 with e1 e2; subst e1 e2
  injection hA2 with hA2; injection hA2 with e1 e2; subst e1 e2
  exact ⟨h0, h1, h2⟩
end Go.Proofs.YtfnigdbnkdofiaaDoor
