/- bookref3.index: the contract. -/
import Derived.Test.YtbfmdpgghknccaaDoorSame
import Derived.Test.YtbfmdpgghknccaaDoorIndex
namespace Go.Proofs.YtbfmdpgghknccaaDoor
open Go.RowKit
set_option linter.unusedVariables false
set_option linter.unusedSimpArgs false

/-- The kid of a step, or -1. -/
def ridxN (t : JT) (s : St) : Int := match t.idx s with | some i => (i : Int) | none => -1

theorem ridx_key {T : PT} {s : St} (hf : T.tree.formed = true) (hm : isMapStep T.val s = true) {i : Nat} (h : T.keys[i]? = some s.key) : ridxN T.tree s = i := by
  have h5 : T.val.k = 5 := by unfold isMapStep at hm; simp at hm; exact hm.1.1
  have hrise : Rise T.keys := by
    have h2 := ((JT.formed_iff _).1 hf).1
    unfold JT.top at h2
    rw [PT.tree_val, if_pos h5, PT.tree_keys] at h2
    simp only [Bool.and_eq_true] at h2
    exact ((keysOk_iff _).1 h2.2.2).2
  have hp := plc_of hrise h
  unfold ridxN JT.idx idxO
  rw [PT.tree_val, PT.tree_keys, if_pos hm, hp, if_pos h]
theorem ridx_nokey {T : PT} {s : St} (hm : isMapStep T.val s = true) (h : ∀ j x, j < T.keys.length → T.keys[j]? = some x → x ≠ s.key) : ridxN T.tree s = -1 := by
  unfold ridxN JT.idx idxO
  rw [PT.tree_val, PT.tree_keys, if_pos hm, if_neg]
  intro hk
  have := (List.getElem?_eq_some_iff.1 hk).1
  exact h _ _ this hk rfl
theorem ridx_list {T : PT} {s : St} (h5 : T.val.k = 6) (hk : s.key.toList.isEmpty = true) (h0 : 0 ≤ s.at_) (h1 : s.at_ < (T.kids.length : Int)) : ridxN T.tree s = s.at_ := by
  unfold ridxN JT.idx idxO
  rw [PT.tree_val, PT.tree_keys, PT.tree_kids, List.length_map]
  rw [if_neg (by unfold isMapStep; simp [h5]), if_pos (by unfold isListStep; simp [h5]; exact ⟨⟨by simpa using hk, h0⟩, by omega⟩), if_pos (by omega)]
  simp only
  omega
theorem ridx_none {T : PT} {s : St} (hm : isMapStep T.val s = false) (h : isListStep T.val s T.kids.length = false ∨ ¬ s.at_ < (T.kids.length : Int)) : ridxN T.tree s = -1 := by
  unfold ridxN JT.idx idxO
  rw [PT.tree_val, PT.tree_keys, PT.tree_kids, List.length_map, if_neg (by rw [hm]; simp)]
  by_cases hl : isListStep T.val s T.kids.length = true
  · rcases h with h | h
    · rw [hl] at h; cases h
    · have h0 : 0 ≤ s.at_ := by unfold isListStep at hl; simp at hl; omega
      rw [if_pos hl, if_neg (by omega)]
  · rw [if_neg hl]

theorem str_true {a b : ByteArray} (h : (a.toList == b.toList) = true) : a = b := by
  rw [ByteArray.toList_eq, ByteArray.toList_eq] at h
  exact Go.WideShapes.bytes_inj (by simpa using h)
theorem str_false {a b : ByteArray} (h : (a.toList == b.toList) = false) : a ≠ b := by
  rintro rfl
  simp at h
def KeyNot (keys : List ByteArray) (key : ByteArray) (i : Nat) : Prop := ∀ j x, j < i → keys[j]? = some x → x ≠ key
def RIdxQ (w : World) (n : Int) (e : Ending) (w' : World) : Prop := e = .returned (.int .i64 n) ∧ Below w.heap.size w w'

set_option maxRecDepth 100000 in
set_option maxHeartbeats 2000000 in
/-- At maps, a key. -/
theorem rindex_map (T : PT) (key : ByteArray) (w : World) (hT : InJ w T) (hf : T.tree.formed = true) (hm : isMapStep T.val ⟨key, 0⟩ = true) :
    Calls Tryd.prog 43 #[T.value, .agg #[.string key, .int .i64 0]] w (RIdxQ w (ridxN T.tree ⟨key, 0⟩)) := by
  have h5 : T.val.k = 5 := by unfold isMapStep at hm; simp at hm; exact hm.1
  have hne : (!key.toList.isEmpty) = true := by unfold isMapStep at hm; simp at hm; simp [hm.2]
  have hkl : T.keys.length ≤ 9223372036854775807 := Nat.le_trans hT.slot.klen (by decide)
  have HH := Lib.hid (And.intro hT (And.intro hf (And.intro hm h5)))
  rw [PT.value_eq, h5]
  clear hT hf hm h5
  go_enter Tryd.func43, Tryd.ntmps43
  go_wp2_with fail
  refine wp_at (fun w1 => Below w.heap.size w w1 ∧ Blk w1 w.heap.size 29 #[.int .i64 5, .int .i64 T.val.n, .string T.val.s, .int .i64 T.val.o, .int .i64 T.val.p, .slice T.kA T.keys.length T.kc, .slice T.cA T.kids.length T.cc] ∧ Blk w1 (w.heap.size + 1) 69 #[.string key, .int .i64 0] ∧ w.heap.size + 2 ≤ w1.heap.size) (boxes2 (Below.refl _ _)) ?_
  rintro w1 ⟨hB1, hB2, hB3, hB4⟩
  have HB := Lib.hid (And.intro hB1 (And.intro hB2 hB3))
  clear hB1 hB2 hB3
  go_loopw [5] (fun iv wr => ∃ i : Nat, iv = .int .i64 i ∧ i ≤ T.keys.length ∧ KeyNot T.keys key i ∧ Below w1.heap.size w1 wr) (fun iv _ => T.keys.length - (intOf iv).toNat)
  case atStart => exact ⟨0, rfl, by omega, fun j x h => absurd h (Nat.not_lt_zero _), Below.refl _ _⟩
  case round =>
    obtain ⟨i, rfl, hi, hf, hb⟩ := hrel
    have t5 : wr.cell? ⟨w.heap.size, 5, none⟩ = some (.slice T.kA T.keys.length T.kc) := (HB.out.2.1.below hb HB.out.2.1.lt).cell 5
    have s0 : wr.cell? ⟨w.heap.size + 1, 0, none⟩ = some (.string key) := (HB.out.2.2.below hb HB.out.2.2.lt).cell 0
    have t0 : wr.cell? ⟨w.heap.size, 0, none⟩ = some (.int .i64 5) := (HB.out.2.1.below hb HB.out.2.1.lt).cell 0
    have hW := HB.out.1.trans (hb.mono HB.out.1.size)
    have HX := Lib.hid (And.intro hf (And.intro hb hW))
    by_cases hlt : i < T.keys.length
    · have hlti : (i : Int) < (T.keys.length : Int) := by omega
      obtain ⟨x, hx⟩ : ∃ x, T.keys[i]? = some x := ⟨_, List.getElem?_eq_getElem hlt⟩
      obtain ⟨b1, o1, hA1, g1⟩ := (HH.out.1.slot.keys.below hW).at_ (j := i) (u := .string x) (by simp [hx])
      rw [hA1] at t5
      have HK := Lib.hid (And.intro hx hA1)
      clear hx hA1 hf hb hW
      cases hxk : (x.toList == key.toList) with
      | true =>
        have HR := Lib.hid (ridx_key (s := ⟨key, 0⟩) HH.out.2.1 HH.out.2.2.1 (i := i) (by rw [HK.out.1, str_true hxk]))
        go_wp2_with fail
        go_quiet ((fail))
        go_wp2_with fail
        go_ret
        exact ⟨by rw [HR.out]; rfl, below_drewN HX.out.2.2 _⟩
      | false =>
        have HR := Lib.hid (str_false hxk)
        go_wp2_with fail
        go_quiet ((fail))
        go_wp2_with fail
        go_roundw
        case rel =>
          refine ⟨i + 1, by go_num, by omega, fun j y hj hy => ?_, below_drewN HX.out.2.1 _⟩
          rcases Nat.lt_succ_iff_lt_or_eq.1 hj with g | g
          · exact HX.out.1 j y g hy
          · subst g
            rw [HK.out.1] at hy
            injection hy with hy
            rw [← hy]
            exact HR.out
        case measure => simp [intOf] <;> omega
    · have hlti : ¬ (i : Int) < (T.keys.length : Int) := by omega
      have HR := Lib.hid (ridx_nokey (s := ⟨key, 0⟩) HH.out.2.2.1 (fun j x hj hx => hf j x (by omega) hx))
      clear hf hb hW
      go_wp2_with fail
      go_ret
      exact ⟨by rw [HR.out]; rfl, HX.out.2.2⟩
-- CASES

set_option maxRecDepth 100000 in
set_option maxHeartbeats 2000000 in
theorem rindex_a (n : Int) (s : ByteArray) (o p : Int) (kA cA : Option Addr) (kn kc cn cc : Nat) (key : ByteArray) (at_ : Int) (w : World) (hcl : cn ≤ 9223372036854775807) (h1 : key.toList = []) :
    Calls Tryd.prog 43 #[.agg #[.int .i64 5, .int .i64 n, .string s, .int .i64 o, .int .i64 p, .slice kA kn kc, .slice cA cn cc], .agg #[.string key, .int .i64 at_]] w (RIdxQ w (-1)) := by
  have hb1 : Below w.heap.size w ((w.alloc (.cells #[.int .i64 5, .int .i64 n, .string s, .int .i64 o, .int .i64 p, .slice kA kn kc, .slice cA cn cc] 29)).alloc (.cells #[.string key, .int .i64 at_] 69)) := ((Below.refl _ _).alloc (Nat.le_refl _) _).alloc (by simp) _
  go_enter Tryd.func43, Tryd.ntmps43
  go_wp2_with fail
  go_ret
  exact ⟨rfl, hb1⟩

set_option maxRecDepth 100000 in
set_option maxHeartbeats 2000000 in
theorem rindex_b (n : Int) (s : ByteArray) (o p : Int) (kA cA : Option Addr) (kn kc cn cc : Nat) (key : ByteArray) (at_ : Int) (w : World) (hcl : cn ≤ 9223372036854775807) (h1 : (!key.toList.isEmpty) = true) (h0 : (at_ == 0) = false) :
    Calls Tryd.prog 43 #[.agg #[.int .i64 5, .int .i64 n, .string s, .int .i64 o, .int .i64 p, .slice kA kn kc, .slice cA cn cc], .agg #[.string key, .int .i64 at_]] w (RIdxQ w (-1)) := by
  have hb1 : Below w.heap.size w ((w.alloc (.cells #[.int .i64 5, .int .i64 n, .string s, .int .i64 o, .int .i64 p, .slice kA kn kc, .slice cA cn cc] 29)).alloc (.cells #[.string key, .int .i64 at_] 69)) := ((Below.refl _ _).alloc (Nat.le_refl _) _).alloc (by simp) _
  go_enter Tryd.func43, Tryd.ntmps43
  go_wp2_with fail
  go_ret
  exact ⟨rfl, hb1⟩

set_option maxRecDepth 100000 in
set_option maxHeartbeats 2000000 in
theorem rindex_c (k : Int) (n : Int) (s : ByteArray) (o p : Int) (kA cA : Option Addr) (kn kc cn cc : Nat) (key : ByteArray) (at_ : Int) (w : World) (hcl : cn ≤ 9223372036854775807) (h5 : (k == 5) = false) (h6 : (k == 6) = false) :
    Calls Tryd.prog 43 #[.agg #[.int .i64 k, .int .i64 n, .string s, .int .i64 o, .int .i64 p, .slice kA kn kc, .slice cA cn cc], .agg #[.string key, .int .i64 at_]] w (RIdxQ w (-1)) := by
  have hb1 : Below w.heap.size w ((w.alloc (.cells #[.int .i64 k, .int .i64 n, .string s, .int .i64 o, .int .i64 p, .slice kA kn kc, .slice cA cn cc] 29)).alloc (.cells #[.string key, .int .i64 at_] 69)) := ((Below.refl _ _).alloc (Nat.le_refl _) _).alloc (by simp) _
  go_enter Tryd.func43, Tryd.ntmps43
  go_wp2_with fail
  go_ret
  exact ⟨rfl, hb1⟩

set_option maxRecDepth 100000 in
set_option maxHeartbeats 2000000 in
theorem rindex_d (n : Int) (s : ByteArray) (o p : Int) (kA cA : Option Addr) (kn kc cn cc : Nat) (key : ByteArray) (at_ : Int) (w : World) (hcl : cn ≤ 9223372036854775807) (h1 : (!key.toList.isEmpty) = true) (h1' : key.toList.isEmpty = false) :
    Calls Tryd.prog 43 #[.agg #[.int .i64 6, .int .i64 n, .string s, .int .i64 o, .int .i64 p, .slice kA kn kc, .slice cA cn cc], .agg #[.string key, .int .i64 at_]] w (RIdxQ w (-1)) := by
  have hb1 : Below w.heap.size w ((w.alloc (.cells #[.int .i64 6, .int .i64 n, .string s, .int .i64 o, .int .i64 p, .slice kA kn kc, .slice cA cn cc] 29)).alloc (.cells #[.string key, .int .i64 at_] 69)) := ((Below.refl _ _).alloc (Nat.le_refl _) _).alloc (by simp) _
  go_enter Tryd.func43, Tryd.ntmps43
  go_wp2_with fail
  go_ret
  exact ⟨rfl, hb1⟩

set_option maxRecDepth 100000 in
set_option maxHeartbeats 2000000 in
theorem rindex_e (n : Int) (s : ByteArray) (o p : Int) (kA cA : Option Addr) (kn kc cn cc : Nat) (key : ByteArray) (at_ : Int) (w : World) (hcl : cn ≤ 9223372036854775807) (h1 : key.toList = []) (d1 : ¬ 0 ≤ at_) :
    Calls Tryd.prog 43 #[.agg #[.int .i64 6, .int .i64 n, .string s, .int .i64 o, .int .i64 p, .slice kA kn kc, .slice cA cn cc], .agg #[.string key, .int .i64 at_]] w (RIdxQ w (-1)) := by
  have hb1 : Below w.heap.size w ((w.alloc (.cells #[.int .i64 6, .int .i64 n, .string s, .int .i64 o, .int .i64 p, .slice kA kn kc, .slice cA cn cc] 29)).alloc (.cells #[.string key, .int .i64 at_] 69)) := ((Below.refl _ _).alloc (Nat.le_refl _) _).alloc (by simp) _
  go_enter Tryd.func43, Tryd.ntmps43
  go_wp2_with fail
  go_ret
  exact ⟨rfl, hb1⟩

set_option maxRecDepth 100000 in
set_option maxHeartbeats 2000000 in
theorem rindex_f (n : Int) (s : ByteArray) (o p : Int) (kA cA : Option Addr) (kn kc cn cc : Nat) (key : ByteArray) (at_ : Int) (w : World) (hcl : cn ≤ 9223372036854775807) (h1 : key.toList = []) (d1 : 0 ≤ at_) (d2 : ¬ at_ < (cn : Int)) :
    Calls Tryd.prog 43 #[.agg #[.int .i64 6, .int .i64 n, .string s, .int .i64 o, .int .i64 p, .slice kA kn kc, .slice cA cn cc], .agg #[.string key, .int .i64 at_]] w (RIdxQ w (-1)) := by
  have hb1 : Below w.heap.size w ((w.alloc (.cells #[.int .i64 6, .int .i64 n, .string s, .int .i64 o, .int .i64 p, .slice kA kn kc, .slice cA cn cc] 29)).alloc (.cells #[.string key, .int .i64 at_] 69)) := ((Below.refl _ _).alloc (Nat.le_refl _) _).alloc (by simp) _
  go_enter Tryd.func43, Tryd.ntmps43
  go_wp2_with fail
  go_ret
  exact ⟨rfl, hb1⟩

set_option maxRecDepth 100000 in
set_option maxHeartbeats 2000000 in
theorem rindex_g (n : Int) (s : ByteArray) (o p : Int) (kA cA : Option Addr) (kn kc cn cc : Nat) (key : ByteArray) (at_ : Int) (w : World) (hcl : cn ≤ 9223372036854775807) (h1 : key.toList = []) (d1 : 0 ≤ at_) (d2 : at_ < (cn : Int)) :
    Calls Tryd.prog 43 #[.agg #[.int .i64 6, .int .i64 n, .string s, .int .i64 o, .int .i64 p, .slice kA kn kc, .slice cA cn cc], .agg #[.string key, .int .i64 at_]] w (RIdxQ w (at_)) := by
  have hb1 : Below w.heap.size w ((w.alloc (.cells #[.int .i64 6, .int .i64 n, .string s, .int .i64 o, .int .i64 p, .slice kA kn kc, .slice cA cn cc] 29)).alloc (.cells #[.string key, .int .i64 at_] 69)) := ((Below.refl _ _).alloc (Nat.le_refl _) _).alloc (by simp) _
  go_enter Tryd.func43, Tryd.ntmps43
  go_wp2_with fail
  go_ret
  exact ⟨rfl, hb1⟩

theorem rindex_any (T : PT) (key : ByteArray) (at_ : Int) (w : World) (hT : InJ w T) (hf : T.tree.formed = true) :
    Calls Tryd.prog 43 #[T.value, .agg #[.string key, .int .i64 at_]] w (RIdxQ w (ridxN T.tree ⟨key, at_⟩)) := by
  cases hm : isMapStep T.val ⟨key, at_⟩ with
  | true =>
    have h0 : at_ = 0 := by unfold isMapStep at hm; simp at hm; exact hm.2
    subst h0
    exact rindex_map T key w hT hf hm
  | false =>
    have hcl : T.kids.length ≤ 9223372036854775807 := Nat.le_trans hT.slot.clen (by decide)
    rw [PT.value_eq]
    have hm' := hm
    unfold isMapStep at hm'
    by_cases h5 : T.val.k = 5
    · rw [ridx_none hm (.inl (by unfold isListStep; simp [h5])), h5]
      cases hke : key.toList.isEmpty with
      | true => exact rindex_a _ _ _ _ _ _ _ _ _ _ _ _ _ hcl (by simpa using hke)
      | false =>
        rw [h5, hke] at hm'
        exact rindex_b _ _ _ _ _ _ _ _ _ _ _ _ _ hcl (by rw [hke]; rfl) (by simpa using hm')
    · by_cases h6 : T.val.k = 6
      · cases hke : key.toList.isEmpty with
        | false =>
          rw [ridx_none hm (.inl (by unfold isListStep; simp [hke])), h6]
          exact rindex_d _ _ _ _ _ _ _ _ _ _ _ _ _ hcl (by rw [hke]; rfl) hke
        | true =>
          by_cases h0 : 0 ≤ at_
          · by_cases h1 : at_ < (T.kids.length : Int)
            · rw [ridx_list h6 hke h0 h1, h6]
              exact rindex_g _ _ _ _ _ _ _ _ _ _ _ _ _ hcl (by simpa using hke) h0 h1
            · rw [ridx_none hm (.inr h1), h6]
              exact rindex_f _ _ _ _ _ _ _ _ _ _ _ _ _ hcl (by simpa using hke) h0 h1
          · rw [ridx_none hm (.inl (by unfold isListStep; simp [h0])), h6]
            exact rindex_e _ _ _ _ _ _ _ _ _ _ _ _ _ hcl (by simpa using hke) h0
      · rw [ridx_none hm (.inl (by unfold isListStep; simp [h6]))]
        exact rindex_c _ _ _ _ _ _ _ _ _ _ _ _ _ _ hcl (by simpa using h5) (by simpa using h6)
end Go.Proofs.YtbfmdpgghknccaaDoor
