/- commonbookbig: rows of words: trim, words, twin: contracts. -/
import Derived.Test.YtfnigdbnkdofiaaDoorNumPlain
import Derived.Test.YtfnigdbnkdofiaaDoorPushN
import Derived.Test.YtfnigdbnkdofiaaDoorAppend
import Derived.Test.YtfnigdbnkdofiaaDoorBlk
import Derived.Test.YtfnigdbnkdofiaaDoorProg
import Derived.WalkKit
import Derived.BigCall
import Derived.OwnWalk
namespace Go.Proofs.YtfnigdbnkdofiaaDoor
open Go.RowKit
set_option linter.unusedVariables false
set_option linter.unusedSimpArgs false

def u32s (l : List Nat) : List Value := l.map fun (x : Nat) => Value.int .u32 x
theorem u32s_length (l : List Nat) : (u32s l).length = l.length := by simp [u32s]
theorem u32s_append (l m : List Nat) : u32s (l ++ m) = u32s l ++ u32s m := by simp [u32s]
theorem u32s_one (l : List Nat) : ∀ v ∈ u32s l, v.oneCell' = true := by
  intro v hv
  simp only [u32s, List.mem_map] at hv
  obtain ⟨b, _, rfl⟩ := hv
  rfl
theorem infoW : (Tryd.prog.info? 98).map (fun i => (i.zero, i.size, i.bytes)) = some (some (.int .u32 0), 1, 4) := by kernel_rfl
theorem SlAt.take {w : World} {A : Option Addr} {l : List Nat} (h : SlAt w A (u32s l)) (k : Nat) : SlAt w A (u32s (l.take k)) := by
  rcases h with h | ⟨b, off, hA, hc⟩
  · left
    have := congrArg List.length h
    rw [u32s_length] at this
    have hl : l = [] := List.eq_nil_of_length_eq_zero (by simpa using this)
    subst hl
    simp [u32s]
  · right
    refine ⟨b, off, hA, fun j u hu => hc j u ?_⟩
    simp only [u32s, List.getElem?_map, List.getElem?_take] at hu ⊢
    split at hu
    · exact hu
    · simp at hu
theorem SlAt.word {w : World} {A : Option Addr} {l : List Nat} (h : SlAt w A (u32s l)) {k : Nat} (hk : k < l.length) : ∃ b off, A = some ⟨b, off, none⟩ ∧ w.cell? ⟨b, off + k, none⟩ = some (.int .u32 l[k]) := by
  obtain ⟨b, off, hA, hc⟩ := h.at_ (j := k) (u := .int .u32 l[k]) (by simp [u32s, List.getElem?_eq_getElem hk])
  exact ⟨b, off, hA, hc⟩

/-- A row of words that reads as x. -/
def NW (w : World) (v : Value) (x : Nat) : Prop := ∃ A c l, v = .slice A l.length c ∧ SlAt w A (u32s l) ∧ (∀ y ∈ l, y < 4294967296) ∧ trimW l = l ∧ valW l = x ∧ l.length ≤ c ∧ l.length ≤ 1000
theorem NW.below {w w' : World} {v : Value} {x : Nat} (h : NW w v x) (hb : Below w.heap.size w w') : NW w' v x := by
  obtain ⟨A, c, l, h1, h2, h3⟩ := h
  exact ⟨A, c, l, h1, h2.below hb, h3⟩
theorem NW.grown {w w' : World} {v : Value} {x : Nat} {r : Option Nat} (h : NW w v x) (hg : w.grownBy w' r) (hne : ∀ k, v.ownBlock = some k → r ≠ some k) : NW w' v x := by
  obtain ⟨A, c, l, rfl, h2, h3⟩ := h
  refine ⟨A, c, l, rfl, ?_, h3⟩
  rcases h2 with h2 | ⟨b, off, rfl, hc⟩
  · exact .inl h2
  · refine .inr ⟨b, off, rfl, fun j u hu => ?_⟩
    rw [World.cell?_of_block (hg.block b (cell_lt (hc j u hu)) (fun e => hne b rfl e.symm))]
    exact hc j u hu
theorem NW.of_trim {w : World} {A : Option Addr} {c : Nat} {l : List Nat} (h : SlAt w A (u32s l)) (hl : ∀ y ∈ l, y < 4294967296) (hc : l.length ≤ c) (hm : l.length ≤ 1000) : NW w (.slice A (trimW l).length c) (valW l) := by
  have h1 := trimW_len l
  refine ⟨A, c, trimW l, rfl, ?_, trimW_mem hl, trimW_trim l, trimW_val l, by omega, by omega⟩
  rw [trimW_take l]
  exact h.take _

set_option maxRecDepth 100000 in
set_option maxHeartbeats 1000000 in
theorem trim_any (A : Option Addr) (c : Nat) (l : List Nat) (w : World) (h : SlAt w A (u32s l)) (hc : l.length ≤ c) (hm : l.length ≤ 1000000) :
    Calls Tryd.prog 74 #[.slice A l.length c] w fun e w' => e = .returned (.slice A (trimW l).length c) ∧ w' = w := by
  have HA := Lib.hid h
  go_enter Tryd.func74, Tryd.ntmps74
  go_wp2_with fail
  go_loopw [3] (fun m wr => ∃ k : Nat, m = .int .i64 k ∧ k ≤ l.length ∧ trimW (l.take k) = trimW l ∧ wr = w) (fun m _ => (intOf m).toNat)
  case atStart => exact ⟨l.length, rfl, Nat.le_refl _, by rw [List.take_length], rfl⟩
  case round =>
    obtain ⟨k, rfl, hk, ht, rfl⟩ := hrel
    replace ht := Lib.hid ht
    rcases Nat.eq_zero_or_pos k with hk0 | hk0
    · subst hk0
      go_wp2_with fail
      go_ret
      refine ⟨?_, rfl⟩
      rw [← ht.out]
      rfl
    · obtain ⟨j, rfl⟩ : ∃ j, k = j + 1 := ⟨k - 1, by omega⟩
      obtain ⟨b, off, rfl, hcell⟩ := HA.out.word (k := j) (by omega)
      obtain ⟨y, hy⟩ : ∃ y, y = l[j] := ⟨_, rfl⟩
      rw [← hy] at hcell
      have hstep : l.take (j + 1) = l.take j ++ [y] := by rw [hy, List.take_succ_eq_append_getElem (by omega)]
      have HS := Lib.hid hstep
      clear hstep hy
      have hj1 : ((j + 1 : Nat) : Int) - 1 = (j : Int) := by omega
      have hj2 : (0 : Int) < ((j + 1 : Nat) : Int) := by omega
      have hj3 : ((j : Nat) : Int) < (l.length : Int) := by omega
      have hj4 : ((j + 1 : Nat) : Int) ≤ (c : Int) := by omega
      by_cases hy0 : y = 0
      · subst hy0
        go_wp2_with fail
        exact ⟨⟨j, rfl, by omega, by rw [← ht.out, HS.out, trimW_snoc, if_pos rfl], trivial⟩, by simp [intOf]⟩
      · have e1 : (((y : Nat) : Int) == 0) = false := by simp; omega
        go_wp2_with fail
        go_ret
        have h2 : (trimW l).length = j + 1 := by
          rw [← ht.out, HS.out, trimW_snoc, if_neg hy0]
          simp
          omega
        rw [h2]
        exact ⟨rfl, rfl⟩

set_option maxRecDepth 100000 in
set_option maxHeartbeats 1000000 in
theorem words_any (x : Nat) (hx : x < 18446744073709551616) (w : World) :
    Calls Tryd.prog 75 #[.int .u64 x] w fun e w' => ∃ v, e = .returned v ∧ NW w' v x ∧ Below w.heap.size w w' := by
  have h1 : ((x : Int) / 4294967296) % 4294967296 = (x : Int) / 4294967296 := by omega
  have h2 : ((x : Int) % 4294967296) = ((x % 4294967296 : Nat) : Int) := by omega
  have h3 : ((x : Int) / 4294967296) = ((x / 4294967296 : Nat) : Int) := by omega
  obtain ⟨a, ha⟩ : ∃ a, a = x % 4294967296 := ⟨_, rfl⟩
  obtain ⟨b, hb⟩ : ∃ b, b = x / 4294967296 := ⟨_, rfl⟩
  rw [← ha] at h2
  rw [← hb] at h3
  rw [h3] at h1
  have hab : a < 4294967296 ∧ b < 4294967296 ∧ x = a + 4294967296 * b := by omega
  have HX := Lib.hid (And.intro ha hb)
  have HAB := Lib.hid hab
  clear ha hb hab
  go_enter Tryd.func75, Tryd.ntmps75
  have hbel : Below w.heap.size w (w.alloc (.cells #[.int .u32 a, .int .u32 b] 98)) := (Below.refl _ w).alloc (Nat.le_refl _) _
  have hrow : SlAt (w.alloc (.cells #[.int .u32 a, .int .u32 b] 98)) (some ⟨w.heap.size, 0, none⟩) (u32s [a, b]) :=
    .inr ⟨_, 0, rfl, fun j u hu => by rw [Nat.zero_add, (Blk.new w 98 #[.int .u32 a, .int .u32 b]).cell]; simpa [u32s] using hu⟩
  have HT := Lib.hid (trim_any (some ⟨w.heap.size, 0, none⟩) 2 [a, b] _ hrow (by simp) (by simp))
  have HN := Lib.hid (NW.of_trim (c := 2) hrow (by intro y hy; simp at hy; have := HAB.out; omega) (by simp) (by simp))
  have HB := Lib.hid hbel
  clear hrow hbel
  go_wp2_with (go_at_call 74; refine HT.out.mono ?_; rintro e w2 ⟨rfl, rfl⟩)
  go_ret
  refine ⟨_, rfl, ?_, HB.out⟩
  have := HN.out
  rw [show valW [a, b] = x from by have := HAB.out; simp only [valW]; omega] at this
  exact this

set_option maxRecDepth 100000 in
set_option maxHeartbeats 1000000 in
theorem twin_any (v : Value) (x : Nat) (w : World) (h : NW w v x) :
    Calls Tryd.prog 89 #[v] w fun e w' => ∃ v', e = .returned v' ∧ NW w' v' x ∧ Below w.heap.size w w' := by
  obtain ⟨A, c, l, rfl, h1, h2, h3, h4, h5, h6⟩ := h
  obtain ⟨A', c', w', r1, r2, r3, r4⟩ := run_append_sl (P := Tryd.prog) w 67 67 98 Tryd.underlying67 infoW rfl (by decide) none 0 0 [] (World.ownsRow_nil _ _ _ _) A l.length c (u32s l) (by rw [u32s_length]; omega) h1 (u32s_one l) (by simp only [maxLen]; omega) (by omega)
  rw [Nat.zero_add] at r1 r2
  have hb : Below w.heap.size w w' := grown_below r3 (Nat.le_refl _) (by intro k hk; simp [Value.ownBlock] at hk)
  have hn : NW w' (.slice A' l.length c') x := by
    refine ⟨A', c', l, rfl, SlAt.of_owns r2, h2, h3, h4, ?_, h6⟩
    rcases r2.2 with ⟨hv, hz⟩ | ⟨g, cap, cur, hv, _, _, hnc, _⟩
    · omega
    · injection hv with _ _ hv; omega
  have HN := Lib.hid (And.intro hn hb)
  clear r2 r3 r4 hn hb h1 h2 h3 h4 h5
  go_enter Tryd.func89, Tryd.ntmps89
  go_wp2_with (at_builtin; refine wpList_append_run rfl _ _ _ _ rfl rfl rfl r1 ?_)
  go_wp2_with fail
  go_ret
  exact ⟨_, rfl, HN.out.1, HN.out.2⟩

/-- What small holds on its way: the words of the quotient from above, and what is left. -/
structure SmallR (d : Nat) (l : List Nat) (k : Nat) (qs : List Nat) (r : Nat) : Prop where
  le : k ≤ l.length
  len : k + qs.length = l.length
  lt : r < d
  eq : valW qs * d + r = valW (l.drop k)
  words : ∀ y ∈ qs, y < 4294967296
theorem SmallR.step {d : Nat} {l : List Nat} {j : Nat} {qs : List Nat} {r x : Nat} (hd : 0 < d) (h : SmallR d l (j + 1) qs r) (hx : l[j]? = some x) (hx2 : x < 4294967296) : SmallR d l j ((r * 4294967296 + x) / d :: qs) ((r * 4294967296 + x) % d) := by
  have h1 := h.le
  have h2 := h.len
  have hj := (List.getElem?_eq_some_iff.1 hx).1
  have hx3 : l[j] = x := (List.getElem?_eq_some_iff.1 hx).2
  refine ⟨by omega, by simp only [List.length_cons]; omega, Nat.mod_lt _ hd, ?_, ?_⟩
  · have h3 : l.drop j = x :: l.drop (j + 1) := by rw [← hx3, List.drop_eq_getElem_cons hj]
    rw [h3]
    simp only [valW]
    have := small_step (hi := valW (l.drop (j + 1))) (r := r) (d := d) (x := x) hd h.lt (valW qs) h.eq
    rw [Nat.mul_comm 4294967296 (valW qs), Nat.add_comm ((r * 4294967296 + x) / d), this]
    omega
  · intro y hy
    rcases List.mem_cons.1 hy with rfl | hy
    · exact small_word h.lt hx2
    · exact h.words y hy
theorem SmallR.done {d : Nat} {l : List Nat} {qs : List Nat} {r : Nat} (hd : 0 < d) (h : SmallR d l 0 qs r) : valW qs = valW l / d ∧ r = valW l % d ∧ qs.length = l.length := by
  have h1 := h.eq
  have h2 := h.lt
  have h3 := h.len
  rw [List.drop_zero] at h1
  refine ⟨?_, ?_, by omega⟩
  · rw [← h1, Nat.add_comm, Nat.mul_comm, Nat.add_mul_div_left _ _ hd, Nat.div_eq_of_lt h2, Nat.zero_add]
  · rw [← h1, Nat.add_comm, Nat.mul_comm, Nat.add_mul_mod_self_left, Nat.mod_eq_of_lt h2]
end Go.Proofs.YtfnigdbnkdofiaaDoor
