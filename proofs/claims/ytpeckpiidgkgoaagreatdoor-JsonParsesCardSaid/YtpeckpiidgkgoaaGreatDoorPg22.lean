/- Num, NumSmall. -/
import Derived.Test.YtpeckpiidgkgoaaGreatDoorPg21
import Derived.Test.YtpeckpiidgkgoaaGreatDoorPg5
import Derived.Test.YtpeckpiidgkgoaaGreatDoorPg6
import Derived.Test.YtpeckpiidgkgoaaGreatDoorPg4
import Derived.Test.YtpeckpiidgkgoaaGreatDoorProg
import Derived.WalkKit
import Derived.BigCall
import Derived.OwnWalk
import Derived.Laws.BitsAllLaws
import Derived.Laws.OwnMore
/- commonbookbig: rows of words: trim, words, twin: contracts. -/
namespace Go.Proofs.YtpeckpiidgkgoaaGreatDoor
open Go.RowKit
set_option linter.unusedVariables false
set_option linter.unusedSimpArgs false

def u32s (l : List Nat) : List Value := l.map fun (x : Nat) => Value.int .u32 x
theorem u32s_length (l : List Nat) : (u32s l).length = l.length := by simp [u32s]
theorem u32s_append (l m : List Nat) : u32s (l ++ m) = u32s l ++ u32s m := by simp [u32s]
theorem u32s_one (l : List Nat) : ∀ v ∈ u32s l, v.oneCell' = true := by
  intro v hv
  simp only [u32s, List.mem_map] at hv
  obtain ⟨b, _, rfl⟩ := hv
  rfl
theorem infoW : (Tryz.prog.info? 101).map (fun i => (i.zero, i.size, i.bytes)) = some (some (.int .u32 0), 1, 4) := by kernel_rfl
theorem SlAt.take {w : World} {A : Option Addr} {l : List Nat} (h : SlAt w A (u32s l)) (k : Nat) : SlAt w A (u32s (l.take k)) := by
  rcases h with h | ⟨b, off, hA, hc⟩
  · left
    have := congrArg List.length h
    rw [u32s_length] at this
    have hl : l = [] := List.eq_nil_of_length_eq_zero (by simpa using this)
    subst hl
    simp [u32s]
  · right
    refine ⟨b, off, hA, fun j u hu => hc j u ?_⟩
    simp only [u32s, List.getElem?_map, List.getElem?_take] at hu ⊢
    split at hu
    · exact hu
    · simp at hu
theorem SlAt.word {w : World} {A : Option Addr} {l : List Nat} (h : SlAt w A (u32s l)) {k : Nat} (hk : k < l.length) : ∃ b off, A = some ⟨b, off, none⟩ ∧ w.cell? ⟨b, off + k, none⟩ = some (.int .u32 l[k]) := by
  obtain ⟨b, off, hA, hc⟩ := h.at_ (j := k) (u := .int .u32 l[k]) (by simp [u32s, List.getElem?_eq_getElem hk])
  exact ⟨b, off, hA, hc⟩

/-- A row of words that reads as x. -/
def NW (w : World) (v : Value) (x : Nat) : Prop := ∃ A c l, v = .slice A l.length c ∧ SlAt w A (u32s l) ∧ (∀ y ∈ l, y < 4294967296) ∧ trimW l = l ∧ valW l = x ∧ l.length ≤ c ∧ l.length ≤ 20000
theorem NW.below {w w' : World} {v : Value} {x : Nat} (h : NW w v x) (hb : Below w.heap.size w w') : NW w' v x := by
  obtain ⟨A, c, l, h1, h2, h3⟩ := h
  exact ⟨A, c, l, h1, h2.below hb, h3⟩
theorem NW.grown {w w' : World} {v : Value} {x : Nat} {r : Option Nat} (h : NW w v x) (hg : w.grownBy w' r) (hne : ∀ k, v.ownBlock = some k → r ≠ some k) : NW w' v x := by
  obtain ⟨A, c, l, rfl, h2, h3⟩ := h
  refine ⟨A, c, l, rfl, ?_, h3⟩
  rcases h2 with h2 | ⟨b, off, rfl, hc⟩
  · exact .inl h2
  · refine .inr ⟨b, off, rfl, fun j u hu => ?_⟩
    rw [World.cell?_of_block (hg.block b (cell_lt (hc j u hu)) (fun e => hne b rfl e.symm))]
    exact hc j u hu
theorem NW.of_trim {w : World} {A : Option Addr} {c : Nat} {l : List Nat} (h : SlAt w A (u32s l)) (hl : ∀ y ∈ l, y < 4294967296) (hc : l.length ≤ c) (hm : l.length ≤ 20000) : NW w (.slice A (trimW l).length c) (valW l) := by
  have h1 := trimW_len l
  refine ⟨A, c, trimW l, rfl, ?_, trimW_mem hl, trimW_trim l, trimW_val l, by omega, by omega⟩
  rw [trimW_take l]
  exact h.take _

set_option maxRecDepth 100000 in
set_option maxHeartbeats 1000000 in
theorem trim_any (A : Option Addr) (c : Nat) (l : List Nat) (w : World) (h : SlAt w A (u32s l)) (hc : l.length ≤ c) (hm : l.length ≤ 1000000) :
    Calls Tryz.prog 54 #[.slice A l.length c] w fun e w' => e = .returned (.slice A (trimW l).length c) ∧ w' = w := by
  have HA := Lib.hid h
  go_enter Tryz.func54, Tryz.ntmps54
  go_wp2_with fail
  go_loopw [3] (fun m wr => ∃ k : Nat, m = .int .i64 k ∧ k ≤ l.length ∧ trimW (l.take k) = trimW l ∧ wr = w) (fun m _ => (intOf m).toNat)
  case atStart => exact ⟨l.length, rfl, Nat.le_refl _, by rw [List.take_length], rfl⟩
  case round =>
    obtain ⟨k, rfl, hk, ht, rfl⟩ := hrel
    replace ht := Lib.hid ht
    rcases Nat.eq_zero_or_pos k with hk0 | hk0
    · subst hk0
      go_wp2_with fail
      go_ret
      refine ⟨?_, rfl⟩
      rw [← ht.out]
      rfl
    · obtain ⟨j, rfl⟩ : ∃ j, k = j + 1 := ⟨k - 1, by omega⟩
      obtain ⟨b, off, rfl, hcell⟩ := HA.out.word (k := j) (by omega)
      obtain ⟨y, hy⟩ : ∃ y, y = l[j] := ⟨_, rfl⟩
      rw [← hy] at hcell
      have hstep : l.take (j + 1) = l.take j ++ [y] := by rw [hy, List.take_succ_eq_append_getElem (by omega)]
      have HS := Lib.hid hstep
      clear hstep hy
      have hj1 : ((j + 1 : Nat) : Int) - 1 = (j : Int) := by omega
      have hj2 : (0 : Int) < ((j + 1 : Nat) : Int) := by omega
      have hj3 : ((j : Nat) : Int) < (l.length : Int) := by omega
      have hj4 : ((j + 1 : Nat) : Int) ≤ (c : Int) := by omega
      by_cases hy0 : y = 0
      · subst hy0
        go_wp2_with fail
        exact ⟨⟨j, rfl, by omega, by rw [← ht.out, HS.out, trimW_snoc, if_pos rfl], trivial⟩, by simp [intOf]⟩
      · have e1 : (((y : Nat) : Int) == 0) = false := by simp; omega
        go_wp2_with fail
        go_ret
        have h2 : (trimW l).length = j + 1 := by
          rw [← ht.out, HS.out, trimW_snoc, if_neg hy0]
          simp
          omega
        rw [h2]
        exact ⟨rfl, rfl⟩

set_option maxRecDepth 100000 in
set_option maxHeartbeats 1000000 in
theorem words_any (x : Nat) (hx : x < 18446744073709551616) (w : World) :
    Calls Tryz.prog 33 #[.int .u64 x] w fun e w' => ∃ v, e = .returned v ∧ NW w' v x ∧ Below w.heap.size w w' := by
  have h1 : ((x : Int) / 4294967296) % 4294967296 = (x : Int) / 4294967296 := by omega
  have h2 : ((x : Int) % 4294967296) = ((x % 4294967296 : Nat) : Int) := by omega
  have h3 : ((x : Int) / 4294967296) = ((x / 4294967296 : Nat) : Int) := by omega
  obtain ⟨a, ha⟩ : ∃ a, a = x % 4294967296 := ⟨_, rfl⟩
  obtain ⟨b, hb⟩ : ∃ b, b = x / 4294967296 := ⟨_, rfl⟩
  rw [← ha] at h2
  rw [← hb] at h3
  rw [h3] at h1
  have hab : a < 4294967296 ∧ b < 4294967296 ∧ x = a + 4294967296 * b := by omega
  have HX := Lib.hid (And.intro ha hb)
  have HAB := Lib.hid hab
  clear ha hb hab
  go_enter Tryz.func33, Tryz.ntmps33
  have hbel : Below w.heap.size w (w.alloc (.cells #[.int .u32 a, .int .u32 b] 101)) := (Below.refl _ w).alloc (Nat.le_refl _) _
  have hrow : SlAt (w.alloc (.cells #[.int .u32 a, .int .u32 b] 101)) (some ⟨w.heap.size, 0, none⟩) (u32s [a, b]) :=
    .inr ⟨_, 0, rfl, fun j u hu => by rw [Nat.zero_add, (Blk.new w 101 #[.int .u32 a, .int .u32 b]).cell]; simpa [u32s] using hu⟩
  have HT := Lib.hid (trim_any (some ⟨w.heap.size, 0, none⟩) 2 [a, b] _ hrow (by simp) (by simp))
  have HN := Lib.hid (NW.of_trim (c := 2) hrow (by intro y hy; simp at hy; have := HAB.out; omega) (by simp) (by simp))
  have HB := Lib.hid hbel
  clear hrow hbel
  go_wp2_with (go_at_call 54; refine HT.out.mono ?_; rintro e w2 ⟨rfl, rfl⟩)
  go_ret
  refine ⟨_, rfl, ?_, HB.out⟩
  have := HN.out
  rw [show valW [a, b] = x from by have := HAB.out; simp only [valW]; omega] at this
  exact this

set_option maxRecDepth 100000 in
set_option maxHeartbeats 1000000 in
theorem twin_any (v : Value) (x : Nat) (w : World) (h : NW w v x) :
    Calls Tryz.prog 56 #[v] w fun e w' => ∃ v', e = .returned v' ∧ NW w' v' x ∧ Below w.heap.size w w' := by
  obtain ⟨A, c, l, rfl, h1, h2, h3, h4, h5, h6⟩ := h
  obtain ⟨A', c', w', r1, r2, r3, r4⟩ := run_append_sl (P := Tryz.prog) w 57 57 101 Tryz.underlying57 infoW rfl (by decide) none 0 0 [] (World.ownsRow_nil _ _ _ _) A l.length c (u32s l) (by rw [u32s_length]; omega) h1 (u32s_one l) (by simp only [maxLen]; omega) (by omega)
  rw [Nat.zero_add] at r1 r2
  have hb : Below w.heap.size w w' := grown_below r3 (Nat.le_refl _) (by intro k hk; simp [Value.ownBlock] at hk)
  have hn : NW w' (.slice A' l.length c') x := by
    refine ⟨A', c', l, rfl, SlAt.of_owns r2, h2, h3, h4, ?_, h6⟩
    rcases r2.2 with ⟨hv, hz⟩ | ⟨g, cap, cur, hv, _, _, hnc, _⟩
    · omega
    · injection hv with _ _ hv; omega
  have HN := Lib.hid (And.intro hn hb)
  clear r2 r3 r4 hn hb h1 h2 h3 h4 h5
  go_enter Tryz.func56, Tryz.ntmps56
  go_wp2_with (at_builtin; refine wpList_append_run rfl _ _ _ _ rfl rfl rfl r1 ?_)
  go_wp2_with fail
  go_ret
  exact ⟨_, rfl, HN.out.1, HN.out.2⟩

/-- What small holds on its way: the words of the quotient from above, and what is left. -/
structure SmallR (d : Nat) (l : List Nat) (k : Nat) (qs : List Nat) (r : Nat) : Prop where
  le : k ≤ l.length
  len : k + qs.length = l.length
  lt : r < d
  eq : valW qs * d + r = valW (l.drop k)
  words : ∀ y ∈ qs, y < 4294967296
theorem SmallR.step {d : Nat} {l : List Nat} {j : Nat} {qs : List Nat} {r x : Nat} (hd : 0 < d) (h : SmallR d l (j + 1) qs r) (hx : l[j]? = some x) (hx2 : x < 4294967296) : SmallR d l j ((r * 4294967296 + x) / d :: qs) ((r * 4294967296 + x) % d) := by
  have h1 := h.le
  have h2 := h.len
  have hj := (List.getElem?_eq_some_iff.1 hx).1
  have hx3 : l[j] = x := (List.getElem?_eq_some_iff.1 hx).2
  refine ⟨by omega, by simp only [List.length_cons]; omega, Nat.mod_lt _ hd, ?_, ?_⟩
  · have h3 : l.drop j = x :: l.drop (j + 1) := by rw [← hx3, List.drop_eq_getElem_cons hj]
    rw [h3]
    simp only [valW]
    have := small_step (hi := valW (l.drop (j + 1))) (r := r) (d := d) (x := x) hd h.lt (valW qs) h.eq
    rw [Nat.mul_comm 4294967296 (valW qs), Nat.add_comm ((r * 4294967296 + x) / d), this]
    omega
  · intro y hy
    rcases List.mem_cons.1 hy with rfl | hy
    · exact small_word h.lt hx2
    · exact h.words y hy
theorem SmallR.done {d : Nat} {l : List Nat} {qs : List Nat} {r : Nat} (hd : 0 < d) (h : SmallR d l 0 qs r) : valW qs = valW l / d ∧ r = valW l % d ∧ qs.length = l.length := by
  have h1 := h.eq
  have h2 := h.lt
  have h3 := h.len
  rw [List.drop_zero] at h1
  refine ⟨?_, ?_, by omega⟩
  · rw [← h1, Nat.add_comm, Nat.mul_comm, Nat.add_mul_div_left _ _ hd, Nat.div_eq_of_lt h2, Nat.zero_add]
  · rw [← h1, Nat.add_comm, Nat.mul_comm, Nat.add_mul_mod_self_left, Nat.mod_eq_of_lt h2]
end Go.Proofs.YtpeckpiidgkgoaaGreatDoor
/- commonbookbig.small: a row of words by one word: the contract. -/
namespace Go.Proofs.YtpeckpiidgkgoaaGreatDoor
open Go.RowKit
set_option linter.unusedVariables false
set_option linter.unusedSimpArgs false

theorem or_word (r x : Nat) (hr : r < 4294967296) (hx : x < 4294967296) : bits .or .u64 ((r : Int) * 4294967296) (x : Int) = ((r * 4294967296 + x : Nat) : Int) := by
  have h1 := u64_or_nat (r * 4294967296) x (by omega) (by omega)
  have h2 := Nat.two_pow_add_eq_or_of_lt (i := 32) (b := x) (by omega) r
  rw [show (2 : Nat) ^ 32 = 4294967296 from rfl, Nat.mul_comm 4294967296 r] at h2
  rw [← h2] at h1
  rw [show ((r : Int) * 4294967296) = ((r * 4294967296 : Nat) : Int) from by omega]
  exact h1

theorem wrap_u64 (q : Nat) (h : q < 18446744073709551616) : IntKind.u64.wrap (q : Int) = (q : Int) := by
  have : ((q : Nat) : Int) % 18446744073709551616 = (q : Int) := by omega
  simp [IntKind.wrap, IntKind.signed, IntKind.bits, this]

set_option maxRecDepth 100000 in
set_option maxHeartbeats 1000000 in
theorem small_any (v : Value) (x d : Nat) (w : World) (h : NW w v x) (hd : 0 < d) (hd2 : d < 4294967296) :
    Calls Tryz.prog 57 #[v, .int .u32 d] w fun e w' => ∃ v', e = .returned (.tuple #[v', .int .u32 ((x % d : Nat) : Int)]) ∧ NW w' v' (x / d) ∧ Below w.heap.size w w' ∧ v'.ownBlock = some w.heap.size := by
  obtain ⟨A, c, l, rfl, h1, h2, h3, h4, h5, h6⟩ := h
  obtain ⟨i0, hi, hz0, hz1, hz2⟩ := info_parts infoW
  obtain ⟨n, hn⟩ : ∃ n, n = l.length := ⟨_, rfl⟩
  have HL := Lib.hid (And.intro hn (And.intro h1 (And.intro h2 h4)))
  rw [← hn]
  have hn2 : n ≤ 20000 := by omega
  clear hn h1 h2 h3 h4 h5 h6
  have hdi : ¬ ((d : Nat) : Int) = 0 := by omega
  go_enter Tryz.func57, Tryz.ntmps57
  go_wp2_with (at_make; refine wpList_make_full _ rfl _ _ 57 rfl w.heap.size 101 i0 _ 1 Tryz.underlying57 hi hz0 hz1 _ _ _ _ n rfl rfl (by omega) (by omega) (by rw [hz2]; omega) (by simp only [maxLen]; omega) (Nat.le_refl _) ?_)
  intro w1 hown1 hg1
  have hb1 : Below w.heap.size w w1 := (Below.refl _ _).grown hg1 (Nat.le_refl _) (by simp)
  have hown1' : w1.ownsRow w.heap.size 101 1 (.slice (some ⟨w.heap.size, 0, none⟩) n n) n (u32s (List.replicate n 0)) := by
    have : (madeCells #[Value.int .u32 0] n).toList = u32s (List.replicate n 0) := by
      rw [toList_madeCells_one]
      simp [u32s]
    rw [this] at hown1
    exact hown1
  have HW1 := Lib.hid (And.intro hown1' hb1)
  clear hown1 hown1' hb1 hg1
  go_wp2_with fail
  go_loopw [7, 8] (fun r m wr => ∃ (k r' : Nat) (qs : List Nat), r = .int .u64 r' ∧ m = .int .i64 ((k : Int) - 1) ∧ SmallR d l k qs r' ∧ wr.ownsRow w.heap.size 101 1 (.slice (some ⟨w.heap.size, 0, none⟩) n n) n (u32s (List.replicate k 0 ++ qs)) ∧ Below w.heap.size w wr) (fun _ m _ => (intOf m + 1).toNat)
  case atStart => exact ⟨n, 0, [], rfl, rfl, ⟨by have := HL.out.1; omega, by simp [HL.out.1], hd, by rw [HL.out.1]; simp [valW], by simp⟩, by simpa using HW1.out.1, HW1.out.2⟩
  case round =>
    clear HW1
    obtain ⟨k, r, qs, rfl, rfl, hS, hown, hb⟩ := hrel
    have hbs := hb.size
    have hr := hS.lt
    have hkl := hS.le
    replace hS := Lib.hid hS
    have hHA := HL.out.2.1.below hb
    rcases Nat.eq_zero_or_pos k with hk0 | hk0
    · subst hk0
      obtain ⟨e1, e2, e3⟩ := hS.out.done hd
      rw [List.replicate_zero, List.nil_append] at hown
      have hqn : qs.length = n := by rw [e3, HL.out.1]
      have HT := Lib.hid (trim_any (some ⟨w.heap.size, 0, none⟩) n qs wr (SlAt.of_owns hown) (by omega) (by omega))
      have hN := NW.of_trim (c := n) (SlAt.of_owns hown) hS.out.words (by omega) (by omega)
      rw [e1, HL.out.2.2.2] at hN
      rw [HL.out.2.2.2] at e2
      have HN := Lib.hid (And.intro hN (And.intro hb e2))
      rw [hqn] at HT
      have hr3 : ((r : Nat) : Int) % 4294967296 = (r : Int) := by omega
      clear hN e1 e2 e3 hown hb hS hHA
      go_wp2_with (go_at_call 54; refine HT.out.mono ?_; rintro e w2 ⟨rfl, rfl⟩)
      go_ret2
      exact ⟨_, by rw [← HN.out.2.2]; rfl, HN.out.1, HN.out.2.1, rfl⟩
    · obtain ⟨j, rfl⟩ : ∃ j, k = j + 1 := ⟨k - 1, by omega⟩
      obtain ⟨b, off, hA, hcell⟩ := hHA.word (k := j) (by omega)
      obtain ⟨y, hy⟩ : ∃ y, y = l[j] := ⟨_, rfl⟩
      rw [← hy] at hcell
      have hyl : l[j]? = some y := by rw [hy]; exact List.getElem?_eq_getElem _
      have hy2 : y < 4294967296 := HL.out.2.2.1 y (List.mem_of_getElem? hyl)
      have hstep := hS.out.step hd hyl hy2
      have hn3 : j < n := by rw [HL.out.1]; omega
      have hfit := small_word (d := d) hr hy2
      have hor := or_word r y (by omega) hy2
      have hcy : wr.cell? ⟨w.heap.size, j, none⟩ = some (.int .u32 0) := by
        rw [hown.cellAt j (by omega)]
        simp only [u32s, List.getElem?_map]
        rw [List.getElem?_append_left (by simp), List.getElem?_replicate, if_pos (by omega)]
        rfl
      have hfy := hown.frozenAt j
      have HO := Lib.hid (And.intro hown (And.intro hb hstep))
      subst hA
      clear hy hyl hHA hstep hown hb hS
      have hj1 : ((j + 1 : Nat) : Int) - 1 = (j : Int) := by omega
      have hj2 : (0 : Int) ≤ (j : Int) := by omega
      have hj3 : ((j : Nat) : Int) < (n : Int) := by omega
      have hr2 : ((r : Nat) : Int) * 4294967296 < 18446744073709551616 := by omega
      have hr3 : (0 : Int) ≤ ((r : Nat) : Int) * 4294967296 := by omega
      obtain ⟨s, hs⟩ : ∃ s, s = r * 4294967296 + y := ⟨_, rfl⟩
      rw [← hs] at hor hfit
      have HS := Lib.hid hs
      clear hs
      obtain ⟨q, hq⟩ : ∃ q, q = s / d := ⟨_, rfl⟩
      obtain ⟨t, ht⟩ : ∃ t, t = s % d := ⟨_, rfl⟩
      have hd3 : ((s : Nat) : Int) / (d : Int) = (q : Int) := by rw [hq]; exact (Int.natCast_ediv s d).symm
      have hd4 : ((s : Nat) : Int) % (d : Int) = (t : Int) := by rw [ht]; exact (Int.natCast_emod s d).symm
      have hwr := wrap_u64 q (by rw [hq]; omega)
      rw [← hq] at hfit
      have hfit2 : ((q : Nat) : Int) < 4294967296 := by omega
      have HQT := Lib.hid (And.intro hq ht)
      clear hq ht
      have hq3 : ((q : Nat) : Int) % 4294967296 = (q : Int) := by omega
      go_wp2_with fail
      have hq4 : r * 4294967296 + y = s := HS.out.symm
      have hst := (HO.out.1.stored j (Value.int .u32 (q : Int))).1
      rw [hd4]
      refine ⟨⟨j, t, q :: qs, rfl, rfl, ?_, ?_, HO.out.2.1.setCell (p := ⟨w.heap.size, j, none⟩) (Nat.le_refl _) _⟩, by simp only [intOf]; omega⟩
      · have := HO.out.2.2
        rw [hq4, ← HQT.out.1, ← HQT.out.2] at this
        exact this
      · rw [show u32s (List.replicate j 0 ++ q :: qs) = (u32s (List.replicate (j + 1) 0 ++ qs)).set j (.int .u32 (q : Int)) from by
          simp only [u32s, ← List.map_set]
          congr 1
          rw [List.set_append_left _ _ (by simp), List.replicate_succ', List.set_append_right _ _ (by simp)]
          simp]
        exact hst
end Go.Proofs.YtpeckpiidgkgoaaGreatDoor
