/- package disk: Names, Crash, of a disk with one file: contracts. -/
import Derived.Test.YtbfmdpgghknccaaDoorDiskAppend
import Derived.Test.YtbfmdpgghknccaaDoorShelfS
import Derived.Sort.KeysCollected
import Derived.Sort.OwnSorted
namespace Go.Proofs.YtbfmdpgghknccaaDoor
open Go.RowKit Go.Maps
set_option linter.unusedVariables false
set_option linter.unusedSimpArgs false

theorem infoStrN : (Tryd.prog.info? 9).map (fun i => (i.zero, i.size, i.bytes)) = some (some (.string ⟨#[]⟩), 1, 16) := by kernel_rfl
/-- The map of one file. -/
def oneD (s : ByteArray) (f : Nat) : DataW Nat := .map [(.string s.data.toList, .held f)]

theorem strKeys_len {D : DataW Nat} (h : IsMap D) : (strKeys D).length = Maps.size D := by
  obtain ⟨es, rfl⟩ := h
  simp [strKeys, Maps.size]

/-- What is known while names are collected. -/
structure NamesAt (w0 : World) (bn r : Nat) (N : DataW Nat) (w : World) (v : Value) (cnt : Nat) : Prop where
  go : ∃ (left : Lit → Bool) (ss : List (List UInt8)) (A : Option Addr) (c : Nat), w.ranges Tryd.prog 9 ptrElem bn r (Maps.size N) N left cnt ∧ Collected N left ss ∧ ss.length + cnt ≤ Maps.size N ∧ v = .slice A ss.length c ∧ w.ownsRow w0.heap.size 9 1 v ss.length (ss.map encStr)
  bel : Below w0.heap.size w0 w
  new : w0.heap.size ≤ r

set_option maxRecDepth 100000 in
set_option maxHeartbeats 1000000 in
theorem names_any (d bn bs : Nat) (N S : DataW Nat) (steps stop : Int) (w : World) (hd : Dk w d bn bs N S steps stop) (h1 : 1 ≤ Maps.size N) (h9 : Maps.size N ≤ 1000000) :
    Calls Tryd.prog 11 #[.pointer (some ⟨d, 0, none⟩)] w fun e w' => (∃ A c, e = .returned (.slice A (Maps.size N) c) ∧ SlAt w' A (((strKeys N).mergeSort fun x y => decide (x ≤ y)).map encStr)) ∧ Below w.heap.size w w' := by
  have HD := Lib.hid (And.intro hd (And.intro h1 h9))
  have c0 := hd.c0
  have hn := hd.nm.tight
  have hbl := hn.lt
  clear hd h1 h9
  go_enter Tryd.func11, Tryd.ntmps11
  go_wp2_with (first | (at_range; refine wpList_range_own _ rfl _ 78 rfl 9 93 lawS Tryd.underlying78 _ bn _ _ rfl hn ?_; intro w1 hrg1 hg1 hs1) | fail)
  go_frame
  have hst : NamesAt w bn w.heap.size N w1 (.slice none 0 0) (Maps.size N) := ⟨⟨_, [], none, 0, hrg1, Collected.start N, by simp, rfl, World.ownsRow_nil _ _ _ _⟩, (Below.refl _ w).grown hg1 (Nat.le_refl _) (fun j hj => by cases hj), Nat.le_refl _⟩
  have HST := Lib.hid hst
  clear hst hrg1 hg1 hs1 c0 hn
  go_loopw [3] (fun v wr => ∃ cnt, NamesAt w bn w.heap.size N wr v cnt) (fun _ wr => wr.rangeLeft bn w.heap.size)
  case atStart => exact ⟨_, HST.out⟩
  case round =>
    obtain ⟨cnt, hC⟩ := hrel
    obtain ⟨left, ss, A, c, hrg, hcol, hle, rfl, hrow⟩ := hC.go
    have HC := Lib.hid (And.intro hC (And.intro hcol (And.intro hle (And.intro hrow hrg))))
    clear hC hcol hle hrow
    go_wp2_with (first | (at_next; refine wpList_next_ptr _ rfl _ rfl 9 lawS Tryd.underlying9 bn w.heap.size _ _ _ _ rfl hrg ?_ ?_) | fail)
    · intro hc0 hl0
      obtain ⟨hC, hcol, hle, hrow, hrg⟩ := HC.out
      have hperm := hcol.perm hrg.owns lawS Tryd.underlying9 hl0
      have hlen : ss.length = Maps.size N := by rw [hperm.length_eq]; exact strKeys_len hrg.owns.isMap
      have h1 := HD.out.2.1
      rcases hrow.2 with ⟨hnil, hz⟩ | ⟨g, cap, cur, hv, hbase, hb, h1', h2, h3, h4⟩
      · omega
      injection hv with hvA _ hvc
      subst hvA hvc
      have hc := Tryd.slices_Sort_string g 0 c ss wr (holds_of_block hb (by simpa using h4)) (Array.getElem?_eq_some_iff.1 hb).1 (by have := HD.out.2.2; omega)
      have HQ := Lib.hid hc
      have H4 := Lib.hid (And.intro hperm (And.intro hlen (And.intro hbase (And.intro hb (And.intro h1' (And.intro h2 h3))))))
      clear hC hcol hle hrow hrg hperm hlen h1 hbase hb h1' h2 h3 h4 hc
      go_wp2_with fail
      refine HQ.out.mono ?_
      rintro e w' ⟨rfl, nn, os, rfl⟩
      go_wp2_with fail
      go_ret
      obtain ⟨hperm, hlen, hbase, hb, h1', h2, h3⟩ := H4.out
      obtain ⟨hC, hcol, hle, hrow, hrg⟩ := HC.out
      have hs := ownsRow_sorted (n := nn) (os := os) (ts := ss.mergeSort fun x y => decide (x ≤ y)) (by simp) hbase hb h1' h2 h3
      refine ⟨⟨_, _, by rw [← hlen]; rfl, ?_⟩, hC.bel.grown (grownBy_sorted _) hC.bel.size (fun j hj => by injection hj with hj; subst hj; exact hbase)⟩
      have he : ((strKeys N).mergeSort fun x y => decide (x ≤ y)) = ss.mergeSort fun x y => decide (x ≤ y) := mergeSort_of_perm hperm.symm
      rw [he]
      exact SlAt.of_owns hs
    · intro s5 p w5 cnt5 hsz5 hl5 hat5 hrg5 hlt5 hg5 hs5 hen5
      obtain ⟨hC, hcol, hle, hrow, hrg⟩ := HC.out
      have hrow5 := hrow.kept hg5 (.inr (fun e => row_ne_iter hrow hrg e.symm))
      have hbs5 : w.heap.size ≤ w5.heap.size := by have := hC.bel.size; omega
      have h9 : ss.length ≤ 1000000000000 := by have := HD.out.2.2; omega
      have H5 := Lib.hid (And.intro hrg5 (And.intro hg5 (And.intro hlt5 (And.intro hsz5 (And.intro hl5 hat5)))))
      clear hC hcol hle hrow hrg hsz5 hl5 hat5 hrg5 hlt5 hg5 hs5
      go_wp2_with (first | (at_builtin; refine wpList_push _ rfl (.tmp 14) (.tmp 16) _ rfl w.heap.size 9 Tryd.underlying26 infoStrN rfl (by decide) (by decide) _ _ _ rfl hrow5 _ rfl rfl ?_ h9 hbs5 ?_) | fail)
      · rfl
      · intro A' c' w6 hrow6 hg6
        have H6 := Lib.hid (And.intro hrow6 hg6)
        clear hrow6 hg6 hrow5 hbs5 h9
        go_wp2_with fail
        obtain ⟨hrow6, hg6⟩ := H6.out
        obtain ⟨hC, hcol, hle, hrow, hrg⟩ := HC.out
        obtain ⟨hrg5, hg5, hlt5, hsz5, hl5, hat5⟩ := H5.out
        have hrow5 := hrow.kept hg5 (.inr (fun e => row_ne_iter hrow hrg e.symm))
        have hrg6 := hrg5.kept hg6 (row_ne_low hrow5 hbl) (row_ne_iter hrow5 hrg5)
        have hfin : NamesAt w bn w.heap.size N w6 (.slice A' (ss.length + 1) c') cnt5 := by
          refine ⟨⟨_, ss ++ [s5.data.toList], A', c', hrg6, hcol.step hl5 hat5, by rw [List.length_append]; simp; omega, by simp, ?_⟩, ?_, hC.new⟩
          · rw [List.length_append, List.map_append]
            exact hrow6
          · exact (hC.bel.grown hg5 hC.bel.size (fun j hj => by injection hj with hj; omega)).grown hg6 (by have := hC.bel.size; have := hg5.size; omega) (fun j hj => (hrow5.lt j hj).1)
        go_roundw
        case rel => exact ⟨cnt5, hfin⟩
        case measure => rw [hrg6.left_eq, hrg.left_eq]; exact hlt5
end Go.Proofs.YtbfmdpgghknccaaDoor
