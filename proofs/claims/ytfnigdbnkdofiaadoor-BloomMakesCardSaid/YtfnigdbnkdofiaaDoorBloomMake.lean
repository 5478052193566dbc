/- bloom.Make: a contract. -/
import Derived.Test.YtfnigdbnkdofiaaDoorBloom
import Derived.Test.YtfnigdbnkdofiaaDoorInfo8
import Derived.ChangeAlike
import Derived.RegionTactic
import Derived.BigRegion
import Derived.Outline
namespace Go.Proofs.YtfnigdbnkdofiaaDoor
open Go.RowKit
set_option linter.unusedVariables false

def orBit (b : List Int) (p : Int) : List Int := b.set (p.toNat / 8) (bits .or .u8 (b[p.toNat / 8]?.getD 0) ((2 : Int) ^ (p.toNat % 8) % 256))
def orBits (b : List Int) (l : List Int) : List Int := l.foldl orBit b
def refBits (n : Int) (b : List Int) (r : Int × Int) : List Int := orBits b (bplaces (r.1 * 1000003 + r.2) n 3)
def rowBits (n : Int) (m : Nat) (l : List (Int × Int)) : List Int := l.foldl (refBits n) (List.replicate m 0)
def makeBits (n : Int) (l : List (Int × Int)) : List Int := l.foldl (refBits n) (List.replicate (n / 8).toNat 0)

theorem orBits_succ (b : List Int) (x n : Int) (j : Nat) : orBits b (bplaces x n (j + 1)) = orBit (orBits b (bplaces x n j)) (bplace x n j) := by
  simp [orBits, bplaces, List.range_succ, List.foldl_append]
theorem rowBits_succ (n : Int) (m : Nat) (l : List (Int × Int)) (k : Nat) (r : Int × Int) (h : l[k]? = some r) : rowBits n m (l.take (k + 1)) = refBits n (rowBits n m (l.take k)) r := by
  have hk := (List.getElem?_eq_some_iff.1 h).1
  have e : l[k] = r := (List.getElem?_eq_some_iff.1 h).2
  rw [List.take_succ_eq_append_getElem hk, e]
  simp [rowBits, List.foldl_append]
theorem u8s_set (l : List Int) (i : Nat) (x : Int) : u8s (l.set i x) = (u8s l).set i (.int .u8 x) := by simp [u8s, List.map_set]

def allOk (l : List (Int × Int)) : Bool := l.all fun r => refB r.1 r.2
theorem allOk_succ {l : List (Int × Int)} {k : Nat} {r : Int × Int} (h : l[k]? = some r) : allOk (l.take (k + 1)) = (allOk (l.take k) && refB r.1 r.2) := by
  have hk := (List.getElem?_eq_some_iff.1 h).1
  have e : l[k] = r := (List.getElem?_eq_some_iff.1 h).2
  rw [List.take_succ_eq_append_getElem hk, e]
  simp [allOk]
theorem allOk_bad {l : List (Int × Int)} {k : Nat} {r : Int × Int} (h : l[k]? = some r) (hr : refB r.1 r.2 = false) : allOk l = false := by
  simp only [allOk, List.all_eq_false]
  exact ⟨r, List.mem_of_getElem? h, by simp [hr]⟩

/-- What Make gives where the bits are right and the refs not too many. -/
def MakePost (w : World) (n : Int) (l : List (Int × Int)) (e : Ending) (w' : World) : Prop :=
  (allOk l = true ∧ ∃ g, e = .returned (.tuple #[.slice (some ⟨g, 0, none⟩) (n / 8).toNat (n / 8).toNat, .nilIface]) ∧ SlAt w' (some ⟨g, 0, none⟩) (u8s (makeBits n l)) ∧ Below w.heap.size w w') ∨
  (allOk l = false ∧ e = .returned (.tuple #[.slice none 0 0, .iface 57 (.int .i64 1)]) ∧ Below w.heap.size w w')

set_option maxRecDepth 100000 in
set_option maxHeartbeats 800000 in
theorem make_ok (A : Option Addr) (c : Nat) (l : List (Int × Int)) (n : Int) (h2 : manyB n = true) (hl : l.length ≤ 400) (w : World) (hA : SlAt w A (refs l)) :
    Calls Tryd.prog 14 #[.slice A l.length c, .int .i64 n] w (MakePost w n l) := by
  have hn : 8 ≤ n ∧ n ≤ 4096 := by simp [manyB] at h2; omega
  obtain ⟨hn1, hn2⟩ := hn
  obtain ⟨m, hm⟩ : ∃ m : Nat, n / 8 = (m : Int) := ⟨(n / 8).toNat, by omega⟩
  obtain ⟨i0, hi, hz0, hz1, hz2⟩ := info_parts info8
  have hmn : n = 8 * m := by simp [manyB] at h2; omega
  subst hmn
  clear hm
  have hm1 : 1 ≤ m := by omega
  have hm2 : m ≤ 512 := by omega
  go_enter Tryd.func14, Tryd.ntmps14
  go_wp2_with (first
    | (go_at_call 33; refine (many_any _ _).mono ?_; rintro e w' ⟨rfl, rfl⟩)
    | (at_make; refine wpList_make_full _ rfl _ _ 40 rfl w.heap.size 5 i0 _ 1 Tryd.underlying40 hi hz0 hz1 _ _ _ _ m rfl rfl (by omega) (by omega) (by rw [hz2]; omega) (by simp only [maxLen]; omega) (Nat.le_refl _) ?_))
  intro w1 hown1 hg1
  have hb1 : Below w.heap.size w w1 := (Below.refl _ _).grown hg1 (Nat.le_refl _) (by simp)
  go_wp2_with fail
  go_loopw [28] (fun i wr => ∃ (k : Nat), k ≤ l.length ∧ i = .int .i64 k ∧ allOk (l.take k) = true ∧ wr.ownsRow w.heap.size 5 1 (.slice (some ⟨w.heap.size, 0, none⟩) m m) m (u8s (rowBits (8 * m) m (l.take k))) ∧ Below w.heap.size w wr)
    (fun i _ => l.length - (intOf i).toNat)
  case atStart => exact ⟨0, by omega, rfl, by simp [allOk], by simpa [rowBits, u8s, toList_madeCells_one] using hown1, hb1⟩
  case round =>
    obtain ⟨k, hk, rfl, hall, hown, hbr⟩ := hrel
    have HALL := Lib.hid hall; clear hall
    obtain ⟨wr', rfl⟩ : ∃ wx : World, wx = wr := ⟨_, rfl⟩
    have hbrs := hbr.size
    by_cases hlt : k < l.length
    · obtain ⟨b, off, r, rfl, hr, hx, hy⟩ := (hA.below hbr).ref hlt
      cases hrok : refB r.1 r.2 with
      | false =>
       have HB := Lib.hid (allOk_bad hr hrok)
       clear hr
       go_wp2_with (first
        | (go_at_call 12; refine (places_no _ _ _ (by simp [hrok]) _).mono ?_; rintro e w2 ⟨rfl, hb2⟩))
       go_ret2
       exact .inr ⟨HB.out, rfl, hbr.trans (((Below.refl _ _).alloc hbrs _).trans (hb2.mono (by simp; omega)))⟩
      | true =>
      have HALL2 : Hid (allOk (l.take (k + 1)) = true) := by rw [allOk_succ hr, HALL.out, hrok]; rfl
      have HR := Lib.hid hr; clear hr
      go_wp2_with (first
        | (go_at_call 12; refine (places_ok _ _ _ hrok h2 _).mono ?_; rintro e w2 ⟨A2, c2, rfl, hA2, hb2⟩))
      have hb3 : Below w.heap.size w w2 := hbr.trans (((Below.refl _ _).alloc hbrs _).trans (hb2.mono (by simp; omega)))
      have hown2 := owns_below (hown.alloc _) hb2
      have hpl := fun j => bplace_range (r.1 * 1000003 + r.2) (8 * m) j hn1 hn2
      have hbase : w.heap.size + 1 ≤ wr'.heap.size := by
        have := (hown.lt w.heap.size rfl).2; omega
      clear hb2 hown hbr hx hy
      go_loopw [43] (fun i wi => ∃ (j : Nat), j ≤ 3 ∧ i = .int .i64 j ∧ wi.ownsRow w.heap.size 5 1 (.slice (some ⟨w.heap.size, 0, none⟩) m m) m (u8s (orBits (rowBits (8 * m) m (l.take k)) (bplaces (r.1 * 1000003 + r.2) (8 * m) j))) ∧ Below w.heap.size w wi ∧
          wi.ownsRow (wr'.heap.size + 1) 3 1 (.slice A2 3 c2) 3 (ints (bplaces (r.1 * 1000003 + r.2) (8 * m) 3)))
        (fun i _ => 3 - (intOf i).toNat)
      case atStart => exact ⟨0, by omega, rfl, by simpa [orBits, bplaces] using hown2, hb3, by simpa using hA2⟩
      case round =>
        obtain ⟨j, hj, rfl, hown3, hb4, hA3⟩ := hrel
        by_cases hj3 : j < 3
        · obtain ⟨b2, off2, x, rfl, hxj, hcx⟩ := (SlAt.of_owns hA3).int (k := j) (by simpa [bplaces] using hj3)
          have hx0 : 0 ≤ x ∧ x < 8 * m := by
            have e : x = bplace (r.1 * 1000003 + r.2) (8 * m) j := by
              have := hxj
              simp [bplaces, hj3] at this
              exact this.symm
            rw [e]; exact hpl j
          obtain ⟨q, rfl⟩ : ∃ q : Nat, x = q := ⟨x.toNat, by omega⟩
          have hq1 : q < 8 * m := by omega
          have hq : q / 8 < m := by omega
          have hq2 : (q : Int) / 8 < m := by omega
          have HX := Lib.hid hxj; clear hxj hpl
          obtain ⟨y, hy⟩ : ∃ y, (orBits (rowBits (8 * ↑m) m (l.take k)) (bplaces (r.1 * 1000003 + r.2) (8 * ↑m) j))[q / 8]? = some y := by
            have hlen := hown3.1
            simp [u8s] at hlen
            exact ⟨_, List.getElem?_eq_getElem (by rw [hlen]; exact hq)⟩
          have hcy := hown3.cellAt (q / 8) (by omega)
          have hfy := hown3.frozenAt (q / 8)
          rw [u8s, List.getElem?_map, hy] at hcy
          simp only [Option.map_some] at hcy
          have HY := Lib.hid hy; clear hy
          go_wp2_with fail
          go_region
          go_wp2
          clear hcx hcy hfy
          go_roundw
          case rel =>
            refine ⟨j + 1, by omega, by go_num, ?_, (hb4.setCell (p := ⟨w.heap.size, q / 8, none⟩) (Nat.le_refl _) _).drew, (ownsRow_setCell_below hA3 (a := ⟨w.heap.size, q / 8, none⟩) (by show w.heap.size < wr'.heap.size + 1; omega) _).drew⟩
            have hst := (hown3.stored (q / 8) (Value.int IntKind.u8 (bits BinOp.or IntKind.u8 y (2 ^ (q % 8) % 256)))).1.drew
            have e : (q : Int) = bplace (r.1 * 1000003 + r.2) (8 * m) j := by
              have := HX.out
              simp [bplaces, hj3] at this
              exact this.symm
            rw [orBits_succ, ← e, orBit, u8s_set, Int.toNat_natCast, HY.out]
            exact hst
          case measure => simp [intOf]; omega
        · obtain rfl : j = 3 := by omega
          have e := rowBits_succ (8 * m) m l k r HR.out
          have HE := Lib.hid e; clear e
          clear hpl
          go_wp2
          go_roundw
          case rel => exact ⟨k + 1, by omega, by go_num, HALL2.out, by rw [HE.out]; exact hown3, hb4⟩
          case measure => simp [intOf]; omega
    · obtain rfl : k = l.length := by omega
      go_wp2
      go_ret2
      refine .inl ⟨by have := HALL.out; rwa [List.take_length] at this, w.heap.size, ?_, ?_, hbr⟩
      · rw [show (8 * (m : Int) / 8).toNat = m from by omega]; rfl
      · rw [List.take_length] at hown
        rw [makeBits, show (8 * (m : Int) / 8).toNat = m from by omega]
        exact SlAt.of_owns hown
set_option maxRecDepth 100000 in
theorem make_no1 (A : Option Addr) (c : Nat) (l : List (Int × Int)) (n : Int) (h2 : manyB n = false) (w : World) :
    Calls Tryd.prog 14 #[.slice A l.length c, .int .i64 n] w fun e w' => e = .returned (.tuple #[.slice none 0 0, .iface 57 (.int .i64 1)]) ∧ Below w.heap.size w w' := by
  go_enter Tryd.func14, Tryd.ntmps14
  go_wp2_with (first
    | (go_at_call 33; refine (many_any _ _).mono ?_; rintro e w' ⟨rfl, rfl⟩))
  go_ret2
  exact ⟨rfl, Below.refl _ _⟩

set_option maxRecDepth 100000 in
theorem make_no4 (A : Option Addr) (c : Nat) (l : List (Int × Int)) (n : Int) (h2 : manyB n = true) (hl : 400 < l.length) (w : World) :
    Calls Tryd.prog 14 #[.slice A l.length c, .int .i64 n] w fun e w' => e = .returned (.tuple #[.slice none 0 0, .iface 57 (.int .i64 4)]) ∧ Below w.heap.size w w' := by
  go_enter Tryd.func14, Tryd.ntmps14
  go_wp2_with (first
    | (go_at_call 33; refine (many_any _ _).mono ?_; rintro e w' ⟨rfl, rfl⟩))
  go_ret2
  exact ⟨rfl, Below.refl _ _⟩
end Go.Proofs.YtfnigdbnkdofiaaDoor
