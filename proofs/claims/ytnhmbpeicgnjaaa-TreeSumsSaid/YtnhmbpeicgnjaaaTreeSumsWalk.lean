/- TreeSums: the walk. -/
import Derived.Test.YtnhmbpeicgnjaaaTreeFind
import Derived.Test.YtnhmbpeicgnjaaaOpen
import Derived.ChangeSlices
namespace Go.Proofs.Ytnhmbpeicgnjaaa
open Go.RowKit Go.ChangeShapes Go.WideShapes
set_option linter.unusedVariables false
set_option linter.unusedSimpArgs false

/-- A slice of numbers that came in. -/
def IsInts (W : World) (v : Value) (l : List Int) : Prop := ∃ A c, v = .slice A l.length c ∧ SlAt W A (ints l) ∧ (∀ r ∈ l, I64 r) ∧ l.length ≤ maxLen

/-- What the loop of the law holds at index i: the row has the widths. -/
def LawRel (B : Nat) (w : World) (br : Nat) (i : Nat) (wr : World) (T : AV) : Prop :=
  RowT B wr br T ∧ T.seq.length = i ∧ Below B w wr ∧ B ≤ wr.heap.size

theorem seq_wide {T : AV} {B : Nat} {w : World} {br : Nat} (h : RowT B w br T) {i : Nat} {th wd : Int} (hs : T.seq[i]? = some (th, wd)) : 0 ≤ wd ∧ wd ≤ 1000000 := h.con.wides _ (List.mem_of_getElem? hs)
theorem take_succ_sum {l : List (Int × Int)} {i : Nat} {th wd : Int} (hs : l[i]? = some (th, wd)) : AV.sumW (l.take (i + 1)) = AV.sumW (l.take i) + wd := by
  have hlt := List.getElem?_eq_some_iff.1 hs
  rw [List.take_succ_eq_append_getElem hlt.1, hlt.2, AV.sumW_append]
  simp [AV.sumW]

set_option maxRecDepth 100000 in
set_option maxHeartbeats 2000000 in
theorem treeSums_walk (w : World) (v : Value) (l : List Int) (hv : IsInts w v l) :
    Calls Try.prog 5 #[v] w fun e w' => e = .returned (.bool true) ∧ Below w.heap.size w w' := by
  obtain ⟨A, c, rfl, hA, hI, hlen⟩ := hv
  have hml : l.length ≤ 9223372036854775807 := Nat.le_trans hlen (by decide)
  have HI := Lib.hid hI
  clear hlen hI
  go_enter Try.func5, Try.ntmps5
  go_wp2_with fail
  refine (new_any _).mono ?_
  rintro e w1 ⟨rfl, hr1, hb1⟩
  go_wp2_with fail
  refine (Insert_any w.heap.size w.heap.size .nil 0 1 4 _ hr1 hb1.size (by decide) (by decide) (by decide)).mono ?_
  rintro e w2 ⟨hb2, hs2, (⟨hn, _⟩ | ⟨_, rfl, T2, hr2, hq2⟩)⟩
  · exact absurd (by decide) hn
  have hbb2 := hb1.trans hb2
  have hq2' : T2.seq = [(1, 4)] := by rw [hq2]; rfl
  have hf := Find_any w.heap.size w.heap.size T2 0 1 4 3 w2 hr2 (by rw [hq2']; rfl) (by decide) (by decide)
  have HFD := Lib.hid (show Calls Try.prog 11 #[.pointer (some ⟨w.heap.size, 0, none⟩), .int .i64 3] w2 fun e w' => e = .returned (.tuple #[.int .i64 0, .int .i64 3, .nilIface]) ∧ RowT w.heap.size w' w.heap.size T2 ∧ Only (· = w.heap.size) w2 w' from by simpa [AV.sumW] using hf)
  clear hf hq2 hq2' hr1
  go_wp2_with fail
  refine HFD.out.mono ?_
  rintro e w3 ⟨rfl, hr3, ho3⟩
  have hbb3 := hbb2.trans (ho3.below hbb2.size (fun k hk e => by omega))
  clear hr3 ho3 HFD hr2 hb1 hb2 hs2 hbb2
  go_wp2_with fail
  refine (new_any _).mono ?_
  rintro e w4 ⟨rfl, hr4', hb4'⟩
  have hB3 := hbb3.size
  have hbb4 := hbb3.trans (hb4'.mono hB3)
  have hr4 : RowT w.heap.size w4 w3.heap.size .nil := ⟨hr4'.row, hr4'.tree, hr4'.nd, hr4'.con, fun q hq => Nat.le_trans hB3 (hr4'.low q hq), hr4'.size⟩
  obtain ⟨br, hbr⟩ : ∃ br, w3.heap.size = br := ⟨_, rfl⟩
  rw [hbr] at hr4 ⊢
  clear hr4' hb4' hbr hB3
  go_wp2_with fail
  go_loopw [9] (fun iv wr => ∃ (k : Nat) (T : AV), iv = .int .i64 k ∧ k ≤ 100 ∧ k ≤ l.length ∧ LawRel w.heap.size w br k wr T)
    (fun iv _ => 100 - (intOf iv).toNat)
  case atStart => exact ⟨0, .nil, rfl, by omega, by omega, hr4, rfl, hbb4, hbb4.size⟩
  case round =>
    obtain ⟨k, T, rfl, hk1, hk2, hr, hlen, hbb, hsz⟩ := hrel
    have hcon := hr.con.cnt
    have HRR := Lib.hid (And.intro hr (And.intro hlen (And.intro hbb (And.intro hsz hcon))))
    clear hr hlen hbb hsz hcon
    by_cases hgo : k < l.length ∧ k < 100
    · obtain ⟨hg1, hg2⟩ := hgo
      obtain ⟨b, o, x, rfl, hx, hcx⟩ := (hA.below HRR.out.2.2.1).int (k := k) hg1
      have HX := Lib.hid hx; clear hx
      have d1 : decide ((k : Int) < (l.length : Int)) = true := by simp; omega
      have d2 : decide ((k : Int) < 100) = true := by simp; omega
      go_wp2_with fail
      refine (Insert_any w.heap.size br T _ k x _ HRR.out.1 HRR.out.2.2.2.1 (by omega) (by have a := HRR.out.2.2.2.2; have c := HRR.out.2.1; omega) (by have a := HRR.out.2.2.2.2; have c := HRR.out.2.1; omega)).mono ?_
      rintro e v2 ⟨hb2, hs2, (⟨hn, rfl⟩ | ⟨_, rfl, T2, hr2, hq2⟩)⟩
      · go_wp2_with fail
        go_ret
        exact ⟨rfl, HRR.out.2.2.1.trans hb2⟩
      · have hq3 : T2.seq.length = k + 1 := by
          have a := HRR.out.2.2.2.2; have c := HRR.out.2.1
          rw [hq2]; simp only [AV.insL, List.length_append, List.length_take, List.length_cons, List.length_drop]; omega
        have HQ := Lib.hid (And.intro hr2 (And.intro hq3 (HRR.out.2.2.1.trans hb2)))
        have hsz2 : w.heap.size ≤ v2.heap.size := Nat.le_trans HRR.out.2.2.2.1 hs2
        clear hq2 hq3 hr2 hb2 hs2
        go_wp2_with fail
        go_roundw
        case rel => exact ⟨k + 1, T2, by go_num, by omega, by omega, HQ.out.1, HQ.out.2.1, HQ.out.2.2, hsz2⟩
        case measure => simp [intOf] <;> omega
    · have hend : k = l.length ∨ (k < l.length ∧ k = 100) := by omega
      have HLEN := Lib.hid (fun (v1 : World) (a : RowT w.heap.size v1 br T) => (show Calls Try.prog 12 #[.pointer (some ⟨br, 0, none⟩)] v1 fun e w' => e = .returned (.int .i64 k) ∧ v1 = w' from by
        have := len_any br T v1 a
        rw [HRR.out.2.2.2.2, HRR.out.2.1] at this; exact this))
      have HSUM := Lib.hid (show AV.sumW (T.seq.take k) = T.wid from by
        rw [HRR.out.1.con.wid, List.take_of_length_le (by have := HRR.out.2.1; omega)])
      clear hgo
      have hfin : (k = l.length ∧ (k : Int) = (l.length : Int)) ∨ (decide ((k : Int) < (l.length : Int)) = true ∧ decide ((k : Int) < 100) = false ∧ k < l.length ∧ k = 100) := by
        rcases hend with e | ⟨e1, e2⟩
        · left; omega
        · right; simp; omega
      clear hend
      have hfin2 : (decide ((k : Int) < (l.length : Int)) = false ∧ (l.length : Int) ≤ (k : Int) ∧ ¬ k < l.length) ∨ (decide ((k : Int) < (l.length : Int)) = true ∧ decide ((k : Int) < 100) = false) := by
        rcases hfin with e | ⟨e1, e2, _⟩
        · left; refine ⟨?_, ?_, ?_⟩
          · simp; omega
          · omega
          · omega
        · exact .inr ⟨e1, e2⟩
      clear hfin
      rcases hfin2 with ⟨d1, d2, d3⟩ | ⟨d1, d2⟩
      all_goals go_wp2_with fail
      all_goals
        refine (HLEN.out _ HRR.out.1).mono ?_
        rintro e w' ⟨rfl, rfl⟩
        go_wp2_with fail
        go_loopw [12] (fun iv wr2 => ∃ (i : Nat), iv = .int .i64 i ∧ i ≤ k ∧ RowT w.heap.size wr2 br T ∧ Below w.heap.size w wr2 ∧ w.heap.size ≤ wr2.heap.size)
          (fun iv _ => k - (intOf iv).toNat)
        case atStart => exact ⟨0, rfl, by omega, HRR.out.1, HRR.out.2.2.1, HRR.out.2.2.2.1⟩
        case round =>
          obtain ⟨i, rfl, hik, hrow, hbb, hsz⟩ := hrel
          have HR2 := Lib.hid (And.intro hrow (And.intro hbb hsz))
          clear hrow hbb hsz
          by_cases hlt : i < k
          · obtain ⟨th, wd, hs⟩ : ∃ th wd, T.seq[i]? = some (th, wd) := by
              have hl : i < T.seq.length := by have := HRR.out.2.1; omega
              exact ⟨_, _, List.getElem?_eq_getElem hl⟩
            have hwd := seq_wide HRR.out.1 hs
            obtain ⟨hwd0, hwd1⟩ := hwd
            have hnn := sumW_take_nn HRR.out.1.con i
            have hls := HRR.out.2.1
            have hsucc := take_succ_sum hs
            obtain ⟨S, hS⟩ : ∃ S, AV.sumW (T.seq.take i) = S := ⟨_, rfl⟩
            rw [hS] at hnn hsucc
            have hS0 : 0 ≤ S := hnn.1
            have hS1 : S ≤ 1000000000 := by omega
            have hc1 : (i : Int) ≤ T.cnt := by have := HRR.out.2.2.2.2; omega
            have hc2 : ((i + 1 : Nat) : Int) ≤ T.cnt := by have := HRR.out.2.2.2.2; omega
            have HA1 := Lib.hid (fun (v1 : World) (a : RowT w.heap.size v1 br T) => (show Calls Try.prog 13 #[.pointer (some ⟨br, 0, none⟩), .int .i64 i] v1 fun e w' => e = .returned (.tuple #[.int .i64 S, .nilIface]) ∧ RowT w.heap.size w' br T ∧ Only (· = br) v1 w' from by
              have := Ahead_any w.heap.size br T i v1 a hc1
              rw [hS] at this; exact this))
            have HA2 := Lib.hid (fun (v1 : World) (a : RowT w.heap.size v1 br T) => (show Calls Try.prog 13 #[.pointer (some ⟨br, 0, none⟩), .int .i64 ((i : Int) + 1)] v1 fun e w' => e = .returned (.tuple #[.int .i64 (S + wd), .nilIface]) ∧ RowT w.heap.size w' br T ∧ Only (· = br) v1 w' from by
              have := Ahead_any w.heap.size br T (i + 1) v1 a hc2
              rw [hsucc] at this; exact_mod_cast this))
            have HG := Lib.hid (fun (v1 : World) (a : RowT w.heap.size v1 br T) => Get_any w.heap.size br T i th wd v1 a hs)
            have HF := Lib.hid (fun (v1 : World) (a : RowT w.heap.size v1 br T) (h : 0 < wd) => (show Calls Try.prog 11 #[.pointer (some ⟨br, 0, none⟩), .int .i64 (S + wd - 1)] v1 fun e w' => e = .returned (.tuple #[.int .i64 i, .int .i64 (wd - 1), .nilIface]) ∧ RowT w.heap.size w' br T ∧ Only (· = br) v1 w' from by
              have := Find_any w.heap.size br T i th wd (wd - 1) v1 a hs (by omega) (by omega)
              rw [hS, show S + (wd - 1) = S + wd - 1 from by omega] at this; exact this))
            have HBR := Lib.hid (show w.heap.size ≤ br from HRR.out.1.low br (by simp))
            have hlti : (i : Int) < (k : Int) := by omega
            clear hs hnn hls hsucc hS hc1 hc2
            go_wp2_with fail
            refine (HA1.out _ HR2.out.1).mono ?_
            rintro e v1 ⟨rfl, hr1, ho1⟩
            have hb1 := HR2.out.2.1.trans (ho1.below HR2.out.2.2 (fun q hq e => by have := HBR.out; omega))
            have hz1 := Nat.le_trans HR2.out.2.2 ho1.size
            clear ho1
            go_wp2_with fail
            refine (HA2.out _ hr1).mono ?_
            rintro e v2 ⟨rfl, hr2, ho2⟩
            have hb2 := hb1.trans (ho2.below hz1 (fun q hq e => by have := HBR.out; omega))
            have hz2 := Nat.le_trans hz1 ho2.size
            clear ho2 hr1 hb1 hz1
            go_wp2_with fail
            refine (HG.out _ hr2).mono ?_
            rintro e v3 ⟨rfl, hr3, ho3⟩
            have hb3 := hb2.trans (ho3.below hz2 (fun q hq e => by have := HBR.out; omega))
            have hz3 := Nat.le_trans hz2 ho3.size
            clear ho3 hr2 hb2 hz2
            by_cases hw0 : 0 < wd
            · have dw : decide (0 < wd) = true := by simpa using hw0
              go_wp2_with fail
              refine (HF.out _ hr3 hw0).mono ?_
              rintro e v4 ⟨rfl, hr4, ho4⟩
              have hb4 := hb3.trans (ho4.below hz3 (fun q hq e => by have := HBR.out; omega))
              have hz4 := Nat.le_trans hz3 ho4.size
              clear ho4 hr3 hb3 hz3
              have HO := Lib.hid (And.intro hr4 (And.intro hb4 hz4))
              clear hr4 hb4 hz4
              go_wp2_with fail
              go_roundw
              case rel => exact ⟨i + 1, by go_num, by omega, HO.out.1, HO.out.2.1, HO.out.2.2⟩
              case measure => simp [intOf] <;> omega
            · have dw : decide (0 < wd) = false := by simpa using hw0
              have HO := Lib.hid (And.intro hr3 (And.intro hb3 hz3))
              clear hr3 hb3 hz3
              go_wp2_with fail
              go_roundw
              case rel => exact ⟨i + 1, by go_num, by omega, HO.out.1, HO.out.2.1, HO.out.2.2⟩
              case measure => simp [intOf] <;> omega
          · have hlti : (k : Int) ≤ (i : Int) := by omega
            have HA1 := Lib.hid (fun (v1 : World) (a : RowT w.heap.size v1 br T) => (show Calls Try.prog 13 #[.pointer (some ⟨br, 0, none⟩), .int .i64 k] v1 fun e w' => e = .returned (.tuple #[.int .i64 T.wid, .nilIface]) ∧ RowT w.heap.size w' br T ∧ Only (· = br) v1 w' from by
              have := Ahead_any w.heap.size br T k v1 a (by have := HRR.out.2.2.2.2; have := HRR.out.2.1; omega)
              rw [HSUM.out] at this; exact this))
            have HBR := Lib.hid (show w.heap.size ≤ br from HRR.out.1.low br (by simp))
            go_wp2_with fail
            refine (HA1.out _ HR2.out.1).mono ?_
            rintro e v1 ⟨rfl, hr1, ho1⟩
            have hb1 := HR2.out.2.1.trans (ho1.below HR2.out.2.2 (fun q hq e => by have := HBR.out; omega))
            have HWD := Lib.hid (wideRow_any br T v1 hr1)
            clear ho1 hr1
            go_wp2_with fail
            refine HWD.out.mono ?_
            rintro e w' ⟨rfl, rfl⟩
            go_wp2_with fail
            go_ret
            exact ⟨rfl, hb1⟩
end Go.Proofs.Ytnhmbpeicgnjaaa
