/- DiskPlays: the walk. -/
import Derived.Test.YtbfmdpgghknccaaDoorPlayLook
import Derived.Test.YtbfmdpgghknccaaDoorBytesArg
import Derived.Deep.RegionHeld3
namespace Go.Proofs.YtbfmdpgghknccaaDoor
open Go.RowKit Go.Maps
set_option linter.unusedVariables false
set_option linter.unusedSimpArgs false

/-- Rows of numbers that came in. -/
def IsRows (W : World) (v : Value) (n : Nat) : Prop := ∃ A c, v = .slice A n c ∧ n ≤ maxLen ∧ ∀ i, i < n → ∃ b off Ai ci l, A = some ⟨b, off, none⟩ ∧ W.cell? ⟨b, off + i, none⟩ = some (.slice Ai (List.length l) ci) ∧ SlAt W Ai (ints l) ∧ l.length ≤ maxLen ∧ ∀ x ∈ l, I64 x
theorem getElem?_ints {l : List Int} {j : Nat} {x : Int} (h : l[j]? = some x) : (ints l)[j]? = some (.int .i64 x) := by simp [ints, h]

/-- Four numbers in a row. -/
def Four (q : Nat) (w : World) : Prop := ∃ a b c d : Int, Blk w q 48 #[.int .i64 a, .int .i64 b, .int .i64 c, .int .i64 d]
theorem Four.set_ {q j : Nat} {w : World} (h : Four q w) (hj : j < 4) (v : Int) : Four q (w.setCell ⟨q, j, none⟩ (.int .i64 v)) := by
  obtain ⟨a, b, c, d, h⟩ := h
  have h2 := h.set_ j (.int .i64 v)
  have : j = 0 ∨ j = 1 ∨ j = 2 ∨ j = 3 := by omega
  rcases this with rfl | rfl | rfl | rfl
  · exact ⟨v, b, c, d, by simpa using h2⟩
  · exact ⟨a, v, c, d, by simpa using h2⟩
  · exact ⟨a, b, v, d, by simpa using h2⟩
  · exact ⟨a, b, c, v, by simpa using h2⟩
theorem Four.cell_ {q j : Nat} {w : World} (h : Four q w) (hj : j < 4) : ∃ v : Int, w.cell? ⟨q, j, none⟩ = some (.int .i64 v) := by
  obtain ⟨a, b, c, d, h⟩ := h
  have : j = 0 ∨ j = 1 ∨ j = 2 ∨ j = 3 := by omega
  rcases this with rfl | rfl | rfl | rfl
  · exact ⟨a, h.cell 0⟩
  · exact ⟨b, h.cell 1⟩
  · exact ⟨c, h.cell 2⟩
  · exact ⟨d, h.cell 3⟩
theorem Four.frozen_ {q : Nat} {w : World} (h : Four q w) : ∀ i, w.frozen? ⟨q, i, none⟩ = false := by
  obtain ⟨a, b, c, d, h⟩ := h
  exact h.frozen
def PlaysQ (W0 : World) (e : Ending) (w' : World) : Prop := e = .returned (.bool true) ∧ Below W0.heap.size W0 w'

set_option maxRecDepth 100000 in
set_option maxHeartbeats 4000000 in
theorem diskPlays_walk (W0 : World) (hE : ErrVar W0) (v0 : Value) (n : Nat) (hv : IsRows W0 v0 n) (v1 : Value) (ys : List Int) (hy : IsBytes W0 v1 ys) :
    Calls Tryd.prog 4 #[v0, v1] W0 (PlaysQ W0) := by
  obtain ⟨A, c, rfl, hn, hrows⟩ := hv
  obtain ⟨B, bc, rfl, hBS, hby, hbc, hbm⟩ := hy
  have hBd : ys ≠ [] → ∀ a, B = some a → a.block < W0.heap.size := by
    intro hne a ha
    rcases hBS with h | ⟨b, off, h, hc⟩
    · exact absurd (by simpa [u8s] using h) hne
    · rw [h] at ha
      injection ha with ha
      subst ha
      cases ys with
      | nil => exact absurd rfl hne
      | cons y ys => exact cell_lt (hc 0 _ rfl)
  have hni : (n : Int) ≤ 9223372036854775807 := by unfold maxLen at hn; omega
  have HN := Lib.hid (new_some W0)
  obtain ⟨yl, hyl2⟩ : ∃ yl, ys.length = yl := ⟨_, rfl⟩
  have HH := Lib.hid (And.intro hE (And.intro hrows (And.intro hBS (And.intro hBd (And.intro (Nat.le_trans hbc hbm) hyl2)))))
  rw [hyl2]
  clear hE hrows hBS hBd hbc hbm hby hyl2 hn
  go_enter Tryd.func4, Tryd.ntmps4
  go_wp2_with fail
  refine HN.out.mono ?_
  rintro e w1 ⟨d, bn, bs, rfl, hd, hb, hd0, hbn0, hbs0⟩
  have hb2 : Below w1.heap.size w1 (w1.alloc (.cells #[.slice none 0 0, .slice none 0 0, .slice none 0 0, .int .i64 0, .int .i64 (-1)] 47)) := (Below.refl _ w1).alloc (Nat.le_refl _) _
  have hst : Play W0 (w1.alloc (.cells #[.slice none 0 0, .slice none 0 0, .slice none 0 0, .int .i64 0, .int .i64 (-1)] 47)) d w1.heap.size ⟨[], [], [], 0, -1⟩ 0 := play_start W0 _ d bn bs _ (hd.below hb2) (hb.trans (hb2.mono hb.size)) ⟨hd0, hbn0, hb.size⟩ (Blk.new w1 _ _)
  have HST := Lib.hid hst
  clear hst hd hb hd0 hbn0 hbs0 hb2 HN
  obtain ⟨k, hk⟩ : ∃ k, w1.heap.size = k := ⟨_, rfl⟩
  go_wp2_with fail
  rw [hk] at HST
  clear hk
  go_loopw [7] (fun iv wr => ∃ i : Nat, iv = .int .i64 i ∧ i ≤ n ∧ i ≤ 80 ∧ ∃ ks m, m ≤ i ∧ Play W0 wr d k ks m) (fun iv _ => 80 - (intOf iv).toNat)
  case atStart => exact ⟨0, rfl, Nat.zero_le _, by omega, _, 0, Nat.le_refl _, HST.out⟩
  case round =>
    clear HST
    obtain ⟨i, rfl, hi, hi80, ks, m, hm, hp⟩ := hrel
    by_cases hgo : i < n ∧ i < 80
    · obtain ⟨hlt, hlt80⟩ := hgo
      have d0 : decide ((i : Int) < (n : Int)) = true := by simp; omega
      have d1 : decide ((i : Int) < 80) = true := by simp; omega
      obtain ⟨b, off, Ai, ci, l, hA, hrow, hAi, hll, h64⟩ := HH.out.2.1 i hlt
      obtain ⟨li, hli⟩ : ∃ li, l.length = li := ⟨_, rfl⟩
      rw [hli] at hrow hll
      have hbW : b < W0.heap.size := cell_lt hrow
      have hlii : (li : Int) ≤ 9223372036854775807 := by unfold maxLen at hll; omega
      have hWW : Below W0.heap.size W0 wr := by obtain ⟨_, _, _, _, _, _, _, _, _, _, _, _, _, _, _, _, hb⟩ := hp; exact hb
      have H0 := Lib.hid (And.intro hrow (And.intro hAi (And.intro hli (And.intro h64 (And.intro hp hWW)))))
      subst hA
      clear hrow hAi hli hll h64 hp hWW
      go_wp2_with fail
      rename World => wz
      go_loopw [9] (fun jv wr => ∃ j : Nat, jv = .int .i64 j ∧ j ≤ li ∧ j ≤ 4 ∧ Four wz.heap.size wr ∧ Below wz.heap.size wz wr) (fun jv _ => 4 - (intOf jv).toNat)
      case atStart => exact ⟨0, rfl, Nat.zero_le _, by omega, ⟨0, 0, 0, 0, Blk.new wz _ _⟩, (Below.refl _ wz).alloc (Nat.le_refl _) _⟩
      case round =>
        obtain ⟨j, rfl, hj, hj4, hf, hbz⟩ := hrel
        have hWr : Below W0.heap.size W0 wr := H0.out.2.2.2.2.2.trans (hbz.mono H0.out.2.2.2.2.2.size)
        have r0 : wr.cell? ⟨b, off + i, none⟩ = some (.slice Ai li ci) := cell_below hWr H0.out.1
        by_cases hgj : j < li ∧ j < 4
        · obtain ⟨hjl, hj4'⟩ := hgj
          have d2 : decide ((j : Int) < (li : Int)) = true := by simp; omega
          have d3 : decide ((j : Int) < 4) = true := by simp; omega
          have d4 : (j : Int) < 4 := by omega
          have d5 : (j : Int) < (li : Int) := by omega
          obtain ⟨x, hx⟩ : ∃ x, l[j]? = some x := ⟨_, List.getElem?_eq_getElem (by rw [H0.out.2.2.1]; exact hjl)⟩
          obtain ⟨b2, off2, hA2, m0⟩ := (H0.out.2.1.below hWr).at_ (getElem?_ints hx)
          obtain ⟨ov, hov⟩ := hf.cell_ hj4'
          have hfz := hf.frozen_
          have H1 := Lib.hid (And.intro (hf.set_ hj4' x) hbz)
          subst hA2
          clear hf hbz hWr hx
          go_wp2_with fail
          go_roundw
          case rel => exact ⟨j + 1, by go_num, hjl, hj4', H1.out.1, H1.out.2.setCell (Nat.le_refl _) _⟩
          case measure => simp [intOf] <;> omega
        · have hp2 : Play W0 wr d k ks m := H0.out.2.2.2.2.1.below hbz
          obtain ⟨x0, x1, x2, x3, hB4⟩ := hf
          have c0 : wr.cell? ⟨wz.heap.size, 0, none⟩ = some (.int .i64 x0) := hB4.cell 0
          have c1 : wr.cell? ⟨wz.heap.size, 1, none⟩ = some (.int .i64 x1) := hB4.cell 1
          have c2 : wr.cell? ⟨wz.heap.size, 2, none⟩ = some (.int .i64 x2) := hB4.cell 2
          have c3 : wr.cell? ⟨wz.heap.size, 3, none⟩ = some (.int .i64 x3) := hB4.cell 3
          have H1 := Lib.hid (And.intro hp2 hB4)
          clear hp2 hB4 hbz hWr
          by_cases hjl : j < li
          case' pos =>
            have d2 : decide ((j : Int) < (li : Int)) = true := by simp; omega
            have d3 : decide ((j : Int) < 4) = false := by simp; omega
          case' neg =>
            have d2 : decide ((j : Int) < (li : Int)) = false := by simp; omega
          all_goals
            clear hgj
            by_cases hx1 : x0 < 1
            · have e0 : decide (x0 < 1) = true := by simpa using hx1
              clear hx1
              go_wp2_with fail
              go_roundw
              case rel => exact ⟨i + 1, by go_num, hlt, by omega, ks, m, by omega, H1.out.1⟩
              case measure => simp [intOf] <;> omega
            · by_cases hx8 : 8 < x0
              · have e0 : decide (x0 < 1) = false := by simpa using hx1
                have e1 : decide (8 < x0) = true := by simpa using hx8
                clear hx1 hx8
                go_wp2_with fail
                go_roundw
                case rel => exact ⟨i + 1, by go_num, hlt, by omega, ks, m, by omega, H1.out.1⟩
                case measure => simp [intOf] <;> omega
              · have e0 : decide (x0 < 1) = false := by simpa using hx1
                have e1 : decide (8 < x0) = false := by simpa using hx8
                have hdr : Below wr.heap.size wr wr.drew := (Below.refl _ wr).drew
                have hD := done_any W0 wr.drew HH.out.1 d k m ks (H1.out.1.below hdr) (by omega) x0 (by omega) (by omega) x1 x2 B ys bc x3 HH.out.2.2.1 HH.out.2.2.2.1 HH.out.2.2.2.2.1
                unfold wV at hD
                rw [HH.out.2.2.2.2.2] at hD
                have HD := Lib.hid hD
                have HB := Lib.hid (H1.out.2.below hdr H1.out.2.lt)
                clear hD hdr hx1 hx8
                go_wp2_with fail
                go_region_held3 (fun w' => w'.cell? ⟨wz.heap.size, 0, none⟩ = some (.int .i64 x0) ∧ w'.cell? ⟨wz.heap.size, 1, none⟩ = some (.int .i64 x1) ∧ w'.cell? ⟨wz.heap.size, 2, none⟩ = some (.int .i64 x2) ∧ w'.cell? ⟨wz.heap.size, 3, none⟩ = some (.int .i64 x3)) (first | (with_reducible exact ⟨c0, c1, c2, c3⟩) | (with_reducible exact ⟨p0, p1, p2, p3⟩) | assumption | go_keep) (first
                  | (go_at_call 10; refine (file_any _ _).mono ?_; rintro e w' ⟨rfl, rfl⟩)
                  | (go_simp
                     (with_reducible refine HD.out.mono ?_)
                     rintro e w2 ⟨rfl, ⟨ks2, hpl⟩, harr⟩
                     have hB5 := harr _ _ HB.out
                     have p0 : w2.cell? ⟨wz.heap.size, 0, none⟩ = some (.int .i64 x0) := hB5.cell 0
                     have p1 : w2.cell? ⟨wz.heap.size, 1, none⟩ = some (.int .i64 x1) := hB5.cell 1
                     have p2 : w2.cell? ⟨wz.heap.size, 2, none⟩ = some (.int .i64 x2) := hB5.cell 2
                     have p3 : w2.cell? ⟨wz.heap.size, 3, none⟩ = some (.int .i64 x3) := hB5.cell 3
                     have HP := Lib.hid hpl
                     clear hpl harr hB5))
                all_goals
                  clear c0 c1 c2 c3 p0 p1 p2 p3 e0 e1 d2 HD HB H1 r0
                  go_wp2_with fail
                  have hlen : (isortK (ks2.names.map (·.1))).length ≤ 1000000 := by
                    obtain ⟨_, _, _, _, _, _, _, _, _, _, _, _, _, _, _, hw, _⟩ := HP.out
                    have := hw.bd
                    rw [isortK_len, List.length_map]
                    omega
                  have hcN := play_names HP.out (by omega)
                  have hcL := fun (W : World) (hb : Below w2.heap.size w2 W) => play_list (HP.out.below hb) (by omega)
                  generalize isortK (ks2.names.map (·.1)) = L at hlen hcN hcL
                  have HL := Lib.hid hcL
                  clear hcL
                  refine hcN.mono ?_
                  clear hcN
                  rintro e w3 ⟨XA, xc, rfl, hXS, hb3⟩
                  have H3 := Lib.hid (And.intro hXS hb3)
                  clear hXS hb3
                  go_wp2_with fail
                  refine (HL.out _ H3.out.2).mono ?_
                  clear HL
                  rintro e w4 ⟨YA, yc, rfl, hYS, hb4⟩
                  have hcT := texts_same XA YA xc yc L w4 (H3.out.1.below hb4) hYS hlen
                  have HT := Lib.hid hcT
                  have H4 := Lib.hid (H3.out.2.trans (hb4.mono H3.out.2.size))
                  clear hYS hb4 hcT H3 hlen
                  go_wp2_with fail
                  refine HT.out.mono ?_
                  clear HT
                  rintro e w5 ⟨rfl, hb5⟩
                  have hp5 := HP.out.below (H4.out.trans (hb5.mono H4.out.size))
                  have HS := Lib.hid (play_steps hp5)
                  have H5 := Lib.hid hp5
                  clear hp5 hb5 H4 HP
                  go_wp2_with fail
                  refine HS.out.mono ?_
                  clear HS
                  rintro e w6 ⟨rfl, hb6⟩
                  have hp6 := H5.out.below hb6
                  have kc := play_cell hp6
                  have H6 := Lib.hid hp6
                  clear hp6 hb6 H5
                  go_wp2_with fail
                  clear kc
                  go_loopw [15] (fun jv wr => ∃ j : Nat, jv = .int .i64 j ∧ j ≤ 6 ∧ Play W0 wr d k ks2 (m + 1)) (fun jv _ => 6 - (intOf jv).toNat)
                  case atStart => exact ⟨0, rfl, Nat.zero_le _, H6.out⟩
                  case round =>
                    clear H6
                    obtain ⟨j, rfl, hj6, hpj⟩ := hrel
                    by_cases hjl6 : j < 6
                    · have d6 : decide ((j : Int) < 6) = true := by simp; omega
                      obtain ⟨rl, rx, hrd⟩ : ∃ rl rx, ks2.rd (fileN j) = (rl, rx) := ⟨_, _, rfl⟩
                      have hrx : 0 ≤ rx ∧ rx ≤ 8 := by have := KZ.rd_in ks2 (fileN j); rw [hrd] at this; exact this
                      have hcD := play_dread hpj j
                      have hcK := fun (W : World) (hb : Below wr.heap.size wr W) => play_kread (hpj.below hb) (by omega) j
                      rw [hrd] at hcD
                      rw [hrd] at hcK
                      have HD := Lib.hid hcD
                      have HK := Lib.hid hcK
                      have HJ := Lib.hid (And.intro hpj hrx)
                      clear hcD hcK hpj hrx hrd
                      go_wp2_with (first | (go_at_call 10; refine (file_any _ _).mono ?_; rintro e w' ⟨rfl, rfl⟩) | fail)
                      refine HD.out.mono ?_
                      clear HD
                      rintro e w7 ⟨PA, pc, rfl, hPS, hb7⟩
                      have H7 := Lib.hid (And.intro hPS hb7)
                      clear hPS hb7
                      go_wp2_with (first | (go_at_call 10; refine (file_any _ _).mono ?_; rintro e w' ⟨rfl, rfl⟩) | fail)
                      refine (HK.out _ H7.out.2).mono ?_
                      clear HK
                      rintro e w8 ⟨QA, qc, rfl, hQS, hb8⟩
                      have hb78 := H7.out.2.trans (hb8.mono H7.out.2.size)
                      have hp8 := HJ.out.1.below hb78
                      have hE8 : ErrVar w8 := by
                        obtain ⟨_, _, _, _, _, _, _, _, _, _, _, _, _, _, _, _, hb⟩ := hp8
                        exact HH.out.1.below hb
                      have HE := Lib.hid (error_of rx HJ.out.2 w8 hE8)
                      have H8 := Lib.hid (And.intro hp8 (And.intro (H7.out.1.below hb8) hQS))
                      clear hQS hb8 hb78 hp8 hE8 H7 HJ
                      go_wp2_with fail
                      refine HE.out.mono ?_
                      clear HE
                      rintro e w9 ⟨rfl, hb9⟩
                      have cv1 := conv_bytes w9 PA pc rl (H8.out.2.1.below hb9)
                      have cv2 := conv_bytes w9 QA qc rl (H8.out.2.2.below hb9)
                      have H9 := Lib.hid (H8.out.1.below hb9)
                      clear hb9 H8
                      go_wp2_with fail
                      go_roundw
                      case rel => exact ⟨j + 1, by go_num, hjl6, H9.out⟩
                      case measure => simp [intOf] <;> omega
                    · obtain rfl : j = 6 := by omega
                      have HJ := Lib.hid hpj
                      clear hpj
                      go_wp2_with fail
                      go_roundw
                      case rel => exact ⟨i + 1, by go_num, hlt, by omega, ks2, m + 1, by omega, HJ.out⟩
                      case measure => simp [intOf] <;> omega
    · have hbl : Below W0.heap.size W0 wr := by
        obtain ⟨_, _, _, _, _, _, _, _, _, _, _, _, _, _, _, _, hb⟩ := hp
        exact hb
      have HB := Lib.hid hbl
      clear hp hbl
      by_cases hln : i < n
      case' pos =>
        have d0 : decide ((i : Int) < (n : Int)) = true := by simp; omega
        have d1 : decide ((i : Int) < 80) = false := by simp; omega
      case' neg =>
        have d0 : decide ((i : Int) < (n : Int)) = false := by simp; omega
      all_goals
        clear hgo
        go_wp2_with fail
        go_ret
        exact ⟨rfl, HB.out⟩
end Go.Proofs.YtbfmdpgghknccaaDoor
