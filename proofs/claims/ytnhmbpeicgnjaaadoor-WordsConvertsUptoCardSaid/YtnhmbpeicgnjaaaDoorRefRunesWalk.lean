/- bookref4.Runes: the walk. -/
import Derived.Test.YtnhmbpeicgnjaaaDoorRefRunes
import Derived.Test.YtnhmbpeicgnjaaaDoorBreaks
namespace Go.Proofs.YtnhmbpeicgnjaaaDoor
open Go.RowKit
open Go.Lib (validD decodeL)
set_option linter.unusedVariables false
set_option linter.unusedSimpArgs false

def natInts (l : List Nat) : List Int := l.map fun (c : Nat) => (c : Int)

/-- What Runes gives. -/
def RunesPost (w : World) (s : ByteArray) (e : Ending) (w' : World) : Prop :=
  (ValidFrom s 0 = true ∧ ∃ A c, e = .returned (.tuple #[.slice A (restD s 0).length c, .bool true]) ∧ SlAt w' A (ints (natInts (restD s 0))) ∧ Below w.heap.size w w') ∨
  (ValidFrom s 0 = false ∧ e = .returned (.tuple #[.slice none 0 0, .bool false]) ∧ Below w.heap.size w w')

theorem part_bd {s : ByteArray} {p : Nat} {c0 : Int} (h0 : 0 ≤ c0) (h1 : c0 ≤ 31) : ∀ j : Nat, j ≤ 3 → (∀ i, i < j → isCont s (p + (i + 1))) → 0 ≤ part s p c0 j ∧ part s p c0 j ≤ 8388607 := by
  have st : ∀ (x b : Int) (q : Nat), 0 ≤ x → x ≤ b → isCont s q → 0 ≤ x * 64 + byt s q - 128 ∧ x * 64 + byt s q - 128 ≤ b * 64 + 63 := by
    intro x b q g1 g2 g3
    unfold isCont at g3
    omega
  intro j hj hc
  have e0 : part s p c0 0 = c0 := rfl
  match j, hj, hc with
  | 0, _, _ => rw [e0]; omega
  | 1, _, hc =>
    have a := st c0 31 _ h0 h1 (hc 0 (by omega))
    simp only [part, Nat.zero_add, Nat.reduceAdd, Nat.add_zero] at a ⊢; omega
  | 2, _, hc =>
    have a := st c0 31 _ h0 h1 (hc 0 (by omega))
    have b := st _ _ _ a.1 a.2 (hc 1 (by omega))
    simp only [part, Nat.zero_add, Nat.reduceAdd, Nat.add_zero] at a b ⊢; omega
  | 3, _, hc =>
    have a := st c0 31 _ h0 h1 (hc 0 (by omega))
    have b := st _ _ _ a.1 a.2 (hc 1 (by omega))
    have d := st _ _ _ b.1 b.2 (hc 2 (by omega))
    simp only [part, Nat.zero_add, Nat.reduceAdd, Nat.add_zero] at a b d ⊢; omega

set_option maxRecDepth 100000 in
set_option maxHeartbeats 4000000 in
theorem refRunes_any (s : ByteArray) (w : World) (hs : s.size ≤ 1048576) :
    Calls Tryd.prog 48 #[.string s] w (RunesPost w s) := by
  go_enter Tryd.func48, Tryd.ntmps48
  go_wp2_with fail
  go_loopw [4, 5] (fun v i wr => ∃ (pos : Nat) (out : List Int) (A : Option Addr) (c : Nat), pos ≤ s.size ∧ out.length ≤ pos ∧ i = .int .i64 pos ∧ v = .slice A out.length c ∧ wr.ownsRow w.heap.size 3 1 (.slice A out.length c) out.length (ints out) ∧ Below w.heap.size w wr ∧
      ValidFrom s 0 = ValidFrom s pos ∧ natInts (restD s 0) = out ++ natInts (restD s pos))
    (fun _ i _ => s.size - (intOf i).toNat)
  case atStart => exact ⟨0, [], none, 0, by omega, by simp, rfl, rfl, World.ownsRow_nil _ _ _ _, Below.refl _ _, rfl, rfl⟩
  case round =>
    obtain ⟨pos, out, A, c, hp, hol, rfl, rfl, hown, hbr, hv, hr⟩ := hrel
    obtain ⟨wo, rfl⟩ : ∃ wx : World, wx = wr := ⟨_, rfl⟩
    have hbs := hbr.size
    by_cases hlt : pos < s.size
    · have hb0 := byt_at hlt
      have hbl := byt_lt s pos
      have hlti : (pos : Int) < (s.size : Int) := by omega
      by_cases hA : byt s pos < 128
      · have hd := dec_ascii hA
        have hv2 := hv.trans (valid_next hlt hd (by omega))
        have hr2 : natInts (restD s 0) = (out ++ [(byt s pos : Int)]) ++ natInts (restD s (pos + 1)) := by rw [hr, rest_next hlt hd]; simp [natInts]
        have HV := Lib.hid (And.intro hv2 hr2)
        clear hv hr hd hv2 hr2
        go_wp2_with fail
        refine wp_loop_rounds 1 ?_
        rw [rounds_succ]
        go_wp2_with (first
          | (at_builtin; refine wpList_push _ rfl (.tmp 92) (.tmp 94) _ rfl w.heap.size 3 Tryd.underlying26 infoInt rfl (by decide) (by decide) _ _ _ rfl hown _ rfl rfl ?_ (by omega) hbs ?_))
        · rfl
        · intro A' c' w1 hown' hg
          have hb2 := hbr.grown hg hbs (ownBlock_ge hown)
          clear hg hown hbr
          go_wp2
          go_roundw
          case rel => exact ⟨pos + 1, _, A', c', by omega, by simp; omega, by go_num, by simp, by simpa [ints] using hown', hb2, HV.out.1, HV.out.2⟩
          case measure => simp [intOf]; omega
      · by_cases hL : (128 ≤ byt s pos ∧ byt s pos < 192) ∨ 248 ≤ byt s pos
        · have HF := Lib.hid (hv.trans (valid_bad hlt (dec_lead hL)))
          clear hv hr
          rcases hL with hL | hL
          all_goals
            go_wp2_with fail
            go_ret2
            exact .inr ⟨HF.out, rfl, hbr⟩
        · have hcl : (192 ≤ byt s pos ∧ byt s pos < 224) ∨ (224 ≤ byt s pos ∧ byt s pos < 240) ∨ (240 ≤ byt s pos ∧ byt s pos < 248) := by omega
          clear hA hL
          rcases hcl with ⟨h1, h2⟩ | ⟨h1, h2⟩ | ⟨h1, h2⟩
          · have hbad : ∀ j, j < 1 → ¬ isCont s (pos + (j + 1)) → BadDec s pos := by
              intro j hj2 hj
              obtain rfl : j = 0 := by omega
              exact (dec_one h1 h2).2 (fun h => hj h.2.1)
            have hgood : (∀ i, i < 1 → isCont s (pos + (i + 1))) → pos + 1 < s.size → (128 ≤ part s pos (byt s pos - 192) 1) → Utf8.decode s pos = ((part s pos (byt s pos - 192) 1).toNat, 2) := by
              intro hc hsz hok
              exact (dec_one h1 h2).1 ⟨hsz, hc 0 (by omega), hok⟩
            have hnot : ¬ (128 ≤ part s pos (byt s pos - 192) 1) → BadDec s pos := fun hn => (dec_one h1 h2).2 (fun h => hn h.2.2)
            have d0 : decide ((byt s pos : Int) < 224) = true := by simp; omega
            have d1 : decide ((byt s pos : Int) < 128) = false := by simp; omega
            by_cases hsz : pos + 1 < s.size
            · have hszi : (pos : Int) + 1 < (s.size : Int) := by omega
              have HB := Lib.hid (And.intro hbad (And.intro hgood (And.intro hnot (And.intro hv hr))))
              have hbd := fun j h g => part_bd (s := s) (p := pos) (c0 := byt s pos - 192) (by omega) (by omega) j h g
              have HBD := Lib.hid hbd
              clear hbad hgood hnot hv hr hbd
              go_wp2_with fail
              go_loop [6, 9] (fun cc kk => ∃ j : Nat, j ≤ 1 ∧ kk = .int .i64 (j + 1 : Nat) ∧ cc = .int .i64 (part s pos (byt s pos - 192) j) ∧ (∀ i, i < j → isCont s (pos + (i + 1))))
                (fun _ kk => 3 - (intOf kk).toNat)
              case atStart => exact ⟨0, by omega, rfl, rfl, fun i hi => by omega⟩
              case round =>
                obtain ⟨j, hj, rfl, rfl, hc⟩ := hrel
                have hpb := HBD.out j (by omega) hc
                obtain ⟨hpb1, hpb2⟩ := hpb
                have HC := Lib.hid hc; clear hc
                by_cases hjn : j < 1
                · have hin : pos + (j + 1) < s.size := by omega
                  have hini : (pos : Int) + ((j : Int) + 1) < (s.size : Int) := by omega
                  have hbj := byt_at hin
                  have hbjl := byt_lt s (pos + (j + 1))
                  by_cases hd : isCont s (pos + (j + 1))
                  · have hd1 : 128 ≤ byt s (pos + (j + 1)) ∧ byt s (pos + (j + 1)) ≤ 191 := hd
                    obtain ⟨hd2, hd3⟩ := hd1
                    have HD := Lib.hid hd; clear hd
                    go_wp2_with fail
                    go_round
                    case rel =>
                      have hnx : ∀ i, i < j + 1 → isCont s (pos + (i + 1)) := by
                        intro i hi
                        by_cases e : i < j
                        · exact HC.out i e
                        · obtain rfl : i = j := by omega
                          exact HD.out
                      first
                        | exact ⟨j + 1, by omega, by go_num, rfl, hnx⟩
                        | ((repeat apply Exists.intro); exact ⟨⟨j + 1, by omega, by go_num, rfl, hnx⟩, rfl⟩)
                        | (refine ⟨trivial, ?_⟩; (repeat apply Exists.intro); exact ⟨⟨j + 1, by omega, by go_num, rfl, hnx⟩, rfl⟩)
                    case measure => simp [intOf]; omega
                  · have HF := Lib.hid (HB.out.2.2.2.1.trans (valid_bad hlt (HB.out.1 j hjn hd)))
                    have hd1 : ¬ (128 ≤ byt s (pos + (j + 1)) ∧ byt s (pos + (j + 1)) ≤ 191) := hd
                    clear hd
                    by_cases hd2 : byt s (pos + (j + 1)) < 128
                    · clear hd1
                      go_wp2_with fail
                      go_ret2
                      exact .inr ⟨HF.out, rfl, hbr⟩
                    · have hd3 : 191 < byt s (pos + (j + 1)) := by omega
                      clear hd1
                      go_wp2_with fail
                      go_ret2
                      exact .inr ⟨HF.out, rfl, hbr⟩
                · obtain rfl : j = 1 := by omega
                  have hcap : part s pos (byt s pos - 192) 1 ≤ 2047 := by
                    have a := HC.out 0 (by omega)
                    unfold isCont at a
                    simp only [part, Nat.zero_add, Nat.reduceAdd] at a ⊢; omega
                  by_cases hok : 128 ≤ part s pos (byt s pos - 192) 1
                  · have hd := HB.out.2.1 HC.out hsz hok
                    have hv2 := HB.out.2.2.2.1.trans (valid_next hlt hd (by omega))
                    have hr2 : natInts (restD s 0) = (out ++ [part s pos (byt s pos - 192) 1]) ++ natInts (restD s (pos + 2)) := by
                      rw [HB.out.2.2.2.2, rest_next hlt hd]
                      simp [natInts]; omega
                    have HV := Lib.hid (And.intro hv2 hr2)
                    clear hd hv2 hr2
                    obtain ⟨x, hx⟩ : ∃ x, part s pos (byt s pos - 192) 1 = x := ⟨_, rfl⟩
                    rw [hx] at hok hpb1 hpb2 hcap HV ⊢
                    have HX := Lib.hid hx; clear hx
                    go_wp2_with (first
                      | (at_builtin; refine wpList_push _ rfl (.tmp 92) (.tmp 94) _ rfl w.heap.size 3 Tryd.underlying26 infoInt rfl (by decide) (by decide) _ _ _ rfl hown _ rfl rfl ?_ (by omega) hbs ?_))
                    · rfl
                    · intro A' c' w1 hown' hg
                      have hb2 := hbr.grown hg hbs (ownBlock_ge hown)
                      clear hg hown hbr
                      go_wp2
                      go_roundw
                      case rel => exact ⟨pos + 2, _, A', c', by omega, by simp; omega, by go_num, by simp, by simpa [ints] using hown', hb2, HV.out.1, HV.out.2⟩
                      case measure => simp [intOf]; omega
                  · have HF := Lib.hid (HB.out.2.2.2.1.trans (valid_bad hlt (HB.out.2.2.1 (by first | exact hok | omega))))
                    obtain ⟨x, hx⟩ : ∃ x, part s pos (byt s pos - 192) 1 = x := ⟨_, rfl⟩
                    rw [hx] at hok hpb1 hpb2 hcap ⊢
                    have HX := Lib.hid hx; clear hx
                    have hok2 : x < 128 := by omega
                    clear hok
                    go_wp2_with fail
                    go_ret2
                    exact .inr ⟨HF.out, rfl, hbr⟩
            · have HF : Hid (ValidFrom s 0 = false) := hv.trans (valid_bad hlt ((dec_one h1 h2).2 (fun h => hsz h.1)))
              have hszi : ¬ (pos : Int) + 1 < (s.size : Int) := by omega
              clear hbad hgood hnot hv hr
              go_wp2_with fail
              go_ret2
              exact .inr ⟨HF.out, rfl, hbr⟩
          · have hbad : ∀ j, j < 2 → ¬ isCont s (pos + (j + 1)) → BadDec s pos := by
              intro j hj2 hj
              refine (dec_two h1 h2).2 ?_
              intro h
              match j, hj2 with
              | 0, _ => exact hj h.2.1
              | 1, _ => exact hj h.2.2.1
            have hgood : (∀ i, i < 2 → isCont s (pos + (i + 1))) → pos + 2 < s.size → (2048 ≤ part s pos (byt s pos - 224) 2 ∧ ¬ (55296 ≤ part s pos (byt s pos - 224) 2 ∧ part s pos (byt s pos - 224) 2 ≤ 57343)) → Utf8.decode s pos = ((part s pos (byt s pos - 224) 2).toNat, 3) := by
              intro hc hsz hok
              exact (dec_two h1 h2).1 ⟨hsz, hc 0 (by omega), hc 1 (by omega), hok.1, hok.2⟩
            have hnot : ¬ (2048 ≤ part s pos (byt s pos - 224) 2 ∧ ¬ (55296 ≤ part s pos (byt s pos - 224) 2 ∧ part s pos (byt s pos - 224) 2 ≤ 57343)) → BadDec s pos := fun hn => (dec_two h1 h2).2 (fun h => hn h.2.2.2)
            have d0 : decide ((byt s pos : Int) < 240) = true := by simp; omega
            have d1 : decide ((byt s pos : Int) < 128) = false := by simp; omega
            have d2 : decide ((byt s pos : Int) < 224) = false := by simp; omega
            by_cases hsz : pos + 2 < s.size
            · have hszi : (pos : Int) + 2 < (s.size : Int) := by omega
              have HB := Lib.hid (And.intro hbad (And.intro hgood (And.intro hnot (And.intro hv hr))))
              have hbd := fun j h g => part_bd (s := s) (p := pos) (c0 := byt s pos - 224) (by omega) (by omega) j h g
              have HBD := Lib.hid hbd
              clear hbad hgood hnot hv hr hbd
              go_wp2_with fail
              go_loop [6, 9] (fun cc kk => ∃ j : Nat, j ≤ 2 ∧ kk = .int .i64 (j + 1 : Nat) ∧ cc = .int .i64 (part s pos (byt s pos - 224) j) ∧ (∀ i, i < j → isCont s (pos + (i + 1))))
                (fun _ kk => 4 - (intOf kk).toNat)
              case atStart => exact ⟨0, by omega, rfl, rfl, fun i hi => by omega⟩
              case round =>
                obtain ⟨j, hj, rfl, rfl, hc⟩ := hrel
                have hpb := HBD.out j (by omega) hc
                obtain ⟨hpb1, hpb2⟩ := hpb
                have HC := Lib.hid hc; clear hc
                by_cases hjn : j < 2
                · have hin : pos + (j + 1) < s.size := by omega
                  have hini : (pos : Int) + ((j : Int) + 1) < (s.size : Int) := by omega
                  have hbj := byt_at hin
                  have hbjl := byt_lt s (pos + (j + 1))
                  by_cases hd : isCont s (pos + (j + 1))
                  · have hd1 : 128 ≤ byt s (pos + (j + 1)) ∧ byt s (pos + (j + 1)) ≤ 191 := hd
                    obtain ⟨hd2, hd3⟩ := hd1
                    have HD := Lib.hid hd; clear hd
                    go_wp2_with fail
                    go_round
                    case rel =>
                      have hnx : ∀ i, i < j + 1 → isCont s (pos + (i + 1)) := by
                        intro i hi
                        by_cases e : i < j
                        · exact HC.out i e
                        · obtain rfl : i = j := by omega
                          exact HD.out
                      first
                        | exact ⟨j + 1, by omega, by go_num, rfl, hnx⟩
                        | ((repeat apply Exists.intro); exact ⟨⟨j + 1, by omega, by go_num, rfl, hnx⟩, rfl⟩)
                        | (refine ⟨trivial, ?_⟩; (repeat apply Exists.intro); exact ⟨⟨j + 1, by omega, by go_num, rfl, hnx⟩, rfl⟩)
                    case measure => simp [intOf]; omega
                  · have HF := Lib.hid (HB.out.2.2.2.1.trans (valid_bad hlt (HB.out.1 j hjn hd)))
                    have hd1 : ¬ (128 ≤ byt s (pos + (j + 1)) ∧ byt s (pos + (j + 1)) ≤ 191) := hd
                    clear hd
                    by_cases hd2 : byt s (pos + (j + 1)) < 128
                    · clear hd1
                      go_wp2_with fail
                      go_ret2
                      exact .inr ⟨HF.out, rfl, hbr⟩
                    · have hd3 : 191 < byt s (pos + (j + 1)) := by omega
                      clear hd1
                      go_wp2_with fail
                      go_ret2
                      exact .inr ⟨HF.out, rfl, hbr⟩
                · obtain rfl : j = 2 := by omega
                  have hcap : part s pos (byt s pos - 224) 2 ≤ 131071 := by
                    have a := HC.out 0 (by omega)
                    have b := HC.out 1 (by omega)
                    unfold isCont at a b
                    simp only [part, Nat.zero_add, Nat.reduceAdd] at a b ⊢; omega
                  by_cases hok : 2048 ≤ part s pos (byt s pos - 224) 2 ∧ ¬ (55296 ≤ part s pos (byt s pos - 224) 2 ∧ part s pos (byt s pos - 224) 2 ≤ 57343)
                  · have hd := HB.out.2.1 HC.out hsz hok
                    have hv2 := HB.out.2.2.2.1.trans (valid_next hlt hd (by omega))
                    have hr2 : natInts (restD s 0) = (out ++ [part s pos (byt s pos - 224) 2]) ++ natInts (restD s (pos + 3)) := by
                      rw [HB.out.2.2.2.2, rest_next hlt hd]
                      simp [natInts]; omega
                    have HV := Lib.hid (And.intro hv2 hr2)
                    clear hd hv2 hr2
                    obtain ⟨x, hx⟩ : ∃ x, part s pos (byt s pos - 224) 2 = x := ⟨_, rfl⟩
                    rw [hx] at hok hpb1 hpb2 hcap HV ⊢
                    have HX := Lib.hid hx; clear hx
                    obtain ⟨hok1, hok2⟩ := hok
                    by_cases hs1 : x < 55296
                    · clear hok2
                      go_wp2_with (first
                        | (at_builtin; refine wpList_push _ rfl (.tmp 92) (.tmp 94) _ rfl w.heap.size 3 Tryd.underlying26 infoInt rfl (by decide) (by decide) _ _ _ rfl hown _ rfl rfl ?_ (by omega) hbs ?_))
                      · rfl
                      · intro A' c' w1 hown' hg
                        have hb2 := hbr.grown hg hbs (ownBlock_ge hown)
                        clear hg hown hbr
                        go_wp2
                        go_roundw
                        case rel => exact ⟨pos + 3, _, A', c', by omega, by simp; omega, by go_num, by simp, by simpa [ints] using hown', hb2, HV.out.1, HV.out.2⟩
                        case measure => simp [intOf]; omega
                    · have hs2 : 57343 < x := by omega
                      clear hok2
                      go_wp2_with (first
                        | (at_builtin; refine wpList_push _ rfl (.tmp 92) (.tmp 94) _ rfl w.heap.size 3 Tryd.underlying26 infoInt rfl (by decide) (by decide) _ _ _ rfl hown _ rfl rfl ?_ (by omega) hbs ?_))
                      · rfl
                      · intro A' c' w1 hown' hg
                        have hb2 := hbr.grown hg hbs (ownBlock_ge hown)
                        clear hg hown hbr
                        go_wp2
                        go_roundw
                        case rel => exact ⟨pos + 3, _, A', c', by omega, by simp; omega, by go_num, by simp, by simpa [ints] using hown', hb2, HV.out.1, HV.out.2⟩
                        case measure => simp [intOf]; omega
                  · have HF := Lib.hid (HB.out.2.2.2.1.trans (valid_bad hlt (HB.out.2.2.1 (by first | exact hok | omega))))
                    obtain ⟨x, hx⟩ : ∃ x, part s pos (byt s pos - 224) 2 = x := ⟨_, rfl⟩
                    rw [hx] at hok hpb1 hpb2 hcap ⊢
                    have HX := Lib.hid hx; clear hx
                    by_cases hs1 : x < 2048
                    · clear hok
                      go_wp2_with fail
                      go_ret2
                      exact .inr ⟨HF.out, rfl, hbr⟩
                    · have hs2 : 55296 ≤ x := by omega
                      have hs3 : x ≤ 57343 := by omega
                      clear hok
                      go_wp2_with fail
                      go_ret2
                      exact .inr ⟨HF.out, rfl, hbr⟩
            · have HF : Hid (ValidFrom s 0 = false) := hv.trans (valid_bad hlt ((dec_two h1 h2).2 (fun h => hsz h.1)))
              have hszi : ¬ (pos : Int) + 2 < (s.size : Int) := by omega
              clear hbad hgood hnot hv hr
              go_wp2_with fail
              go_ret2
              exact .inr ⟨HF.out, rfl, hbr⟩
          · have hbad : ∀ j, j < 3 → ¬ isCont s (pos + (j + 1)) → BadDec s pos := by
              intro j hj2 hj
              refine (dec_three h1 h2).2 ?_
              intro h
              match j, hj2 with
              | 0, _ => exact hj h.2.1
              | 1, _ => exact hj h.2.2.1
              | 2, _ => exact hj h.2.2.2.1
            have hgood : (∀ i, i < 3 → isCont s (pos + (i + 1))) → pos + 3 < s.size → (65536 ≤ part s pos (byt s pos - 240) 3 ∧ part s pos (byt s pos - 240) 3 ≤ 1114111) → Utf8.decode s pos = ((part s pos (byt s pos - 240) 3).toNat, 4) := by
              intro hc hsz hok
              exact (dec_three h1 h2).1 ⟨hsz, hc 0 (by omega), hc 1 (by omega), hc 2 (by omega), hok.1, hok.2⟩
            have hnot : ¬ (65536 ≤ part s pos (byt s pos - 240) 3 ∧ part s pos (byt s pos - 240) 3 ≤ 1114111) → BadDec s pos := fun hn => (dec_three h1 h2).2 (fun h => hn h.2.2.2.2)
            have d0 : decide ((byt s pos : Int) < 248) = true := by simp; omega
            have d1 : decide ((byt s pos : Int) < 128) = false := by simp; omega
            have d2 : decide ((byt s pos : Int) < 224) = false := by simp; omega
            have d3 : decide ((byt s pos : Int) < 240) = false := by simp; omega
            by_cases hsz : pos + 3 < s.size
            · have hszi : (pos : Int) + 3 < (s.size : Int) := by omega
              have HB := Lib.hid (And.intro hbad (And.intro hgood (And.intro hnot (And.intro hv hr))))
              have hbd := fun j h g => part_bd (s := s) (p := pos) (c0 := byt s pos - 240) (by omega) (by omega) j h g
              have HBD := Lib.hid hbd
              clear hbad hgood hnot hv hr hbd
              go_wp2_with fail
              go_loop [6, 9] (fun cc kk => ∃ j : Nat, j ≤ 3 ∧ kk = .int .i64 (j + 1 : Nat) ∧ cc = .int .i64 (part s pos (byt s pos - 240) j) ∧ (∀ i, i < j → isCont s (pos + (i + 1))))
                (fun _ kk => 5 - (intOf kk).toNat)
              case atStart => exact ⟨0, by omega, rfl, rfl, fun i hi => by omega⟩
              case round =>
                obtain ⟨j, hj, rfl, rfl, hc⟩ := hrel
                have hpb := HBD.out j (by omega) hc
                obtain ⟨hpb1, hpb2⟩ := hpb
                have HC := Lib.hid hc; clear hc
                by_cases hjn : j < 3
                · have hin : pos + (j + 1) < s.size := by omega
                  have hini : (pos : Int) + ((j : Int) + 1) < (s.size : Int) := by omega
                  have hbj := byt_at hin
                  have hbjl := byt_lt s (pos + (j + 1))
                  by_cases hd : isCont s (pos + (j + 1))
                  · have hd1 : 128 ≤ byt s (pos + (j + 1)) ∧ byt s (pos + (j + 1)) ≤ 191 := hd
                    obtain ⟨hd2, hd3⟩ := hd1
                    have HD := Lib.hid hd; clear hd
                    go_wp2_with fail
                    go_round
                    case rel =>
                      have hnx : ∀ i, i < j + 1 → isCont s (pos + (i + 1)) := by
                        intro i hi
                        by_cases e : i < j
                        · exact HC.out i e
                        · obtain rfl : i = j := by omega
                          exact HD.out
                      first
                        | exact ⟨j + 1, by omega, by go_num, rfl, hnx⟩
                        | ((repeat apply Exists.intro); exact ⟨⟨j + 1, by omega, by go_num, rfl, hnx⟩, rfl⟩)
                        | (refine ⟨trivial, ?_⟩; (repeat apply Exists.intro); exact ⟨⟨j + 1, by omega, by go_num, rfl, hnx⟩, rfl⟩)
                    case measure => simp [intOf]; omega
                  · have HF := Lib.hid (HB.out.2.2.2.1.trans (valid_bad hlt (HB.out.1 j hjn hd)))
                    have hd1 : ¬ (128 ≤ byt s (pos + (j + 1)) ∧ byt s (pos + (j + 1)) ≤ 191) := hd
                    clear hd
                    by_cases hd2 : byt s (pos + (j + 1)) < 128
                    · clear hd1
                      go_wp2_with fail
                      go_ret2
                      exact .inr ⟨HF.out, rfl, hbr⟩
                    · have hd3 : 191 < byt s (pos + (j + 1)) := by omega
                      clear hd1
                      go_wp2_with fail
                      go_ret2
                      exact .inr ⟨HF.out, rfl, hbr⟩
                · obtain rfl : j = 3 := by omega
                  have hcap : part s pos (byt s pos - 240) 3 ≤ 8388607 := hpb2
                  by_cases hok : 65536 ≤ part s pos (byt s pos - 240) 3 ∧ part s pos (byt s pos - 240) 3 ≤ 1114111
                  · have hd := HB.out.2.1 HC.out hsz hok
                    have hv2 := HB.out.2.2.2.1.trans (valid_next hlt hd (by omega))
                    have hr2 : natInts (restD s 0) = (out ++ [part s pos (byt s pos - 240) 3]) ++ natInts (restD s (pos + 4)) := by
                      rw [HB.out.2.2.2.2, rest_next hlt hd]
                      simp [natInts]; omega
                    have HV := Lib.hid (And.intro hv2 hr2)
                    clear hd hv2 hr2
                    obtain ⟨x, hx⟩ : ∃ x, part s pos (byt s pos - 240) 3 = x := ⟨_, rfl⟩
                    rw [hx] at hok hpb1 hpb2 hcap HV ⊢
                    have HX := Lib.hid hx; clear hx
                    obtain ⟨hok1, hok2⟩ := hok
                    have hs2 : 57343 < x := by omega
                    go_wp2_with (first
                      | (at_builtin; refine wpList_push _ rfl (.tmp 92) (.tmp 94) _ rfl w.heap.size 3 Tryd.underlying26 infoInt rfl (by decide) (by decide) _ _ _ rfl hown _ rfl rfl ?_ (by omega) hbs ?_))
                    · rfl
                    · intro A' c' w1 hown' hg
                      have hb2 := hbr.grown hg hbs (ownBlock_ge hown)
                      clear hg hown hbr
                      go_wp2
                      go_roundw
                      case rel => exact ⟨pos + 4, _, A', c', by omega, by simp; omega, by go_num, by simp, by simpa [ints] using hown', hb2, HV.out.1, HV.out.2⟩
                      case measure => simp [intOf]; omega
                  · have HF := Lib.hid (HB.out.2.2.2.1.trans (valid_bad hlt (HB.out.2.2.1 (by first | exact hok | omega))))
                    obtain ⟨x, hx⟩ : ∃ x, part s pos (byt s pos - 240) 3 = x := ⟨_, rfl⟩
                    rw [hx] at hok hpb1 hpb2 hcap ⊢
                    have HX := Lib.hid hx; clear hx
                    by_cases hs1 : x < 65536
                    · clear hok
                      go_wp2_with fail
                      go_ret2
                      exact .inr ⟨HF.out, rfl, hbr⟩
                    · have hs2 : 1114111 < x := by omega
                      clear hok
                      go_wp2_with fail
                      go_ret2
                      exact .inr ⟨HF.out, rfl, hbr⟩
            · have HF : Hid (ValidFrom s 0 = false) := hv.trans (valid_bad hlt ((dec_three h1 h2).2 (fun h => hsz h.1)))
              have hszi : ¬ (pos : Int) + 3 < (s.size : Int) := by omega
              clear hbad hgood hnot hv hr
              go_wp2_with fail
              go_ret2
              exact .inr ⟨HF.out, rfl, hbr⟩
    · rw [restD_end s pos hlt] at hr
      have HV := Lib.hid (And.intro (hv.trans (valid_end hlt)) hr)
      clear hv hr
      go_wp2_with fail
      go_ret2
      obtain ⟨g1, g2⟩ := HV.out
      have g3 : natInts (restD s 0) = out := by simpa [natInts] using g2
      have g4 : (restD s 0).length = out.length := by rw [← g3]; simp [natInts]
      refine .inl ⟨g1, A, c, ?_, ?_, hbr⟩
      · rw [g4]; rfl
      · rw [g3]; exact SlAt.of_owns hown
end Go.Proofs.YtnhmbpeicgnjaaaDoor
