/- bookref4.Breaks: a contract. -/
import Derived.Test.YtnhmbpeicgnjaaaDoorRefConv
namespace Go.Proofs.YtnhmbpeicgnjaaaDoor
open Go.RowKit
open Go.Lib (validD decodeL runeLen)
set_option linter.unusedVariables false
set_option linter.unusedSimpArgs false

/-- The breaks that are still to come at place i of the runes. -/
def brkAt (l : List Nat) (i : Nat) : List Int := if i ≤ l.length then brk (l.drop i) (wlAt l ((i : Int) - 1)) i else []
theorem brkAt_zero (l : List Nat) : brkAt l 0 = brk l false 0 := by
  rw [brkAt, if_pos (Nat.zero_le _), wlAt_neg (by omega)]; rfl
theorem brkAt_next {l : List Nat} {i : Nat} (hi : i ≤ l.length) : brkAt l i = (if (wlAt l ((i : Int) - 1) == wlAt l i) = true then [] else [(i : Int)]) ++ brkAt l (i + 1) := by
  rw [brkAt, if_pos hi]
  by_cases h : i < l.length
  · have e2 : wlAt l (((i + 1 : Nat) : Int) - 1) = wordB l[i] := by
      rw [show (((i + 1 : Nat) : Int) - 1) = (i : Int) by omega, wlAt_lt h]
    have e3 : brkAt l (i + 1) = brk (l.drop (i + 1)) (wordB l[i]) (i + 1) := by rw [brkAt, if_pos (show i + 1 ≤ l.length by omega), e2]
    rw [List.drop_eq_getElem_cons h, e3, wlAt_lt h]
    cases hw : (wlAt l ((i : Int) - 1) == wordB l[i]) with
    | true =>
      have e : wordB l[i] = wlAt l ((i : Int) - 1) := (by simpa using hw : wlAt l ((i : Int) - 1) = wordB l[i]).symm
      rw [brk_succ e, e]; simp
    | false =>
      have e : wordB l[i] ≠ wlAt l ((i : Int) - 1) := fun e => by rw [e] at hw; simp at hw
      rw [brk_turn e]; simp
  · obtain rfl : i = l.length := by omega
    have e3 : brkAt l (l.length + 1) = [] := by rw [brkAt, if_neg (by omega)]
    rw [List.drop_length, e3, wlAt_ge (Nat.le_refl _)]
    cases wlAt l ((l.length : Int) - 1) <;> simp [brk]

def RefBreaksPost (w : World) (s : ByteArray) (e : Ending) (w' : World) : Prop := Below w.heap.size w w' ∧
  ((ValidFrom s 0 = true ∧ ∃ A c, e = .returned (.tuple #[.slice A (brk (restD s 0) false 0).length c, .int .i64 0]) ∧ SlAt w' A (ints (brk (restD s 0) false 0))) ∨
   (ValidFrom s 0 = false ∧ e = .returned (.tuple #[.slice none 0 0, .int .i64 2])))

set_option maxRecDepth 100000 in
set_option maxHeartbeats 1000000 in
theorem refBreaks_any (s : ByteArray) (w : World) (hs : s.size ≤ 1048576) :
    Calls Tryd.prog 19 #[.string s] w (RefBreaksPost w s) := by
  have hlen := restD_len s
  obtain ⟨l, hl⟩ : ∃ l, restD s 0 = l := ⟨_, rfl⟩
  rw [hl] at hlen
  have HL := Lib.hid hl; clear hl
  go_enter Tryd.func19, Tryd.ntmps19
  go_wp2_with fail
  refine (refRunes_any s _ hs).mono ?_
  rintro e w1 (⟨hv, A, c, rfl, hA, hb⟩ | ⟨hv, rfl, hb⟩)
  · rw [HL.out] at hA ⊢
    have HV := Lib.hid hv; clear hv
    have hbs := hb.size
    go_wp2_with fail
    go_loopw [6, 7] (fun v i wr => ∃ (k : Nat) (out : List Int) (B : Option Addr) (d : Nat), k ≤ l.length + 1 ∧ out.length ≤ k ∧ i = .int .i64 k ∧ v = .slice B out.length d ∧
        wr.ownsRow w1.heap.size 3 1 (.slice B out.length d) out.length (ints out) ∧ Below w1.heap.size w1 wr ∧ brk l false 0 = out ++ brkAt l k)
      (fun _ i _ => l.length + 1 - (intOf i).toNat)
    case atStart => exact ⟨0, [], none, 0, by omega, by simp, rfl, rfl, World.ownsRow_nil _ _ _ _, Below.refl _ _, by rw [brkAt_zero]; rfl⟩
    case round =>
      obtain ⟨k, out, B, d, hk, hol, rfl, rfl, hown, hbr, hc⟩ := hrel
      obtain ⟨wo, rfl⟩ : ∃ wx : World, wx = wr := ⟨_, rfl⟩
      have hbrs := hbr.size
      by_cases hkl : (k : Int) ≤ (l.length : Int)
      · have hAw := hA.below hbr
        cases hw : (wlAt l ((k : Int) - 1) == wlAt l k) with
        | true =>
          rw [brkAt_next (by omega), if_pos hw] at hc
          have HC := Lib.hid hc; clear hc
          have hwn : (wlAt l ((k : Int) - 1) != wlAt l k) = false := by simpa using hw
          go_wp2_with (go_at_call 50; refine (refWordly_any _ _ _ _ _ hAw (by omega)).mono ?_; rintro e w' ⟨rfl, rfl⟩)
          go_roundw
          case rel => exact ⟨k + 1, out, B, d, by omega, by omega, by go_num, rfl, hown, hbr, by simpa using HC.out⟩
          case measure => simp [intOf] <;> omega
        | false =>
          rw [brkAt_next (by omega), if_neg (by simp [hw])] at hc
          have HC := Lib.hid hc; clear hc
          have hwn : (wlAt l ((k : Int) - 1) != wlAt l k) = true := by simpa using hw
          go_wp2_with (first
            | (go_at_call 50; refine (refWordly_any _ _ _ _ _ hAw (by omega)).mono ?_; rintro e w' ⟨rfl, rfl⟩)
            | (at_builtin; refine wpList_push _ rfl (.tmp 33) (.tmp 35) _ rfl w1.heap.size 3 Tryd.underlying26 infoInt rfl (by decide) (by decide) _ _ _ rfl hown _ rfl rfl ?_ (by omega) hbrs ?_))
          · rfl
          · intro A' c' w3 hown3 hg3
            have hb3 := hbr.grown hg3 hbrs (ownBlock_ge hown)
            clear hg3 hown hbr
            go_wp2
            go_roundw
            case rel => exact ⟨k + 1, out ++ [(k : Int)], A', c', by omega, by simp; omega, by go_num, by simp, by simpa [ints] using hown3, hb3, by rw [HC.out]; simp⟩
            case measure => simp [intOf] <;> omega
      · have hkn : k = l.length + 1 := by omega
        have hfin : brk l false 0 = out := by rw [hc, brkAt, if_neg (by omega)]; simp
        have HF := Lib.hid hfin; clear hc hfin
        have HN := Lib.hid hkn; clear hkn
        go_wp2_with fail
        go_ret2
        exact ⟨hb.trans (hbr.mono hb.size), .inl ⟨HV.out, B, d, by rw [HL.out, HF.out]; rfl, by rw [HL.out, HF.out]; exact SlAt.of_owns hown⟩⟩
  · have HV := Lib.hid hv; clear hv
    go_wp2_with fail
    go_ret2
    exact ⟨hb, .inr ⟨HV.out, rfl⟩⟩
end Go.Proofs.YtnhmbpeicgnjaaaDoor
