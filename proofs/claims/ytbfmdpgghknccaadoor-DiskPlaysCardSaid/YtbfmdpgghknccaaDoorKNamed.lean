/- bookref3: named, file, without: contracts. -/
import Derived.Test.YtbfmdpgghknccaaDoorDiskErr
import Derived.Test.YtbfmdpgghknccaaDoorKPlain
namespace Go.Proofs.YtbfmdpgghknccaaDoor
open Go.RowKit Go.Maps
set_option linter.unusedVariables false
set_option linter.unusedSimpArgs false

def okByte (c : Int) : Bool := !(decide (¬ c = 46) && (decide (c < 48) || decide (57 < c)) && (decide (c < 97) || decide (122 < c)))
def rnamedB (s : ByteArray) : Bool := !(s.toList == []) && (decide (s.size ≤ 12) && s.data.toList.all (fun b => okByte b.toNat))

set_option maxRecDepth 100000 in
set_option maxHeartbeats 1000000 in
theorem rnamed_any (s : ByteArray) (w : World) (hs : s.size ≤ 9223372036854775807) : Calls Tryd.prog 38 #[.string s] w fun e w' => e = .returned (.bool (rnamedB s)) ∧ Below w.heap.size w w' := by
  have hg : rnamedB s = (!(s.toList == []) && (decide (s.size ≤ 12) && s.data.toList.all (fun b => okByte b.toNat))) := rfl
  cases h0 : (s.toList == []) with
  | true =>
    rw [h0] at hg
    rw [hg]
    clear hg
    go_enter Tryd.func38, Tryd.ntmps38
    go_wp2_with fail
    go_ret
    exact ⟨rfl, Below.refl _ _⟩
  | false =>
    rw [h0] at hg
    by_cases h1 : s.size ≤ 12
    · have h1d : decide (s.size ≤ 12) = true := by simpa using h1
      have h1i : decide ((12 : Int) < (s.size : Int)) = false := by simp; omega
      rw [h1d] at hg
      simp only [Bool.not_false, Bool.true_and] at hg
      have HG := Lib.hid hg
      obtain ⟨r, hr⟩ : ∃ r, rnamedB s = r := ⟨_, rfl⟩
      rw [hr] at HG ⊢
      clear hg h1d hr
      go_enter Tryd.func38, Tryd.ntmps38
      go_wp2_with fail
      go_loopw [3] (fun iv wr => ∃ i : Nat, iv = .int .i64 i ∧ i ≤ s.size ∧ (s.data.toList.take i).all (fun b => okByte b.toNat) = true ∧ Below w.heap.size w wr) (fun iv _ => s.size - (intOf iv).toNat)
      case atStart => exact ⟨0, rfl, Nat.zero_le _, by simp, Below.refl _ _⟩
      case round =>
        obtain ⟨i, rfl, hi, hall, hb⟩ := hrel
        by_cases hlt : i < s.size
        · have d0 : decide ((i : Int) < (s.size : Int)) = true := by simp; omega
          have hget : s.data.toList[i]? = some s[i] := byte_at s i hlt
          have K1 : okByte (s[i].toNat : Int) = false → r = false := by
            intro hk
            rw [HG.out]
            refine Bool.eq_false_iff.2 (fun h => ?_)
            have := List.all_eq_true.1 h s[i] (List.mem_of_getElem? hget)
            rw [hk] at this
            cases this
          have K2 : okByte (s[i].toNat : Int) = true → (s.data.toList.take (i + 1)).all (fun b => okByte b.toNat) = true := by
            intro hk
            rw [List.take_add_one, hget, List.all_append, hall]
            simpa using hk
          have HK := Lib.hid (And.intro K1 (And.intro K2 hb))
          have hi1 : i + 1 ≤ s.size := hlt
          clear K1 K2 hget hall hb
          by_cases c46 : (s[i].toNat : Int) = 46
          · skip
            have f0 : ((s[i].toNat : Int) != 46) = false := by simp; omega
            have hok : okByte (s[i].toNat : Int) = true := by unfold okByte; simp; omega
            have HO := Lib.hid (HK.out.2.1 hok)
            clear hok
            go_wp2_with fail
            go_roundw
            case rel => exact ⟨i + 1, by go_num, hi1, HO.out, HK.out.2.2⟩
            case measure => simp [intOf] <;> omega
          · by_cases c48 : (s[i].toNat : Int) < 48
            · skip
              have f0 : ((s[i].toNat : Int) != 46) = true := by simp; omega
              have f1 : decide ((s[i].toNat : Int) < 48) = true := by simp; omega
              have f2 : decide ((s[i].toNat : Int) < 97) = true := by simp; omega
              have hok : okByte (s[i].toNat : Int) = false := by unfold okByte; simp; omega
              have HO := Lib.hid (HK.out.1 hok)
              clear hok
              go_wp2_with fail
              go_ret
              rw [HO.out]
              exact ⟨rfl, HK.out.2.2⟩
            · by_cases c57 : 57 < (s[i].toNat : Int)
              · by_cases c97 : (s[i].toNat : Int) < 97
                · skip
                  have f0 : ((s[i].toNat : Int) != 46) = true := by simp; omega
                  have f1 : decide ((s[i].toNat : Int) < 48) = false := by simp; omega
                  have f2 : decide (57 < (s[i].toNat : Int)) = true := by simp; omega
                  have f3 : decide ((s[i].toNat : Int) < 97) = true := by simp; omega
                  have hok : okByte (s[i].toNat : Int) = false := by unfold okByte; simp; omega
                  have HO := Lib.hid (HK.out.1 hok)
                  clear hok
                  go_wp2_with fail
                  go_ret
                  rw [HO.out]
                  exact ⟨rfl, HK.out.2.2⟩
                · by_cases c122 : 122 < (s[i].toNat : Int)
                  · skip
                    have f0 : ((s[i].toNat : Int) != 46) = true := by simp; omega
                    have f1 : decide ((s[i].toNat : Int) < 48) = false := by simp; omega
                    have f2 : decide (57 < (s[i].toNat : Int)) = true := by simp; omega
                    have f3 : decide ((s[i].toNat : Int) < 97) = false := by simp; omega
                    have f4 : decide (122 < (s[i].toNat : Int)) = true := by simp; omega
                    have hok : okByte (s[i].toNat : Int) = false := by unfold okByte; simp; omega
                    have HO := Lib.hid (HK.out.1 hok)
                    clear hok
                    go_wp2_with fail
                    go_ret
                    rw [HO.out]
                    exact ⟨rfl, HK.out.2.2⟩
                  · skip
                    have f0 : ((s[i].toNat : Int) != 46) = true := by simp; omega
                    have f1 : decide ((s[i].toNat : Int) < 48) = false := by simp; omega
                    have f2 : decide (57 < (s[i].toNat : Int)) = true := by simp; omega
                    have f3 : decide ((s[i].toNat : Int) < 97) = false := by simp; omega
                    have f4 : decide (122 < (s[i].toNat : Int)) = false := by simp; omega
                    have hok : okByte (s[i].toNat : Int) = true := by unfold okByte; simp; omega
                    have HO := Lib.hid (HK.out.2.1 hok)
                    clear hok
                    go_wp2_with fail
                    go_roundw
                    case rel => exact ⟨i + 1, by go_num, hi1, HO.out, HK.out.2.2⟩
                    case measure => simp [intOf] <;> omega
              · skip
                have f0 : ((s[i].toNat : Int) != 46) = true := by simp; omega
                have f1 : decide ((s[i].toNat : Int) < 48) = false := by simp; omega
                have f2 : decide (57 < (s[i].toNat : Int)) = false := by simp; omega
                have hok : okByte (s[i].toNat : Int) = true := by unfold okByte; simp; omega
                have HO := Lib.hid (HK.out.2.1 hok)
                clear hok
                go_wp2_with fail
                go_roundw
                case rel => exact ⟨i + 1, by go_num, hi1, HO.out, HK.out.2.2⟩
                case measure => simp [intOf] <;> omega
        · obtain rfl : i = s.size := by omega
          have d0 : decide ((s.size : Int) < (s.size : Int)) = false := by simp
          have hr : r = true := by
            rw [HG.out, ← hall, List.take_of_length_le (by rw [← Lib.size_eq]; exact Nat.le_refl _)]
          have HB := Lib.hid (And.intro hb hr)
          clear hb hr hall
          go_wp2_with fail
          go_ret
          rw [HB.out.2]
          exact ⟨rfl, HB.out.1⟩
    · have h1d : decide (s.size ≤ 12) = false := by simpa using h1
      have h1i : decide ((12 : Int) < (s.size : Int)) = true := by simp; omega
      rw [h1d] at hg
      rw [hg]
      clear hg h1 h1d
      go_enter Tryd.func38, Tryd.ntmps38
      go_wp2_with fail
      go_ret
      exact ⟨rfl, Below.refl _ _⟩
end Go.Proofs.YtbfmdpgghknccaaDoor
