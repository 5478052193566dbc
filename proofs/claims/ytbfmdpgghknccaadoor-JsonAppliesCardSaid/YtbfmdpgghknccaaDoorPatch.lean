/- json.patch: the contract, for patches that set. -/
import Derived.Test.YtbfmdpgghknccaaDoorInsert
import Derived.Test.YtbfmdpgghknccaaDoorIndex
import Derived.Test.YtbfmdpgghknccaaDoorJsonCheck
import Derived.Test.YtbfmdpgghknccaaDoorBare
namespace Go.Proofs.YtbfmdpgghknccaaDoor
open Go.RowKit
set_option linter.unusedVariables false
set_option linter.unusedSimpArgs false

def longB (s : St) : Bool := decide ((20 : Int) < (s.key.size : Int))
set_option maxRecDepth 100000 in
theorem long_any (s : St) (w : World) : Calls Tryd.prog 50 #[.agg #[.string s.key, .int .i64 s.at_]] w fun e w' => e = .returned (.bool (longB s)) ∧ Below w.heap.size w w' := by
  go_enter Tryd.func50, Tryd.ntmps50
  go_wp2
  go_ret
  exact ⟨by simp [longB], (Below.refl _ _).alloc (Nat.le_refl _) _⟩

/-- An index, or none. -/
def StepIdx (w : World) (b : Bool) (e : Ending) (w' : World) : Prop := (∃ n : Int, e = .returned (.int .i64 n) ∧ (b = true ↔ 0 ≤ n)) ∧ Below w.heap.size w w'
set_option maxRecDepth 100000 in
set_option maxHeartbeats 2000000 in
theorem idx_steps (A : Option Addr) (c : Nat) (p : List St) (w : World) (hA : SlAt w A (stCells p)) (hl : p.length ≤ maxLen) :
    Calls Tryd.prog 69 #[.slice A p.length c, (.func (.func 50) #[] #[])] w (StepIdx w (p.any longB)) := by
  have hml : p.length ≤ 9223372036854775807 := Nat.le_trans hl (by decide)
  have HA := Lib.hid hA
  clear hA hl
  go_enter Tryd.func69, Tryd.ntmps69
  go_wp2_with fail
  go_loopw [8] (fun iv wr => ∃ k : Nat, iv = .int .i64 k ∧ k ≤ p.length ∧ (p.drop k).any longB = p.any longB ∧ Below w.heap.size w wr) (fun iv _ => p.length - (intOf iv).toNat)
  case atStart => exact ⟨0, rfl, by omega, rfl, Below.refl _ _⟩
  case round =>
    obtain ⟨k, rfl, hk, hf, hb⟩ := hrel
    by_cases hlt : k < p.length
    · have hlti : (k : Int) < (p.length : Int) := by omega
      obtain ⟨s, hs⟩ : ∃ s, p[k]? = some s := ⟨_, List.getElem?_eq_getElem hlt⟩
      obtain ⟨bp, op, rfl, g0, g1⟩ := (HA.out.below hb).step hs
      have hd : p.drop k = s :: p.drop (k + 1) := by
        obtain ⟨h1, rfl⟩ := List.getElem?_eq_some_iff.1 hs
        exact List.drop_eq_getElem_cons h1
      rw [hd, List.any_cons] at hf
      have HB := Lib.hid hb
      obtain ⟨r, hr⟩ : ∃ r, longB s = r := ⟨_, rfl⟩
      have HL := Lib.hid (fun w1 => (show Calls Tryd.prog 50 #[.agg #[.string s.key, .int .i64 s.at_]] w1 fun e w' => e = .returned (.bool r) ∧ Below w1.heap.size w1 w' from by rw [← hr]; exact long_any s w1))
      rw [hr] at hf
      have HF := Lib.hid hf
      clear hf hd hs hb hr
      cases r
      · go_wp2_with (go_at_call 50; refine (HL.out _).mono ?_; rintro e w2 ⟨rfl, hb2⟩)
        have hb3 := HB.out.trans (hb2.mono HB.out.size)
        clear hb2
        go_roundw
        case rel => exact ⟨k + 1, by go_num, by omega, by rw [← HF.out]; simp, hb3⟩
        case measure => simp [intOf] <;> omega
      · go_wp2_with (go_at_call 50; refine (HL.out _).mono ?_; rintro e w2 ⟨rfl, hb2⟩)
        go_ret
        exact ⟨⟨k, rfl, by rw [← HF.out]; simp⟩, HB.out.trans (hb2.mono HB.out.size)⟩
    · have hlti : ¬ (k : Int) < (p.length : Int) := by omega
      have HF := Lib.hid (show p.any longB = false from by rw [← hf, List.drop_eq_nil_of_le (by omega)]; rfl)
      clear hf
      go_wp2_with fail
      go_ret
      exact ⟨⟨-1, rfl, by rw [HF.out]; simp⟩, hb⟩

set_option maxRecDepth 100000 in
set_option maxHeartbeats 2000000 in
theorem any_steps (A : Option Addr) (c : Nat) (p : List St) (w : World) (hA : SlAt w A (stCells p)) (hl : p.length ≤ maxLen) :
    Calls Tryd.prog 49 #[.slice A p.length c, (.func (.func 50) #[] #[])] w (BoolIs w (p.any longB)) := by
  have HI := Lib.hid (idx_steps A c p w hA hl)
  obtain ⟨r, hr⟩ : ∃ r, p.any longB = r := ⟨_, rfl⟩
  rw [hr] at HI ⊢
  clear hA hl hr
  go_enter Tryd.func49, Tryd.ntmps49
  go_wp2_with fail
  refine HI.out.mono ?_
  rintro e w1 ⟨⟨n, rfl, hn⟩, hb⟩
  have hd : decide (0 ≤ n) = r := by
    cases r
    · simp at hn; simp; omega
    · simp at hn; simpa using hn
  have HD := Lib.hid hd
  clear hn hd
  go_wp2_with fail
  go_ret
  exact ⟨by rw [← HD.out]; rfl, hb⟩

end Go.Proofs.YtbfmdpgghknccaaDoor
