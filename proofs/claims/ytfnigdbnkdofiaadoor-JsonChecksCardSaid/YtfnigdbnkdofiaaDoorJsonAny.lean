/- slices.ContainsFunc over trees, for the closures of json.count, json.form. -/
import Derived.Test.YtfnigdbnkdofiaaDoorJsonMem
import Derived.Outline
namespace Go.Proofs.YtfnigdbnkdofiaaDoor
open Go.RowKit
set_option linter.unusedVariables false
set_option linter.unusedSimpArgs false

/-- One element was looked at: it is the one, or the row goes on. -/
def AnyStep (I : Nat → World → Prop) (J : World → Prop) (i : Nat) (e : Ending) (w' : World) : Prop :=
  (e = .returned (.bool true) ∧ J w') ∨ (e = .returned (.bool false) ∧ I (i + 1) w')
def AnyIdx (I : Nat → World → Prop) (J : World → Prop) (n : Nat) (e : Ending) (w' : World) : Prop :=
  (∃ i : Nat, e = .returned (.int .i64 i) ∧ J w') ∨ (e = .returned (.int .i64 (-1)) ∧ I n w')
def AnyAll (I : Nat → World → Prop) (J : World → Prop) (n : Nat) (e : Ending) (w' : World) : Prop :=
  (e = .returned (.bool true) ∧ J w') ∨ (e = .returned (.bool false) ∧ I n w')
theorem kid_cells {w : World} {A : Option Addr} {l : List PT} (h : SlAt w A (PT.cellsL l)) {k : Nat} {T : PT} (hk : l[k]? = some T) :
    ∃ b off, A = some ⟨b, off, none⟩ ∧ w.cell? ⟨b, off + k * 7, none⟩ = some (.int .i64 T.val.k) ∧ w.cell? ⟨b, off + k * 7 + 1, none⟩ = some (.int .i64 T.val.n) ∧ w.cell? ⟨b, off + k * 7 + 2, none⟩ = some (.string T.val.s) ∧ w.cell? ⟨b, off + k * 7 + 3, none⟩ = some (.int .i64 T.val.o) ∧ w.cell? ⟨b, off + k * 7 + 4, none⟩ = some (.int .i64 T.val.p) ∧ w.cell? ⟨b, off + k * 7 + 5, none⟩ = some (.slice T.kA T.keys.length T.kc) ∧ w.cell? ⟨b, off + k * 7 + 6, none⟩ = some (.slice T.cA T.kids.length T.cc) := by
  rcases h with h0 | ⟨b, off, hA, hc⟩
  · have := PT.cellsL_at _ k T hk 0 (by omega)
    rw [h0] at this
    simp [PT.cells, JV.cells] at this
  · have g : ∀ j u, j < 7 → T.cells[j]? = some u → w.cell? ⟨b, off + k * 7 + j, none⟩ = some u := fun j u hj hu => by
      rw [Nat.add_assoc]
      exact hc _ _ ((PT.cellsL_at l k T hk j hj).trans hu)
    exact ⟨b, off, hA, g 0 _ (by omega) rfl, g 1 _ (by omega) rfl, g 2 _ (by omega) rfl, g 3 _ (by omega) rfl, g 4 _ (by omega) rfl, g 5 _ (by omega) rfl, g 6 _ (by omega) rfl⟩


set_option maxRecDepth 100000 in
set_option maxHeartbeats 2000000 in
theorem idx_count (bc : Nat) (I : Nat → World → Prop) (J : World → Prop) (l : List PT) (A : Option Addr) (c : Nat) (w : World) (hl : l.length ≤ maxLen) (h0 : I 0 w) (hA : ∀ i w1, I i w1 → SlAt w1 A (PT.cellsL l))
    (hcall : ∀ (i : Nat) (T : PT) w1, l[i]? = some T → I i w1 → Calls Tryd.prog 37 #[T.value, .pointer (some ⟨bc, 0, none⟩)] w1 (AnyStep I J i)) :
    Calls Tryd.prog 62 #[.slice A l.length c, (.func (.func 37) #[] #[.pointer (some ⟨bc, 0, none⟩)])] w (AnyIdx I J l.length) := by
  have hml : l.length ≤ 9223372036854775807 := Nat.le_trans hl (by decide)
  have HA := Lib.hid hA
  have HC := Lib.hid hcall
  clear hA hcall hl
  go_enter Tryd.func62, Tryd.ntmps62
  go_wp2_with fail
  go_loopw [8] (fun iv wr => ∃ k : Nat, iv = .int .i64 k ∧ k ≤ l.length ∧ I k wr) (fun iv _ => l.length - (intOf iv).toNat)
  case atStart => exact ⟨0, rfl, by omega, h0⟩
  case round =>
    obtain ⟨k, rfl, hk, hI⟩ := hrel
    by_cases hlt : k < l.length
    · have d0 : decide ((k : Int) < (l.length : Int)) = true := by simpa using hlt
      obtain ⟨T, hT⟩ : ∃ T, l[k]? = some T := ⟨_, List.getElem?_eq_getElem hlt⟩
      obtain ⟨b, off, rfl, hc0, hc1, hc2, hc3, hc4, hc5, hc6⟩ := kid_cells (HA.out k wr hI) hT
      have HCC := Lib.hid (HC.out k T wr hT hI)
      clear hT
      go_wp2_with fail
      refine HCC.out.mono ?_
      rintro e w1 (⟨rfl, hJ⟩ | ⟨rfl, hJ⟩)
      · go_wp2_with fail
        go_ret
        exact .inl ⟨k, rfl, hJ⟩
      · go_wp2_with fail
        go_roundw
        case rel => exact ⟨k + 1, by go_num, by omega, hJ⟩
        case measure => simp [intOf] <;> omega
    · obtain rfl : k = l.length := by omega
      go_wp2_with fail
      go_ret
      exact .inr ⟨rfl, hI⟩

set_option maxRecDepth 100000 in
set_option maxHeartbeats 2000000 in
theorem any_count (bc : Nat) (I : Nat → World → Prop) (J : World → Prop) (l : List PT) (A : Option Addr) (c : Nat) (w : World) (hl : l.length ≤ maxLen) (h0 : I 0 w) (hA : ∀ i w1, I i w1 → SlAt w1 A (PT.cellsL l))
    (hcall : ∀ (i : Nat) (T : PT) w1, l[i]? = some T → I i w1 → Calls Tryd.prog 37 #[T.value, .pointer (some ⟨bc, 0, none⟩)] w1 (AnyStep I J i)) :
    Calls Tryd.prog 36 #[.slice A l.length c, (.func (.func 37) #[] #[.pointer (some ⟨bc, 0, none⟩)])] w (AnyAll I J l.length) := by
  have HCC := Lib.hid (idx_count bc I J l A c w hl h0 hA hcall)
  clear hA hcall hl
  go_enter Tryd.func36, Tryd.ntmps36
  go_wp2_with fail
  refine HCC.out.mono ?_
  rintro e w1 (⟨i, rfl, hJ⟩ | ⟨rfl, hJ⟩)
  · have d0 : decide ((i : Int) < 0) = false := by simp
    go_wp2_with fail
    go_ret
    exact .inl ⟨by simp, hJ⟩
  · go_wp2_with fail
    go_ret
    exact .inr ⟨by simp, hJ⟩

set_option maxRecDepth 100000 in
set_option maxHeartbeats 2000000 in
theorem idx_form (I : Nat → World → Prop) (J : World → Prop) (l : List PT) (A : Option Addr) (c : Nat) (w : World) (hl : l.length ≤ maxLen) (h0 : I 0 w) (hA : ∀ i w1, I i w1 → SlAt w1 A (PT.cellsL l))
    (hcall : ∀ (i : Nat) (T : PT) w1, l[i]? = some T → I i w1 → Calls Tryd.prog 40 #[T.value] w1 (AnyStep I J i)) :
    Calls Tryd.prog 62 #[.slice A l.length c, (.func (.func 40) #[] #[])] w (AnyIdx I J l.length) := by
  have hml : l.length ≤ 9223372036854775807 := Nat.le_trans hl (by decide)
  have HA := Lib.hid hA
  have HC := Lib.hid hcall
  clear hA hcall hl
  go_enter Tryd.func62, Tryd.ntmps62
  go_wp2_with fail
  go_loopw [8] (fun iv wr => ∃ k : Nat, iv = .int .i64 k ∧ k ≤ l.length ∧ I k wr) (fun iv _ => l.length - (intOf iv).toNat)
  case atStart => exact ⟨0, rfl, by omega, h0⟩
  case round =>
    obtain ⟨k, rfl, hk, hI⟩ := hrel
    by_cases hlt : k < l.length
    · have d0 : decide ((k : Int) < (l.length : Int)) = true := by simpa using hlt
      obtain ⟨T, hT⟩ : ∃ T, l[k]? = some T := ⟨_, List.getElem?_eq_getElem hlt⟩
      obtain ⟨b, off, rfl, hc0, hc1, hc2, hc3, hc4, hc5, hc6⟩ := kid_cells (HA.out k wr hI) hT
      have HCC := Lib.hid (HC.out k T wr hT hI)
      clear hT
      go_wp2_with fail
      refine HCC.out.mono ?_
      rintro e w1 (⟨rfl, hJ⟩ | ⟨rfl, hJ⟩)
      · go_wp2_with fail
        go_ret
        exact .inl ⟨k, rfl, hJ⟩
      · go_wp2_with fail
        go_roundw
        case rel => exact ⟨k + 1, by go_num, by omega, hJ⟩
        case measure => simp [intOf] <;> omega
    · obtain rfl : k = l.length := by omega
      go_wp2_with fail
      go_ret
      exact .inr ⟨rfl, hI⟩

set_option maxRecDepth 100000 in
set_option maxHeartbeats 2000000 in
theorem any_form (I : Nat → World → Prop) (J : World → Prop) (l : List PT) (A : Option Addr) (c : Nat) (w : World) (hl : l.length ≤ maxLen) (h0 : I 0 w) (hA : ∀ i w1, I i w1 → SlAt w1 A (PT.cellsL l))
    (hcall : ∀ (i : Nat) (T : PT) w1, l[i]? = some T → I i w1 → Calls Tryd.prog 40 #[T.value] w1 (AnyStep I J i)) :
    Calls Tryd.prog 36 #[.slice A l.length c, (.func (.func 40) #[] #[])] w (AnyAll I J l.length) := by
  have HCC := Lib.hid (idx_form I J l A c w hl h0 hA hcall)
  clear hA hcall hl
  go_enter Tryd.func36, Tryd.ntmps36
  go_wp2_with fail
  refine HCC.out.mono ?_
  rintro e w1 (⟨i, rfl, hJ⟩ | ⟨rfl, hJ⟩)
  · have d0 : decide ((i : Int) < 0) = false := by simp
    go_wp2_with fail
    go_ret
    exact .inl ⟨by simp, hJ⟩
  · go_wp2_with fail
    go_ret
    exact .inr ⟨by simp, hJ⟩
end Go.Proofs.YtfnigdbnkdofiaaDoor
