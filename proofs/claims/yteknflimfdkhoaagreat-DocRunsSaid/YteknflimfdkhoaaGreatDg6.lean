/- id.Real, id.Check, value.Check: contracts. package id: Compare, Less, Real, Check: contracts. -/
import Derived.Test.YteknflimfdkhoaaGreatDg2
import Derived.Test.YteknflimfdkhoaaGreatProg
import Derived.Test.YteknflimfdkhoaaGreatDg1
import Derived.Deep.QuietTactic
import Derived.BigQuiet
import Derived.WalkSmall
import Derived.Outline
import Derived.StillTailTactics
import Derived.Deep.RegionHeld3
import Derived.Test.YteknflimfdkhoaaGreatDg3
namespace Go.Proofs.YteknflimfdkhoaaGreat
open Go.RowKit
set_option linter.unusedVariables false
set_option linter.unusedSimpArgs false

/-- No error, or ErrRange. -/
def errIf (b : Bool) : Value := if b then .nilIface else .iface 59 (.int .i64 1)
theorem errIf_true : errIf true = .nilIface := rfl
theorem errIf_false : errIf false = .iface 59 (.int .i64 1) := rfl

theorem num_any (n : Int) (w : World) : Calls Tryz.prog 87 #[.int .i64 n] w fun e w' => e = .returned (.bool (decide (1 ≤ n) && decide (n ≤ 1000000))) ∧ w = w' := by
  by_cases h1 : 1 ≤ n
  · go_enter Tryz.func87, Tryz.ntmps87
    go_wp2
    go_ret
    exact ⟨by simp [h1], rfl⟩
  · have h2 : n < 1 := by omega
    go_enter Tryz.func87, Tryz.ntmps87
    go_wp2
    go_ret
    exact ⟨by rw [decide_eq_false (by omega : ¬ 1 ≤ n)]; rfl, rfl⟩
theorem actor_any (n : Int) (w : World) : Calls Tryz.prog 86 #[.int .i64 n] w fun e w' => e = .returned (.bool (decide (1 ≤ n) && decide (n ≤ 99))) ∧ w = w' := by
  by_cases h1 : 1 ≤ n
  · go_enter Tryz.func86, Tryz.ntmps86
    go_wp2
    go_ret
    exact ⟨by simp [h1], rfl⟩
  · have h2 : n < 1 := by omega
    go_enter Tryz.func86, Tryz.ntmps86
    go_wp2
    go_ret
    exact ⟨by rw [decide_eq_false (by omega : ¬ 1 ≤ n)]; rfl, rfl⟩

set_option maxRecDepth 100000 in
set_option maxHeartbeats 800000 in
theorem real_any (o p : Int) (w : World) : Calls Tryz.prog 84 #[.agg #[.int .i64 o, .int .i64 p]] w fun e w' => e = .returned (.bool (idReal o p)) ∧ Below w.heap.size w w' := by
  cases hb : (decide (1 ≤ o) && decide (o ≤ 1000000)) with
  | false =>
    rw [show idReal o p = false from by unfold idReal; rw [hb]; rfl]
    go_enter Tryz.func84, Tryz.ntmps84
    go_wp2_with (go_at_call 87; refine (num_any _ _).mono ?_; rintro e w' ⟨rfl, rfl⟩; rw [hb])
    go_ret
    exact ⟨rfl, (Below.refl _ _).alloc (Nat.le_refl _) _⟩
  | true =>
    rw [show idReal o p = (decide (1 ≤ p) && decide (p ≤ 99)) from by unfold idReal; rw [hb]; rfl]
    go_enter Tryz.func84, Tryz.ntmps84
    go_wp2_with ((first | (go_at_call 87; refine (num_any _ _).mono ?_; rintro e w' ⟨rfl, rfl⟩; rw [hb]) | (go_at_call 86; refine (actor_any _ _).mono ?_; rintro e w' ⟨rfl, rfl⟩)))
    go_ret
    exact ⟨rfl, (Below.refl _ _).alloc (Nat.le_refl _) _⟩

set_option maxRecDepth 100000 in
set_option maxHeartbeats 800000 in
theorem idCheck_any (o p : Int) (w : World) : Calls Tryz.prog 62 #[.agg #[.int .i64 o, .int .i64 p]] w fun e w' => e = .returned (errIf (idOk o p)) ∧ Below w.heap.size w w' := by
  by_cases h : o = 0 ∧ p = 0
  · obtain ⟨rfl, rfl⟩ := h
    go_enter Tryz.func62, Tryz.ntmps62
    go_wp2_with fail
    go_ret
    exact ⟨rfl, (Below.refl _ _).alloc (Nat.le_refl _) _⟩
  · have h2 : (o == 0 && p == 0) = false := by
      cases hx : (o == 0 && p == 0) with
      | false => rfl
      | true => simp at hx; exact absurd hx h
    rw [show idOk o p = idReal o p from by unfold idOk; rw [h2]; rfl]
    have HR := Lib.hid (fun w => real_any o p w)
    clear h2
    obtain ⟨r, hr⟩ : ∃ r, idReal o p = r := ⟨_, rfl⟩
    rw [hr] at HR ⊢
    clear hr
    by_cases h0 : o = 0
    · subst h0
      have h1 : ¬ p = 0 := fun e => h ⟨rfl, e⟩
      clear h
      cases r
      all_goals
        go_enter Tryz.func62, Tryz.ntmps62
        go_wp2_with (go_at_call 84; refine (HR.out _).mono ?_; rintro e w' ⟨rfl, hb'⟩)
        go_ret
        exact ⟨rfl, ((Below.refl _ _).alloc (Nat.le_refl _) _).trans (hb'.mono (by simp))⟩
    · clear h
      cases r
      all_goals
        go_enter Tryz.func62, Tryz.ntmps62
        go_wp2_with (go_at_call 84; refine (HR.out _).mono ?_; rintro e w' ⟨rfl, hb'⟩)
        go_ret
        exact ⟨rfl, ((Below.refl _ _).alloc (Nat.le_refl _) _).trans (hb'.mono (by simp))⟩

set_option maxRecDepth 100000 in
set_option maxHeartbeats 2000000 in
theorem valueCheck_any (v : JV) (w : World) : Calls Tryz.prog 34 #[.agg v.cells.toArray] w fun e w' => e = .returned (errIf v.ok) ∧ Below w.heap.size w w' := by
  obtain ⟨k, n, s, o, p⟩ := v
  have hk : k = 0 ∨ k = 1 ∨ k = 2 ∨ k = 3 ∨ k = 4 ∨ (k = 5 ∨ k = 6) ∨ (k ≠ 0 ∧ k ≠ 1 ∧ k ≠ 2 ∧ k ≠ 3 ∧ k ≠ 4 ∧ k ≠ 5 ∧ k ≠ 6) := by omega
  unfold JV.cells
  simp only
  rcases hk with rfl | rfl | rfl | rfl | rfl | hk | ⟨n0, n1, n2, n3, n4, n5, n6⟩
  case inr.inr.inr.inr.inr.inl =>
    have ho : o = 0 ∨ (o == 0) = false := by by_cases h : o = 0 <;> simp [h]
    have hp : p = 0 ∨ (p == 0) = false := by by_cases h : p = 0 <;> simp [h]
    obtain ⟨r, hr⟩ : ∃ r, idOk o p = r := ⟨_, rfl⟩
    rcases hk with rfl | rfl <;> rcases ho with rfl | ho <;> rcases hp with rfl | hp <;> cases r
    all_goals
      have HR := Lib.hid hr
      clear hr
      go_enter Tryz.func34, Tryz.ntmps34
      go_wp2_with (go_at_call 62; refine (idCheck_any _ _ _).mono ?_; rintro e w' ⟨rfl, hb'⟩; rw [HR.out]; first | rw [errIf_true] | rw [errIf_false])
      all_goals
        go_ret
        refine ⟨?_, ?_⟩
        · have hr := HR.out
          simp_all [JV.ok, JV.bare, errIf]
        · first
          | exact (Below.refl _ _).alloc (Nat.le_refl _) _
          | exact ((Below.refl _ _).alloc (Nat.le_refl _) _).trans (hb'.mono (by simp))
  case inr.inr.inr.inr.inr.inr =>
    go_enter Tryz.func34, Tryz.ntmps34
    go_wp2_with fail
    all_goals
      go_ret
      refine ⟨?_, (Below.refl _ _).alloc (Nat.le_refl _) _⟩
      simp_all [JV.ok, JV.bare, errIf]
  all_goals
    go_enter Tryz.func34, Tryz.ntmps34
    go_wp2_with fail
    all_goals
      go_ret
      refine ⟨?_, (Below.refl _ _).alloc (Nat.le_refl _) _⟩
      simp_all [JV.ok, JV.bare, errIf]
end Go.Proofs.YteknflimfdkhoaaGreat
namespace Go.Proofs.YteknflimfdkhoaaGreat
open Go.RowKit
set_option linter.unusedVariables false
set_option linter.unusedSimpArgs false

def idV (a : Int × Int) : Value := .agg #[.int .i64 a.1, .int .i64 a.2]
def cmpI (x y : Int) : Int := if x < y then -1 else if y < x then 1 else 0

theorem isNaN_int (x : Int) (w : World) : Calls Tryz.prog 109 #[.int .i64 x] w fun e w' => e = .returned (.bool false) ∧ w = w' := by
  go_enter Tryz.func109, Tryz.ntmps109
  go_wp2
  go_ret
  exact ⟨by simp, rfl⟩

set_option maxRecDepth 100000 in
theorem compare_int (x y : Int) (w : World) : Calls Tryz.prog 83 #[.int .i64 x, .int .i64 y] w fun e w' => e = .returned (.int .i64 (cmpI x y)) ∧ w = w' := by
  by_cases h1 : x < y
  · rw [cmpI, if_pos h1]
    go_enter Tryz.func83, Tryz.ntmps83
    go_wp2_with (go_at_call 109; refine (isNaN_int _ _).mono ?_; rintro e w' ⟨rfl, rfl⟩)
    go_ret
    exact ⟨rfl, rfl⟩
  · by_cases h2 : y < x
    · rw [cmpI, if_neg h1, if_pos h2]
      go_enter Tryz.func83, Tryz.ntmps83
      go_wp2_with (go_at_call 109; refine (isNaN_int _ _).mono ?_; rintro e w' ⟨rfl, rfl⟩)
      go_ret
      exact ⟨rfl, rfl⟩
    · rw [cmpI, if_neg h1, if_neg h2]
      go_enter Tryz.func83, Tryz.ntmps83
      go_wp2_with (go_at_call 109; refine (isNaN_int _ _).mono ?_; rintro e w' ⟨rfl, rfl⟩)
      go_ret
      exact ⟨rfl, rfl⟩

def firstNZ : List Int → Int
  | [] => 0
  | x :: l => if x = 0 then firstNZ l else x
theorem firstNZ_zero {l : List Int} {k : Nat} (hk : k < l.length) (h : l[k] = 0) : firstNZ (l.drop k) = firstNZ (l.drop (k + 1)) := by
  rw [List.drop_eq_getElem_cons hk, firstNZ, if_pos h]
theorem firstNZ_hit {l : List Int} {k : Nat} (hk : k < l.length) (h : l[k] ≠ 0) : firstNZ (l.drop k) = l[k] := by
  rw [List.drop_eq_getElem_cons hk, firstNZ, if_neg h]

set_option maxRecDepth 100000 in
set_option maxHeartbeats 800000 in
theorem or_any (A : Option Addr) (c : Nat) (l : List Int) (w : World) (hA : SlAt w A (ints l)) (hl : l.length ≤ 1000) :
    Calls Tryz.prog 82 #[.slice A l.length c] w fun e w' => e = .returned (.int .i64 (firstNZ l)) ∧ w = w' := by
  go_enter Tryz.func82, Tryz.ntmps82
  go_wp2_with fail
  go_loop [8] (fun iv => ∃ k : Nat, k ≤ l.length ∧ iv = .int .i64 k ∧ firstNZ (l.drop k) = firstNZ l) (fun iv => l.length - (intOf iv).toNat)
  case atStart => exact ⟨0, by omega, rfl, rfl⟩
  case round =>
    obtain ⟨k, hk, rfl, hf⟩ := hrel
    by_cases hlt : k < l.length
    · obtain ⟨b, o, x, rfl, hx, hcx⟩ := hA.int (k := k) hlt
      have hlti : (k : Int) < (l.length : Int) := by omega
      have hxe : l[k] = x := by rw [List.getElem?_eq_getElem hlt] at hx; exact Option.some.inj hx
      by_cases h0 : x = 0
      · subst h0
        have HF := Lib.hid ((firstNZ_zero hlt hxe).symm.trans hf)
        clear hx hxe hf
        go_wp2_with fail
        go_round
        case rel => exact ⟨k + 1, by omega, by go_num, HF.out⟩
        case measure => simp [intOf] <;> omega
      · have h0b : (x != 0) = true := by simpa using h0
        have HF := Lib.hid (hf.symm.trans ((firstNZ_hit hlt (by rw [hxe]; exact h0)).trans hxe))
        clear hx hxe hf h0
        go_wp2_with fail
        go_ret
        rw [HF.out]
        exact ⟨rfl, rfl⟩
    · have hlti : (l.length : Int) ≤ (k : Int) := by omega
      have HF := Lib.hid (show firstNZ l = 0 from by rw [← hf, List.drop_eq_nil_of_le (by omega)]; rfl)
      clear hf
      go_wp2_with fail
      go_ret
      rw [HF.out]
      exact ⟨rfl, rfl⟩

def cmpId (a b : Int × Int) : Int := firstNZ [cmpI a.1 b.1, cmpI a.2 b.2]

set_option maxRecDepth 100000 in
set_option maxHeartbeats 800000 in
theorem compareId_any (a b : Int × Int) (w : World) :
    Calls Tryz.prog 61 #[idV a, idV b] w fun e w' => e = .returned (.int .i64 (cmpId a b)) ∧ Below w.heap.size w w' := by
  obtain ⟨a1, a2⟩ := a
  obtain ⟨b1, b2⟩ := b
  unfold idV
  simp only
  have hbel : Below w.heap.size w ((((w.alloc (.cells #[.int .i64 a1, .int .i64 a2] 24)).alloc (.cells #[.int .i64 b1, .int .i64 b2] 24)).alloc (.cells #[.int .i64 (cmpI a1 b1), .int .i64 (cmpI a2 b2)] 3)).drew) := ((((Below.refl _ _).alloc (Nat.le_refl _) _).alloc (by simp) _).alloc (by simp; omega) _).drew
  have hsl : SlAt ((((w.alloc (.cells #[.int .i64 a1, .int .i64 a2] 24)).alloc (.cells #[.int .i64 b1, .int .i64 b2] 24)).alloc (.cells #[.int .i64 (cmpI a1 b1), .int .i64 (cmpI a2 b2)] 3)).drew) (some ⟨w.heap.size + 1 + 1, 0, none⟩) (ints [cmpI a1 b1, cmpI a2 b2]) :=
    .inr ⟨_, 0, rfl, fun j u hu => by
      have hB : Blk ((((w.alloc (.cells #[.int .i64 a1, .int .i64 a2] 24)).alloc (.cells #[.int .i64 b1, .int .i64 b2] 24)).alloc (.cells #[.int .i64 (cmpI a1 b1), .int .i64 (cmpI a2 b2)] 3)).drew) (w.heap.size + 1 + 1) 3 #[.int .i64 (cmpI a1 b1), .int .i64 (cmpI a2 b2)] := Blk.newer ((w.alloc (.cells #[.int .i64 a1, .int .i64 a2] 24)).alloc (.cells #[.int .i64 b1, .int .i64 b2] 24)) _ _ (by simp)
      rw [Nat.zero_add, hB.cell]
      simpa [ints] using hu⟩
  have hor : Calls Tryz.prog 82 #[.slice (some ⟨w.heap.size + 1 + 1, 0, none⟩) 2 2] _ _ := or_any (some ⟨w.heap.size + 1 + 1, 0, none⟩) 2 [cmpI a1 b1, cmpI a2 b2] _ hsl (by simp)
  have HOR := Lib.hid hor
  have HB := Lib.hid hbel
  have HD := Lib.hid (show cmpId (a1, a2) (b1, b2) = firstNZ [cmpI a1 b1, cmpI a2 b2] from rfl)
  clear hbel hsl hor
  go_enter Tryz.func61, Tryz.ntmps61
  go_wp2_with fail
  go_region_held3 (fun w' => w'.cell? ⟨w.heap.size, 0, none⟩ = some (.int .i64 a1) ∧ w'.cell? ⟨w.heap.size, 1, none⟩ = some (.int .i64 a2) ∧ w'.cell? ⟨w.heap.size + 1, 0, none⟩ = some (.int .i64 b1) ∧ w'.cell? ⟨w.heap.size + 1, 1, none⟩ = some (.int .i64 b2)) (go_keep) (first
    | (go_simp; go_at_call 83; (with_reducible refine (compare_int _ _ _).mono ?_); rintro e w' ⟨rfl, rfl⟩)
    | (go_simp; go_at_call 82; (with_reducible refine HOR.out.mono ?_); rintro e w' ⟨rfl, rfl⟩))
  all_goals
    go_wp2_with fail
    go_ret
    exact ⟨by rw [HD.out]; rfl, HB.out⟩

/-- Is one id ahead of another? -/
def lessB (a b : Int × Int) : Bool := decide (cmpId a b < 0)
theorem cmpId_neg (a b : Int × Int) : cmpId a b < 0 ↔ (a.1 < b.1 ∨ (a.1 = b.1 ∧ a.2 < b.2)) := by
  unfold cmpId firstNZ
  have h1 : cmpI a.1 b.1 = 0 ↔ a.1 = b.1 := by unfold cmpI; split; omega; split <;> omega
  have h2 : cmpI a.1 b.1 < 0 ↔ a.1 < b.1 := by unfold cmpI; split; omega; split <;> omega
  have h3 : cmpI a.2 b.2 < 0 ↔ a.2 < b.2 := by unfold cmpI; split; omega; split <;> omega
  split
  · rename_i h
    have e := h1.1 h
    unfold firstNZ
    split
    · rename_i h0
      unfold firstNZ
      have : ¬ a.2 < b.2 := by rw [← h3, h0]; omega
      omega
    · rw [h3]; omega
  · rename_i h
    have : ¬ a.1 = b.1 := fun e => h (h1.2 e)
    rw [h2]; omega

set_option maxRecDepth 100000 in
theorem less_any (a b : Int × Int) (w : World) : Calls Tryz.prog 118 #[idV a, idV b] w fun e w' => e = .returned (.bool (lessB a b)) ∧ Below w.heap.size w w' := by
  obtain ⟨a1, a2⟩ := a
  obtain ⟨b1, b2⟩ := b
  have HC := Lib.hid (fun (w1 : World) => compareId_any (a1, a2) (b1, b2) w1)
  unfold idV at HC ⊢
  go_enter Tryz.func118, Tryz.ntmps118
  go_wp2_with fail
  refine (HC.out _).mono ?_
  rintro e w1 ⟨rfl, hb1⟩
  have H1 := Lib.hid (show Below w.heap.size w w1 from (((Below.refl _ _).alloc (Nat.le_refl _) _).alloc (by simp) _).trans (hb1.mono (by simp; omega)))
  obtain ⟨r, hr⟩ : ∃ r, cmpId (a1, a2) (b1, b2) = r := ⟨_, rfl⟩
  have hl : lessB (a1, a2) (b1, b2) = decide (r < 0) := by unfold lessB; rw [hr]
  rw [hr]
  have HL := Lib.hid hl
  clear hb1 hr hl
  go_wp2_with fail
  go_ret
  exact ⟨by rw [HL.out]; rfl, H1.out⟩
end Go.Proofs.YteknflimfdkhoaaGreat
