/- Names of ids, plain: decimal numerals read back. Over no program. -/
import Derived.Lib.ItoaNum
import Derived.Lib.ItoaMem
import Derived.Lib.Atoi
import Derived.Lib.IndexMore
import Derived.Lib.SlTrimSet
namespace Go.Proofs.YtfnigdbnkdofiaaDoor
open Go.Lib
set_option linter.unusedVariables false
set_option linter.unusedSimpArgs false

theorem u8_of {n : Nat} (h : n < 10) : (UInt8.ofNat (48 + n)).toNat = 48 + n := by
  simp [UInt8.toNat_ofNat']; omega
theorem dd_small {u : Nat} (h : u < 10) : decDigits u = [UInt8.ofNat (48 + u)] := by rw [decDigits, dif_pos h]
theorem dd_big {u : Nat} (h : ¬ u < 10) : decDigits u = decDigits (u / 10) ++ [UInt8.ofNat (48 + u % 10)] := by rw [decDigits, dif_neg h]
/-- Of the digits of a number. -/
theorem dd_ind {P : Nat → List UInt8 → Prop} (h1 : ∀ u, u < 10 → P u [UInt8.ofNat (48 + u)]) (h2 : ∀ u, ¬ u < 10 → P (u / 10) (decDigits (u / 10)) → P u (decDigits (u / 10) ++ [UInt8.ofNat (48 + u % 10)])) : ∀ u, P u (decDigits u) := by
  intro u
  induction u using Nat.strongRecOn with
  | _ u ih =>
    by_cases h : u < 10
    · rw [dd_small h]; exact h1 u h
    · rw [dd_big h]; exact h2 u h (ih (u / 10) (by omega))
theorem dd_digit (u : Nat) : ∀ b ∈ decDigits u, 48 ≤ b.toNat ∧ b.toNat ≤ 57 := by
  refine dd_ind (P := fun u l => ∀ b ∈ l, 48 ≤ b.toNat ∧ b.toNat ≤ 57) ?_ ?_ u
  · intro u h b hb
    rw [List.mem_singleton] at hb
    subst hb
    rw [u8_of h]; omega
  · intro u h ih b hb
    rcases List.mem_append.1 hb with g | g
    · exact ih b g
    · rw [List.mem_singleton] at g
      subst g
      rw [u8_of (Nat.mod_lt u (by omega))]; omega
theorem dd_ne (u : Nat) : decDigits u ≠ [] := by
  refine dd_ind (P := fun u l => l ≠ []) (fun _ _ => by simp) (fun _ _ _ => by simp) u
theorem dd_head (u : Nat) : 1 ≤ u → ∀ b r, decDigits u = b :: r → b.toNat ≠ 48 := by
  refine dd_ind (P := fun u l => 1 ≤ u → ∀ b r, l = b :: r → b.toNat ≠ 48) ?_ ?_ u
  · intro u h h1 b r e
    injection e with e _
    rw [← e, u8_of h]; omega
  · intro u h ih h1 b r e
    cases hd : decDigits (u / 10) with
    | nil => exact absurd hd (dd_ne _)
    | cons c t =>
      rw [hd, List.cons_append] at e
      injection e with e _
      exact ih (by omega) b t (by rw [hd, e])
theorem dd_len : ∀ (k u : Nat), u < 10 ^ (k + 1) → (decDigits u).length ≤ k + 1 := by
  intro k
  induction k with
  | zero => intro u h; rw [dd_small (by simpa using h)]; simp
  | succ k ih =>
    intro u h
    by_cases h1 : u < 10
    · rw [dd_small h1]; simp
    · rw [dd_big h1, List.length_append]
      have := ih (u / 10) (by rw [Nat.pow_succ] at h; omega)
      simp; omega
theorem decFrom_snoc (l : List UInt8) (b : UInt8) : ∀ acc, decFrom acc (l ++ [b]) = (decFrom acc l).bind fun n => (digitVal b).map fun d => n * 10 + d := by
  induction l with
  | nil => intro acc; simp only [List.nil_append, decFrom]; cases digitVal b <;> rfl
  | cons c l ih =>
    intro acc
    simp only [List.cons_append, decFrom]
    cases digitVal c with
    | none => rfl
    | some d => exact ih _
theorem digitVal_of {n : Nat} (h : n < 10) : digitVal (UInt8.ofNat (48 + n)) = some n := by
  unfold digitVal
  rw [u8_of h, if_pos (by omega)]
  congr 1; omega
theorem dd_dec (u : Nat) : decFrom 0 (decDigits u) = some u := by
  refine dd_ind (P := fun u l => decFrom 0 l = some u) ?_ ?_ u
  · intro u h
    show (match digitVal (UInt8.ofNat (48 + u)) with | some d => decFrom (0 * 10 + d) [] | none => none) = some u
    rw [digitVal_of h]
    simp [decFrom]
  · intro u h ih
    rw [decFrom_snoc, ih, digitVal_of (show u % 10 < 10 by omega)]
    simp; omega
theorem dd_atoi (u : Nat) : atoi (decDigits u) = some (u : Int) := by
  cases hd : decDigits u with
  | nil => exact absurd hd (dd_ne u)
  | cons b r =>
    have hb := dd_digit u b (by rw [hd]; simp)
    have h1 : (b == 45) = false := by
      cases h : b == 45 with
      | false => rfl
      | true => rw [beq_iff_eq] at h; subst h; simp at hb
    have h2 : (b == 43) = false := by
      cases h : b == 43 with
      | false => rfl
      | true => rw [beq_iff_eq] at h; subst h; simp at hb
    simp only [atoi, h1, h2, Bool.false_eq_true, if_false]
    unfold decNat
    rw [← hd, dd_dec]
    simp [hd]
def tenDigits : List UInt8 := [48, 49, 50, 51, 52, 53, 54, 55, 56, 57]
theorem digit_in {b : UInt8} (h : 48 ≤ b.toNat ∧ b.toNat ≤ 57) : tenDigits.contains b = true := by
  have hb : b = UInt8.ofNat b.toNat := by simp
  have : b.toNat = 48 ∨ b.toNat = 49 ∨ b.toNat = 50 ∨ b.toNat = 51 ∨ b.toNat = 52 ∨ b.toNat = 53 ∨ b.toNat = 54 ∨ b.toNat = 55 ∨ b.toNat = 56 ∨ b.toNat = 57 := by omega
  rcases this with g | g | g | g | g | g | g | g | g | g <;> (rw [g] at hb; rw [hb]; decide)
theorem dropWhile_all {p : UInt8 → Bool} : ∀ {l : List UInt8}, (∀ b ∈ l, p b = true) → l.dropWhile p = []
  | [], _ => rfl
  | b :: l, h => by rw [List.dropWhile_cons_of_pos (h b (by simp))]; exact dropWhile_all (fun x hx => h x (List.mem_cons_of_mem _ hx))
theorem dd_trim (u : Nat) : trimS (decDigits u) tenDigits = [] := by
  have h : trimRightS (decDigits u) tenDigits = [] := by
    unfold trimRightS
    rw [dropWhile_all (fun b hb => digit_in (dd_digit u b (List.mem_reverse.1 hb)))]
    rfl
  unfold trimS
  rw [h]; rfl
theorem index_at : ∀ (l r : List UInt8), (∀ b ∈ l, b.toNat ≠ 64) → index (l ++ 64 :: r) [64] = (l.length : Int)
  | [], r, _ => by simp [index]
  | b :: l, r, h => by
    have hb : (b == 64) = false := by
      cases g : b == 64 with
      | false => rfl
      | true => rw [beq_iff_eq] at g; exact absurd (by rw [g]; rfl) (h b (by simp))
    have ih := index_at l r (fun x hx => h x (List.mem_cons_of_mem _ hx))
    have h64 : ((64 : UInt8) == b) = false := by rw [beq_eq_false_iff_ne] at hb ⊢; exact fun e => hb e.symm
    simp only [List.cons_append, index, List.isPrefixOf, h64, Bool.false_and, Bool.false_eq_true, if_false, ih]
    rw [if_neg (by simp <;> omega)]
    simp
theorem name_cut (u a : Nat) : cut (decDigits u ++ 64 :: decDigits a) [64] = (decDigits u, decDigits a, true) := by
  have h := index_at (decDigits u) (decDigits a) (fun b hb => by have := dd_digit u b hb; omega)
  unfold cut
  rw [h, if_pos (by omega)]
  simp
end Go.Proofs.YtfnigdbnkdofiaaDoor
