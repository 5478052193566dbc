/- Numbers as rows of words, the least first; their digits, the least first: plain. -/
import Derived.Test.YtfnigdbnkdofiaaDoorKit
import Derived.Lib.ItoaNum
namespace Go.Proofs.YtfnigdbnkdofiaaDoor
set_option linter.unusedVariables false
set_option linter.unusedSimpArgs false

/-- The digits of what is left of a number, the least first. -/
def restD (a : Nat) : List UInt8 := if a = 0 then [] else (Go.Lib.decDigits a).reverse
theorem restD_zero : restD 0 = [] := rfl
theorem restD_step {a : Nat} (h : a ≠ 0) : restD a = UInt8.ofNat (48 + a % 10) :: restD (a / 10) := by
  unfold restD
  rw [if_neg h]
  by_cases h10 : a < 10
  · rw [show Go.Lib.decDigits a = [UInt8.ofNat (48 + a)] from by rw [Go.Lib.decDigits, dif_pos h10], if_pos (by omega), show a % 10 = a from by omega]
    rfl
  · rw [show Go.Lib.decDigits a = Go.Lib.decDigits (a / 10) ++ [UInt8.ofNat (48 + a % 10)] from by rw [Go.Lib.decDigits, dif_neg h10], if_neg (by omega)]
    simp
/-- What a row of words is. -/
def valW : List Nat → Nat
  | [] => 0
  | x :: l => x + 4294967296 * valW l
theorem valW_append (a b : List Nat) : valW (a ++ b) = valW a + 4294967296 ^ a.length * valW b := by
  induction a with
  | nil => simp [valW]
  | cons x a ih =>
    simp only [List.cons_append, valW, ih, List.length_cons, Nat.pow_succ]
    rw [Nat.mul_add, ← Nat.add_assoc, Nat.mul_comm (4294967296 ^ a.length) 4294967296, Nat.mul_assoc]
/-- A row without noughts at its end. -/
def trimW (l : List Nat) : List Nat := (l.reverse.dropWhile (· == 0)).reverse
theorem valW_snoc_zero (l : List Nat) : valW (l ++ [0]) = valW l := by
  rw [valW_append]; simp [valW]
/-- One step of a division by one word, from above: what is left is less than the divisor, and all adds up. -/
theorem small_step {hi r d x : Nat} (hd : 0 < d) (hr : r < d) (q : Nat) (h : q * d + r = hi) : (q * 4294967296 + (r * 4294967296 + x) / d) * d + (r * 4294967296 + x) % d = hi * 4294967296 + x := by
  have h1 := Nat.div_add_mod (r * 4294967296 + x) d
  rw [Nat.add_mul, Nat.add_assoc, Nat.mul_comm ((r * 4294967296 + x) / d) d, h1, ← h, Nat.add_mul, Nat.mul_right_comm, Nat.add_assoc]
theorem small_word {r d x : Nat} (hr : r < d) (hx : x < 4294967296) : (r * 4294967296 + x) / d < 4294967296 := by
  have hd : 0 < d := by omega
  rw [Nat.div_lt_iff_lt_mul hd]
  have : (r + 1) * 4294967296 ≤ d * 4294967296 := Nat.mul_le_mul_right _ hr
  rw [Nat.mul_comm 4294967296 d]
  omega
theorem trimW_nil : trimW [] = [] := rfl
theorem trimW_snoc (l : List Nat) (y : Nat) : trimW (l ++ [y]) = if y = 0 then trimW l else l ++ [y] := by
  unfold trimW
  rw [List.reverse_append, List.reverse_singleton, List.singleton_append, List.dropWhile_cons]
  by_cases h : y = 0
  · simp [h]
  · simp [h]
theorem snoc_cases (l : List Nat) : l = [] ∨ ∃ m y, l = m ++ [y] := by
  rcases List.eq_nil_or_concat l with h | ⟨m, y, h⟩
  · exact .inl h
  · exact .inr ⟨m, y, by simpa using h⟩
theorem trimW_spec : ∀ (n : Nat) (l : List Nat), l.length = n → valW (trimW l) = valW l ∧ trimW (trimW l) = trimW l ∧ (∃ k, k ≤ l.length ∧ trimW l = l.take k) := by
  intro n
  induction n with
  | zero =>
    intro l h
    rw [List.eq_nil_of_length_eq_zero h]
    exact ⟨rfl, rfl, 0, Nat.le_refl _, rfl⟩
  | succ n ih =>
    intro l h
    rcases snoc_cases l with rfl | ⟨m, y, rfl⟩
    · simp at h
    · rw [trimW_snoc]
      by_cases hy : y = 0
      · obtain ⟨h1, h2, k, h3, h4⟩ := ih m (by simpa using h)
        rw [if_pos hy, hy, valW_snoc_zero]
        refine ⟨h1, h2, k, by simp; omega, ?_⟩
        rw [List.take_append_of_le_length h3]
        exact h4
      · rw [if_neg hy]
        refine ⟨rfl, by rw [trimW_snoc, if_neg hy], _, Nat.le_refl _, (List.take_length).symm⟩
theorem trimW_val (l : List Nat) : valW (trimW l) = valW l := (trimW_spec _ l rfl).1
theorem trimW_trim (l : List Nat) : trimW (trimW l) = trimW l := (trimW_spec _ l rfl).2.1
theorem trimW_take (l : List Nat) : trimW l = l.take (trimW l).length := by
  obtain ⟨k, hk, h⟩ := (trimW_spec _ l rfl).2.2
  rw [h, List.length_take, Nat.min_eq_left hk]
theorem trimW_len (l : List Nat) : (trimW l).length ≤ l.length := by
  rw [trimW_take l, List.length_take]
  omega
theorem trimW_mem {l : List Nat} {P : Nat → Prop} (h : ∀ y ∈ l, P y) : ∀ y ∈ trimW l, P y := by
  rw [trimW_take l]
  intro y hy
  exact h y (List.mem_of_mem_take hy)
theorem trimW_zero {l : List Nat} (h : trimW l = l) (hv : valW l = 0) : l = [] := by
  rcases snoc_cases l with rfl | ⟨m, y, rfl⟩
  · rfl
  · exfalso
    have hy : y ≠ 0 := by
      intro e
      rw [trimW_snoc, if_pos e] at h
      have := congrArg List.length h
      have := trimW_len m
      simp at *
      omega
    rw [valW_append] at hv
    have h1 : 4294967296 ^ m.length * valW [y] = 0 := by omega
    rcases Nat.mul_eq_zero.1 h1 with h2 | h2
    · exact absurd h2 (Nat.ne_of_gt (Nat.pow_pos (by decide)))
    · simp [valW] at h2
      exact hy h2
theorem valW_lt {l : List Nat} (h : ∀ y ∈ l, y < 4294967296) : valW l < 4294967296 ^ l.length := by
  induction l with
  | nil => simp [valW]
  | cons x l ih =>
    have h1 := h x (by simp)
    have h2 := ih (fun y hy => h y (by simp [hy]))
    simp only [valW, List.length_cons, Nat.pow_succ]
    have : (valW l + 1) * 4294967296 ≤ 4294967296 ^ l.length * 4294967296 := Nat.mul_le_mul_right _ h2
    omega
end Go.Proofs.YtfnigdbnkdofiaaDoor
