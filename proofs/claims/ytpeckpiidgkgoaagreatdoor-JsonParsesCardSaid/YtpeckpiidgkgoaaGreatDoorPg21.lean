/- BigPlain, NumPlain. -/
import Derived.Test.YtpeckpiidgkgoaaGreatDoorPg10
import Derived.Test.YtpeckpiidgkgoaaGreatDoorPg1
import Derived.Lib.ItoaNum
/- What SetString in base ten reads of digits and signs, held against Num. Over no program. -/
namespace Go.Proofs.YtpeckpiidgkgoaaGreatDoor
open Go.RowKit
set_option linter.unusedVariables false
set_option linter.unusedSimpArgs false

def isDig (c : Nat) : Bool := decide (48 ≤ c) && decide (c ≤ 57)
def decF (a : Nat) (l : List Nat) : Nat := l.foldl (fun a c => a * 10 + (c - 48)) a
theorem decF_snoc (a : Nat) (l : List Nat) (c : Nat) : decF a (l ++ [c]) = decF a l * 10 + (c - 48) := by simp [decF]
/-- What stands behind the sign. -/
def magS (r : List Nat) : Option Nat := if r = [] then none else if r.all isDig then some (decF 0 r) else none
def negL (l : List Nat) : Bool := match l with
  | c :: _ => c == 45
  | [] => false
def bodL (l : List Nat) : List Nat := if negL l then l.drop 1 else l
def bigS (l : List Nat) : Option Int := match magS (bodL l) with
  | some m => some (if negL l = true then -(m : Int) else (m : Int))
  | none => none
theorem bigS_some {l : List Nat} {m : Nat} (h : magS (bodL l) = some m) : bigS l = some (if negL l = true then -(m : Int) else (m : Int)) := by unfold bigS; rw [h]
theorem bigS_none {l : List Nat} (h : magS (bodL l) = none) : bigS l = none := by unfold bigS; rw [h]
theorem magS_some {r : List Nat} (h : r ≠ []) (h2 : ∀ c ∈ r, isDig c = true) : magS r = some (decF 0 r) := by
  unfold magS
  rw [if_neg h, if_pos (by rw [List.all_eq_true]; exact h2)]
theorem magS_bad {r : List Nat} {c : Nat} (hc : c ∈ r) (h : isDig c = false) : magS r = none := by
  unfold magS
  rw [if_neg (by rintro rfl; cases hc), if_neg]
  intro ha
  rw [List.all_eq_true] at ha
  rw [ha c hc] at h
  cases h
theorem decF_lt : ∀ (n : Nat) (l : List Nat), l.length = n → (∀ c ∈ l, isDig c = true) → decF 0 l < 10 ^ n := by
  intro n
  induction n with
  | zero =>
    intro l h _
    rw [List.eq_nil_of_length_eq_zero h]
    decide
  | succ n ih =>
    intro l h hd
    obtain ⟨m, c, rfl⟩ : ∃ m c, l = m ++ [c] := by
      rcases List.eq_nil_or_concat l with h' | ⟨m, y, h'⟩
      · subst h'; simp at h
      · exact ⟨m, y, by simpa using h'⟩
    have h1 := ih m (by simpa using h) (fun c hc => hd c (List.mem_append_left _ hc))
    have h2 := hd c (by simp)
    unfold isDig at h2
    simp only [Bool.and_eq_true, decide_eq_true_eq] at h2
    rw [decF_snoc, Nat.pow_succ]
    omega
theorem pow_room : ∃ K, K ≤ 8000 ∧ ∀ i, i ≤ 60001 → 10 ^ i < 4294967296 ^ K := by
  obtain ⟨M, hM⟩ : ∃ M : Nat, M = 7501 := ⟨_, rfl⟩
  refine ⟨M + 1, by omega, fun i hi => ?_⟩
  have h1 : 10 ^ i ≤ 16 ^ i := Nat.pow_le_pow_left (by omega) i
  have h2 : 16 ^ i ≤ 16 ^ (8 * M) := Nat.pow_le_pow_right (by omega) (by omega)
  rw [Nat.pow_mul] at h2
  have h3 : (16 : Nat) ^ 8 = 4294967296 := by decide
  rw [h3] at h2
  have h4 : 4294967296 ^ M < 4294967296 ^ (M + 1) := Nat.pow_lt_pow_right (by omega) (by omega)
  exact Nat.lt_of_le_of_lt (Nat.le_trans h1 h2) h4
theorem decF_dig (u : Nat) : decF 0 ((Go.Lib.decDigits u).map UInt8.toNat) = u := by
  induction u using Nat.strongRecOn with
  | ind u ih =>
    rw [Go.Lib.decDigits]
    split
    · rename_i h
      have e : (UInt8.ofNat (48 + u)).toNat = 48 + u := by rw [UInt8.toNat_ofNat']; omega
      simp only [List.map_cons, List.map_nil, decF, List.foldl, e]
      omega
    · rename_i h
      have e : (UInt8.ofNat (48 + u % 10)).toNat = 48 + u % 10 := by rw [UInt8.toNat_ofNat']; omega
      rw [List.map_append, List.map_singleton, decF_snoc, ih (u / 10) (by omega), e]
      omega
theorem magS_dig (u : Nat) : magS ((Go.Lib.decDigits u).map UInt8.toNat) = some u := by
  obtain ⟨h1, h2⟩ := decDigits_dig u
  rw [magS_some (by simpa using h2), decF_dig]
  intro c hc
  obtain ⟨b, hb, rfl⟩ := List.mem_map.1 hc
  have := h1 b hb
  unfold isDig
  simp only [Bool.and_eq_true, decide_eq_true_eq]
  exact this
theorem big_itoa (x : Int) : bigS ((Go.Lib.itoa x).map UInt8.toNat) = some x := by
  unfold Go.Lib.itoa
  split
  · rename_i h
    have hn : negL ((45 :: Go.Lib.decDigits x.natAbs).map UInt8.toNat) = true := rfl
    have hb : bodL ((45 :: Go.Lib.decDigits x.natAbs).map UInt8.toNat) = (Go.Lib.decDigits x.natAbs).map UInt8.toNat := by
      unfold bodL
      rw [hn]
      rfl
    rw [bigS_some (m := x.natAbs) (by rw [hb]; exact magS_dig _), hn, if_pos rfl]
    congr 1
    omega
  · rename_i h
    obtain ⟨h1, h2⟩ := decDigits_dig x.toNat
    have hn : negL ((Go.Lib.decDigits x.toNat).map UInt8.toNat) = false := by
      cases hl : Go.Lib.decDigits x.toNat with
      | nil => exact absurd hl h2
      | cons c r =>
        have hc := h1 c (by rw [hl]; simp)
        show (c.toNat == 45) = false
        rw [beq_eq_false_iff_ne]
        omega
    have hb : bodL ((Go.Lib.decDigits x.toNat).map UInt8.toNat) = (Go.Lib.decDigits x.toNat).map UInt8.toNat := by
      unfold bodL
      rw [hn]
      rfl
    rw [bigS_some (m := x.toNat) (by rw [hb]; exact magS_dig _), hn, if_neg (by simp)]
    congr 1
    omega
/-- Num is what SetString reads, if that fits, and prints so. -/
theorem num_big_none {l : List Nat} (h : bigS l = none) : Num l = none := by
  cases hn : Num l with
  | none => rfl
  | some x =>
    have := (num_ok.back l x hn).2
    rw [this, big_itoa] at h
    cases h
theorem num_big_some {l : List Nat} {x : Int} (h : bigS l = some x) (hx : I64 x) (he : (Go.Lib.itoa x).map UInt8.toNat = l) : Num l = some x := by
  rw [← he]
  exact num_ok.get x hx
theorem num_big_not {l : List Nat} {x : Int} (h : bigS l = some x) (hx : ¬ (I64 x ∧ (Go.Lib.itoa x).map UInt8.toNat = l)) : Num l = none := by
  cases hn : Num l with
  | none => rfl
  | some y =>
    obtain ⟨h1, h2⟩ := num_ok.back l y hn
    rw [h2, big_itoa] at h
    cases h
    exact absurd ⟨h1, h2.symm⟩ hx
end Go.Proofs.YtpeckpiidgkgoaaGreatDoor
/- Numbers as rows of words, the least first; their digits, the least first: plain. -/
namespace Go.Proofs.YtpeckpiidgkgoaaGreatDoor
set_option linter.unusedVariables false
set_option linter.unusedSimpArgs false

/-- The digits of what is left of a number, the least first. -/
def restD (a : Nat) : List UInt8 := if a = 0 then [] else (Go.Lib.decDigits a).reverse
theorem restD_zero : restD 0 = [] := rfl
theorem restD_step {a : Nat} (h : a ≠ 0) : restD a = UInt8.ofNat (48 + a % 10) :: restD (a / 10) := by
  unfold restD
  rw [if_neg h]
  by_cases h10 : a < 10
  · rw [show Go.Lib.decDigits a = [UInt8.ofNat (48 + a)] from by rw [Go.Lib.decDigits, dif_pos h10], if_pos (by omega), show a % 10 = a from by omega]
    rfl
  · rw [show Go.Lib.decDigits a = Go.Lib.decDigits (a / 10) ++ [UInt8.ofNat (48 + a % 10)] from by rw [Go.Lib.decDigits, dif_neg h10], if_neg (by omega)]
    simp
/-- What a row of words is. -/
def valW : List Nat → Nat
  | [] => 0
  | x :: l => x + 4294967296 * valW l
theorem valW_append (a b : List Nat) : valW (a ++ b) = valW a + 4294967296 ^ a.length * valW b := by
  induction a with
  | nil => simp [valW]
  | cons x a ih =>
    simp only [List.cons_append, valW, ih, List.length_cons, Nat.pow_succ]
    rw [Nat.mul_add, ← Nat.add_assoc, Nat.mul_comm (4294967296 ^ a.length) 4294967296, Nat.mul_assoc]
/-- A row without noughts at its end. -/
def trimW (l : List Nat) : List Nat := (l.reverse.dropWhile (· == 0)).reverse
theorem valW_snoc_zero (l : List Nat) : valW (l ++ [0]) = valW l := by
  rw [valW_append]; simp [valW]
/-- One step of a division by one word, from above: what is left is less than the divisor, and all adds up. -/
theorem small_step {hi r d x : Nat} (hd : 0 < d) (hr : r < d) (q : Nat) (h : q * d + r = hi) : (q * 4294967296 + (r * 4294967296 + x) / d) * d + (r * 4294967296 + x) % d = hi * 4294967296 + x := by
  have h1 := Nat.div_add_mod (r * 4294967296 + x) d
  rw [Nat.add_mul, Nat.add_assoc, Nat.mul_comm ((r * 4294967296 + x) / d) d, h1, ← h, Nat.add_mul, Nat.mul_right_comm, Nat.add_assoc]
theorem small_word {r d x : Nat} (hr : r < d) (hx : x < 4294967296) : (r * 4294967296 + x) / d < 4294967296 := by
  have hd : 0 < d := by omega
  rw [Nat.div_lt_iff_lt_mul hd]
  have : (r + 1) * 4294967296 ≤ d * 4294967296 := Nat.mul_le_mul_right _ hr
  rw [Nat.mul_comm 4294967296 d]
  omega
theorem trimW_nil : trimW [] = [] := rfl
theorem trimW_snoc (l : List Nat) (y : Nat) : trimW (l ++ [y]) = if y = 0 then trimW l else l ++ [y] := by
  unfold trimW
  rw [List.reverse_append, List.reverse_singleton, List.singleton_append, List.dropWhile_cons]
  by_cases h : y = 0
  · simp [h]
  · simp [h]
theorem snoc_cases (l : List Nat) : l = [] ∨ ∃ m y, l = m ++ [y] := by
  rcases List.eq_nil_or_concat l with h | ⟨m, y, h⟩
  · exact .inl h
  · exact .inr ⟨m, y, by simpa using h⟩
theorem trimW_spec : ∀ (n : Nat) (l : List Nat), l.length = n → valW (trimW l) = valW l ∧ trimW (trimW l) = trimW l ∧ (∃ k, k ≤ l.length ∧ trimW l = l.take k) := by
  intro n
  induction n with
  | zero =>
    intro l h
    rw [List.eq_nil_of_length_eq_zero h]
    exact ⟨rfl, rfl, 0, Nat.le_refl _, rfl⟩
  | succ n ih =>
    intro l h
    rcases snoc_cases l with rfl | ⟨m, y, rfl⟩
    · simp at h
    · rw [trimW_snoc]
      by_cases hy : y = 0
      · obtain ⟨h1, h2, k, h3, h4⟩ := ih m (by simpa using h)
        rw [if_pos hy, hy, valW_snoc_zero]
        refine ⟨h1, h2, k, by simp; omega, ?_⟩
        rw [List.take_append_of_le_length h3]
        exact h4
      · rw [if_neg hy]
        refine ⟨rfl, by rw [trimW_snoc, if_neg hy], _, Nat.le_refl _, (List.take_length).symm⟩
theorem trimW_val (l : List Nat) : valW (trimW l) = valW l := (trimW_spec _ l rfl).1
theorem trimW_trim (l : List Nat) : trimW (trimW l) = trimW l := (trimW_spec _ l rfl).2.1
theorem trimW_take (l : List Nat) : trimW l = l.take (trimW l).length := by
  obtain ⟨k, hk, h⟩ := (trimW_spec _ l rfl).2.2
  rw [h, List.length_take, Nat.min_eq_left hk]
theorem trimW_len (l : List Nat) : (trimW l).length ≤ l.length := by
  rw [trimW_take l, List.length_take]
  omega
theorem trimW_mem {l : List Nat} {P : Nat → Prop} (h : ∀ y ∈ l, P y) : ∀ y ∈ trimW l, P y := by
  rw [trimW_take l]
  intro y hy
  exact h y (List.mem_of_mem_take hy)
theorem trimW_zero {l : List Nat} (h : trimW l = l) (hv : valW l = 0) : l = [] := by
  rcases snoc_cases l with rfl | ⟨m, y, rfl⟩
  · rfl
  · exfalso
    have hy : y ≠ 0 := by
      intro e
      rw [trimW_snoc, if_pos e] at h
      have := congrArg List.length h
      have := trimW_len m
      simp at *
      omega
    rw [valW_append] at hv
    have h1 : 4294967296 ^ m.length * valW [y] = 0 := by omega
    rcases Nat.mul_eq_zero.1 h1 with h2 | h2
    · exact absurd h2 (Nat.ne_of_gt (Nat.pow_pos (by decide)))
    · simp [valW] at h2
      exact hy h2
theorem valW_lt {l : List Nat} (h : ∀ y ∈ l, y < 4294967296) : valW l < 4294967296 ^ l.length := by
  induction l with
  | nil => simp [valW]
  | cons x l ih =>
    have h1 := h x (by simp)
    have h2 := ih (fun y hy => h y (by simp [hy]))
    simp only [valW, List.length_cons, Nat.pow_succ]
    have : (valW l + 1) * 4294967296 ≤ 4294967296 ^ l.length * 4294967296 := Nat.mul_le_mul_right _ h2
    omega
end Go.Proofs.YtpeckpiidgkgoaaGreatDoor
