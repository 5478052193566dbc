/- bookref4.Runes: the runes of a text by hand, as the model's decoder has them. Plain part: no program. -/
import Derived.Test.YtnhmbpeicgnjaaaDoorRunes
namespace Go.Proofs.YtnhmbpeicgnjaaaDoor
open Go.Lib
set_option linter.unusedVariables false
set_option linter.unusedSimpArgs false

/-- Byte k behind pos. -/
def byt (s : ByteArray) (p : Nat) : Nat := (s.get! p).toNat
theorem byt_at {s : ByteArray} {p : Nat} (h : p < s.size) : (s[p]'h).toNat = byt s p := by
  unfold byt
  rw [show s.get! p = s[p]'h from by simp [ByteArray.get!, getElem!_pos, h]; rfl]
theorem byt_lt (s : ByteArray) (p : Nat) : byt s p < 256 := UInt8.toNat_lt _
theorem dec_byt (s : ByteArray) (p : Nat) : Utf8.decode s p = decodeN (s.size - p) (byt s p) (byt s (p + 1)) (byt s (p + 2)) (byt s (p + 3)) := decode_at s p

/-- The value behind k bytes. -/
def part (s : ByteArray) (p : Nat) (c0 : Int) : Nat → Int
  | 0 => c0
  | k + 1 => part s p c0 k * 64 + byt s (p + (k + 1)) - 128
def isCont (s : ByteArray) (p : Nat) : Prop := 128 ≤ byt s p ∧ byt s p ≤ 191

def BadDec (s : ByteArray) (p : Nat) : Prop := Utf8.decode s p = (65533, 1)

theorem dec_ascii {s : ByteArray} {p : Nat} (h : byt s p < 128) : Utf8.decode s p = (byt s p, 1) := by rw [dec_byt, decodeN, if_pos h]
theorem dec_lead {s : ByteArray} {p : Nat} (h : (128 ≤ byt s p ∧ byt s p < 192) ∨ 248 ≤ byt s p) : BadDec s p := by
  unfold BadDec
  rw [dec_byt]
  have := byt_lt s p
  unfold decodeN
  repeat' split
  all_goals first | rfl | (exfalso; omega)

theorem dec_one {s : ByteArray} {p : Nat} (h1 : 192 ≤ byt s p) (h2 : byt s p < 224) :
    ((p + 1 < s.size ∧ isCont s (p + 1) ∧ 128 ≤ part s p (byt s p - 192) 1) → Utf8.decode s p = ((part s p (byt s p - 192) 1).toNat, 2)) ∧
    (¬ (p + 1 < s.size ∧ isCont s (p + 1) ∧ 128 ≤ part s p (byt s p - 192) 1) → BadDec s p) := by
  have := byt_lt s (p + 1)
  unfold BadDec isCont
  simp only [part, Nat.zero_add, Nat.reduceAdd]
  rw [dec_byt]
  unfold decodeN
  constructor
  · rintro ⟨g1, ⟨g2, g3⟩, g4⟩
    rw [if_neg (by omega), if_pos ⟨by omega, by omega, by omega⟩, if_pos (by omega)]
    rw [Prod.mk.injEq]; exact ⟨by omega, rfl⟩
  · intro hn
    repeat' split
    all_goals first | rfl | (exfalso; omega)

theorem dec_two {s : ByteArray} {p : Nat} (h1 : 224 ≤ byt s p) (h2 : byt s p < 240) :
    ((p + 2 < s.size ∧ isCont s (p + 1) ∧ isCont s (p + 2) ∧ 2048 ≤ part s p (byt s p - 224) 2 ∧ ¬ (55296 ≤ part s p (byt s p - 224) 2 ∧ part s p (byt s p - 224) 2 ≤ 57343)) → Utf8.decode s p = ((part s p (byt s p - 224) 2).toNat, 3)) ∧
    (¬ (p + 2 < s.size ∧ isCont s (p + 1) ∧ isCont s (p + 2) ∧ 2048 ≤ part s p (byt s p - 224) 2 ∧ ¬ (55296 ≤ part s p (byt s p - 224) 2 ∧ part s p (byt s p - 224) 2 ≤ 57343)) → BadDec s p) := by
  have a1 := byt_lt s (p + 1)
  have a2 := byt_lt s (p + 2)
  unfold BadDec isCont
  simp only [part, Nat.zero_add, Nat.reduceAdd]
  rw [dec_byt]
  unfold decodeN
  constructor
  · rintro ⟨g1, ⟨g2, g3⟩, ⟨g4, g5⟩, g6, g7⟩
    rw [if_neg (by omega), if_neg (by omega), if_pos ⟨by omega, ⟨by omega, by omega⟩, by omega, by omega⟩, if_pos ⟨by omega, by omega⟩]
    rw [Prod.mk.injEq]; exact ⟨by omega, rfl⟩
  · intro hn
    repeat' split
    all_goals first | rfl | (exfalso; omega)

theorem dec_three {s : ByteArray} {p : Nat} (h1 : 240 ≤ byt s p) (h2 : byt s p < 248) :
    ((p + 3 < s.size ∧ isCont s (p + 1) ∧ isCont s (p + 2) ∧ isCont s (p + 3) ∧ 65536 ≤ part s p (byt s p - 240) 3 ∧ part s p (byt s p - 240) 3 ≤ 1114111) → Utf8.decode s p = ((part s p (byt s p - 240) 3).toNat, 4)) ∧
    (¬ (p + 3 < s.size ∧ isCont s (p + 1) ∧ isCont s (p + 2) ∧ isCont s (p + 3) ∧ 65536 ≤ part s p (byt s p - 240) 3 ∧ part s p (byt s p - 240) 3 ≤ 1114111) → BadDec s p) := by
  have a1 := byt_lt s (p + 1)
  have a2 := byt_lt s (p + 2)
  have a3 := byt_lt s (p + 3)
  unfold BadDec isCont
  simp only [part, Nat.zero_add, Nat.reduceAdd]
  rw [dec_byt]
  unfold decodeN
  constructor
  · rintro ⟨g1, ⟨g2, g3⟩, ⟨g4, g5⟩, ⟨g6, g7⟩, g8, g9⟩
    rw [if_neg (by omega), if_neg (by omega), if_neg (by omega), if_pos ⟨by omega, ⟨by omega, by omega⟩, ⟨by omega, by omega⟩, by omega, by omega⟩, if_pos ⟨by omega, by omega⟩]
    rw [Prod.mk.injEq]; exact ⟨by omega, rfl⟩
  · intro hn
    repeat' split
    all_goals first | rfl | (exfalso; omega)

/-- The whole text is no UTF-8 if a piece behind good ones is none. -/
def ValidFrom (s : ByteArray) (p : Nat) : Bool := validD (s.data.toList.drop p)
theorem valid_bad {s : ByteArray} {p : Nat} (hp : p < s.size) (h : BadDec s p) : ValidFrom s p = false := by
  unfold ValidFrom
  rw [validD_step _ (drop_ne s p hp), decodeL_drop, h]
  simp
theorem valid_next {s : ByteArray} {p : Nat} {c n : Nat} (hp : p < s.size) (h : Utf8.decode s p = (c, n)) (hg : ¬ (c = 65533 ∧ n = 1)) : ValidFrom s p = ValidFrom s (p + n) := by
  unfold ValidFrom
  rw [validD_step _ (drop_ne s p hp), decodeL_drop, h, List.drop_drop]
  simp only
  rw [if_neg hg]
theorem valid_end {s : ByteArray} {p : Nat} (hp : ¬ p < s.size) : ValidFrom s p = true := by
  unfold ValidFrom
  rw [List.drop_eq_nil_of_le (by rw [← Lib.size_eq]; omega)]
  rfl
theorem rest_next {s : ByteArray} {p : Nat} {c n : Nat} (hp : p < s.size) (h : Utf8.decode s p = (c, n)) : restD s p = c :: restD s (p + n) := by
  rw [restD_step s p hp, h]
end Go.Proofs.YtnhmbpeicgnjaaaDoor
