/- The runes of a text, plain; how they are counted; where words break. No program. -/
import Derived.Test.YtnhmbpeicgnjaaaDoorKit
import Derived.Lib.MapLaws
import Derived.Lib.TrimUEq
import Derived.Lib.ValidLaws
import Derived.Lib.QuoteLoop
namespace Go.Proofs.YtnhmbpeicgnjaaaDoor
open Go.Lib
set_option linter.unusedVariables false

def runesG : Nat → List UInt8 → List Nat
  | 0, _ => []
  | n + 1, l => if l = [] then [] else (decodeL l).1 :: runesG n (l.drop (decodeL l).2)
def runesD (l : List UInt8) : List Nat := runesG l.length l

theorem runesG_fuel : ∀ (n m : Nat) (l : List UInt8), l.length ≤ n → l.length ≤ m → runesG n l = runesG m l
  | 0, m, l, h, _ => by
    have : l = [] := List.eq_nil_of_length_eq_zero (by omega)
    subst this
    cases m <;> simp [runesG]
  | n + 1, 0, l, _, h => by
    have : l = [] := List.eq_nil_of_length_eq_zero (by omega)
    subst this
    simp [runesG]
  | n + 1, m + 1, l, h1, h2 => by
    by_cases e : l = []
    · subst e; simp [runesG]
    · have hw := decodeL_width l
      have hp : 0 < l.length := List.length_pos_iff.2 e
      simp only [runesG, if_neg e]
      rw [runesG_fuel n m (l.drop (decodeL l).2) (by simp; omega) (by simp; omega)]
theorem runesD_nil : runesD [] = [] := rfl
theorem runesD_step (l : List UInt8) (hne : l ≠ []) : runesD l = (decodeL l).1 :: runesD (l.drop (decodeL l).2) := by
  have hp : 0 < l.length := List.length_pos_iff.2 hne
  have hw := decodeL_width l
  obtain ⟨k, hk⟩ : ∃ k, l.length = k + 1 := ⟨l.length - 1, by omega⟩
  unfold runesD
  rw [hk, runesG, if_neg hne, runesG_fuel k _ _ (by simp; omega) (Nat.le_refl _)]

/-- Behind place pos of a text. -/
def restD (s : ByteArray) (pos : Nat) : List Nat := runesD (s.data.toList.drop pos)
theorem restD_end (s : ByteArray) (pos : Nat) (h : ¬ pos < s.size) : restD s pos = [] := by
  unfold restD
  rw [List.drop_eq_nil_of_le (by rw [← Lib.size_eq]; omega)]
  rfl
theorem drop_ne (s : ByteArray) (pos : Nat) (h : pos < s.size) : s.data.toList.drop pos ≠ [] := by
  intro e
  have := List.drop_eq_nil_iff.1 e
  rw [← Lib.size_eq] at this
  omega
theorem restD_step (s : ByteArray) (pos : Nat) (h : pos < s.size) : restD s pos = (Utf8.decode s pos).1 :: restD s (pos + (Utf8.decode s pos).2) := by
  unfold restD
  rw [runesD_step _ (drop_ne s pos h), decodeL_drop, List.drop_drop]
theorem dec_le (s : ByteArray) (pos : Nat) (h : pos < s.size) : 1 ≤ (Utf8.decode s pos).2 ∧ pos + (Utf8.decode s pos).2 ≤ s.size := by
  have h1 := decodeL_width (s.data.toList.drop pos)
  have h2 := decodeL_le (s.data.toList.drop pos) (drop_ne s pos h)
  rw [decodeL_drop] at h1 h2
  rw [List.length_drop, ← Lib.size_eq] at h2
  omega

def GoodRune (c : Nat) : Prop := c < 55296 ∨ (57343 < c ∧ c ≤ 1114111)
theorem dec_good (s : ByteArray) (pos : Nat) : GoodRune (Utf8.decode s pos).1 := by
  rw [decode_N]
  exact decodeN_valid _ _ _ _ _ (UInt8.toNat_lt _)

/-! How runes are counted. -/
def sz (c : Nat) (k : Int) : Int := if k = 1 then runeLen (c : Int) else if k = 3 ∧ 65535 < c then 2 else 1
theorem runeLen_good {c : Nat} (h : GoodRune c) : 1 ≤ runeLen (c : Int) ∧ runeLen (c : Int) ≤ 4 := by
  unfold runeLen
  unfold GoodRune at h
  repeat' split
  all_goals omega
theorem sz_good {c : Nat} (h : GoodRune c) (k : Int) : 1 ≤ sz c k ∧ sz c k ≤ 4 := by
  unfold sz
  split
  · exact runeLen_good h
  · split <;> omega

def convL (at_ f t : Int) : List Nat → Int → Int → Int × Int
  | [], x, y => (x, y)
  | c :: l, x, y => if at_ ≤ x then (x, y) else convL at_ f t l (x + sz c f) (y + sz c t)

def total (k : Int) : List Nat → Int
  | [] => 0
  | c :: l => sz c k + total k l
theorem total_pos {l : List Nat} (h : ∀ c ∈ l, GoodRune c) (k : Int) : 0 ≤ total k l := by
  induction l with
  | nil => simp [total]
  | cons c l ih =>
    have h1 := sz_good (h c (List.mem_cons_self ..)) k
    have h2 := ih fun x hx => h x (List.mem_cons_of_mem _ hx)
    simp only [total]; omega

/-- The place that is found: so many runes ahead. -/
theorem conv_at (at_ f t : Int) : ∀ (l : List Nat), (∀ c ∈ l, GoodRune c) → ∀ x y : Int, ∃ k, k ≤ l.length ∧ convL at_ f t l x y = (x + total f (l.take k), y + total t (l.take k)) ∧
    (∀ j, j < k → x + total f (l.take j) < at_) ∧ (k = l.length ∨ at_ ≤ x + total f (l.take k))
  | [], _, x, y => ⟨0, by simp, by simp [convL, total], by simp, .inl rfl⟩
  | c :: l, h, x, y => by
    by_cases hx : at_ ≤ x
    · exact ⟨0, by simp, by simp [convL, total, hx], by simp, .inr (by simpa [total] using hx)⟩
    · obtain ⟨k, h1, h2, h3, h4⟩ := conv_at at_ f t l (fun z hz => h z (List.mem_cons_of_mem _ hz)) (x + sz c f) (y + sz c t)
      refine ⟨k + 1, by simp; omega, ?_, ?_, ?_⟩
      · rw [convL, if_neg hx, h2]
        simp only [List.take_succ_cons, total]
        rw [Prod.mk.injEq]
        exact ⟨by omega, by omega⟩
      · intro j hj
        cases j with
        | zero => simp [total]; omega
        | succ j =>
          have := h3 j (by omega)
          simp only [List.take_succ_cons, total]; omega
      · rcases h4 with h4 | h4
        · exact .inl (by simp [h4])
        · refine .inr ?_
          simp only [List.take_succ_cons, total]; omega

theorem total_mono {l : List Nat} (h : ∀ c ∈ l, GoodRune c) (k : Int) : ∀ i j, i < j → j ≤ l.length → total k (l.take i) < total k (l.take j) := by
  induction l with
  | nil => intro i j h1 h2; simp at h2; omega
  | cons c l ih =>
    intro i j h1 h2
    have hc := sz_good (h c (List.mem_cons_self ..)) k
    obtain ⟨j', rfl⟩ : ∃ j', j = j' + 1 := ⟨j - 1, by omega⟩
    cases i with
    | zero =>
      have := total_pos (l := l.take j') (fun x hx => h x (List.mem_cons_of_mem _ (List.mem_of_mem_take hx))) k
      simp only [List.take_succ_cons, total, List.take_zero]; omega
    | succ i =>
      have := ih (fun x hx => h x (List.mem_cons_of_mem _ hx)) i j' (by omega) (by simpa using h2)
      simp only [List.take_succ_cons, total]; omega

/-- Found at at_: it is the place of k runes, and no other. -/
theorem conv_found {l : List Nat} (h : ∀ c ∈ l, GoodRune c) (at_ f t : Int) (hx : (convL at_ f t l 0 0).1 = at_) :
    ∃ k, k ≤ l.length ∧ at_ = total f (l.take k) ∧ (convL at_ f t l 0 0).2 = total t (l.take k) := by
  obtain ⟨k, h1, h2, _, _⟩ := conv_at at_ f t l h 0 0
  rw [h2] at hx ⊢
  exact ⟨k, h1, by simpa using hx.symm, by simp⟩
theorem conv_of {l : List Nat} (h : ∀ c ∈ l, GoodRune c) (f t : Int) (k : Nat) (hk : k ≤ l.length) :
    convL (total f (l.take k)) f t l 0 0 = (total f (l.take k), total t (l.take k)) := by
  obtain ⟨i, h1, h2, h3, h4⟩ := conv_at (total f (l.take k)) f t l h 0 0
  have e : i = k := by
    rcases Nat.lt_trichotomy i k with hlt | he | hgt
    · exfalso
      have := total_mono h f i k hlt hk
      rcases h4 with h4 | h4
      · omega
      · omega
    · exact he
    · exfalso
      have := h3 k hgt
      omega
  subst e
  rw [h2]; simp

/-! Where words break. -/
def wordB (c : Nat) : Bool := (decide (97 ≤ c) && decide (c ≤ 122)) || (decide (65 ≤ c) && decide (c ≤ 90)) || (decide (48 ≤ c) && decide (c ≤ 57)) || decide (128 ≤ c)
def brk : List Nat → Bool → Nat → List Int
  | [], was, n => if was then [(n : Int)] else []
  | c :: l, was, n => if wordB c != was then (n : Int) :: brk l (wordB c) (n + 1) else brk l was (n + 1)
theorem brk_even : ∀ (l : List Nat) (was : Bool) (n : Nat), (brk l was n).length % 2 = if was then 1 else 0
  | [], was, n => by cases was <;> simp [brk]
  | c :: l, was, n => by
    rw [brk]
    by_cases h : wordB c = was
    · simp only [h, bne_self_eq_false, Bool.false_eq_true, if_false]
      exact brk_even l was (n + 1)
    · have h2 : (wordB c != was) = true := by simpa using h
      rw [if_pos h2]
      have ih := brk_even l (wordB c) (n + 1)
      rw [List.length_cons]
      cases hw : wordB c <;> cases was <;> simp_all <;> omega
theorem brk_le : ∀ (l : List Nat) (was : Bool) (n : Nat), ∀ x ∈ brk l was n, x ≤ (n : Int) + l.length
  | [], was, n => by cases was <;> simp [brk]
  | c :: l, was, n => by
    intro x hx
    rw [brk] at hx
    split at hx
    · rcases List.mem_cons.1 hx with rfl | hx
      · simp; omega
      · have := brk_le l _ _ x hx
        simp only [List.length_cons]; omega
    · have := brk_le l _ _ x hx
      simp only [List.length_cons]; omega
theorem brk_len : ∀ (l : List Nat) (was : Bool) (n : Nat), (brk l was n).length ≤ l.length + 1
  | [], was, n => by cases was <;> simp [brk]
  | c :: l, was, n => by
    rw [brk]
    split
    · have := brk_len l (wordB c) (n + 1); simp only [List.length_cons]; omega
    · have := brk_len l was (n + 1); simp only [List.length_cons]; omega
theorem total_two (l : List Nat) : total 2 l = l.length := by
  induction l with
  | nil => rfl
  | cons c l ih => simp only [total, ih, sz, List.length_cons]; simp; omega
theorem runesD_len : ∀ (n : Nat) (l : List UInt8), (runesG n l).length ≤ n
  | 0, l => by simp [runesG]
  | n + 1, l => by
    rw [runesG]
    split
    · simp
    · have := runesD_len n (l.drop (decodeL l).2); simp only [List.length_cons]; omega

theorem runes_good (s : ByteArray) : ∀ (n pos : Nat), s.size ≤ pos + n → ∀ c ∈ restD s pos, GoodRune c
  | 0, pos, h => by rw [restD_end s pos (by omega)]; simp
  | n + 1, pos, h => by
    by_cases hp : pos < s.size
    · rw [restD_step s pos hp]
      intro c hc
      rcases List.mem_cons.1 hc with rfl | hc
      · exact dec_good s pos
      · have := dec_le s pos hp
        exact runes_good s n _ (by omega) c hc
    · rw [restD_end s pos hp]; simp

/-- In a valid text the bytes of the runes are all its bytes. -/
theorem valid_total (s : ByteArray) : ∀ (n pos : Nat), s.size ≤ pos + n → pos ≤ s.size → validD (s.data.toList.drop pos) = true → total 1 (restD s pos) = (s.size : Int) - pos
  | 0, pos, h, h2, _ => by rw [restD_end s pos (by omega)]; simp [total]; omega
  | n + 1, pos, h, h2, hv => by
    by_cases hp : pos < s.size
    · rw [validD_step _ (drop_ne s pos hp), decodeL_drop, List.drop_drop] at hv
      have hd := dec_le s pos hp
      rw [restD_step s pos hp, total]
      split at hv
      · cases hv
      · rename_i hne
        have ih := valid_total s n _ (by omega) hd.2 hv
        rw [ih]
        have hl : sz (Utf8.decode s pos).1 1 = ((Utf8.decode s pos).2 : Int) := by
          simp only [sz, if_true]
          by_cases e : (Utf8.decode s pos).1 = 65533
          · have h3 : (Utf8.decode s pos).2 = 3 := by
              have hs := decodeN_shape (s.data.toList.length - pos) (s.data.toList.getD pos 0).toNat (s.data.toList.getD (pos + 1) 0).toNat (s.data.toList.getD (pos + 2) 0).toNat (s.data.toList.getD (pos + 3) 0).toNat
              rw [← decode_N] at hs
              rcases hs with ⟨h0, hs⟩ | ⟨h0, _, _, _, hs⟩ | ⟨_, _, _, _, _, _, hs⟩ | ⟨_, _, _, _, _, h5, _, hs⟩ | hs
              · rw [hs] at e; simp only at e; omega
              · rw [hs] at e; simp only at e; omega
              · rw [hs]
              · rw [hs] at e; simp only at e; omega
              · exact absurd ⟨by rw [hs], by rw [hs]⟩ hne
            rw [e, h3]; rfl
          · have := runeLen_decode (s.data.toList.drop pos) (by rw [decodeL_drop]; exact e)
            rwa [decodeL_drop] at this
        rw [hl]; omega
    · rw [restD_end s pos hp]; simp [total]; omega
end Go.Proofs.YtnhmbpeicgnjaaaDoor
