/- NumI, NumPlain2. -/
import Derived.Test.YtpeckpiidgkgoaaGreatDoorPg22
import Derived.Outline
import Derived.Test.YtpeckpiidgkgoaaGreatDoorPg21
/- commonbookbig: a whole number: give, NewInt: contracts. -/
namespace Go.Proofs.YtpeckpiidgkgoaaGreatDoor
open Go.RowKit
set_option linter.unusedVariables false
set_option linter.unusedSimpArgs false

/-- Block g holds the whole number x. -/
def IsI (w : World) (g : Nat) (x : Int) : Prop := ∃ neg v m, Blk w g 59 #[.bool neg, v] ∧ NW w v m ∧ x = (if neg = true then -(m : Int) else (m : Int)) ∧ (neg = true → m ≠ 0)
theorem IsI.lt {w : World} {g : Nat} {x : Int} (h : IsI w g x) : g < w.heap.size := by
  obtain ⟨_, _, _, hb, _⟩ := h
  exact hb.lt
theorem IsI.below {w w' : World} {g : Nat} {x : Int} (h : IsI w g x) (hb : Below w.heap.size w w') : IsI w' g x := by
  obtain ⟨neg, v, m, h1, h2, h3⟩ := h
  exact ⟨neg, v, m, h1.below hb h1.lt, h2.below hb, h3⟩

set_option maxRecDepth 100000 in
set_option maxHeartbeats 1000000 in
theorem give_any (g : Nat) (p q : Value) (neg : Bool) (A : Option Addr) (n c : Nat) (w : World) (h : Blk w g 59 #[p, q]) :
    Calls Tryz.prog 34 #[.pointer (some ⟨g, 0, none⟩), .bool neg, .slice A n c] w fun e w' => e = .returned (.pointer (some ⟨g, 0, none⟩)) ∧
      Blk w' g 59 #[.bool (neg && decide (0 < n)), .slice A n c] ∧ Only (fun k => k = g) w w' := by
  have f0 := h.frozen 0
  have f1 := h.frozen 1
  have c0 : w.cell? ⟨g, 0, none⟩ = some p := h.cell 0
  have c1 : w.cell? ⟨g, 1, none⟩ = some q := h.cell 1
  have h1 := h.set_ 1 (.slice A n c)
  have hb : ∀ b : Bool, Blk ((w.setCell ⟨g, 1, none⟩ (.slice A n c)).setCell ⟨g, 0, none⟩ (.bool b)) g 59 #[.bool b, .slice A n c] := fun b => by
    have := h1.set_ 0 (.bool b)
    simpa using this
  have ho : ∀ b : Bool, Only (fun k => k = g) w ((w.setCell ⟨g, 1, none⟩ (.slice A n c)).setCell ⟨g, 0, none⟩ (.bool b)) := fun b =>
    ((Only.refl (fun k => k = g) w).setCell (p := ⟨g, 1, none⟩) rfl _).setCell (p := ⟨g, 0, none⟩) rfl _
  have HB := Lib.hid (And.intro hb ho)
  clear h h1 hb ho
  cases neg with
  | false =>
    go_enter Tryz.func34, Tryz.ntmps34
    go_wp2_with fail
    go_ret
    exact ⟨rfl, HB.out.1 _, HB.out.2 _⟩
  | true =>
    rcases Nat.eq_zero_or_pos n with hn | hn
    · subst hn
      go_enter Tryz.func34, Tryz.ntmps34
      go_wp2_with fail
      go_ret
      exact ⟨rfl, HB.out.1 _, HB.out.2 _⟩
    · have hn2 : (0 : Int) < ((n : Nat) : Int) := by omega
      have hd : decide (0 < n) = true := by simp [hn]
      rw [hd]
      clear hd
      go_enter Tryz.func34, Tryz.ntmps34
      go_wp2_with fail
      go_ret
      exact ⟨rfl, HB.out.1 _, HB.out.2 _⟩

theorem NW.other {w w' : World} {g : Nat} {t : TypeId} {p : Bool} {B : Option Addr} {m k : Nat} {v : Value} {x : Nat} (h : NW w v x) (hb : Blk w g t #[.bool p, .slice B m k]) (ho : Only (fun k => k = g) w w') : NW w' v x := by
  obtain ⟨A, c, l, h1, h2, h3⟩ := h
  refine ⟨A, c, l, h1, ?_, h3⟩
  cases l with
  | nil => exact .inl rfl
  | cons y l =>
    rcases h2 with h2 | ⟨b, off, hA, hc⟩
    · simp [u32s] at h2
    · refine .inr ⟨b, off, hA, fun j u hu => ?_⟩
      have hbg : b ≠ g := by
        rintro rfl
        have := hc 0 _ (by simp [u32s]; rfl)
        rw [Nat.add_zero, hb.cell] at this
        match off, this with
        | 0, this => simp at this
        | 1, this => simp at this
        | _ + 2, this => simp at this
      rw [World.cell?_of_block (ho.block b (cell_lt (hc j u hu)) hbg)]
      exact hc j u hu
theorem IsI.made {w : World} {g : Nat} {neg : Bool} {A : Option Addr} {l c m : Nat} (hb : Blk w g 59 #[.bool (neg && decide (0 < l)), .slice A l c]) (h : NW w (.slice A l c) m) : IsI w g (if neg = true then -(m : Int) else (m : Int)) := by
  have hl : 0 < l ↔ m ≠ 0 := by
    obtain ⟨A', c', ws, e, h1, h2, h3, h4, h5⟩ := h
    injection e with e1 e2 e3
    subst e2
    constructor
    · intro hl hm
      rw [hm] at h4
      rw [trimW_zero h3 h4] at hl
      simp at hl
    · intro hm
      rcases Nat.eq_zero_or_pos ws.length with h0 | h0
      · rw [List.eq_nil_of_length_eq_zero h0] at h4
        exact absurd h4.symm hm
      · exact h0
  refine ⟨_, _, m, hb, h, ?_, ?_⟩
  · cases neg
    · simp
    · by_cases hm : m = 0
      · subst hm; simp
      · rw [decide_eq_true (hl.2 hm)]; simp
  · intro hn
    simp at hn
    exact hl.1 hn.2
end Go.Proofs.YtpeckpiidgkgoaaGreatDoor
/- Rows of words: sums, products, shifts: plain. -/
namespace Go.Proofs.YtpeckpiidgkgoaaGreatDoor
set_option linter.unusedVariables false
set_option linter.unusedSimpArgs false

/-- The base. -/
abbrev Bw : Nat := 4294967296
theorem valW_set (R : List Nat) : ∀ (k x y : Nat), R[k]? = some y → valW (R.set k x) + y * 4294967296 ^ k = valW R + x * 4294967296 ^ k := by
  induction R with
  | nil => intro k x y h; simp at h
  | cons a R ih =>
    intro k x y h
    cases k with
    | zero => simp at h; subst h; simp [valW]; omega
    | succ k =>
      have := ih k x y (by simpa using h)
      simp only [List.set_cons_succ, valW, Nat.pow_succ]
      have h1 : y * (4294967296 ^ k * 4294967296) = 4294967296 * (y * 4294967296 ^ k) := by rw [← Nat.mul_assoc, Nat.mul_comm]
      have h2 : x * (4294967296 ^ k * 4294967296) = 4294967296 * (x * 4294967296 ^ k) := by rw [← Nat.mul_assoc, Nat.mul_comm]
      rw [h1, h2, Nat.add_assoc, ← Nat.mul_add, this, Nat.mul_add, Nat.add_assoc]
theorem valW_snoc (l : List Nat) (x : Nat) : valW (l ++ [x]) = valW l + 4294967296 ^ l.length * x := by
  rw [valW_append]; simp [valW]
theorem valW_zeros (n : Nat) : valW (List.replicate n 0) = 0 := by
  induction n with
  | zero => rfl
  | succ n ih => rw [List.replicate_succ, valW, ih]
theorem valW_pad (l : List Nat) (n : Nat) : valW (l ++ List.replicate n 0) = valW l := by rw [valW_append, valW_zeros]; simp
theorem row_set (ws : List Nat) (k x : Nat) : (ws ++ List.replicate (k + 1) 0).set ws.length x = (ws ++ [x]) ++ List.replicate k 0 := by
  rw [List.replicate_succ, List.set_append_right _ _ (Nat.le_refl _)]
  simp
theorem row_at (ws : List Nat) (k : Nat) : (ws ++ List.replicate (k + 1) 0)[ws.length]? = some 0 := by
  rw [List.getElem?_append_right (Nat.le_refl _)]
  simp
theorem valW_take_succ {l : List Nat} {i x : Nat} (h : l[i]? = some x) : valW (l.take (i + 1)) = valW (l.take i) + 4294967296 ^ i * x := by
  have hi := (List.getElem?_eq_some_iff.1 h).1
  rw [List.take_add_one, h, Option.toList_some, valW_snoc, List.length_take, Nat.min_eq_left (by omega)]
theorem valW_take_none {l : List Nat} {i : Nat} (h : l[i]? = none) : valW (l.take (i + 1)) = valW (l.take i) := by
  have hi := List.getElem?_eq_none_iff.1 h
  rw [List.take_of_length_le (by omega), List.take_of_length_le hi]
theorem valW_drop {l : List Nat} (h : ∀ y ∈ l, y < 4294967296) : ∀ (i : Nat), valW l / 4294967296 ^ i = valW (l.drop i) := by
  induction l with
  | nil => intro i; simp [valW]
  | cons x l ih =>
    intro i
    cases i with
    | zero => simp
    | succ i =>
      have hx := h x (by simp)
      rw [List.drop_succ_cons, ← ih (fun y hy => h y (by simp [hy])) i, valW, Nat.pow_succ, Nat.mul_comm (4294967296 ^ i), ← Nat.div_div_eq_div_mul]
      congr 1
      omega
theorem trimW_le {l : List Nat} (h : trimW l = l) {k : Nat} (hv : valW l < 4294967296 ^ k) : l.length ≤ k := by
  rcases snoc_cases l with rfl | ⟨m, y, rfl⟩
  · simp
  · have hy : y ≠ 0 := by
      intro e
      rw [trimW_snoc, if_pos e] at h
      have := congrArg List.length h
      have := trimW_len m
      simp at *
      omega
    rw [valW_snoc] at hv
    simp only [List.length_append, List.length_singleton]
    rcases Nat.lt_or_ge m.length k with h1 | h1
    · omega
    · exfalso
      have h2 : 4294967296 ^ k ≤ 4294967296 ^ m.length := Nat.pow_le_pow_right (by decide) h1
      have h3 : 4294967296 ^ m.length * 1 ≤ 4294967296 ^ m.length * y := Nat.mul_le_mul_left _ (by omega)
      omega
/-- A longer row without noughts at its end is more. -/
theorem trimW_lt {a b : List Nat} (ha : ∀ y ∈ a, y < 4294967296) (hb : trimW b = b) (h : a.length < b.length) : valW a < valW b := by
  rcases Nat.lt_or_ge (valW a) (valW b) with h1 | h1
  · exact h1
  · exfalso
    have h2 := valW_lt ha
    have := trimW_le hb (k := a.length) (by omega)
    omega

/-! Sums. -/
structure AddR (la lb : List Nat) (i c : Nat) (ws : List Nat) : Prop where
  len : ws.length = i
  cle : c ≤ 1
  words : ∀ y ∈ ws, y < 4294967296
  eq : valW ws + c * 4294967296 ^ i = valW (la.take i) + valW (lb.take i)
theorem AddR.start (la lb : List Nat) : AddR la lb 0 0 [] := ⟨rfl, by omega, by simp, by simp [valW]⟩
theorem AddR.step {la lb : List Nat} {i c : Nat} {ws : List Nat} (h : AddR la lb i c ws) {x y : Nat} (hx : la[i]? = some x) (hy : lb[i]?.getD 0 = y) (hx2 : x < 4294967296) (hy2 : y < 4294967296) {s : Nat} (hs : s = c + x + y) :
    AddR la lb (i + 1) (s / 4294967296) (ws ++ [s % 4294967296]) := by
  have h1 := h.cle
  refine ⟨by simp [h.len], by omega, ?_, ?_⟩
  · intro z hz
    rcases List.mem_append.1 hz with hz | hz
    · exact h.words z hz
    · simp at hz; omega
  · rw [valW_snoc, h.len, valW_take_succ hx]
    have h2 : valW (lb.take (i + 1)) = valW (lb.take i) + 4294967296 ^ i * y := by
      cases hb : lb[i]? with
      | none => rw [valW_take_none hb]; rw [hb] at hy; simp at hy; subst hy; simp
      | some z => rw [hb] at hy; simp at hy; subst hy; exact valW_take_succ hb
    rw [h2]
    have h3 := h.eq
    have h4 := Nat.div_add_mod s 4294967296
    have h5 : s / 4294967296 * 4294967296 ^ (i + 1) = 4294967296 ^ i * (4294967296 * (s / 4294967296)) := by rw [Nat.pow_succ]; ac_rfl
    rw [h5]
    have h6 : valW ws + 4294967296 ^ i * (s % 4294967296) + 4294967296 ^ i * (4294967296 * (s / 4294967296)) = valW ws + 4294967296 ^ i * s := by
      rw [Nat.add_assoc, ← Nat.mul_add]; congr 2; omega
    rw [h6, hs, Nat.mul_add, Nat.mul_add, Nat.mul_comm _ c]
    omega
theorem AddR.done {la lb : List Nat} {c : Nat} {ws : List Nat} (h : AddR la lb la.length c ws) (hb : lb.length ≤ la.length) : valW (ws ++ [c]) = valW la + valW lb := by
  have := h.eq
  rw [List.take_length, List.take_of_length_le hb] at this
  rw [valW_snoc, h.len, Nat.mul_comm, this]

/-! Products. -/
structure MulO (la lb : List Nat) (i : Nat) (R : List Nat) : Prop where
  len : R.length = la.length + lb.length
  words : ∀ y ∈ R, y < 4294967296
  zero : ∀ k, i + lb.length ≤ k → k < R.length → R[k]? = some 0
  eq : valW R = valW (la.take i) * valW lb
theorem MulO.start (la lb : List Nat) : MulO la lb 0 (List.replicate (la.length + lb.length) 0) :=
  ⟨by simp, by intro y hy; have := (List.mem_replicate.1 hy).2; omega, by intro k _ hk; simp at hk; simp [hk], by rw [valW_zeros]; simp [valW]⟩
/-- Within a row: a the word, R the row ahead of it, R' that of now. -/
structure MulI (la lb : List Nat) (i a : Nat) (R : List Nat) (j c : Nat) (R' : List Nat) : Prop where
  len : R'.length = la.length + lb.length
  words : ∀ y ∈ R', y < 4294967296
  zero : ∀ k, i + lb.length ≤ k → k < R'.length → R'[k]? = some 0
  cle : c < 4294967296
  eq : valW R' + c * 4294967296 ^ (i + j) = valW R + a * 4294967296 ^ i * valW (lb.take j)
theorem MulI.start {la lb : List Nat} {i : Nat} {R : List Nat} (h : MulO la lb i R) (a : Nat) : MulI la lb i a R 0 0 R := ⟨h.len, h.words, h.zero, by omega, by simp [valW]⟩
theorem set_words {R : List Nat} {k x : Nat} (h : ∀ y ∈ R, y < 4294967296) (hx : x < 4294967296) : ∀ y ∈ R.set k x, y < 4294967296 := by
  intro y hy
  rcases List.mem_or_eq_of_mem_set hy with hy | rfl
  · exact h y hy
  · exact hx
theorem mul_fits {a b c r : Nat} (ha : a < 4294967296) (hb : b < 4294967296) (hc : c < 4294967296) (hr : r < 4294967296) : a * b ≤ 18446744065119617025 ∧ c + (a * b + r) < 18446744073709551616 ∧ (c + (a * b + r)) / 4294967296 < 4294967296 := by
  have h1 : a * b ≤ 4294967295 * 4294967295 := Nat.mul_le_mul (by omega) (by omega)
  omega
theorem MulI.step {la lb : List Nat} {i a : Nat} {R : List Nat} {j c : Nat} {R' : List Nat} (h : MulI la lb i a R j c R') (ha : a < 4294967296) {b r : Nat} (hb : lb[j]? = some b) (hb2 : b < 4294967296) (hr : R'[i + j]? = some r) {s : Nat} (hs : s = c + (a * b + r)) :
    MulI la lb i a R (j + 1) (s / 4294967296) (R'.set (i + j) (s % 4294967296)) := by
  have hj := (List.getElem?_eq_some_iff.1 hb).1
  have hr2 := h.words r (List.mem_of_getElem? hr)
  obtain ⟨f1, f2, f3⟩ := mul_fits ha hb2 h.cle hr2
  refine ⟨by simp [h.len], set_words h.words (by omega), ?_, by rw [hs]; exact f3, ?_⟩
  · intro k hk hk2
    rw [List.getElem?_set_ne (by omega)]
    exact h.zero k hk (by simpa using hk2)
  · have h1 := valW_set R' (i + j) (s % 4294967296) r hr
    have h2 := h.eq
    rw [valW_take_succ hb]
    have h4 := Nat.div_add_mod s 4294967296
    have h5 : s / 4294967296 * 4294967296 ^ (i + (j + 1)) = (4294967296 * (s / 4294967296)) * 4294967296 ^ (i + j) := by rw [← Nat.add_assoc, Nat.pow_succ]; ac_rfl
    have h6 : a * 4294967296 ^ i * (valW (lb.take j) + 4294967296 ^ j * b) = a * 4294967296 ^ i * valW (lb.take j) + a * b * 4294967296 ^ (i + j) := by
      rw [Nat.mul_add, Nat.pow_add]; congr 1; ac_rfl
    rw [h5, h6]
    have h7 : (s % 4294967296) * 4294967296 ^ (i + j) + (4294967296 * (s / 4294967296)) * 4294967296 ^ (i + j) = s * 4294967296 ^ (i + j) := by
      rw [← Nat.add_mul]; congr 1; omega
    have h8 : s * 4294967296 ^ (i + j) = c * 4294967296 ^ (i + j) + a * b * 4294967296 ^ (i + j) + r * 4294967296 ^ (i + j) := by rw [hs, Nat.add_mul, Nat.add_mul]; omega
    omega
theorem MulI.done {la lb : List Nat} {i a : Nat} {R : List Nat} {c : Nat} {R' : List Nat} (ho : MulO la lb i R) (h : MulI la lb i a R lb.length c R') (ha : la[i]? = some a) : MulO la lb (i + 1) (R'.set (i + lb.length) c) := by
  have hi := (List.getElem?_eq_some_iff.1 ha).1
  have hz := h.zero (i + lb.length) (Nat.le_refl _) (by rw [h.len]; omega)
  refine ⟨by simp [h.len], set_words h.words h.cle, ?_, ?_⟩
  · intro k hk hk2
    rw [List.getElem?_set_ne (by omega)]
    exact h.zero k (by omega) (by simpa using hk2)
  · have h1 := valW_set R' (i + lb.length) c 0 hz
    have h2 := h.eq
    rw [List.take_length, ho.eq] at h2
    rw [valW_take_succ ha, Nat.add_mul, Nat.mul_comm _ a]
    omega
theorem MulO.done {la lb : List Nat} {R : List Nat} (h : MulO la lb la.length R) : valW R = valW la * valW lb := by
  have := h.eq
  rwa [List.take_length] at this

/-! A shift of 31 to the left. -/
structure ShlR (la : List Nat) (i h : Nat) (ws : List Nat) : Prop where
  len : ws.length = i
  hi : h < 2147483648
  words : ∀ y ∈ ws, y < 4294967296
  eq : valW ws + 4294967296 ^ i * h = valW (la.take i) * 2147483648
theorem ShlR.start (la : List Nat) : ShlR la 0 0 [] := ⟨rfl, by omega, by simp, by simp [valW]⟩
theorem ShlR.step {la : List Nat} {i h : Nat} {ws : List Nat} (H : ShlR la i h ws) {x : Nat} (hx : la[i]? = some x) (hx2 : x < 4294967296) : ShlR la (i + 1) (x / 2) (ws ++ [h + x * 2147483648 % 4294967296]) := by
  have h1 := H.hi
  refine ⟨by simp [H.len], by omega, ?_, ?_⟩
  · intro z hz
    rcases List.mem_append.1 hz with hz | hz
    · exact H.words z hz
    · simp at hz; omega
  · rw [valW_snoc, H.len, valW_take_succ hx, Nat.add_mul, ← H.eq, Nat.pow_succ]
    have h5 : 4294967296 ^ i * 4294967296 * (x / 2) = 4294967296 ^ i * (4294967296 * (x / 2)) := by ac_rfl
    have h6 : 4294967296 ^ i * x * 2147483648 = 4294967296 ^ i * (x * 2147483648) := by ac_rfl
    rw [h5, h6, Nat.add_assoc, ← Nat.mul_add, Nat.add_assoc (valW ws), ← Nat.mul_add]
    congr 2
    omega
theorem ShlR.done {la : List Nat} {h : Nat} {ws : List Nat} (H : ShlR la la.length h ws) : valW (ws ++ [h]) = valW la * 2147483648 := by
  have := H.eq
  rw [List.take_length] at this
  rw [valW_snoc, H.len, this]

/-! A shift of 31 to the right. -/
structure ShrR (l : List Nat) (i : Nat) (ws : List Nat) : Prop where
  len : ws.length = i
  words : ∀ y ∈ ws, y < 4294967296
  eq : valW ws = valW l / 2147483648 % 4294967296 ^ i
theorem ShrR.start (l : List Nat) : ShrR l 0 [] := ⟨rfl, by simp, by simp [valW, Nat.mod_one]⟩
theorem ShrR.step {l : List Nat} {i : Nat} {ws : List Nat} (H : ShrR l i ws) (hl : ∀ y ∈ l, y < 4294967296) {x y : Nat} (hx : l[i]? = some x) (hy : l[i + 1]?.getD 0 = y) : ShrR l (i + 1) (ws ++ [(x + y * 4294967296) / 2147483648 % 4294967296]) := by
  have hi := (List.getElem?_eq_some_iff.1 hx).1
  have hx3 : l[i] = x := (List.getElem?_eq_some_iff.1 hx).2
  refine ⟨by simp [H.len], ?_, ?_⟩
  · intro z hz
    rcases List.mem_append.1 hz with hz | hz
    · exact H.words z hz
    · simp at hz; omega
  · rw [valW_snoc, H.len, H.eq, Nat.pow_succ, Nat.mod_mul]
    congr 2
    have h1 : valW l / 2147483648 / 4294967296 ^ i = valW (l.drop i) / 2147483648 := by
      rw [Nat.div_div_eq_div_mul, Nat.mul_comm, ← Nat.div_div_eq_div_mul, valW_drop hl]
    rw [h1, List.drop_eq_getElem_cons hi, hx3]
    have h2 : ∃ z, valW (l.drop (i + 1)) = y + 4294967296 * z := by
      cases hd : l[i + 1]? with
      | none =>
        rw [hd] at hy; simp at hy; subst hy
        rw [List.drop_of_length_le (List.getElem?_eq_none_iff.1 hd)]
        exact ⟨0, by simp [valW]⟩
      | some q =>
        rw [hd] at hy; simp at hy; subst hy
        have hi2 := (List.getElem?_eq_some_iff.1 hd).1
        rw [List.drop_eq_getElem_cons hi2, (List.getElem?_eq_some_iff.1 hd).2]
        exact ⟨_, rfl⟩
    obtain ⟨z, hz⟩ := h2
    simp only [valW]
    rw [hz]
    omega
theorem ShrR.done {l : List Nat} {ws : List Nat} (H : ShrR l l.length ws) (hl : ∀ y ∈ l, y < 4294967296) : valW ws = valW l / 2147483648 := by
  rw [H.eq]
  apply Nat.mod_eq_of_lt
  have := valW_lt hl
  exact Nat.lt_of_le_of_lt (Nat.div_le_self _ _) this
end Go.Proofs.YtpeckpiidgkgoaaGreatDoor
