/- slices.IndexFunc, ContainsFunc at refs, for the closures of dag: contracts. -/
import Derived.Test.YtdenaejhfgmihaaDagPlain
import Derived.Outline
import Derived.Lib.Hide
namespace Go.Proofs.Ytdenaejhfgmihaa
open Go.RowKit
set_option linter.unusedVariables false
set_option linter.unusedSimpArgs false

def idxOf (p : Int × Int → Bool) (l : List (Int × Int)) : Int := match l.findIdx? p with | some i => i | none => -1
theorem idx_hit {p : Int × Int → Bool} {l : List (Int × Int)} {k : Nat} {r : Int × Int} (h : ∀ x ∈ l.take k, p x = false) (hr : l[k]? = some r) (hp : p r = true) : idxOf p l = k ∧ l.any p = true := by
  obtain ⟨hk, e⟩ := List.getElem?_eq_some_iff.1 hr
  have hf : l.findIdx? p = some k := by
    rw [List.findIdx?_eq_some_iff_getElem]
    refine ⟨hk, by rw [e]; exact hp, fun j hj => ?_⟩
    have := h l[j] (List.mem_take_iff_getElem.2 ⟨j, by omega, rfl⟩)
    simp [this]
  refine ⟨by unfold idxOf; rw [hf], List.any_eq_true.2 ⟨r, List.mem_of_getElem? hr, hp⟩⟩
theorem idx_none {p : Int × Int → Bool} {l : List (Int × Int)} (h : ∀ x ∈ l, p x = false) : idxOf p l = -1 ∧ l.any p = false := by
  have hf : l.findIdx? p = none := by
    rw [List.findIdx?_eq_none_iff]
    exact h
  refine ⟨by unfold idxOf; rw [hf], ?_⟩
  rw [List.any_eq_false]
  intro x hx
  simp [h x hx]
theorem idx_any (p : Int × Int → Bool) (l : List (Int × Int)) : (decide (0 ≤ idxOf p l)) = l.any p := by
  cases h : l.any p with
  | true =>
    obtain ⟨x, hx, hp⟩ := List.any_eq_true.1 h
    have hs : (l.findIdx? p).isSome = true := by rw [List.findIdx?_isSome]; exact h
    obtain ⟨i, hi⟩ := Option.isSome_iff_exists.1 hs
    unfold idxOf
    rw [hi]
    simp
  | false =>
    have h2 : ∀ x ∈ l, p x = false := fun x hx => by
      have := List.any_eq_false.1 h x hx
      simpa using this
    rw [(idx_none h2).1]
    rfl
theorem take_false {p : Int × Int → Bool} {l : List (Int × Int)} {k : Nat} {r : Int × Int} (h : ∀ x ∈ l.take k, p x = false) (hr : l[k]? = some r) (hp : p r = false) : ∀ x ∈ l.take (k + 1), p x = false := by
  intro x hx
  rw [List.take_add_one, hr] at hx
  rcases List.mem_append.1 hx with hx | hx
  · exact h x hx
  · simp at hx; rw [hx]; exact hp

set_option maxRecDepth 100000 in
set_option maxHeartbeats 2000000 in
theorem idx_ready (cap1 : Value) (p : Int × Int → Bool) (l : List (Int × Int)) (A : Option Addr) (c : Nat) (w : World) (hl : l.length ≤ maxLen) (hA : SlAt w A (refs l))
    (hcall : ∀ r ∈ l, ∀ W, Below w.heap.size w W → Calls Try.prog 38 #[.agg #[.int .i64 r.1, .int .i64 r.2], cap1] W fun e w' => e = .returned (.bool (p r)) ∧ Below W.heap.size W w') :
    Calls Try.prog 20 #[.slice A l.length c, (.func (.func 38) #[] #[cap1])] w fun e w' => e = .returned (.int .i64 (idxOf p l)) ∧ Below w.heap.size w w' := by
  have hml : l.length ≤ 9223372036854775807 := Nat.le_trans hl (by decide)
  have HH := Lib.hid (And.intro hA hcall)
  clear hA hcall hl
  go_enter Try.func20, Try.ntmps20
  go_wp2_with fail
  go_loopw [8, 5] (fun iv _ wr => ∃ k : Nat, iv = .int .i64 k ∧ k ≤ l.length ∧ (∀ x ∈ l.take k, p x = false) ∧ Below w.heap.size w wr) (fun iv _ _ => l.length - (intOf iv).toNat)
  case atStart => exact ⟨0, rfl, by omega, by simp, Below.refl _ _⟩
  case round =>
    obtain ⟨k, rfl, hk, ht, hb⟩ := hrel
    by_cases hlt : k < l.length
    · have d0 : decide ((k : Int) < (l.length : Int)) = true := decide_eq_true (by omega)
      obtain ⟨b, off, r, rfl, hr, hx, hy⟩ := (HH.out.1.below hb).ref hlt
      have HC := Lib.hid (HH.out.2 r (List.mem_of_getElem? hr) wr hb)
      have HT := Lib.hid (And.intro ht (And.intro hr hb))
      clear ht hr hb
      cases hp : p r with
      | true =>
        rw [hp] at HC
        have HN := Lib.hid (idx_hit HT.out.1 HT.out.2.1 hp).1
        clear hp
        go_wp2_with fail
        refine HC.out.mono ?_
        rintro e w1 ⟨rfl, hb1⟩
        go_wp2_with fail
        go_ret
        exact ⟨by rw [HN.out]; rfl, HT.out.2.2.trans (hb1.mono HT.out.2.2.size)⟩
      | false =>
        rw [hp] at HC
        have HN := Lib.hid (take_false HT.out.1 HT.out.2.1 hp)
        clear hp
        go_wp2_with fail
        refine HC.out.mono ?_
        rintro e w1 ⟨rfl, hb1⟩
        go_wp2_with fail
        go_roundw
        case rel => exact ⟨k + 1, by go_num, by omega, HN.out, HT.out.2.2.trans (hb1.mono HT.out.2.2.size)⟩
        case measure => simp [intOf] <;> omega
    · obtain rfl : k = l.length := by omega
      have HN := Lib.hid (idx_none (p := p) (l := l) (by rw [List.take_length] at ht; exact ht)).1
      clear ht
      go_wp2_with fail
      go_ret
      exact ⟨by rw [HN.out]; rfl, hb⟩

set_option maxRecDepth 100000 in
set_option maxHeartbeats 2000000 in
theorem any_ready (cap1 : Value) (p : Int × Int → Bool) (l : List (Int × Int)) (A : Option Addr) (c : Nat) (w : World) (hl : l.length ≤ maxLen) (hA : SlAt w A (refs l))
    (hcall : ∀ r ∈ l, ∀ W, Below w.heap.size w W → Calls Try.prog 38 #[.agg #[.int .i64 r.1, .int .i64 r.2], cap1] W fun e w' => e = .returned (.bool (p r)) ∧ Below W.heap.size W w') :
    Calls Try.prog 22 #[.slice A l.length c, (.func (.func 38) #[] #[cap1])] w fun e w' => e = .returned (.bool (l.any p)) ∧ Below w.heap.size w w' := by
  have HCC := Lib.hid (idx_ready cap1 p l A c w hl hA hcall)
  have HN := Lib.hid (idx_any p l)
  obtain ⟨i, hi⟩ : ∃ i, idxOf p l = i := ⟨_, rfl⟩
  rw [hi] at HCC HN
  clear hA hcall hl hi
  go_enter Try.func22, Try.ntmps22
  go_wp2_with fail
  refine HCC.out.mono ?_
  rintro e w1 ⟨rfl, hb⟩
  go_wp2_with fail
  go_ret
  exact ⟨by rw [← HN.out]; rfl, hb⟩

set_option maxRecDepth 100000 in
set_option maxHeartbeats 2000000 in
theorem idx_done (cap1 : Value) (p : Int × Int → Bool) (l : List (Int × Int)) (A : Option Addr) (c : Nat) (w : World) (hl : l.length ≤ maxLen) (hA : SlAt w A (refs l))
    (hcall : ∀ r ∈ l, ∀ W, Below w.heap.size w W → Calls Try.prog 23 #[.agg #[.int .i64 r.1, .int .i64 r.2], cap1] W fun e w' => e = .returned (.bool (p r)) ∧ Below W.heap.size W w') :
    Calls Try.prog 20 #[.slice A l.length c, (.func (.func 23) #[] #[cap1])] w fun e w' => e = .returned (.int .i64 (idxOf p l)) ∧ Below w.heap.size w w' := by
  have hml : l.length ≤ 9223372036854775807 := Nat.le_trans hl (by decide)
  have HH := Lib.hid (And.intro hA hcall)
  clear hA hcall hl
  go_enter Try.func20, Try.ntmps20
  go_wp2_with fail
  go_loopw [8, 5] (fun iv _ wr => ∃ k : Nat, iv = .int .i64 k ∧ k ≤ l.length ∧ (∀ x ∈ l.take k, p x = false) ∧ Below w.heap.size w wr) (fun iv _ _ => l.length - (intOf iv).toNat)
  case atStart => exact ⟨0, rfl, by omega, by simp, Below.refl _ _⟩
  case round =>
    obtain ⟨k, rfl, hk, ht, hb⟩ := hrel
    by_cases hlt : k < l.length
    · have d0 : decide ((k : Int) < (l.length : Int)) = true := decide_eq_true (by omega)
      obtain ⟨b, off, r, rfl, hr, hx, hy⟩ := (HH.out.1.below hb).ref hlt
      have HC := Lib.hid (HH.out.2 r (List.mem_of_getElem? hr) wr hb)
      have HT := Lib.hid (And.intro ht (And.intro hr hb))
      clear ht hr hb
      cases hp : p r with
      | true =>
        rw [hp] at HC
        have HN := Lib.hid (idx_hit HT.out.1 HT.out.2.1 hp).1
        clear hp
        go_wp2_with fail
        refine HC.out.mono ?_
        rintro e w1 ⟨rfl, hb1⟩
        go_wp2_with fail
        go_ret
        exact ⟨by rw [HN.out]; rfl, HT.out.2.2.trans (hb1.mono HT.out.2.2.size)⟩
      | false =>
        rw [hp] at HC
        have HN := Lib.hid (take_false HT.out.1 HT.out.2.1 hp)
        clear hp
        go_wp2_with fail
        refine HC.out.mono ?_
        rintro e w1 ⟨rfl, hb1⟩
        go_wp2_with fail
        go_roundw
        case rel => exact ⟨k + 1, by go_num, by omega, HN.out, HT.out.2.2.trans (hb1.mono HT.out.2.2.size)⟩
        case measure => simp [intOf] <;> omega
    · obtain rfl : k = l.length := by omega
      have HN := Lib.hid (idx_none (p := p) (l := l) (by rw [List.take_length] at ht; exact ht)).1
      clear ht
      go_wp2_with fail
      go_ret
      exact ⟨by rw [HN.out]; rfl, hb⟩

set_option maxRecDepth 100000 in
set_option maxHeartbeats 2000000 in
theorem any_done (cap1 : Value) (p : Int × Int → Bool) (l : List (Int × Int)) (A : Option Addr) (c : Nat) (w : World) (hl : l.length ≤ maxLen) (hA : SlAt w A (refs l))
    (hcall : ∀ r ∈ l, ∀ W, Below w.heap.size w W → Calls Try.prog 23 #[.agg #[.int .i64 r.1, .int .i64 r.2], cap1] W fun e w' => e = .returned (.bool (p r)) ∧ Below W.heap.size W w') :
    Calls Try.prog 22 #[.slice A l.length c, (.func (.func 23) #[] #[cap1])] w fun e w' => e = .returned (.bool (l.any p)) ∧ Below w.heap.size w w' := by
  have HCC := Lib.hid (idx_done cap1 p l A c w hl hA hcall)
  have HN := Lib.hid (idx_any p l)
  obtain ⟨i, hi⟩ : ∃ i, idxOf p l = i := ⟨_, rfl⟩
  rw [hi] at HCC HN
  clear hA hcall hl hi
  go_enter Try.func22, Try.ntmps22
  go_wp2_with fail
  refine HCC.out.mono ?_
  rintro e w1 ⟨rfl, hb⟩
  go_wp2_with fail
  go_ret
  exact ⟨by rw [← HN.out]; rfl, hb⟩

set_option maxRecDepth 100000 in
set_option maxHeartbeats 2000000 in
theorem idx_all (cap1 cap2 : Value) (p : Int × Int → Bool) (l : List (Int × Int)) (A : Option Addr) (c : Nat) (w : World) (hl : l.length ≤ maxLen) (hA : SlAt w A (refs l))
    (hcall : ∀ r ∈ l, ∀ W, Below w.heap.size w W → Calls Try.prog 21 #[.agg #[.int .i64 r.1, .int .i64 r.2], cap1, cap2] W fun e w' => e = .returned (.bool (p r)) ∧ Below W.heap.size W w') :
    Calls Try.prog 20 #[.slice A l.length c, (.func (.func 21) #[] #[cap1, cap2])] w fun e w' => e = .returned (.int .i64 (idxOf p l)) ∧ Below w.heap.size w w' := by
  have hml : l.length ≤ 9223372036854775807 := Nat.le_trans hl (by decide)
  have HH := Lib.hid (And.intro hA hcall)
  clear hA hcall hl
  go_enter Try.func20, Try.ntmps20
  go_wp2_with fail
  go_loopw [8, 5] (fun iv _ wr => ∃ k : Nat, iv = .int .i64 k ∧ k ≤ l.length ∧ (∀ x ∈ l.take k, p x = false) ∧ Below w.heap.size w wr) (fun iv _ _ => l.length - (intOf iv).toNat)
  case atStart => exact ⟨0, rfl, by omega, by simp, Below.refl _ _⟩
  case round =>
    obtain ⟨k, rfl, hk, ht, hb⟩ := hrel
    by_cases hlt : k < l.length
    · have d0 : decide ((k : Int) < (l.length : Int)) = true := decide_eq_true (by omega)
      obtain ⟨b, off, r, rfl, hr, hx, hy⟩ := (HH.out.1.below hb).ref hlt
      have HC := Lib.hid (HH.out.2 r (List.mem_of_getElem? hr) wr hb)
      have HT := Lib.hid (And.intro ht (And.intro hr hb))
      clear ht hr hb
      cases hp : p r with
      | true =>
        rw [hp] at HC
        have HN := Lib.hid (idx_hit HT.out.1 HT.out.2.1 hp).1
        clear hp
        go_wp2_with fail
        refine HC.out.mono ?_
        rintro e w1 ⟨rfl, hb1⟩
        go_wp2_with fail
        go_ret
        exact ⟨by rw [HN.out]; rfl, HT.out.2.2.trans (hb1.mono HT.out.2.2.size)⟩
      | false =>
        rw [hp] at HC
        have HN := Lib.hid (take_false HT.out.1 HT.out.2.1 hp)
        clear hp
        go_wp2_with fail
        refine HC.out.mono ?_
        rintro e w1 ⟨rfl, hb1⟩
        go_wp2_with fail
        go_roundw
        case rel => exact ⟨k + 1, by go_num, by omega, HN.out, HT.out.2.2.trans (hb1.mono HT.out.2.2.size)⟩
        case measure => simp [intOf] <;> omega
    · obtain rfl : k = l.length := by omega
      have HN := Lib.hid (idx_none (p := p) (l := l) (by rw [List.take_length] at ht; exact ht)).1
      clear ht
      go_wp2_with fail
      go_ret
      exact ⟨by rw [HN.out]; rfl, hb⟩

set_option maxRecDepth 100000 in
set_option maxHeartbeats 2000000 in
theorem any_all (cap1 cap2 : Value) (p : Int × Int → Bool) (l : List (Int × Int)) (A : Option Addr) (c : Nat) (w : World) (hl : l.length ≤ maxLen) (hA : SlAt w A (refs l))
    (hcall : ∀ r ∈ l, ∀ W, Below w.heap.size w W → Calls Try.prog 21 #[.agg #[.int .i64 r.1, .int .i64 r.2], cap1, cap2] W fun e w' => e = .returned (.bool (p r)) ∧ Below W.heap.size W w') :
    Calls Try.prog 22 #[.slice A l.length c, (.func (.func 21) #[] #[cap1, cap2])] w fun e w' => e = .returned (.bool (l.any p)) ∧ Below w.heap.size w w' := by
  have HCC := Lib.hid (idx_all cap1 cap2 p l A c w hl hA hcall)
  have HN := Lib.hid (idx_any p l)
  obtain ⟨i, hi⟩ : ∃ i, idxOf p l = i := ⟨_, rfl⟩
  rw [hi] at HCC HN
  clear hA hcall hl hi
  go_enter Try.func22, Try.ntmps22
  go_wp2_with fail
  refine HCC.out.mono ?_
  rintro e w1 ⟨rfl, hb⟩
  go_wp2_with fail
  go_ret
  exact ⟨by rw [← HN.out]; rfl, hb⟩

set_option maxRecDepth 100000 in
set_option maxHeartbeats 2000000 in
theorem idx_heads (cap1 : Value) (p : Int × Int → Bool) (l : List (Int × Int)) (A : Option Addr) (c : Nat) (w : World) (hl : l.length ≤ maxLen) (hA : SlAt w A (refs l))
    (hcall : ∀ r ∈ l, ∀ W, Below w.heap.size w W → Calls Try.prog 27 #[.agg #[.int .i64 r.1, .int .i64 r.2], cap1] W fun e w' => e = .returned (.bool (p r)) ∧ Below W.heap.size W w') :
    Calls Try.prog 20 #[.slice A l.length c, (.func (.func 27) #[] #[cap1])] w fun e w' => e = .returned (.int .i64 (idxOf p l)) ∧ Below w.heap.size w w' := by
  have hml : l.length ≤ 9223372036854775807 := Nat.le_trans hl (by decide)
  have HH := Lib.hid (And.intro hA hcall)
  clear hA hcall hl
  go_enter Try.func20, Try.ntmps20
  go_wp2_with fail
  go_loopw [8, 5] (fun iv _ wr => ∃ k : Nat, iv = .int .i64 k ∧ k ≤ l.length ∧ (∀ x ∈ l.take k, p x = false) ∧ Below w.heap.size w wr) (fun iv _ _ => l.length - (intOf iv).toNat)
  case atStart => exact ⟨0, rfl, by omega, by simp, Below.refl _ _⟩
  case round =>
    obtain ⟨k, rfl, hk, ht, hb⟩ := hrel
    by_cases hlt : k < l.length
    · have d0 : decide ((k : Int) < (l.length : Int)) = true := decide_eq_true (by omega)
      obtain ⟨b, off, r, rfl, hr, hx, hy⟩ := (HH.out.1.below hb).ref hlt
      have HC := Lib.hid (HH.out.2 r (List.mem_of_getElem? hr) wr hb)
      have HT := Lib.hid (And.intro ht (And.intro hr hb))
      clear ht hr hb
      cases hp : p r with
      | true =>
        rw [hp] at HC
        have HN := Lib.hid (idx_hit HT.out.1 HT.out.2.1 hp).1
        clear hp
        go_wp2_with fail
        refine HC.out.mono ?_
        rintro e w1 ⟨rfl, hb1⟩
        go_wp2_with fail
        go_ret
        exact ⟨by rw [HN.out]; rfl, HT.out.2.2.trans (hb1.mono HT.out.2.2.size)⟩
      | false =>
        rw [hp] at HC
        have HN := Lib.hid (take_false HT.out.1 HT.out.2.1 hp)
        clear hp
        go_wp2_with fail
        refine HC.out.mono ?_
        rintro e w1 ⟨rfl, hb1⟩
        go_wp2_with fail
        go_roundw
        case rel => exact ⟨k + 1, by go_num, by omega, HN.out, HT.out.2.2.trans (hb1.mono HT.out.2.2.size)⟩
        case measure => simp [intOf] <;> omega
    · obtain rfl : k = l.length := by omega
      have HN := Lib.hid (idx_none (p := p) (l := l) (by rw [List.take_length] at ht; exact ht)).1
      clear ht
      go_wp2_with fail
      go_ret
      exact ⟨by rw [HN.out]; rfl, hb⟩

set_option maxRecDepth 100000 in
set_option maxHeartbeats 2000000 in
theorem any_heads (cap1 : Value) (p : Int × Int → Bool) (l : List (Int × Int)) (A : Option Addr) (c : Nat) (w : World) (hl : l.length ≤ maxLen) (hA : SlAt w A (refs l))
    (hcall : ∀ r ∈ l, ∀ W, Below w.heap.size w W → Calls Try.prog 27 #[.agg #[.int .i64 r.1, .int .i64 r.2], cap1] W fun e w' => e = .returned (.bool (p r)) ∧ Below W.heap.size W w') :
    Calls Try.prog 22 #[.slice A l.length c, (.func (.func 27) #[] #[cap1])] w fun e w' => e = .returned (.bool (l.any p)) ∧ Below w.heap.size w w' := by
  have HCC := Lib.hid (idx_heads cap1 p l A c w hl hA hcall)
  have HN := Lib.hid (idx_any p l)
  obtain ⟨i, hi⟩ : ∃ i, idxOf p l = i := ⟨_, rfl⟩
  rw [hi] at HCC HN
  clear hA hcall hl hi
  go_enter Try.func22, Try.ntmps22
  go_wp2_with fail
  refine HCC.out.mono ?_
  rintro e w1 ⟨rfl, hb⟩
  go_wp2_with fail
  go_ret
  exact ⟨by rw [← HN.out]; rfl, hb⟩
end Go.Proofs.Ytdenaejhfgmihaa
