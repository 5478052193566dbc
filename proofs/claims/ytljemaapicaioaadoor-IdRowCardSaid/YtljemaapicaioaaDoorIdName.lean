/- package id: digits, Name, Parse: contracts, at names that Name gives. -/
import Derived.Test.YtljemaapicaioaaDoorIdCmp
import Derived.Test.YtljemaapicaioaaDoorIdPlain
import Derived.Test.YtljemaapicaioaaDoorShelfI
import Derived.Test.YtljemaapicaioaaDoorValue
import Derived.Laws.ResultCell
namespace Go.Proofs.YtljemaapicaioaaDoor
open Go.RowKit
set_option linter.unusedVariables false
set_option linter.unusedSimpArgs false

theorem grow_is_below (w : World) (k : Nat) (os : Array Obj) : Below w.heap.size w (Go.Sort.grow (w.drewN k) os) :=
  ⟨rfl, rfl, rfl, by simp [Go.Sort.grow, World.drewN], fun i hi => by
    show (w.heap ++ os)[i]? = w.heap[i]?
    rw [Array.getElem?_append_left hi]⟩

/-- A text of these digits. -/
structure DigS (s : ByteArray) (u : Nat) : Prop where
  l : s.data.toList = Lib.decDigits u
  one : 1 ≤ u
  top : u ≤ 9999999
theorem DigS.size {s : ByteArray} {u : Nat} (h : DigS s u) : 0 < s.size ∧ s.size ≤ 7 := by
  have h1 := dd_ne u
  have h2 := dd_len 6 u (by have := h.top; omega)
  have h3 : s.size = (Lib.decDigits u).length := by rw [← h.l]; rfl
  have h4 : 0 < (Lib.decDigits u).length := List.length_pos_iff.2 h1
  omega

theorem bytes_below (w : World) (e : TypeId) (t : ByteArray) : Below w.heap.size w (Lib.bytesWorld w e t) :=
  ⟨rfl, rfl, rfl, by rw [Lib.bytesWorld_size]; omega, fun j hj => Lib.bytesWorld_at_old w e t j hj⟩
theorem mk_of {s : ByteArray} {l : List UInt8} (h : s.data.toList = l) : s = ⟨l.toArray⟩ := by rw [← h]

set_option maxRecDepth 100000 in
set_option maxHeartbeats 800000 in
theorem digits_num (s : ByteArray) (u : Nat) (h : DigS s u) (w : World) :
    Calls Tryd.prog 74 #[.string s] w fun e w' => e = .returned (.int .i64 u) ∧ Below w.heap.size w w' := by
  obtain ⟨hs0, hs7⟩ := h.size
  have hl : s.toList = Lib.decDigits u := by rw [ByteArray.toList_eq]; exact h.l
  have hne : ¬ s.toList = [] := by rw [hl]; exact dd_ne u
  have h48 : ¬ ((s[0].toNat : Nat) : Int) = 48 := by
    have hd : Lib.decDigits u = s[0] :: s.data.toList.tail := by
      rw [← h.l]
      have : 0 < s.data.toList.length := hs0
      rw [← List.cons_head_tail (List.ne_nil_of_length_pos this)]
      congr 1
      rw [List.head_eq_getElem]
      rfl
    have := dd_head u h.one _ _ hd
    omega
  have hs7i : ((s.size : Nat) : Int) ≤ 7 := by omega
  have ht : ∀ w, Calls Tryd.prog 101 #[.string s, .string ⟨#[48, 49, 50, 51, 52, 53, 54, 55, 56, 57]⟩] w fun e w' => e = .returned (.string ⟨#[]⟩) ∧ Below w.heap.size w w' := by
    intro w
    refine (Tryd.strings_Trim s ⟨#[48, 49, 50, 51, 52, 53, 54, 55, 56, 57]⟩ w (by omega) (by decide) (Go.Proofs.ascii_of_all (by decide))).mono ?_
    rintro e w' ⟨rfl, hb⟩
    refine ⟨?_, hb⟩
    have := dd_trim u
    unfold tenDigits at this
    rw [h.l, this]
  have ha : ∀ w, Calls Tryd.prog 115 #[.string s] w fun e w' => e = .returned (.tuple #[.int .i64 u, .nilIface]) ∧ Below w.heap.size w w' := by
    intro w
    refine (Tryd.strconv_Atoi s u (by omega) (by rw [h.l]; exact dd_atoi u) w).mono ?_
    rintro e w' ⟨rfl, t, rfl⟩
    exact ⟨rfl, bytes_below _ _ _⟩
  have HT := Lib.hid ht
  have HA := Lib.hid ha
  have hE : s.toList.isEmpty = false := by cases g : s.toList with | nil => exact absurd g hne | cons => rfl
  have h48b : (((s[0].toNat : Nat) : Int) == 48) = false := by simpa using h48
  have h7b : decide ((7 : Int) < ((s.size : Nat) : Int)) = false := by simp; omega
  clear hl ht ha h hs7 hne h48 hs7i
  go_enter Tryd.func74, Tryd.ntmps74
  go_wp2_with fail
  refine (HT.out _).mono ?_
  rintro e w1 ⟨rfl, hb1⟩
  have H1 := Lib.hid hb1
  clear hb1
  go_wp2_with fail
  refine (HA.out _).mono ?_
  rintro e w2 ⟨rfl, hb2⟩
  have H2 := Lib.hid (H1.out.trans (hb2.mono H1.out.size))
  clear hb2
  go_wp2_with fail
  go_ret
  exact ⟨rfl, H2.out⟩

/-- What Name gives of an id that is no root. -/
def NameQ (w : World) (u a : Nat) (e : Ending) (w' : World) : Prop :=
  ∃ nm : ByteArray, e = .returned (.string nm) ∧ nm.data.toList = Lib.decDigits u ++ 64 :: Lib.decDigits a ∧ Below w.heap.size w w'

theorem name_root (w : World) : Calls Tryd.prog 38 #[.agg #[.int .i64 0, .int .i64 0]] w fun e w' => e = .returned (.string ⟨#[114, 111, 111, 116]⟩) ∧ Below w.heap.size w w' := by
  go_enter Tryd.func38, Tryd.ntmps38
  go_wp2_with fail
  go_ret
  exact ⟨rfl, (Below.refl _ _).alloc (Nat.le_refl _) _⟩

/-- The library's table of powers of ten. -/
def Pow10 (w : World) : Prop := Lib.TabIs Tryd.prog w "internal/strconv.uint64pow10" .u64 Lib.pow10Tab

set_option maxRecDepth 100000 in
set_option maxHeartbeats 800000 in
theorem name_any (u a : Nat) (w : World) (hu : 1 ≤ u) (hu7 : u ≤ 9999999) (ha7 : a ≤ 9999999) (hp : ∀ w1, Below w.heap.size w w1 → Pow10 w1) : Calls Tryd.prog 38 #[.agg #[.int .i64 u, .int .i64 a]] w (NameQ w u a) := by
  obtain ⟨su, hsu⟩ : ∃ su, (⟨(Lib.decDigits u).toArray⟩ : ByteArray) = su := ⟨_, rfl⟩
  obtain ⟨sa, hsa⟩ : ∃ sa, (⟨(Lib.decDigits a).toArray⟩ : ByteArray) = sa := ⟨_, rfl⟩
  have hiu : ∀ (w1 : World), Below w.heap.size w w1 → Calls Tryd.prog 72 #[.int .i64 u] w1 fun e w' => e = .returned (.string su) ∧ Below w1.heap.size w1 w' := by
    intro w1 hb
    refine (Tryd.strconv_Itoa u (by omega) (by omega) w1 (hp w1 hb)).mono ?_
    rintro e w' ⟨rfl, k, os, rfl⟩
    exact ⟨by rw [Lib.itoa_nonneg, hsu], grow_is_below _ _ _⟩
  have hia : ∀ (w1 : World), Below w.heap.size w w1 → Calls Tryd.prog 72 #[.int .i64 a] w1 fun e w' => e = .returned (.string sa) ∧ Below w1.heap.size w1 w' := by
    intro w1 hb
    refine (Tryd.strconv_Itoa a (by omega) (by omega) w1 (hp w1 hb)).mono ?_
    rintro e w' ⟨rfl, k, os, rfl⟩
    exact ⟨by rw [Lib.itoa_nonneg, hsa], grow_is_below _ _ _⟩
  have hlu : su.size ≤ 7 := by rw [← hsu]; exact dd_len 6 u (by omega)
  have hla : sa.size ≤ 7 := by rw [← hsa]; exact dd_len 6 a (by omega)
  have m1 : ¬ 9223372036854775807 < su.size + 1 := by omega
  have m2 : ¬ 9223372036854775807 < su.size + 1 + sa.size := by omega
  have HIU := Lib.hid hiu
  have HIA := Lib.hid hia
  have HSS := Lib.hid (And.intro hsu hsa)
  have hne : ¬ (u : Int) = 0 := by omega
  clear hiu hia hp hsu hsa
  go_enter Tryd.func38, Tryd.ntmps38
  go_wp2_with fail
  have hbA : Below w.heap.size w (w.alloc (.cells #[.int .i64 u, .int .i64 a] 41)).drew := ((Below.refl _ _).alloc (Nat.le_refl _) _).drew
  have hA0 : Blk (w.alloc (.cells #[.int .i64 u, .int .i64 a] 41)).drew w.heap.size 41 #[.int .i64 u, .int .i64 a] := Blk.new w _ _
  have HA0 := Lib.hid hA0
  clear hA0
  go_region_held3 (fun w' => w'.cell? ⟨w.heap.size, 0, none⟩ = some (.int .i64 u) ∧ w'.cell? ⟨w.heap.size, 1, none⟩ = some (.int .i64 a)) (first | (with_reducible exact ⟨k0, k1⟩) | (with_reducible exact ⟨q0, q1⟩) | go_keep) (first
    | (go_simp
       go_at_call_of 72 (Value.int .i64 u)
       (with_reducible refine (HIU.out _ hbA).mono ?_)
       rintro e W1 ⟨rfl, hb1⟩
       have hbC : Below w.heap.size w W1 := hbA.trans (hb1.mono hbA.size)
       have hA1 := HA0.out.below hb1 HA0.out.lt
       have k0 : W1.cell? ⟨w.heap.size, 0, none⟩ = some (.int .i64 u) := hA1.cell 0
       have k1 : W1.cell? ⟨w.heap.size, 1, none⟩ = some (.int .i64 a) := hA1.cell 1
       clear hb1)
    | (go_simp
       go_at_call 72
       (with_reducible refine (HIA.out _ hbC).mono ?_)
       rintro e W2 ⟨rfl, hb2⟩
       have hbD : Below w.heap.size w W2 := hbC.trans (hb2.mono hbC.size)
       have hA2 := hA1.below hb2 hA1.lt
       have q0 : W2.cell? ⟨w.heap.size, 0, none⟩ = some (.int .i64 u) := hA2.cell 0
       have q1 : W2.cell? ⟨w.heap.size, 1, none⟩ = some (.int .i64 a) := hA2.cell 1
       clear hb2))
  all_goals
    go_wp2_with fail
    go_ret
    refine ⟨su ++ ⟨#[64]⟩ ++ sa, rfl, ?_, hbD⟩
    rw [← HSS.out.1, ← HSS.out.2]
    simp
end Go.Proofs.YtljemaapicaioaaDoor
