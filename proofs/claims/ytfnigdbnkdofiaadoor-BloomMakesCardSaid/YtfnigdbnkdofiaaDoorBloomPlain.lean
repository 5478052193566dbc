/- What was put into a filter is found there: plain law on bits. -/
import Derived.Test.YtfnigdbnkdofiaaDoorBloomHas
namespace Go.Proofs.YtfnigdbnkdofiaaDoor
open Go.RowKit
set_option linter.unusedVariables false

theorem bit_or : ∀ (y : Fin 256) (k k' : Fin 8), (bits .and .u8 (bits .or .u8 ((y.val : Nat) : Int) ((2 : Int) ^ k.val % 256) / 2 ^ k'.val) 1 == 0) = ((bits .and .u8 (((y.val : Nat) : Int) / 2 ^ k'.val) 1 == 0) && !(k == k')) := by decide +kernel
theorem byte_or : ∀ (y : Fin 256) (k : Fin 8), 0 ≤ bits .or .u8 ((y.val : Nat) : Int) ((2 : Int) ^ k.val % 256) ∧ bits .or .u8 ((y.val : Nat) : Int) ((2 : Int) ^ k.val % 256) ≤ 255 := by decide +kernel

def Bytes8 (b : List Int) : Prop := ∀ x ∈ b, 0 ≤ x ∧ x ≤ 255

theorem bytes_get {b : List Int} (h : Bytes8 b) (i : Nat) : ∃ y : Fin 256, b[i]?.getD 0 = ((y.val : Nat) : Int) := by
  cases e : b[i]? with
  | none => exact ⟨0, rfl⟩
  | some x =>
    obtain ⟨h0, h1⟩ := h x (List.mem_of_getElem? e)
    refine ⟨⟨x.toNat, by omega⟩, ?_⟩
    simp only [Option.getD_some]
    omega
theorem orBit_len (b : List Int) (p : Int) : (orBit b p).length = b.length := by simp [orBit]
theorem orBit_bytes {b : List Int} (h : Bytes8 b) (p : Int) : Bytes8 (orBit b p) := by
  intro x hx
  rcases List.mem_or_eq_of_mem_set hx with hx | hx
  · exact h x hx
  · obtain ⟨y, hy⟩ := bytes_get h (p.toNat / 8)
    rw [hy] at hx
    rw [hx]
    exact byte_or y ⟨p.toNat % 8, by omega⟩
theorem orBit_has {b : List Int} (h : Bytes8 b) (p q : Int) (hp : p.toNat / 8 < b.length) : hasBit (orBit b p) q = (hasBit b q || decide (p.toNat = q.toNat)) := by
  unfold hasBit orBit
  rw [List.getElem?_set]
  by_cases e : p.toNat / 8 = q.toNat / 8
  · rw [if_pos e, if_pos hp, Option.getD_some, ← e]
    obtain ⟨y, hy⟩ := bytes_get h (p.toNat / 8)
    rw [hy]
    have := bit_or y ⟨p.toNat % 8, by omega⟩ ⟨q.toNat % 8, by omega⟩
    simp only at this
    rw [this]
    have e2 : (((⟨p.toNat % 8, by omega⟩ : Fin 8) == ⟨q.toNat % 8, by omega⟩) : Bool) = decide (p.toNat = q.toNat) := by
      rw [Bool.eq_iff_iff]
      simp only [beq_iff_eq, Fin.mk.injEq, decide_eq_true_eq]
      omega
    rw [e2, Bool.not_and, Bool.not_not]
  · rw [if_neg e]
    have : decide (p.toNat = q.toNat) = false := by simp; omega
    rw [this, Bool.or_false]

theorem orBits_all {l : List Int} : ∀ {b : List Int}, Bytes8 b → (∀ p ∈ l, p.toNat / 8 < b.length) →
    Bytes8 (orBits b l) ∧ (orBits b l).length = b.length ∧ ∀ q, hasBit (orBits b l) q = (hasBit b q || l.any fun p => decide (p.toNat = q.toNat)) := by
  induction l with
  | nil => intro b h _; exact ⟨h, rfl, fun q => by simp [orBits]⟩
  | cons p l ih =>
    intro b h hp
    have h1 := orBit_bytes h p
    obtain ⟨g1, g2, g3⟩ := ih h1 (fun x hx => by rw [orBit_len]; exact hp x (List.mem_cons_of_mem _ hx))
    refine ⟨g1, by rw [← orBit_len b p]; exact g2, fun q => ?_⟩
    have e : orBits b (p :: l) = orBits (orBit b p) l := rfl
    rw [e, g3 q, orBit_has h p q (hp p (List.mem_cons_self ..)), List.any_cons, Bool.or_assoc]

theorem place_lt {x n : Int} {m : Nat} (hn : n = 8 * m) (h1 : 8 ≤ n) (h2 : n ≤ 4096) : ∀ p ∈ bplaces x n 3, p.toNat / 8 < m := by
  intro p hp
  obtain ⟨j, _, rfl⟩ := List.mem_map.1 hp
  have := bplace_range x n j h1 h2
  omega

theorem rowBits_has {n : Int} {m : Nat} (hn : n = 8 * m) (h1 : 8 ≤ n) (h2 : n ≤ 4096) (l : List (Int × Int)) : ∀ b : List Int, Bytes8 b → b.length = m →
    Bytes8 (l.foldl (refBits n) b) ∧ (l.foldl (refBits n) b).length = m ∧ (∀ q, hasBit b q = true → hasBit (l.foldl (refBits n) b) q = true) ∧
    ∀ r ∈ l, hasBits (l.foldl (refBits n) b) (bplaces (r.1 * 1000003 + r.2) n 3) = true := by
  induction l with
  | nil => intro b h hl; exact ⟨h, hl, fun _ h => h, fun r hr => by simp at hr⟩
  | cons x l ih =>
    intro b h hl
    obtain ⟨g1, g2, g3⟩ := orBits_all h (l := bplaces (x.1 * 1000003 + x.2) n 3) (fun p hp => by rw [hl]; exact place_lt hn h1 h2 p hp)
    obtain ⟨k1, k2, k3, k4⟩ := ih (refBits n b x) g1 (by rw [← hl]; exact g2)
    refine ⟨k1, k2, fun q hq => k3 q (by show hasBit (orBits b _) q = true; rw [g3, hq]; rfl), fun r hr => ?_⟩
    rcases List.mem_cons.1 hr with rfl | hr
    · simp only [hasBits, List.all_eq_true]
      intro p hp
      refine k3 p ?_
      show hasBit (orBits b _) p = true
      rw [g3]
      have : ((bplaces (r.1 * 1000003 + r.2) n 3).any fun p' => decide (p'.toNat = p.toNat)) = true := by
        rw [List.any_eq_true]; exact ⟨p, hp, by simp⟩
      rw [this, Bool.or_true]
    · exact k4 r hr

theorem make_has {n : Int} (h : manyB n = true) (l : List (Int × Int)) : (makeBits n l).length = (n / 8).toNat ∧ ∀ r ∈ l, hasBits (makeBits n l) (bplaces (r.1 * 1000003 + r.2) n 3) = true := by
  have hn : 8 ≤ n ∧ n ≤ 4096 ∧ n % 8 = 0 := by simp [manyB] at h; omega
  obtain ⟨_, k2, _, k4⟩ := rowBits_has (n := n) (m := (n / 8).toNat) (by omega) hn.1 hn.2.1 l (List.replicate (n / 8).toNat 0) (fun x hx => by have := List.eq_of_mem_replicate hx; omega) (by simp)
  exact ⟨k2, k4⟩
end Go.Proofs.YtfnigdbnkdofiaaDoor
