/- Mem, Open. -/
import Derived.Test.YtpeckpiidgkgoaaGreatDoorPg1
import Derived.ProofKit
import Derived.Deep.SlicePairs
/- What a slice reads as: cells behind an address; kept over everything that leaves old blocks alone. Over any program. -/
namespace Go.Proofs.YtpeckpiidgkgoaaGreatDoor
open Go.RowKit

/-- The slice at A reads as these cells, one after the other. -/
def SlAt (w : World) (A : Option Addr) (cells : List Value) : Prop :=
  cells = [] ∨ ∃ b off, A = some ⟨b, off, none⟩ ∧ ∀ j u, cells[j]? = some u → w.cell? ⟨b, off + j, none⟩ = some u

theorem cell_lt {w : World} {b o : Nat} {u : Value} (h : w.cell? ⟨b, o, none⟩ = some u) : b < w.heap.size := World.block_lt_of_cell? w ⟨b, o, none⟩ h

theorem cell_below {w w' : World} (hb : Below w.heap.size w w') {b o : Nat} {u : Value} (h : w.cell? ⟨b, o, none⟩ = some u) : w'.cell? ⟨b, o, none⟩ = some u :=
  (hb.cell (p := ⟨b, o, none⟩) (cell_lt h)).trans h

/-- Behind a call that leaves old blocks alone: each old cell, and each old mark, reads as it did (the walk uses both as rules). -/
theorem bcell {W w1 : World} (hb : Below W.heap.size W w1) : (∀ b o, b < W.heap.size → w1.cell? ⟨b, o, none⟩ = W.cell? ⟨b, o, none⟩) ∧ (∀ b o, b < W.heap.size → w1.frozen? ⟨b, o, none⟩ = W.frozen? ⟨b, o, none⟩) :=
  ⟨fun b o h => hb.cell (p := ⟨b, o, none⟩) h, fun b o h => hb.frozen (p := ⟨b, o, none⟩) h⟩

theorem SlAt.nil {w : World} {A : Option Addr} : SlAt w A [] := .inl rfl

theorem SlAt.below {w w' : World} {A : Option Addr} {cells : List Value} (h : SlAt w A cells) (hb : Below w.heap.size w w') : SlAt w' A cells := by
  rcases h with h | ⟨b, off, hA, hc⟩
  · exact .inl h
  · exact .inr ⟨b, off, hA, fun j u hu => cell_below hb (hc j u hu)⟩

theorem SlAt.alloc {w : World} {A : Option Addr} {cells : List Value} (h : SlAt w A cells) (o : Obj) : SlAt (w.alloc o) A cells :=
  h.below ((Below.refl _ _).alloc (Nat.le_refl _) o)
theorem SlAt.drew {w : World} {A : Option Addr} {cells : List Value} (h : SlAt w A cells) : SlAt w.drew A cells := h
theorem SlAt.drewN {w : World} {A : Option Addr} {cells : List Value} (h : SlAt w A cells) (n : Nat) : SlAt (w.drewN n) A cells := h

theorem SlAt.at_ {w : World} {A : Option Addr} {cells : List Value} (h : SlAt w A cells) {j : Nat} {u : Value} (hj : cells[j]? = some u) :
    ∃ b off, A = some ⟨b, off, none⟩ ∧ w.cell? ⟨b, off + j, none⟩ = some u := by
  rcases h with h | ⟨b, off, hA, hc⟩
  · subst h; simp at hj
  · exact ⟨b, off, hA, hc j u hj⟩

theorem SlAt.of_owns {w : World} {base : Nat} {e : TypeId} {size n c : Nat} {A : Option Addr} {xs : List Value} (h : w.ownsRow base e size (.slice A n c) n xs) : SlAt w A xs := by
  by_cases hx : xs = []
  · exact .inl hx
  · rcases h.2 with ⟨hv, rfl⟩ | ⟨g, cap, cur, hv, _⟩
    · exact .inl (List.eq_nil_of_length_eq_zero (by simpa using h.1))
    · injection hv with hA _ _
      subst hA
      refine .inr ⟨g, 0, rfl, fun j u hu => ?_⟩
      have := h.cells (g := g) rfl j u hu
      have hadd : (⟨g, 0, none⟩ : Addr).add j = ⟨g, j, none⟩ := by unfold Addr.add; split <;> simp_all
      rw [hadd] at this
      simpa using this

theorem owns_below {w w' : World} {base : Nat} {e : TypeId} {size n : Nat} {v : Value} {xs : List Value} (h : w.ownsRow base e size v n xs) (hb : Below w.heap.size w w') : w'.ownsRow base e size v n xs :=
  h.kept ⟨hb.os, hb.tape, hb.output, hb.size, fun k hk _ => hb.block k hk⟩ (row := none) (by cases hv : v.ownBlock <;> simp)

/-! Numbers, and pairs of numbers. -/
def ints (l : List Int) : List Value := l.map fun (x : Int) => Value.int .i64 x
def refs (l : List (Int × Int)) : List Value := l.flatMap fun r => [Value.int .i64 r.1, Value.int .i64 r.2]

theorem ints_append (l m : List Int) : ints (l ++ m) = ints l ++ ints m := by simp [ints]
theorem refs_append (l m : List (Int × Int)) : refs (l ++ m) = refs l ++ refs m := by simp [refs]
theorem refs_length (l : List (Int × Int)) : (refs l).length = l.length * 2 := by
  induction l with
  | nil => rfl
  | cons r l ih => simp [refs] at ih ⊢; omega
theorem refs_at (l : List (Int × Int)) : ∀ (k : Nat) (r : Int × Int), l[k]? = some r → (refs l)[k * 2]? = some (.int .i64 r.1) ∧ (refs l)[k * 2 + 1]? = some (.int .i64 r.2) := by
  induction l with
  | nil => intro k r h; simp at h
  | cons x l ih =>
    intro k r h
    cases k with
    | zero => simp at h; subst h; exact ⟨rfl, rfl⟩
    | succ k =>
      have := ih k r (by simpa using h)
      have e : (k + 1) * 2 = k * 2 + 1 + 1 := by omega
      rw [e]
      exact this

theorem SlAt.int {w : World} {A : Option Addr} {l : List Int} (h : SlAt w A (ints l)) {k : Nat} (hk : k < l.length) :
    ∃ b off x, A = some ⟨b, off, none⟩ ∧ l[k]? = some x ∧ w.cell? ⟨b, off + k, none⟩ = some (.int .i64 x) := by
  obtain ⟨b, off, hA, hc⟩ := h.at_ (j := k) (u := .int .i64 l[k]) (by simp [ints, hk])
  exact ⟨b, off, l[k], hA, by simp [hk], hc⟩

theorem SlAt.ref {w : World} {A : Option Addr} {l : List (Int × Int)} (h : SlAt w A (refs l)) {k : Nat} (hk : k < l.length) :
    ∃ b off r, A = some ⟨b, off, none⟩ ∧ l[k]? = some r ∧ w.cell? ⟨b, off + k * 2, none⟩ = some (.int .i64 r.1) ∧ w.cell? ⟨b, off + k * 2 + 1, none⟩ = some (.int .i64 r.2) := by
  obtain ⟨h0, h1⟩ := refs_at l k l[k] (by simp [hk])
  rcases h with h | ⟨b, off, hA, hc⟩
  · rw [h] at h0; simp at h0
  · exact ⟨b, off, l[k], hA, by simp [hk], hc _ _ h0, hc _ _ h1⟩

end Go.Proofs.YtpeckpiidgkgoaaGreatDoor
/- Arguments opened: slices of numbers, of pairs of numbers. Over any program. -/
namespace Go.Proofs.YtpeckpiidgkgoaaGreatDoor
open Go.RowKit Go.ChangeShapes Go.WideShapes Go.Deep
set_option linter.unusedVariables false

def I64 (x : Int) : Prop := -9223372036854775808 ≤ x ∧ x ≤ 9223372036854775807
theorem i64_of_wf {x : Int} (h : (Lit.int .i64 x).wf = true) : I64 x := by
  simp only [Lit.wf, Bool.and_eq_true, decide_eq_true_eq] at h
  exact h

theorem addr_none {w : World} {a : Addr} {u : Value} (h : w.cell? (a.add 0) = some u) : a = ⟨a.block, a.off, none⟩ := by
  obtain ⟨b, off, spot⟩ := a
  have hs := World.cell?_spot h
  have : spot = none := by simpa [Addr.add] using hs
  subst this
  rfl
theorem add_eq {a : Addr} (h : a = ⟨a.block, a.off, none⟩) (k : Nat) : a.add k = ⟨a.block, a.off + k, none⟩ := by
  obtain ⟨b, off, spot⟩ := a
  injection h with _ _ h
  subst h
  unfold Addr.add
  split
  · rename_i hk; subst hk; rfl
  · rfl

section
variable {H : Type} {enc : TypeId × Value → H} {P : Program} {w : World} {base : Nat} {spare : Nat → Bool} {held : Bool}

theorem trod_refs {t e : TypeId} {f0 f1 : Field} {fuel : Nat} {cs : List Value} {x : DataW H × List MemPlace} (ht : P.underlying t = some (.slice e)) (he : P.underlying e = some (.struct #[f0, f1]))
    (ce : P.cellsOf e = 2) (o0 : f0.offset = 0) (o1 : f1.offset = 1) (c0 : P.cellsOf f0.type = 1) (c1 : P.cellsOf f1.type = 1) (t0 : P.underlying f0.type = some (.int .i64)) (t1 : P.underlying f1.type = some (.int .i64))
    (h : DataW.trod enc P w base spare held fuel t cs = some x) :
    ∃ A c l, cs = [.slice A l.length c] ∧ SlAt w A (refs l) ∧ (∀ r ∈ l, I64 r.1 ∧ I64 r.2) ∧ l.length ≤ maxLen := by
  rcases open_slice_pairs ht he ce o0 o1 c0 c1 h with ⟨rfl, _⟩ | ⟨a, len, cap, m, n, V0, V1, D0, D1, P0, P1, rfl, _, hl, hm, hmm, _, hx⟩
  · exact ⟨none, 0, [], rfl, .inl rfl, by simp, by simp⟩
  · have hlm : len ≤ m := by rw [hmm]; split <;> omega
    have each : ∀ i, i < len → ∃ q : Int × Int, w.cell? (a.add (i * 2)) = some (.int .i64 q.1) ∧ w.cell? (a.add (i * 2 + 1)) = some (.int .i64 q.2) ∧ I64 q.1 ∧ I64 q.2 := by
      intro i hi
      obtain ⟨g0, g1, d0, d1⟩ := hx i (by omega)
      obtain ⟨n0, e0, _, w0⟩ := DataW.trod_int t0 d0
      obtain ⟨n1, e1, _, w1⟩ := DataW.trod_int t1 d1
      simp only [List.cons.injEq, and_true] at e0 e1
      exact ⟨(n0, n1), by rw [g0, e0], by rw [g1, e1], i64_of_wf w0, i64_of_wf w1⟩
    obtain ⟨q, hq⟩ := choose_lt each
    have hlen : ((List.range len).map q).length = len := by simp
    refine ⟨some a, cap, (List.range len).map q, by rw [hlen], ?_, ?_, by rw [hlen]; omega⟩
    · by_cases h0 : len = 0
      · subst h0; exact .inl rfl
      · obtain ⟨c0, _⟩ := hq 0 (by omega)
        have ha := addr_none (by simpa using c0)
        refine .inr ⟨a.block, a.off, by rw [← ha], fun j u hu => ?_⟩
        have hj : j < len * 2 := by
          have := (List.getElem?_eq_some_iff.1 hu).1
          rw [refs_length, hlen] at this; exact this
        obtain ⟨g0, g1, _⟩ := hq (j / 2) (by omega)
        have hr := refs_at ((List.range len).map q) (j / 2) (q (j / 2)) (by rw [List.getElem?_map, List.getElem?_range (by omega)]; rfl)
        have hadd := add_eq ha
        rcases Nat.mod_two_eq_zero_or_one j with e | e
        · have ej : j / 2 * 2 = j := by omega
          rw [ej] at g0 hr
          rw [hr.1] at hu
          injection hu with hu
          rw [← hadd, g0, hu]
        · have ej : j / 2 * 2 + 1 = j := by omega
          rw [ej] at g1 hr
          rw [hr.2] at hu
          injection hu with hu
          rw [← hadd, g1, hu]
    · intro r hr
      obtain ⟨i, hi, rfl⟩ := List.mem_map.1 hr
      exact (hq i (by simpa using hi)).2.2
end
end Go.Proofs.YtpeckpiidgkgoaaGreatDoor
