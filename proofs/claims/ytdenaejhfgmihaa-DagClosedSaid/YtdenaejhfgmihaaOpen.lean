/- Arguments opened: slices of numbers, of pairs of numbers. Over any program. -/
import Derived.Test.YtdenaejhfgmihaaMem
import Derived.ProofKit
import Derived.Deep.SlicePairs
namespace Go.Proofs.Ytdenaejhfgmihaa
open Go.RowKit Go.ChangeShapes Go.WideShapes Go.Deep
set_option linter.unusedVariables false

def I64 (x : Int) : Prop := -9223372036854775808 ≤ x ∧ x ≤ 9223372036854775807
theorem i64_of_wf {x : Int} (h : (Lit.int .i64 x).wf = true) : I64 x := by
  simp only [Lit.wf, Bool.and_eq_true, decide_eq_true_eq] at h
  exact h

theorem addr_none {w : World} {a : Addr} {u : Value} (h : w.cell? (a.add 0) = some u) : a = ⟨a.block, a.off, none⟩ := by
  obtain ⟨b, off, spot⟩ := a
  have hs := World.cell?_spot h
  have : spot = none := by simpa [Addr.add] using hs
  subst this
  rfl
theorem add_eq {a : Addr} (h : a = ⟨a.block, a.off, none⟩) (k : Nat) : a.add k = ⟨a.block, a.off + k, none⟩ := by
  obtain ⟨b, off, spot⟩ := a
  injection h with _ _ h
  subst h
  unfold Addr.add
  split
  · rename_i hk; subst hk; rfl
  · rfl

section
variable {H : Type} {enc : TypeId × Value → H} {P : Program} {w : World} {base : Nat} {spare : Nat → Bool} {held : Bool}

theorem trod_refs {t e : TypeId} {f0 f1 : Field} {fuel : Nat} {cs : List Value} {x : DataW H × List MemPlace} (ht : P.underlying t = some (.slice e)) (he : P.underlying e = some (.struct #[f0, f1]))
    (ce : P.cellsOf e = 2) (o0 : f0.offset = 0) (o1 : f1.offset = 1) (c0 : P.cellsOf f0.type = 1) (c1 : P.cellsOf f1.type = 1) (t0 : P.underlying f0.type = some (.int .i64)) (t1 : P.underlying f1.type = some (.int .i64))
    (h : DataW.trod enc P w base spare held fuel t cs = some x) :
    ∃ A c l, cs = [.slice A l.length c] ∧ SlAt w A (refs l) ∧ (∀ r ∈ l, I64 r.1 ∧ I64 r.2) ∧ l.length ≤ maxLen := by
  rcases open_slice_pairs ht he ce o0 o1 c0 c1 h with ⟨rfl, _⟩ | ⟨a, len, cap, m, n, V0, V1, D0, D1, P0, P1, rfl, _, hl, hm, hmm, _, hx⟩
  · exact ⟨none, 0, [], rfl, .inl rfl, by simp, by simp⟩
  · have hlm : len ≤ m := by rw [hmm]; split <;> omega
    have each : ∀ i, i < len → ∃ q : Int × Int, w.cell? (a.add (i * 2)) = some (.int .i64 q.1) ∧ w.cell? (a.add (i * 2 + 1)) = some (.int .i64 q.2) ∧ I64 q.1 ∧ I64 q.2 := by
      intro i hi
      obtain ⟨g0, g1, d0, d1⟩ := hx i (by omega)
      obtain ⟨n0, e0, _, w0⟩ := DataW.trod_int t0 d0
      obtain ⟨n1, e1, _, w1⟩ := DataW.trod_int t1 d1
      simp only [List.cons.injEq, and_true] at e0 e1
      exact ⟨(n0, n1), by rw [g0, e0], by rw [g1, e1], i64_of_wf w0, i64_of_wf w1⟩
    obtain ⟨q, hq⟩ := choose_lt each
    have hlen : ((List.range len).map q).length = len := by simp
    refine ⟨some a, cap, (List.range len).map q, by rw [hlen], ?_, ?_, by rw [hlen]; omega⟩
    · by_cases h0 : len = 0
      · subst h0; exact .inl rfl
      · obtain ⟨c0, _⟩ := hq 0 (by omega)
        have ha := addr_none (by simpa using c0)
        refine .inr ⟨a.block, a.off, by rw [← ha], fun j u hu => ?_⟩
        have hj : j < len * 2 := by
          have := (List.getElem?_eq_some_iff.1 hu).1
          rw [refs_length, hlen] at this; exact this
        obtain ⟨g0, g1, _⟩ := hq (j / 2) (by omega)
        have hr := refs_at ((List.range len).map q) (j / 2) (q (j / 2)) (by rw [List.getElem?_map, List.getElem?_range (by omega)]; rfl)
        have hadd := add_eq ha
        rcases Nat.mod_two_eq_zero_or_one j with e | e
        · have ej : j / 2 * 2 = j := by omega
          rw [ej] at g0 hr
          rw [hr.1] at hu
          injection hu with hu
          rw [← hadd, g0, hu]
        · have ej : j / 2 * 2 + 1 = j := by omega
          rw [ej] at g1 hr
          rw [hr.2] at hu
          injection hu with hu
          rw [← hadd, g1, hu]
    · intro r hr
      obtain ⟨i, hi, rfl⟩ := List.mem_map.1 hr
      exact (hq i (by simpa using hi)).2.2
end
end Go.Proofs.Ytdenaejhfgmihaa
