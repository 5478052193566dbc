/- append onto what a slice reads as, where there is no room: a new row. Over any program. -/
import Derived.Test.YtljemaapicaioaaDoorAppend
namespace Go.Proofs.YtljemaapicaioaaDoor
open Go.RowKit
set_option linter.unusedVariables false
set_option linter.unusedSimpArgs false
section
variable {P : Program}
theorem run_append_fresh (w : World) (t ty e : TypeId) {z : Value} {size bytes : Nat} (ht : P.underlying t = some (.slice e)) (hinfo : (P.info? e).map (fun i => (i.zero, i.size, i.bytes)) = some (some z, size, bytes)) (hzs : z.cells.size = size) (hsz : 0 < size)
    (A : Option Addr) (n c : Nat) (olds : List Value) (hnone : A = none → n = 0 ∧ c = 0) (hlo : olds.length = n * size) (hA : SlAt w A olds) (g : Nat) (m k : Nat) (news : List Value) (hm : 0 < m) (hl : news.length = m * size) (hB : SlAt w (some ⟨g, 0, none⟩) news) (h1 : ∀ u ∈ news, u.oneCell' = true)
    (hfull : c < n + m) (h63 : n + m ≤ maxLen) (hbytes : (n + m) * bytes ≤ 140737488355328) :
    ∃ A' c' w', (Builtin.append_ #[t, t] ty #[.slice A n c, .slice (some ⟨g, 0, none⟩) m k]).run P w = .ok (.slice A' (n + m) c') w' ∧ SlAt w' A' (olds ++ news) ∧ Below w.heap.size w w' ∧ (∀ a, A' = some a → w.heap.size ≤ a.block) ∧ n + m ≤ c' := by
  obtain ⟨i, hi, hz, hsize, hby⟩ := info_parts hinfo
  have hnews : ∀ j u, news[j]? = some u → w.cell? ((⟨g, 0, none⟩ : Addr).add j) = some u := by
    rcases hB with h | ⟨b, off, h, hc⟩
    · subst h
      intro j u hu
      simp at hu
    · injection h with h
      injection h with h1 h2 _
      subst h1 h2
      intro j u hu
      rw [Addr.add_lit]
      exact hc j u hu
  have fin : ∀ v' w', (Builtin.append_ #[t, t] ty #[.slice A n c, .slice (some ⟨g, 0, none⟩) m k]).run P w = .ok v' w' → w'.ownsRow w.heap.size e size v' (n + m) (olds ++ news) → w.grownBy w' none →
      ∃ A' c' w', (Builtin.append_ #[t, t] ty #[.slice A n c, .slice (some ⟨g, 0, none⟩) m k]).run P w = .ok (.slice A' (n + m) c') w' ∧ SlAt w' A' (olds ++ news) ∧ Below w.heap.size w w' ∧ (∀ a, A' = some a → w.heap.size ≤ a.block) ∧ n + m ≤ c' := by
    intro v' w' hr ho hg
    obtain ⟨A', c', rfl⟩ := slice_of_owns ho
    exact ⟨A', c', w', hr, SlAt.of_owns ho, grown_below hg (Nat.le_refl _) (fun k hk => by cases hk), fun a ha => (ho.lt a.block (by rw [ha]; rfl)).1, by
      rcases ho.2 with ⟨hv, h0⟩ | ⟨g', cap, cur, hv, _, _, hnc, _⟩
      · omega
      · injection hv with _ _ h; omega⟩
  cases A with
  | none =>
    obtain ⟨rfl, rfl⟩ := hnone rfl
    have ho : olds = [] := List.eq_nil_of_length_eq_zero (by simpa using hlo)
    subst ho
    obtain ⟨v', w', hr, h2, h3, h4⟩ := run_append_own (P := P) w w.heap.size t ty e i z size bytes ht hi hz hsize hby hzs hsz (.slice none 0 0) 0 [] (World.ownsRow_nil _ _ _ _) ⟨g, 0, none⟩ m k news hl hnews h1 h63 hbytes (Nat.le_refl _)
    exact fin v' w' hr h2 h3
  | some a =>
    have holds : ∀ j u, olds[j]? = some u → w.cell? (a.add j) = some u := by
      rcases hA with h | ⟨b, off, h, hc⟩
      · subst h
        intro j u hu
        simp at hu
      · injection h with h
        subst h
        intro j u hu
        rw [Addr.add_lit]
        exact hc j u hu
    obtain ⟨v', w', hr, h2, h3⟩ := run_append_arg_grows (P := P) w t ty e i z size bytes ht hi hz hsize hby hzs hsz a n c olds hlo holds ⟨g, 0, none⟩ m k news hl hnews hfull h63 hbytes
    exact fin v' w' hr h2 h3
end
end Go.Proofs.YtljemaapicaioaaDoor
