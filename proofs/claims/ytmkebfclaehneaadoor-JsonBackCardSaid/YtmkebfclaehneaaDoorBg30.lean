/- Paths, Fresh. -/
import Derived.Test.YtmkebfclaehneaaDoorBg28
import Derived.Test.YtmkebfclaehneaaDoorBg6
import Derived.Test.YtmkebfclaehneaaDoorBg29
/- Paths in memory: rows of rows; what stays as it reads. -/
namespace Go.Proofs.YtmkebfclaehneaaDoor
open Go.RowKit
set_option linter.unusedVariables false
set_option linter.unusedSimpArgs false

theorem infoPath : (Tryd.prog.info? 42).map (fun i => (i.zero, i.size, i.bytes)) = some (some (.slice none 0 0), 1, 24) := by kernel_rfl
theorem infoStep' : (Tryd.prog.info? 64).map (fun i => (i.zero, i.size, i.bytes)) = some (some (.agg #[.string ⟨#[]⟩, .int .i64 0]), 2, 24) := by kernel_rfl

theorem run_eql_val (v x : JV) (w : World) : (binOp .eql 25 (.agg #[.int .i64 v.k, .int .i64 v.n, .string v.s, .int .i64 v.o, .int .i64 v.p]) (.agg #[.int .i64 x.k, .int .i64 x.n, .string x.s, .int .i64 x.o, .int .i64 x.p])).run Tryd.prog w = .ok (.bool (v.same x)) w := by
  have hs : (v.s.toList = x.s.toList) ↔ v.s = x.s := ⟨fun h => Go.WideShapes.bytes_inj (by simpa [ByteArray.toList_eq] using h), fun h => by rw [h]⟩
  go_simp
  unfold JV.same
  by_cases h1 : v.k = x.k <;> by_cases h2 : v.n = x.n <;> by_cases h3 : v.s = x.s <;> by_cases h4 : v.o = x.o <;> by_cases h5 : v.p = x.p <;> simp [hs, h1, h2, h3, h4, h5]

/-- The slice at A reads as these cells, in a block that is none of S. -/
def SlN (w : World) (S : Nat → Prop) (A : Option Addr) (cells : List Value) : Prop :=
  cells = [] ∨ ∃ b off, A = some ⟨b, off, none⟩ ∧ ¬ S b ∧ ∀ j u, cells[j]? = some u → w.cell? ⟨b, off + j, none⟩ = some u
theorem SlN.sl {w : World} {S : Nat → Prop} {A : Option Addr} {cells : List Value} (h : SlN w S A cells) : SlAt w A cells := by
  rcases h with h | ⟨b, off, h1, _, h2⟩
  · exact .inl h
  · exact .inr ⟨b, off, h1, h2⟩
theorem SlN.turn {w w' : World} {S T : Nat → Prop} {A : Option Addr} {cells : List Value} (h : SlN w S A cells) (ho : Only S w w') (hT : ∀ b, b < w.heap.size → T b → S b) : SlN w' T A cells := by
  rcases h with h | ⟨b, off, h1, h2, h3⟩
  · exact .inl h
  · by_cases hc : cells = []
    · exact .inl hc
    · obtain ⟨u, hu⟩ : ∃ u, cells[0]? = some u := by
        cases cells with
        | nil => exact absurd rfl hc
        | cons u l => exact ⟨u, rfl⟩
      have hlt := cell_lt (h3 0 u hu)
      refine .inr ⟨b, off, h1, fun g => h2 (hT b hlt g), fun j u hu => ?_⟩
      have hcell : w'.cell? ⟨b, off + j, none⟩ = w.cell? ⟨b, off + j, none⟩ := World.cell?_of_block (ho.block b hlt h2)
      rw [hcell]
      exact h3 j u hu
theorem SlN.below {w w' : World} {S : Nat → Prop} {A : Option Addr} {cells : List Value} (h : SlN w S A cells) (hb : Below w.heap.size w w') : SlN w' S A cells := h.turn (Only.of_below hb) (fun _ _ g => g)
theorem SlN.of_new {w : World} {S : Nat → Prop} {A : Option Addr} {cells : List Value} (h : SlAt w A cells) (hA : ∀ a, A = some a → ¬ S a.block) : SlN w S A cells := by
  rcases h with h | ⟨b, off, h1, h2⟩
  · exact .inl h
  · exact .inr ⟨b, off, h1, hA _ h1, h2⟩

theorem SlN.weak {w : World} {S T : Nat → Prop} {A : Option Addr} {cells : List Value} (h : SlN w S A cells) (hT : ∀ b, T b → S b) : SlN w T A cells := by
  rcases h with h | ⟨b, off, h1, h2, h3⟩
  · exact .inl h
  · exact .inr ⟨b, off, h1, fun g => h2 (hT b g), h3⟩

/-- Each of the paths reads as it should. -/
def PathsIn (w : World) (S : Nat → Prop) (l : List SP) : Prop := ∀ s ∈ l, SlN w S s.A (stCells s.p) ∧ s.p.length ≤ 1000
theorem PathsIn.turn {w w' : World} {S T : Nat → Prop} {l : List SP} (h : PathsIn w S l) (ho : Only S w w') (hT : ∀ b, b < w.heap.size → T b → S b) : PathsIn w' T l :=
  fun s hs => ⟨(h s hs).1.turn ho hT, (h s hs).2⟩
theorem PathsIn.below {w w' : World} {S : Nat → Prop} {l : List SP} (h : PathsIn w S l) (hb : Below w.heap.size w w') : PathsIn w' S l := fun s hs => ⟨(h s hs).1.below hb, (h s hs).2⟩
theorem PathsIn.weak {w : World} {S T : Nat → Prop} {l : List SP} (h : PathsIn w S l) (hT : ∀ b, T b → S b) : PathsIn w T l := fun s hs => ⟨(h s hs).1.weak hT, (h s hs).2⟩
theorem PathsIn.append {w : World} {S : Nat → Prop} {l m : List SP} (h : PathsIn w S l) (k : PathsIn w S m) : PathsIn w S (l ++ m) := fun s hs => by
  rcases List.mem_append.1 hs with g | g
  · exact h s g
  · exact k s g

theorem Only.of_grown {w w' : World} {r : Option Nat} (hg : w.grownBy w' r) : Only (fun k => r = some k) w w' := ⟨hg.os, hg.tape, hg.output, hg.size, fun k hk hn => hg.block k hk (fun e => hn e.symm)⟩

theorem sp_one (l : List SP) : ∀ u ∈ l.map SP.cell, u.oneCell' = true := by
  intro u hu
  obtain ⟨s, _, rfl⟩ := List.mem_map.1 hu
  rfl
theorem st_one (p : List St) : ∀ u ∈ stCells p, u.oneCell' = true := by
  intro u hu
  obtain ⟨s, _, h⟩ := List.mem_flatMap.1 hu
  simp [St.cells] at h
  rcases h with rfl | rfl <;> rfl
theorem stCells_append (a b : List St) : stCells (a ++ b) = stCells a ++ stCells b := by simp [stCells]
theorem stCells_len (l : List St) : (stCells l).length = l.length * 2 := by
  induction l with
  | nil => rfl
  | cons x l ih => simp [stCells, St.cells] at *; omega
theorem ownB (OA : Option Addr) (n c : Nat) : (Value.slice OA n c).ownBlock = (Value.slice OA 0 0).ownBlock := by cases OA <;> rfl
end Go.Proofs.YtmkebfclaehneaaDoor
/- append onto what a slice reads as, where there is no room: a new row. Over any program. -/
namespace Go.Proofs.YtmkebfclaehneaaDoor
open Go.RowKit
set_option linter.unusedVariables false
set_option linter.unusedSimpArgs false
section
variable {P : Program}
theorem run_append_fresh (w : World) (t ty e : TypeId) {z : Value} {size bytes : Nat} (ht : P.underlying t = some (.slice e)) (hinfo : (P.info? e).map (fun i => (i.zero, i.size, i.bytes)) = some (some z, size, bytes)) (hzs : z.cells.size = size) (hsz : 0 < size)
    (A : Option Addr) (n c : Nat) (olds : List Value) (hnone : A = none → n = 0 ∧ c = 0) (hlo : olds.length = n * size) (hA : SlAt w A olds) (g : Nat) (m k : Nat) (news : List Value) (hm : 0 < m) (hl : news.length = m * size) (hB : SlAt w (some ⟨g, 0, none⟩) news) (h1 : ∀ u ∈ news, u.oneCell' = true)
    (hfull : c < n + m) (h63 : n + m ≤ maxLen) (hbytes : (n + m) * bytes ≤ 140737488355328) :
    ∃ A' c' w', (Builtin.append_ #[t, t] ty #[.slice A n c, .slice (some ⟨g, 0, none⟩) m k]).run P w = .ok (.slice A' (n + m) c') w' ∧ SlAt w' A' (olds ++ news) ∧ Below w.heap.size w w' ∧ (∀ a, A' = some a → w.heap.size ≤ a.block) ∧ n + m ≤ c' := by
  obtain ⟨i, hi, hz, hsize, hby⟩ := info_parts hinfo
  have hnews : ∀ j u, news[j]? = some u → w.cell? ((⟨g, 0, none⟩ : Addr).add j) = some u := by
    rcases hB with h | ⟨b, off, h, hc⟩
    · subst h
      intro j u hu
      simp at hu
    · injection h with h
      injection h with h1 h2 _
      subst h1 h2
      intro j u hu
      rw [Addr.add_lit]
      exact hc j u hu
  have fin : ∀ v' w', (Builtin.append_ #[t, t] ty #[.slice A n c, .slice (some ⟨g, 0, none⟩) m k]).run P w = .ok v' w' → w'.ownsRow w.heap.size e size v' (n + m) (olds ++ news) → w.grownBy w' none →
      ∃ A' c' w', (Builtin.append_ #[t, t] ty #[.slice A n c, .slice (some ⟨g, 0, none⟩) m k]).run P w = .ok (.slice A' (n + m) c') w' ∧ SlAt w' A' (olds ++ news) ∧ Below w.heap.size w w' ∧ (∀ a, A' = some a → w.heap.size ≤ a.block) ∧ n + m ≤ c' := by
    intro v' w' hr ho hg
    obtain ⟨A', c', rfl⟩ := slice_of_owns ho
    exact ⟨A', c', w', hr, SlAt.of_owns ho, grown_below hg (Nat.le_refl _) (fun k hk => by cases hk), fun a ha => (ho.lt a.block (by rw [ha]; rfl)).1, by
      rcases ho.2 with ⟨hv, h0⟩ | ⟨g', cap, cur, hv, _, _, hnc, _⟩
      · omega
      · injection hv with _ _ h; omega⟩
  cases A with
  | none =>
    obtain ⟨rfl, rfl⟩ := hnone rfl
    have ho : olds = [] := List.eq_nil_of_length_eq_zero (by simpa using hlo)
    subst ho
    obtain ⟨v', w', hr, h2, h3, h4⟩ := run_append_own (P := P) w w.heap.size t ty e i z size bytes ht hi hz hsize hby hzs hsz (.slice none 0 0) 0 [] (World.ownsRow_nil _ _ _ _) ⟨g, 0, none⟩ m k news hl hnews h1 h63 hbytes (Nat.le_refl _)
    exact fin v' w' hr h2 h3
  | some a =>
    have holds : ∀ j u, olds[j]? = some u → w.cell? (a.add j) = some u := by
      rcases hA with h | ⟨b, off, h, hc⟩
      · subst h
        intro j u hu
        simp at hu
      · injection h with h
        subst h
        intro j u hu
        rw [Addr.add_lit]
        exact hc j u hu
    obtain ⟨v', w', hr, h2, h3⟩ := run_append_arg_grows (P := P) w t ty e i z size bytes ht hi hz hsize hby hzs hsz a n c olds hlo holds ⟨g, 0, none⟩ m k news hl hnews hfull h63 hbytes
    exact fin v' w' hr h2 h3
end
end Go.Proofs.YtmkebfclaehneaaDoor
