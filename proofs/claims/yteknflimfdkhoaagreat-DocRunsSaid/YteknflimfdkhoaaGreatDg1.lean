/- General laws of our own on the walk, over any program: one element appended. What a slice reads as: cells behind an address; kept over everything that leaves old blocks alone. Over any program. -/
import Derived.WalkKit
import Derived.Lib.Hide
import Derived.Deep.Draws
import Derived.Laws.Rows
namespace Go.Proofs.YteknflimfdkhoaaGreat
open Go.RowKit

section
variable {P : Program}

/-- What follows is walked in a world of which this alone is known. -/
theorem wp_at {c : Code} {Q : Exit → Act → World → Prop} {a : Act} {w : World} (F : World → Prop) (hF : F w) (h : ∀ w1, F w1 → Code.wp P c Q a w1) : Code.wp P c Q a w := h w hF

theorem slice_of_owns {w : World} {base : Nat} {e : TypeId} {size : Nat} {v : Value} {n : Nat} {xs : List Value} (h : w.ownsRow base e size v n xs) : ∃ A c, v = .slice A n c := by
  rcases h.2 with ⟨rfl, rfl⟩ | ⟨g, cap, cur, rfl, _⟩
  · exact ⟨_, _, rfl⟩
  · exact ⟨_, _, rfl⟩

theorem ownBlock_ge {w : World} {base : Nat} {e : TypeId} {size : Nat} {v : Value} {n : Nat} {xs : List Value} (h : w.ownsRow base e size v n xs) : ∀ k, v.ownBlock = some k → base ≤ k := fun k hk => (h.lt k hk).1

theorem wpList_push (w0 : World) {ops : Array Oper} {rest : List Oper} {o : Oper} {a : Act} {Q : Exit → Act → World → Prop} (hgd : o.guard = none) (s x : Operand) (t : TypeId)
    (ho : o.op = .call { callee := .builtin .append, args := #[s, x], argTypes := #[t, t] })
    (base : Nat) (e : TypeId) {z : Value} {size bytes : Nat} (ht : P.underlying t = some (.slice e)) (hinfo : (P.info? e).map (fun i => (i.zero, i.size, i.bytes)) = some (some z, size, bytes))
    (hzs : z.cells.size = size) (hsz : 0 < size) (hby : bytes ≤ 128)
    (v : Value) (n : Nat) (xs : List Value) (hs : a.eval s = v) (hown : w0.ownsRow base e size v n xs)
    (cs : Array Value) (hx : a.eval x = .slice (some ⟨w0.heap.size, 0, none⟩) 1 1) (hl : cs.size = size) (h1 : ∀ u ∈ cs.toList, u.oneCell' = true)
    (hn : n ≤ 1000000000000) (hbase : base ≤ w0.heap.size)
    (h : ∀ A c w', w'.ownsRow base e size (.slice A (n + 1) c) (n + 1) (xs ++ cs.toList) → w0.grownBy w' v.ownBlock → wpList P ops Q rest (a.put o.dst (.slice A (n + 1) c)) w') :
    wpList P ops Q (o :: rest) a (w0.alloc (.cells cs e)) := by
  obtain ⟨i, hi, hz, hsize, hbytes⟩ := info_parts hinfo
  refine wpList_append_own _ hgd s x t ho base e i z size bytes ht hi hz hsize hbytes hzs hsz v n xs hs (hown.alloc _) ⟨w0.heap.size, 0, none⟩ 1 1 cs.toList hx (by simpa using hl) ?_ h1 (by simp only [maxLen]; omega) ?_ (by simp; omega) ?_
  · intro j u hu
    have hb : (w0.alloc (.cells cs e)).heap[w0.heap.size]? = some (.cells cs e (0, 0)) := heap_alloc_new w0 _
    have hadd : (⟨w0.heap.size, 0, none⟩ : Addr).add j = ⟨w0.heap.size, j, none⟩ := by unfold Addr.add; split <;> simp_all
    rw [hadd, cell_of_row _ _ j cs e (0, 0) hb]
    simpa using hu
  · have : (n + 1) * bytes ≤ (n + 1) * 128 := Nat.mul_le_mul_left _ hby
    omega
  · intro v' w' hown' hg _
    obtain ⟨A, c, rfl⟩ := slice_of_owns hown'
    refine h A c w' hown' ⟨hg.os, hg.tape, hg.output, ?_, fun k hk hne => ?_⟩
    · have := hg.size; simp at this; omega
    · rw [hg.block k (by simp; omega) hne]; exact Below.heap_alloc w0 _ k hk

end
end Go.Proofs.YteknflimfdkhoaaGreat
namespace Go.Proofs.YteknflimfdkhoaaGreat
open Go.RowKit

/-- The slice at A reads as these cells, one after the other. -/
def SlAt (w : World) (A : Option Addr) (cells : List Value) : Prop :=
  cells = [] ∨ ∃ b off, A = some ⟨b, off, none⟩ ∧ ∀ j u, cells[j]? = some u → w.cell? ⟨b, off + j, none⟩ = some u

theorem cell_lt {w : World} {b o : Nat} {u : Value} (h : w.cell? ⟨b, o, none⟩ = some u) : b < w.heap.size := World.block_lt_of_cell? w ⟨b, o, none⟩ h

theorem cell_below {w w' : World} (hb : Below w.heap.size w w') {b o : Nat} {u : Value} (h : w.cell? ⟨b, o, none⟩ = some u) : w'.cell? ⟨b, o, none⟩ = some u :=
  (hb.cell (p := ⟨b, o, none⟩) (cell_lt h)).trans h

/-- Behind a call that leaves old blocks alone: each old cell, and each old mark, reads as it did (the walk uses both as rules). -/
theorem bcell {W w1 : World} (hb : Below W.heap.size W w1) : (∀ b o, b < W.heap.size → w1.cell? ⟨b, o, none⟩ = W.cell? ⟨b, o, none⟩) ∧ (∀ b o, b < W.heap.size → w1.frozen? ⟨b, o, none⟩ = W.frozen? ⟨b, o, none⟩) :=
  ⟨fun b o h => hb.cell (p := ⟨b, o, none⟩) h, fun b o h => hb.frozen (p := ⟨b, o, none⟩) h⟩

theorem SlAt.nil {w : World} {A : Option Addr} : SlAt w A [] := .inl rfl

theorem SlAt.below {w w' : World} {A : Option Addr} {cells : List Value} (h : SlAt w A cells) (hb : Below w.heap.size w w') : SlAt w' A cells := by
  rcases h with h | ⟨b, off, hA, hc⟩
  · exact .inl h
  · exact .inr ⟨b, off, hA, fun j u hu => cell_below hb (hc j u hu)⟩

theorem SlAt.alloc {w : World} {A : Option Addr} {cells : List Value} (h : SlAt w A cells) (o : Obj) : SlAt (w.alloc o) A cells :=
  h.below ((Below.refl _ _).alloc (Nat.le_refl _) o)
theorem SlAt.drew {w : World} {A : Option Addr} {cells : List Value} (h : SlAt w A cells) : SlAt w.drew A cells := h
theorem SlAt.drewN {w : World} {A : Option Addr} {cells : List Value} (h : SlAt w A cells) (n : Nat) : SlAt (w.drewN n) A cells := h

theorem SlAt.at_ {w : World} {A : Option Addr} {cells : List Value} (h : SlAt w A cells) {j : Nat} {u : Value} (hj : cells[j]? = some u) :
    ∃ b off, A = some ⟨b, off, none⟩ ∧ w.cell? ⟨b, off + j, none⟩ = some u := by
  rcases h with h | ⟨b, off, hA, hc⟩
  · subst h; simp at hj
  · exact ⟨b, off, hA, hc j u hj⟩

theorem SlAt.of_owns {w : World} {base : Nat} {e : TypeId} {size n c : Nat} {A : Option Addr} {xs : List Value} (h : w.ownsRow base e size (.slice A n c) n xs) : SlAt w A xs := by
  by_cases hx : xs = []
  · exact .inl hx
  · rcases h.2 with ⟨hv, rfl⟩ | ⟨g, cap, cur, hv, _⟩
    · exact .inl (List.eq_nil_of_length_eq_zero (by simpa using h.1))
    · injection hv with hA _ _
      subst hA
      refine .inr ⟨g, 0, rfl, fun j u hu => ?_⟩
      have := h.cells (g := g) rfl j u hu
      have hadd : (⟨g, 0, none⟩ : Addr).add j = ⟨g, j, none⟩ := by unfold Addr.add; split <;> simp_all
      rw [hadd] at this
      simpa using this

theorem owns_below {w w' : World} {base : Nat} {e : TypeId} {size n : Nat} {v : Value} {xs : List Value} (h : w.ownsRow base e size v n xs) (hb : Below w.heap.size w w') : w'.ownsRow base e size v n xs :=
  h.kept ⟨hb.os, hb.tape, hb.output, hb.size, fun k hk _ => hb.block k hk⟩ (row := none) (by cases hv : v.ownBlock <;> simp)

/-! Numbers, and pairs of numbers. -/
def ints (l : List Int) : List Value := l.map fun (x : Int) => Value.int .i64 x
def refs (l : List (Int × Int)) : List Value := l.flatMap fun r => [Value.int .i64 r.1, Value.int .i64 r.2]

theorem ints_append (l m : List Int) : ints (l ++ m) = ints l ++ ints m := by simp [ints]
theorem refs_append (l m : List (Int × Int)) : refs (l ++ m) = refs l ++ refs m := by simp [refs]
theorem refs_length (l : List (Int × Int)) : (refs l).length = l.length * 2 := by
  induction l with
  | nil => rfl
  | cons r l ih => simp [refs] at ih ⊢; omega
theorem refs_at (l : List (Int × Int)) : ∀ (k : Nat) (r : Int × Int), l[k]? = some r → (refs l)[k * 2]? = some (.int .i64 r.1) ∧ (refs l)[k * 2 + 1]? = some (.int .i64 r.2) := by
  induction l with
  | nil => intro k r h; simp at h
  | cons x l ih =>
    intro k r h
    cases k with
    | zero => simp at h; subst h; exact ⟨rfl, rfl⟩
    | succ k =>
      have := ih k r (by simpa using h)
      have e : (k + 1) * 2 = k * 2 + 1 + 1 := by omega
      rw [e]
      exact this

theorem SlAt.int {w : World} {A : Option Addr} {l : List Int} (h : SlAt w A (ints l)) {k : Nat} (hk : k < l.length) :
    ∃ b off x, A = some ⟨b, off, none⟩ ∧ l[k]? = some x ∧ w.cell? ⟨b, off + k, none⟩ = some (.int .i64 x) := by
  obtain ⟨b, off, hA, hc⟩ := h.at_ (j := k) (u := .int .i64 l[k]) (by simp [ints, hk])
  exact ⟨b, off, l[k], hA, by simp [hk], hc⟩

theorem SlAt.ref {w : World} {A : Option Addr} {l : List (Int × Int)} (h : SlAt w A (refs l)) {k : Nat} (hk : k < l.length) :
    ∃ b off r, A = some ⟨b, off, none⟩ ∧ l[k]? = some r ∧ w.cell? ⟨b, off + k * 2, none⟩ = some (.int .i64 r.1) ∧ w.cell? ⟨b, off + k * 2 + 1, none⟩ = some (.int .i64 r.2) := by
  obtain ⟨h0, h1⟩ := refs_at l k l[k] (by simp [hk])
  rcases h with h | ⟨b, off, hA, hc⟩
  · rw [h] at h0; simp at h0
  · exact ⟨b, off, l[k], hA, by simp [hk], hc _ _ h0, hc _ _ h1⟩

end Go.Proofs.YteknflimfdkhoaaGreat
