/- UnqPlain, Kit. -/
import Derived.Test.YtpeckpiidgkgoaaGreatDoorProg
import Derived.WalkKit
import Derived.Lib.Hide
import Derived.Deep.Draws
import Derived.Laws.Rows
/- What Unquote reads. Over no program. -/
namespace Go.Proofs.YtpeckpiidgkgoaaGreatDoor
set_option linter.unusedVariables false
set_option linter.unusedSimpArgs false

def hexD (c : Nat) : Int := if 48 ≤ c ∧ c ≤ 57 then (c : Int) - 48 else if 97 ≤ c ∧ c ≤ 102 then (c : Int) - 87 else -1
theorem hexD_le (c : Nat) : -1 ≤ hexD c ∧ hexD c ≤ 15 := by
  unfold hexD
  split
  · omega
  · split <;> omega
def hexBad (d e : Nat) : Bool := decide (hexD d < 0) || (decide (hexD e < 0) || (decide (32 ≤ hexD d * 16 + hexD e) && decide (hexD d * 16 + hexD e ≤ 126)))
/-- Behind the first quote: what is read, and how many bytes that has. -/
def uq : List Nat → Option (List Nat × Nat)
  | [] => none
  | c :: r =>
    if c = 34 then some ([], 1)
    else if c < 32 ∨ 126 < c then none
    else if c ≠ 92 then (uq r).map (fun p => (c :: p.1, p.2 + 1))
    else match r with
      | [] => none
      | d :: r2 =>
        if d = 34 ∨ d = 92 then (uq r2).map (fun p => (d :: p.1, p.2 + 2))
        else match r2 with
          | [] => none
          | e :: r3 => if hexBad d e = true then none else (uq r3).map (fun p => ((hexD d * 16 + hexD e).toNat :: p.1, p.2 + 3))
def unq : List Nat → Option (List Nat × Nat)
  | [] => none
  | c :: r => if c = 34 then (uq r).map (fun p => (p.1, p.2 + 1)) else none
/-- How far one is. -/
def UqAt (l : List Nat) (i : Nat) (acc : List Nat) : Prop := unq l = (uq (l.drop i)).map (fun p => (acc ++ p.1, i + p.2))
theorem UqAt.start {l : List Nat} (h : l[0]? = some 34) : UqAt l 1 [] := by
  cases l with
  | nil => simp at h
  | cons c r =>
    simp at h
    subst h
    unfold UqAt unq
    simp only [if_true, List.drop_succ_cons, List.drop_zero, List.nil_append]
    cases uq r <;> simp [Nat.add_comm]
theorem drop_at {l : List Nat} {i c : Nat} (h : l[i]? = some c) : l.drop i = c :: l.drop (i + 1) := by
  obtain ⟨hi, e⟩ := List.getElem?_eq_some_iff.1 h
  rw [List.drop_eq_getElem_cons hi, e]
theorem UqAt.none {l : List Nat} {i : Nat} {acc : List Nat} (h : UqAt l i acc) (hi : l.length ≤ i) : unq l = .none := by
  unfold UqAt at h
  rw [h, List.drop_eq_nil_of_le hi]
  rfl
theorem UqAt.quote {l : List Nat} {i : Nat} {acc : List Nat} (h : UqAt l i acc) (hc : l[i]? = some 34) : unq l = some (acc, i + 1) := by
  unfold UqAt at h
  rw [h, drop_at hc, uq.eq_def]
  simp
theorem UqAt.bad {l : List Nat} {i c : Nat} {acc : List Nat} (h : UqAt l i acc) (hc : l[i]? = some c) (h1 : c ≠ 34) (h2 : c < 32 ∨ 126 < c) : unq l = .none := by
  unfold UqAt at h
  rw [h, drop_at hc, uq.eq_def]
  simp only [if_neg h1, if_pos h2]
  rfl
theorem UqAt.plain {l : List Nat} {i c : Nat} {acc : List Nat} (h : UqAt l i acc) (hc : l[i]? = some c) (h1 : c ≠ 34) (h2 : ¬ (c < 32 ∨ 126 < c)) (h3 : c ≠ 92) : UqAt l (i + 1) (acc ++ [c]) := by
  unfold UqAt at *
  rw [h, drop_at hc, uq.eq_def]
  simp only [if_neg h1, if_neg h2, if_pos h3]
  cases uq (l.drop (i + 1)) <;> simp; omega
theorem UqAt.end1 {l : List Nat} {i : Nat} {acc : List Nat} (h : UqAt l i acc) (hc : l[i]? = some 92) (hi : l.length ≤ i + 1) : unq l = .none := by
  unfold UqAt at h
  rw [h, drop_at hc, List.drop_eq_nil_of_le hi, uq.eq_def]
  rfl
theorem UqAt.esc {l : List Nat} {i d : Nat} {acc : List Nat} (h : UqAt l i acc) (hc : l[i]? = some 92) (hd : l[i + 1]? = some d) (h1 : d = 34 ∨ d = 92) : UqAt l (i + 2) (acc ++ [d]) := by
  unfold UqAt at *
  rw [h, drop_at hc, drop_at hd, uq.eq_def]
  simp only [if_neg (show ¬ (92 : Nat) = 34 by decide), if_neg (show ¬ ((92 : Nat) < 32 ∨ 126 < 92) by decide), if_neg (show ¬ (92 : Nat) ≠ 92 by decide), if_pos h1]
  cases uq (l.drop (i + 1 + 1)) <;> simp; omega
theorem UqAt.end2 {l : List Nat} {i d : Nat} {acc : List Nat} (h : UqAt l i acc) (hc : l[i]? = some 92) (hd : l[i + 1]? = some d) (h1 : ¬ (d = 34 ∨ d = 92)) (hi : l.length ≤ i + 2) : unq l = .none := by
  unfold UqAt at h
  rw [h, drop_at hc, drop_at hd, List.drop_eq_nil_of_le hi, uq.eq_def]
  simp only [if_neg (show ¬ (92 : Nat) = 34 by decide), if_neg (show ¬ ((92 : Nat) < 32 ∨ 126 < 92) by decide), if_neg (show ¬ (92 : Nat) ≠ 92 by decide), if_neg h1]
  rfl
theorem UqAt.hexBad {l : List Nat} {i d e : Nat} {acc : List Nat} (h : UqAt l i acc) (hc : l[i]? = some 92) (hd : l[i + 1]? = some d) (he : l[i + 2]? = some e) (h1 : ¬ (d = 34 ∨ d = 92)) (hb : Proofs.YtpeckpiidgkgoaaGreatDoor.hexBad d e = true) : unq l = .none := by
  unfold UqAt at h
  rw [h, drop_at hc, drop_at hd, drop_at he, uq.eq_def]
  simp only [if_neg (show ¬ (92 : Nat) = 34 by decide), if_neg (show ¬ ((92 : Nat) < 32 ∨ 126 < 92) by decide), if_neg (show ¬ (92 : Nat) ≠ 92 by decide), if_neg h1, if_pos hb]
  rfl
theorem UqAt.hex {l : List Nat} {i d e : Nat} {acc : List Nat} (h : UqAt l i acc) (hc : l[i]? = some 92) (hd : l[i + 1]? = some d) (he : l[i + 2]? = some e) (h1 : ¬ (d = 34 ∨ d = 92)) (hb : Proofs.YtpeckpiidgkgoaaGreatDoor.hexBad d e = false) : UqAt l (i + 3) (acc ++ [(hexD d * 16 + hexD e).toNat]) := by
  unfold UqAt at *
  rw [h, drop_at hc, drop_at hd, drop_at he, uq.eq_def]
  simp only [if_neg (show ¬ (92 : Nat) = 34 by decide), if_neg (show ¬ ((92 : Nat) < 32 ∨ 126 < 92) by decide), if_neg (show ¬ (92 : Nat) ≠ 92 by decide), if_neg h1, hb]
  cases uq (l.drop (i + 1 + 1 + 1)) <;> simp; omega
/-- What is read is shorter than what stands there; and it begins and ends in the text. -/
theorem uq_len : ∀ (n : Nat) (l : List Nat), l.length ≤ n → ∀ p, uq l = some p → p.1.length < p.2 ∧ p.2 ≤ l.length
  | 0, l, hl, p, h => by
    have : l = [] := List.length_eq_zero_iff.1 (by omega)
    subst this
    simp [uq] at h
  | n + 1, [], _, p, h => by simp [uq] at h
  | n + 1, c :: r, hl, p, h => by
    unfold uq at h
    split at h
    · simp at h; subst h; simp
    split at h
    · cases h
    split at h
    · obtain ⟨q, hq, rfl⟩ := Option.map_eq_some_iff.1 h
      have := uq_len n r (by simp at hl; omega) q hq
      simp
      omega
    · cases r with
      | nil => simp at h
      | cons d r2 =>
        simp only at h
        split at h
        · obtain ⟨q, hq, rfl⟩ := Option.map_eq_some_iff.1 h
          have := uq_len n r2 (by simp at hl; omega) q hq
          simp
          omega
        · cases r2 with
          | nil => simp at h
          | cons e r3 =>
            simp only at h
            split at h
            · cases h
            · obtain ⟨q, hq, rfl⟩ := Option.map_eq_some_iff.1 h
              have := uq_len n r3 (by simp at hl; omega) q hq
              simp
              omega
theorem unq_len {l : List Nat} {p : List Nat × Nat} (h : unq l = some p) : p.1.length + 2 ≤ p.2 ∧ p.2 ≤ l.length := by
  cases l with
  | nil => simp [unq] at h
  | cons c r =>
    simp only [unq] at h
    split at h
    · obtain ⟨q, hq, rfl⟩ := Option.map_eq_some_iff.1 h
      have := uq_len r.length r (Nat.le_refl _) q hq
      simp
      omega
    · cases h
end Go.Proofs.YtpeckpiidgkgoaaGreatDoor
/- General laws of our own on the walk, over any program: one element appended. -/
namespace Go.Proofs.YtpeckpiidgkgoaaGreatDoor
open Go.RowKit

section
variable {P : Program}

/-- What follows is walked in a world of which this alone is known. -/
theorem wp_at {c : Code} {Q : Exit → Act → World → Prop} {a : Act} {w : World} (F : World → Prop) (hF : F w) (h : ∀ w1, F w1 → Code.wp P c Q a w1) : Code.wp P c Q a w := h w hF

theorem slice_of_owns {w : World} {base : Nat} {e : TypeId} {size : Nat} {v : Value} {n : Nat} {xs : List Value} (h : w.ownsRow base e size v n xs) : ∃ A c, v = .slice A n c := by
  rcases h.2 with ⟨rfl, rfl⟩ | ⟨g, cap, cur, rfl, _⟩
  · exact ⟨_, _, rfl⟩
  · exact ⟨_, _, rfl⟩

theorem ownBlock_ge {w : World} {base : Nat} {e : TypeId} {size : Nat} {v : Value} {n : Nat} {xs : List Value} (h : w.ownsRow base e size v n xs) : ∀ k, v.ownBlock = some k → base ≤ k := fun k hk => (h.lt k hk).1

theorem wpList_push (w0 : World) {ops : Array Oper} {rest : List Oper} {o : Oper} {a : Act} {Q : Exit → Act → World → Prop} (hgd : o.guard = none) (s x : Operand) (t : TypeId)
    (ho : o.op = .call { callee := .builtin .append, args := #[s, x], argTypes := #[t, t] })
    (base : Nat) (e : TypeId) {z : Value} {size bytes : Nat} (ht : P.underlying t = some (.slice e)) (hinfo : (P.info? e).map (fun i => (i.zero, i.size, i.bytes)) = some (some z, size, bytes))
    (hzs : z.cells.size = size) (hsz : 0 < size) (hby : bytes ≤ 128)
    (v : Value) (n : Nat) (xs : List Value) (hs : a.eval s = v) (hown : w0.ownsRow base e size v n xs)
    (cs : Array Value) (hx : a.eval x = .slice (some ⟨w0.heap.size, 0, none⟩) 1 1) (hl : cs.size = size) (h1 : ∀ u ∈ cs.toList, u.oneCell' = true)
    (hn : n ≤ 1000000000000) (hbase : base ≤ w0.heap.size)
    (h : ∀ A c w', w'.ownsRow base e size (.slice A (n + 1) c) (n + 1) (xs ++ cs.toList) → w0.grownBy w' v.ownBlock → wpList P ops Q rest (a.put o.dst (.slice A (n + 1) c)) w') :
    wpList P ops Q (o :: rest) a (w0.alloc (.cells cs e)) := by
  obtain ⟨i, hi, hz, hsize, hbytes⟩ := info_parts hinfo
  refine wpList_append_own _ hgd s x t ho base e i z size bytes ht hi hz hsize hbytes hzs hsz v n xs hs (hown.alloc _) ⟨w0.heap.size, 0, none⟩ 1 1 cs.toList hx (by simpa using hl) ?_ h1 (by simp only [maxLen]; omega) ?_ (by simp; omega) ?_
  · intro j u hu
    have hb : (w0.alloc (.cells cs e)).heap[w0.heap.size]? = some (.cells cs e (0, 0)) := heap_alloc_new w0 _
    have hadd : (⟨w0.heap.size, 0, none⟩ : Addr).add j = ⟨w0.heap.size, j, none⟩ := by unfold Addr.add; split <;> simp_all
    rw [hadd, cell_of_row _ _ j cs e (0, 0) hb]
    simpa using hu
  · have : (n + 1) * bytes ≤ (n + 1) * 128 := Nat.mul_le_mul_left _ hby
    omega
  · intro v' w' hown' hg _
    obtain ⟨A, c, rfl⟩ := slice_of_owns hown'
    refine h A c w' hown' ⟨hg.os, hg.tape, hg.output, ?_, fun k hk hne => ?_⟩
    · have := hg.size; simp at this; omega
    · rw [hg.block k (by simp; omega) hne]; exact Below.heap_alloc w0 _ k hk

end
end Go.Proofs.YtpeckpiidgkgoaaGreatDoor
