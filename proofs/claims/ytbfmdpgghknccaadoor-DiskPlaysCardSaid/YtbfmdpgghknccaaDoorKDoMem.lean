/- bookref3.Do: names: kinds 4, 5, 6. -/
import Derived.Test.YtbfmdpgghknccaaDoorKDo
import Derived.Deep.RegionHeld3
namespace Go.Proofs.YtbfmdpgghknccaaDoor
open Go.RowKit Go.Maps
set_option linter.unusedVariables false
set_option linter.unusedSimpArgs false

/-- What Do leaves. -/
def KDoQ (w : World) (k : Nat) (fm : List FM) (FA : Option Addr) (fm' : List FM → Prop) (names safe : Nms) (steps stop : Int) (e : Ending) (w' : World) : Prop :=
  e = .returned (.int .i64 0) ∧ ∃ fmn FA' Fc NA Nc SA Sc, KAt w' k fmn names safe steps stop FA' Fc NA Nc SA Sc ∧ fm' fmn ∧ (∀ f ∈ fmn, ∀ a, f.A = some a → (∃ g ∈ fm, g.A = some a) ∨ w.heap.size ≤ a.block) ∧ (FA' = FA ∨ ∃ a, FA' = some a ∧ w.heap.size ≤ a.block) ∧ Only (fun q => q = k ∨ ∃ a, FA = some a ∧ q = a.block) w w'
theorem KAt.steps_ {w : World} {k : Nat} {fm : List FM} {names safe : Nms} {steps stop : Int} {FA : Option Addr} {Fc : Nat} {NA : Option Addr} {Nc : Nat} {SA : Option Addr} {Sc : Nat} (h : KAt w k fm names safe steps stop FA Fc NA Nc SA Sc) (v : Int) : KAt (w.setCell ⟨k, 3, none⟩ (.int .i64 v)) k fm names safe v stop FA Fc NA Nc SA Sc := by
  have ho : Only (fun q => q = k) w (w.setCell ⟨k, 3, none⟩ (.int .i64 v)) := (Only.refl (fun q => q = k) w).setCell (p := ⟨k, 3, none⟩) rfl _
  refine ⟨by have := h.blk.set_ 3 (.int .i64 v); simpa using this, row_only h.fl ho (row_ne_blk h.fl h.blk (by decide)), fun f hf => row_only (h.fb f hf) ho (row_ne_blk (h.fb f hf) h.blk (by decide)), row_only h.nm ho (row_ne_blk h.nm h.blk (by decide)), row_only h.sf ho (row_ne_blk h.sf h.blk (by decide))⟩
/-- Other names. -/
theorem KAt.names_ {w : World} {k : Nat} {fm : List FM} {names safe : Nms} {steps stop : Int} {FA : Option Addr} {Fc : Nat} {NA : Option Addr} {Nc : Nat} {SA : Option Addr} {Sc : Nat} (h : KAt w k fm names safe steps stop FA Fc NA Nc SA Sc) (l : Nms) (A : Option Addr) (c : Nat) (hl : w.ownsRow 0 89 2 (.slice A l.length c) l.length (ncells l)) : KAt (w.setCell ⟨k, 1, none⟩ (.slice A l.length c)) k fm l safe steps stop FA Fc A c SA Sc := by
  have ho : Only (fun q => q = k) w (w.setCell ⟨k, 1, none⟩ (.slice A l.length c)) := (Only.refl (fun q => q = k) w).setCell (p := ⟨k, 1, none⟩) rfl _
  refine ⟨by have := h.blk.set_ 1 (.slice A l.length c); simpa using this, row_only h.fl ho (row_ne_blk h.fl h.blk (by decide)), fun f hf => row_only (h.fb f hf) ho (row_ne_blk (h.fb f hf) h.blk (by decide)), row_only hl ho (row_ne_blk hl h.blk (by decide)), row_only h.sf ho (row_ne_blk h.sf h.blk (by decide))⟩
theorem KAt.safe_ {w : World} {k : Nat} {fm : List FM} {names safe : Nms} {steps stop : Int} {FA : Option Addr} {Fc : Nat} {NA : Option Addr} {Nc : Nat} {SA : Option Addr} {Sc : Nat} (h : KAt w k fm names safe steps stop FA Fc NA Nc SA Sc) (l : Nms) (A : Option Addr) (c : Nat) (hl : w.ownsRow 0 89 2 (.slice A l.length c) l.length (ncells l)) : KAt (w.setCell ⟨k, 2, none⟩ (.slice A l.length c)) k fm names l steps stop FA Fc NA Nc A c := by
  have ho : Only (fun q => q = k) w (w.setCell ⟨k, 2, none⟩ (.slice A l.length c)) := (Only.refl (fun q => q = k) w).setCell (p := ⟨k, 2, none⟩) rfl _
  refine ⟨by have := h.blk.set_ 2 (.slice A l.length c); simpa using this, row_only h.fl ho (row_ne_blk h.fl h.blk (by decide)), fun f hf => row_only (h.fb f hf) ho (row_ne_blk (h.fb f hf) h.blk (by decide)), row_only h.nm ho (row_ne_blk h.nm h.blk (by decide)), row_only hl ho (row_ne_blk hl h.blk (by decide))⟩
theorem calls_at {P : Program} {f : FuncId} {args : Array Value} {Q : Ending → World → Prop} {w : World} (F : World → Prop) (hF : F w) (h : ∀ w1, F w1 → Calls P f args w1 Q) : Calls P f args w Q := h w hF
theorem row_zero {w : World} {base : Nat} {e : TypeId} {size n : Nat} {v : Value} {xs : List Value} (h : w.ownsRow base e size v n xs) : w.ownsRow 0 e size v n xs := by
  refine ⟨h.1, h.2.imp id ?_⟩
  rintro ⟨g, cap, cur, h1, h2, h3⟩
  exact ⟨g, cap, cur, h1, Nat.zero_le _, h3⟩
theorem infoF : (Tryd.prog.info? 97).map (fun i => (i.zero, i.size, i.bytes)) = some (some (.agg #[.slice none 0 0, .int .i64 0]), 2, 32) := by kernel_rfl
theorem fcells_set1 : ∀ (l : List FM) (i : Nat) (f : FM) (v : Nat), l[i]? = some f → (fcells l).set (i * 2 + 1) (.int .i64 v) = fcells (l.set i { f with s := v }) := by
  intro l
  induction l with
  | nil => intro i f v h; simp at h
  | cons x l ih =>
    intro i f v h
    cases i with
    | zero => simp at h; subst h; rfl
    | succ i =>
      have e : (i + 1) * 2 + 1 = (i * 2 + 1) + 1 + 1 := by omega
      rw [e]
      show _ :: _ :: (fcells l).set (i * 2 + 1) _ = _
      rw [ih i f v (by simpa using h)]
      rfl
theorem fcells_set0 : ∀ (l : List FM) (i : Nat) (f : FM) (A : Option Addr) (c : Nat) (b : List Int), l[i]? = some f → (fcells l).set (i * 2) (.slice A b.length c) = fcells (l.set i { A := A, c := c, b := b, s := f.s }) := by
  intro l
  induction l with
  | nil => intro i f A c b h; simp at h
  | cons x l ih =>
    intro i f A c b h
    cases i with
    | zero => simp at h; subst h; rfl
    | succ i =>
      have e : (i + 1) * 2 = i * 2 + 1 + 1 := by omega
      rw [e]
      show _ :: _ :: (fcells l).set (i * 2) _ = _
      rw [ih i f A c b (by simpa using h)]
      rfl
/-- A cell of a file, stored. -/
theorem KAt.setF {w : World} {b : Nat} {k : Nat} {fm : List FM} {names safe : Nms} {steps stop : Int} {Fc : Nat} {NA : Option Addr} {Nc : Nat} {SA : Option Addr} {Sc : Nat} (h : KAt w k fm names safe steps stop (some ⟨b, 0, none⟩) Fc NA Nc SA Sc) (i : Nat) (f' : FM) (hi : i < fm.length) (j : Nat) (u : Value) (hc : (fcells fm).set j u = fcells (fm.set i f'))
    (hrow : w.ownsRow 0 5 1 (.slice f'.A f'.b.length f'.c) f'.b.length (u8s f'.b)) : KAt (w.setCell ⟨b, j, none⟩ u) k (fm.set i f') names safe steps stop (some ⟨b, 0, none⟩) Fc NA Nc SA Sc ∧ Only (fun q => q = b) w (w.setCell ⟨b, j, none⟩ u) := by
  have ho : Only (fun q => q = b) w (w.setCell ⟨b, j, none⟩ u) := (Only.refl (fun q => q = b) w).setCell (p := ⟨b, j, none⟩) rfl _
  obtain ⟨_, cur, hcur⟩ := row_type h.fl _ rfl
  have hne : ∀ {e : TypeId} {base size n c : Nat} {A : Option Addr} {xs : List Value}, w.ownsRow base e size (.slice A n c) n xs → e ≠ 97 → ∀ a, A = some a → ¬ a.block = b := fun hr he => row_ne_blk hr hcur he
  refine ⟨⟨?_, ?_, ?_, row_only h.nm ho (hne h.nm (by decide)), row_only h.sf ho (hne h.sf (by decide))⟩, ho⟩
  · rw [List.length_set]
    exact h.blk.only ho (fun e => by subst e; exact absurd (h.blk.same_type hcur) (by decide))
  · rw [List.length_set, ← hc]
    exact (h.fl.stored j u).1
  · intro g hg
    rcases List.mem_or_eq_of_mem_set hg with hg | hg
    · exact row_only (h.fb g hg) ho (hne (h.fb g hg) (by decide))
    · subst hg
      exact row_only hrow ho (hne hrow (by decide))
end Go.Proofs.YtbfmdpgghknccaaDoor
