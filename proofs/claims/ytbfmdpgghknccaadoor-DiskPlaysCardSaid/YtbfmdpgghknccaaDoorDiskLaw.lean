/- disks: what the laws' walks need, apart from the calls. -/
import Derived.Test.YtbfmdpgghknccaaDoorDiskCrash2
import Derived.Lib.SlBytesRow
namespace Go.Proofs.YtbfmdpgghknccaaDoor
open Go.RowKit Go.Maps
set_option linter.unusedVariables false
set_option linter.unusedSimpArgs false

/-- Bytes that came in. -/
def IsBytes (W : World) (v : Value) (l : List Int) : Prop := ∃ A c, v = .slice A l.length c ∧ SlAt W A (u8s l) ∧ (∀ x ∈ l, 0 ≤ x ∧ x < 256) ∧ l.length ≤ c ∧ c ≤ maxLen

theorem goes_no (steps : Int) : Goes steps (-1) := by unfold Goes; omega
/-- The map of one file. -/
theorem one_at (k : Lit) (hk : WideAt.IsKeyLit k) (f : Nat) : ((DataW.map []).put k (.held f) : DataW Nat).atKey k .nil = ptrD (some f) := atKey_put_same isMap_empty hk _ _
theorem one_other (k k' : Lit) (hne : k' ≠ k) (f : Nat) : ((DataW.map []).put k (.held f) : DataW Nat).atKey k' .nil = ptrD none := by rw [atKey_put_other hne]; rfl
theorem one_has (k k' : Lit) (hk : WideAt.IsKeyLit k) (f : Nat) : Maps.has ((DataW.map []).put k (.held f) : DataW Nat) k' = true ↔ k' = k := by
  by_cases e : k' = k
  · subst e
    simp [has_put_same isMap_empty hk]
  · rw [has_put_other e]
    simp [e, Maps.has]
theorem has_size {D : DataW Nat} {k : Lit} (h : Maps.has D k = true) : 1 ≤ Maps.size D := by
  cases D with
  | map es =>
    rw [Maps.has_eq] at h
    cases es with
    | nil => cases h
    | cons x r => rw [Maps.size_eq]; simp
  | _ => cases h
theorem Fl.dk {w w' : World} {f : Nat} {A : Option Addr} {c : Nat} {xs : List Int} {safe : Int} (h : Fl w f A c xs safe) {d bn bs : Nat} {N S : DataW Nat} {steps stop : Int} (hd : Dk w d bn bs N S steps stop) (ho : Only (fun k => k = d ∨ k = bn) w w') : Fl w' f A c xs safe := by
  obtain ⟨n, hn⟩ := hd.nm
  refine h.only ho ?_ ?_
  · rintro (e | e)
    · subst e; exact absurd (hd.blk.same_type h.blk) (by decide)
    · subst e
      obtain ⟨cur, e, hg⟩ := h.cellsf f (.inl rfl)
      exact owns_map hn _ _ hg
  · rintro a ha (e | e)
    · exact h.ne_blk hd.blk (by decide) a ha e
    · obtain ⟨cur, e2, hg⟩ := h.cellsf a.block (.inr ⟨a, ha, rfl⟩)
      rw [e] at hg
      exact owns_map hn _ _ hg
theorem Fl.dkd {w w' : World} {f : Nat} {A : Option Addr} {c : Nat} {xs : List Int} {safe : Int} (h : Fl w f A c xs safe) {d bn bs : Nat} {N S : DataW Nat} {steps stop : Int} (hd : Dk w d bn bs N S steps stop) (ho : Only (fun k => k = d) w w') : Fl w' f A c xs safe :=
  h.dk hd (ho.mono (fun _ _ e => .inl e))
/-- All that has turned is new. -/
theorem turned_new {w0 w w' : World} (hb : Below w0.heap.size w0 w) {X : Nat → Prop} (ho : Only X w w') (hX : ∀ k, X k → w0.heap.size ≤ k) : Below w0.heap.size w0 w' :=
  hb.trans ⟨ho.os, ho.tape, ho.output, ho.size, fun k hk => ho.block k (Nat.lt_of_lt_of_le hk hb.size) (fun h => by have := hX k h; omega)⟩
theorem new_some (w : World) : Calls Tryd.prog 8 #[] w fun e w' => ∃ d bn bs, e = .returned (.pointer (some ⟨d, 0, none⟩)) ∧ Dk w' d bn bs (.map []) (.map []) 0 (-1) ∧ Below w.heap.size w w' ∧ w.heap.size ≤ d ∧ w.heap.size ≤ bn ∧ w.heap.size ≤ bs := by
  refine (new_any w).mono ?_
  rintro e w' ⟨rfl, h1, h2⟩
  exact ⟨_, _, _, rfl, h1, h2, by omega, by omega, by omega⟩

set_option maxRecDepth 100000 in
theorem conv_bytes (W : World) (A : Option Addr) (c : Nat) (l : List Int) (h : SlAt W A (u8s l)) : (convert 40 9 (.slice A l.length c)).run Tryd.prog W = .ok (.string (strOfNums l)) W := by
  cases A with
  | none =>
    have hl : l = [] := by
      rcases h with h | ⟨b, off, h, _⟩
      · simpa [u8s] using h
      · cases h
    subst hl
    exact run_convert_bytes_nil W _ _ Tryd.underlying40 Tryd.underlying5 0 c _ Tryd.underlying9
  | some a =>
    by_cases hl : l = []
    · subst hl
      obtain ⟨blk, off, sp⟩ := a
      show (convert 40 9 (.slice (some ⟨blk, off, sp⟩) 0 c)).run Tryd.prog W = _
      rw [run_convert_bytes_string (P := Tryd.prog) W _ _ 5 _ 0 c Tryd.underlying40 Tryd.underlying5 Tryd.underlying9]
      have hz : (loadCells ⟨blk, off, sp⟩ 0).run Tryd.prog W = .ok #[] W := by simp [loadCells, loadCellsFrom]
      rw [run_bytesToString W _ 0 c [] (by simpa using hz)]
      simp [strOfNums, ByteArray.empty, ByteArray.emptyWithCapacity]
      rfl
    · rcases h with h | ⟨b, off, h, hc⟩
      · exact absurd (by simpa [u8s] using h) hl
      · injection h with h
        subst h
        have hr := run_convert_bytes_arg W _ _ Tryd.underlying40 Tryd.underlying5 b off l.length c l rfl (fun i hi => hc i _ (by simp [u8s, List.getD, List.getElem?_eq_getElem hi])) 9 Tryd.underlying9
        exact hr
theorem strOfNums_append (l m : List Int) : strOfNums (l ++ m) = strOfNums l ++ strOfNums m := by
  apply ByteArray.ext
  apply Array.toList_inj.1
  rw [ByteArray.data_append, Array.toList_append, strOfNums_data, strOfNums_data, strOfNums_data, List.map_append]
theorem kept_is (keep : Int) (l m : List Int) : kept keep (l ++ m, l.length) = l ++ m.take (min keep.toNat m.length) := by
  unfold kept moreN
  simp only [List.length_append]
  rw [List.take_append, List.take_of_length_le (by omega)]
  congr 2
  omega
end Go.Proofs.YtbfmdpgghknccaaDoor
