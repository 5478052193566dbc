/- disks: one file looked at, step after step. -/
import Derived.Test.YtphkebalgbnjbaaDoorDiskLaw
namespace Go.Proofs.YtphkebalgbnjbaaDoor
open Go.RowKit Go.Maps
set_option linter.unusedVariables false
set_option linter.unusedSimpArgs false

/-- A disk and one file of it, all new since w0. -/
structure StA (w0 w : World) (d bn bs : Nat) (N S : DataW Nat) (steps : Int) (f : Nat) (A : Option Addr) (c : Nat) (xs : List Int) (sf : Int) : Prop where
  dk : Dk w d bn bs N S steps (-1)
  fl : Fl w f A c xs sf
  bel : Below w0.heap.size w0 w
  nw : w0.heap.size ≤ d ∧ w0.heap.size ≤ bn ∧ w0.heap.size ≤ f ∧ ∀ a, A = some a → w0.heap.size ≤ a.block
  st : 0 ≤ steps ∧ steps ≤ 1000
theorem goodA : goodB ⟨#[97]⟩ = true := by decide +kernel
theorem goodBB : goodB ⟨#[98]⟩ = true := by decide +kernel

theorem st_create (w0 w : World) (d bn bs : Nat) (N S : DataW Nat) (steps : Int) (s : ByteArray) (hd : Dk w d bn bs N S steps (-1)) (hb : Below w0.heap.size w0 w) (hn : w0.heap.size ≤ d ∧ w0.heap.size ≤ bn) (hst : 0 ≤ steps ∧ steps ≤ 900) (hs : s.size ≤ maxLen) (hg : goodB s = true)
    (hat : N.atKey (.string s.data.toList) .nil = ptrD none) (hsz : Maps.size N < maxLen) :
    Calls Tryd.prog 16 #[.pointer (some ⟨d, 0, none⟩), .string s] w fun e w' => e = .returned .nilIface ∧ ∃ f, StA w0 w' d bn bs (N.put (.string s.data.toList) (.held f)) S (steps + 1) f none 0 [] 0 ∧ Only (fun k => k = d ∨ k = bn) w w' := by
  refine (create_ok d bn bs N S steps (-1) s w hd (goes_no _) hst.1 (by omega) hs hg hat hsz).mono ?_
  rintro e w' ⟨rfl, f, hf, hd', hfl, ho⟩
  refine ⟨rfl, f, ⟨hd', hfl, turned_new hb ho (by rintro k (rfl | rfl) <;> omega), ⟨hn.1, hn.2, by have := hb.size; omega, by intro a h; cases h⟩, by omega⟩, ho⟩

/-- Another one is made beside it. -/
theorem st_other (w0 w : World) (d bn bs : Nat) (N S : DataW Nat) (steps : Int) (f : Nat) (A : Option Addr) (c : Nat) (xs : List Int) (sf : Int) (s : ByteArray) (h : StA w0 w d bn bs N S steps f A c xs sf) (hst : steps ≤ 900) (hs : s.size ≤ maxLen) (hg : goodB s = true)
    (hat : N.atKey (.string s.data.toList) .nil = ptrD none) (hsz : Maps.size N < maxLen) :
    Calls Tryd.prog 16 #[.pointer (some ⟨d, 0, none⟩), .string s] w fun e w' => e = .returned .nilIface ∧ ∃ g, StA w0 w' d bn bs (N.put (.string s.data.toList) (.held g)) S (steps + 1) f A c xs sf ∧ StA w0 w' d bn bs (N.put (.string s.data.toList) (.held g)) S (steps + 1) g none 0 [] 0 ∧ w.heap.size ≤ g := by
  refine (create_ok d bn bs N S steps (-1) s w h.dk (goes_no _) h.st.1 (by have := h.st.2; omega) hs hg hat hsz).mono ?_
  have hst0 := h.st
  have hnw := h.nw
  rintro e w' ⟨rfl, g, hf, hd', hfl, ho⟩
  have hb := turned_new h.bel ho (by rintro k (rfl | rfl) <;> omega)
  refine ⟨rfl, g, ⟨hd', h.fl.dk h.dk ho, hb, hnw, by omega⟩, ⟨hd', hfl, hb, ⟨hnw.1, hnw.2.1, by have := h.bel.size; omega, by intro a h; cases h⟩, by omega⟩, hf⟩

/-- Append, which may find no room. -/
theorem st_append (w0 w : World) (d bn bs : Nat) (N S : DataW Nat) (steps : Int) (f : Nat) (A : Option Addr) (c : Nat) (xs : List Int) (sf : Int) (s : ByteArray) (B : Option Addr) (ys : List Int) (k : Nat) (h : StA w0 w d bn bs N S steps f A c xs sf) (hst : steps ≤ 900) (hs : s.size ≤ maxLen) (hg : goodB s = true)
    (hat : N.atKey (.string s.data.toList) .nil = ptrD (some f)) (hx : xs.length ≤ 60000) (hB : SlAt w0 B (u8s ys)) (hm : ys.length ≤ maxLen) :
    Calls Tryd.prog 17 #[.pointer (some ⟨d, 0, none⟩), .string s, .slice B ys.length k] w fun e w' => ∃ ev steps' A' c' xs', e = .returned ev ∧ StA w0 w' d bn bs N S steps' f A' c' xs' sf ∧ xs'.length ≤ 60000 ∧ steps' ≤ steps + 1 ∧ (xs.length + ys.length ≤ 60000 → ev = .nilIface ∧ xs' = xs ++ ys) ∧ (A' = A ∨ ∃ a, A' = some a ∧ w.heap.size ≤ a.block) ∧ Only (fun k => k = d ∨ k = f ∨ ∃ a, A = some a ∧ k = a.block) w w' := by
  have hnw := h.nw
  have hBd : ys ≠ [] → ∀ a, B = some a → a.block ≠ d := by
    intro hy a ha
    rcases hB with h0 | ⟨b, off, hb, hc⟩
    · exact absurd (by simpa [u8s] using h0) hy
    · rw [hb] at ha
      injection ha with ha
      subst ha
      cases ys with
      | nil => exact absurd rfl hy
      | cons y r =>
        have := cell_lt (hc 0 (.int .u8 y) rfl)
        have := hnw.1
        show b ≠ d
        omega
  by_cases hfull : xs.length + ys.length ≤ 60000
  · refine (append_ok d bn bs N S steps (-1) s f A c xs sf B ys k w h.dk (goes_no _) h.st.1 (by have := h.st.2; omega) hs hg hat h.fl (hB.below h.bel) hBd hfull).mono ?_
    rintro e w' ⟨rfl, hd', ⟨A', c', hfl, hA'⟩, ho⟩
    refine ⟨_, _, A', c', _, rfl, ⟨hd', hfl, turned_new h.bel ho ?_, ⟨hnw.1, hnw.2.1, hnw.2.2.1, ?_⟩, by have := h.st; omega⟩, by rw [List.length_append]; omega, by omega, fun _ => ⟨rfl, rfl⟩, hA', ho⟩
    · rintro q (rfl | rfl | ⟨a, ha, rfl⟩)
      · omega
      · omega
      · exact hnw.2.2.2 a ha
    · intro a ha
      rcases hA' with h1 | ⟨b, hb, hb2⟩
      · exact hnw.2.2.2 a (by rw [← h1]; exact ha)
      · rw [hb] at ha
        injection ha with ha
        subst ha
        have := h.bel.size
        omega
  · refine (append_full d bn bs N S steps (-1) s f A c xs sf B ys.length k w h.dk (goes_no _) hs hg hat h.fl hx hm (by omega)).mono ?_
    rintro e w' ⟨rfl, hb⟩
    exact ⟨_, steps, A, c, xs, rfl, ⟨h.dk.below hb, h.fl.below hb, h.bel.trans (hb.mono h.bel.size), hnw, h.st⟩, hx, by omega, fun h => absurd h hfull, .inl rfl, Only.of_below hb⟩

theorem st_sync (w0 w : World) (d bn bs : Nat) (N S : DataW Nat) (steps : Int) (f : Nat) (A : Option Addr) (c : Nat) (xs : List Int) (sf : Int) (s : ByteArray) (h : StA w0 w d bn bs N S steps f A c xs sf) (hst : steps ≤ 900) (hs : s.size ≤ maxLen) (hg : goodB s = true)
    (hat : N.atKey (.string s.data.toList) .nil = ptrD (some f)) :
    Calls Tryd.prog 18 #[.pointer (some ⟨d, 0, none⟩), .string s] w fun e w' => e = .returned .nilIface ∧ StA w0 w' d bn bs N S (steps + 1) f A c xs xs.length ∧ Only (fun k => k = d ∨ k = f) w w' := by
  have hnw := h.nw
  refine (sync_ok d bn bs N S steps (-1) s f A c xs sf w h.dk (goes_no _) h.st.1 (by have := h.st.2; omega) hs hg hat h.fl).mono ?_
  rintro e w' ⟨rfl, hd', hfl, ho⟩
  exact ⟨rfl, ⟨hd', hfl, turned_new h.bel ho (by rintro q (rfl | rfl) <;> omega), hnw, by have := h.st; omega⟩, ho⟩

theorem st_names (w0 w : World) (d bn bs : Nat) (N S : DataW Nat) (steps : Int) (f : Nat) (A : Option Addr) (c : Nat) (xs : List Int) (sf : Int) (h : StA w0 w d bn bs N S steps f A c xs sf) (hst : steps ≤ 900) (hsz : Maps.size N < maxLen) :
    Calls Tryd.prog 19 #[.pointer (some ⟨d, 0, none⟩)] w fun e w' => e = .returned .nilIface ∧ ∃ bs', StA w0 w' d bn bs' N N (steps + 1) f A c xs sf := by
  have hnw := h.nw
  refine (syncNames_ok d bn bs N S steps (-1) w h.dk (goes_no _) h.st.1 (by have := h.st.2; omega) hsz).mono ?_
  rintro e w' ⟨rfl, bs', hbs, hd', ho⟩
  exact ⟨rfl, bs', ⟨hd', h.fl.dkd h.dk ho, turned_new h.bel ho (by rintro q rfl; omega), hnw, by have := h.st; omega⟩⟩
end Go.Proofs.YtphkebalgbnjbaaDoor
