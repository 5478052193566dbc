/- commonbookbig: a whole number: give, NewInt: contracts. -/
import Derived.Test.YtfnigdbnkdofiaaDoorNumSmall
import Derived.Outline
namespace Go.Proofs.YtfnigdbnkdofiaaDoor
open Go.RowKit
set_option linter.unusedVariables false
set_option linter.unusedSimpArgs false

/-- Block g holds the whole number x. -/
def IsI (w : World) (g : Nat) (x : Int) : Prop := ∃ neg v m, Blk w g 69 #[.bool neg, v] ∧ NW w v m ∧ x = (if neg = true then -(m : Int) else (m : Int)) ∧ (neg = true → m ≠ 0)
theorem IsI.lt {w : World} {g : Nat} {x : Int} (h : IsI w g x) : g < w.heap.size := by
  obtain ⟨_, _, _, hb, _⟩ := h
  exact hb.lt
theorem IsI.below {w w' : World} {g : Nat} {x : Int} (h : IsI w g x) (hb : Below w.heap.size w w') : IsI w' g x := by
  obtain ⟨neg, v, m, h1, h2, h3⟩ := h
  exact ⟨neg, v, m, h1.below hb h1.lt, h2.below hb, h3⟩

set_option maxRecDepth 100000 in
set_option maxHeartbeats 1000000 in
theorem give_any (g : Nat) (p q : Value) (neg : Bool) (A : Option Addr) (n c : Nat) (w : World) (h : Blk w g 69 #[p, q]) :
    Calls Tryd.prog 49 #[.pointer (some ⟨g, 0, none⟩), .bool neg, .slice A n c] w fun e w' => e = .returned (.pointer (some ⟨g, 0, none⟩)) ∧
      Blk w' g 69 #[.bool (neg && decide (0 < n)), .slice A n c] ∧ Only (fun k => k = g) w w' := by
  have f0 := h.frozen 0
  have f1 := h.frozen 1
  have c0 : w.cell? ⟨g, 0, none⟩ = some p := h.cell 0
  have c1 : w.cell? ⟨g, 1, none⟩ = some q := h.cell 1
  have h1 := h.set_ 1 (.slice A n c)
  have hb : ∀ b : Bool, Blk ((w.setCell ⟨g, 1, none⟩ (.slice A n c)).setCell ⟨g, 0, none⟩ (.bool b)) g 69 #[.bool b, .slice A n c] := fun b => by
    have := h1.set_ 0 (.bool b)
    simpa using this
  have ho : ∀ b : Bool, Only (fun k => k = g) w ((w.setCell ⟨g, 1, none⟩ (.slice A n c)).setCell ⟨g, 0, none⟩ (.bool b)) := fun b =>
    ((Only.refl (fun k => k = g) w).setCell (p := ⟨g, 1, none⟩) rfl _).setCell (p := ⟨g, 0, none⟩) rfl _
  have HB := Lib.hid (And.intro hb ho)
  clear h h1 hb ho
  cases neg with
  | false =>
    go_enter Tryd.func49, Tryd.ntmps49
    go_wp2_with fail
    go_ret
    exact ⟨rfl, HB.out.1 _, HB.out.2 _⟩
  | true =>
    rcases Nat.eq_zero_or_pos n with hn | hn
    · subst hn
      go_enter Tryd.func49, Tryd.ntmps49
      go_wp2_with fail
      go_ret
      exact ⟨rfl, HB.out.1 _, HB.out.2 _⟩
    · have hn2 : (0 : Int) < ((n : Nat) : Int) := by omega
      have hd : decide (0 < n) = true := by simp [hn]
      rw [hd]
      clear hd
      go_enter Tryd.func49, Tryd.ntmps49
      go_wp2_with fail
      go_ret
      exact ⟨rfl, HB.out.1 _, HB.out.2 _⟩

theorem NW.other {w w' : World} {g : Nat} {t : TypeId} {p : Bool} {B : Option Addr} {m k : Nat} {v : Value} {x : Nat} (h : NW w v x) (hb : Blk w g t #[.bool p, .slice B m k]) (ho : Only (fun k => k = g) w w') : NW w' v x := by
  obtain ⟨A, c, l, h1, h2, h3⟩ := h
  refine ⟨A, c, l, h1, ?_, h3⟩
  cases l with
  | nil => exact .inl rfl
  | cons y l =>
    rcases h2 with h2 | ⟨b, off, hA, hc⟩
    · simp [u32s] at h2
    · refine .inr ⟨b, off, hA, fun j u hu => ?_⟩
      have hbg : b ≠ g := by
        rintro rfl
        have := hc 0 _ (by simp [u32s]; rfl)
        rw [Nat.add_zero, hb.cell] at this
        match off, this with
        | 0, this => simp at this
        | 1, this => simp at this
        | _ + 2, this => simp at this
      rw [World.cell?_of_block (ho.block b (cell_lt (hc j u hu)) hbg)]
      exact hc j u hu
theorem IsI.made {w : World} {g : Nat} {neg : Bool} {A : Option Addr} {l c m : Nat} (hb : Blk w g 69 #[.bool (neg && decide (0 < l)), .slice A l c]) (h : NW w (.slice A l c) m) : IsI w g (if neg = true then -(m : Int) else (m : Int)) := by
  have hl : 0 < l ↔ m ≠ 0 := by
    obtain ⟨A', c', ws, e, h1, h2, h3, h4, h5⟩ := h
    injection e with e1 e2 e3
    subst e2
    constructor
    · intro hl hm
      rw [hm] at h4
      rw [trimW_zero h3 h4] at hl
      simp at hl
    · intro hm
      rcases Nat.eq_zero_or_pos ws.length with h0 | h0
      · rw [List.eq_nil_of_length_eq_zero h0] at h4
        exact absurd h4.symm hm
      · exact h0
  refine ⟨_, _, m, hb, h, ?_, ?_⟩
  · cases neg
    · simp
    · by_cases hm : m = 0
      · subst hm; simp
      · rw [decide_eq_true (hl.2 hm)]; simp
  · intro hn
    simp at hn
    exact hl.1 hn.2

set_option maxRecDepth 100000 in
set_option maxHeartbeats 1000000 in
theorem newint_any (x : Int) (h0 : -9223372036854775808 ≤ x) (h1 : x ≤ 9223372036854775807) (w : World) :
    Calls Tryd.prog 26 #[.int .i64 x] w fun e w' => ∃ g, e = .returned (.pointer (some ⟨g, 0, none⟩)) ∧ w.heap.size ≤ g ∧ IsI w' g x ∧ Below w.heap.size w w' := by
  have hN : Blk (w.alloc (.cells #[.bool false, .slice none 0 0] 69)) w.heap.size 69 #[.bool false, .slice none 0 0] := Blk.new _ _ _
  have hB : Below w.heap.size w (w.alloc (.cells #[.bool false, .slice none 0 0] 69)) := (Below.refl _ _).alloc (Nat.le_refl _) _
  have HNB := Lib.hid (And.intro hN hB)
  clear hN hB
  by_cases hx : x < 0
  · obtain ⟨n, rfl⟩ : ∃ n : Nat, x = -(n : Int) := ⟨(-x).toNat, by omega⟩
    have hn : 0 < n ∧ n < 18446744073709551616 := by omega
    have hwr : IntKind.u64.wrap (-IntKind.u64.wrap (-(n : Int))) = (n : Int) := by
      simp [IntKind.wrap, IntKind.signed, IntKind.bits]
      omega
    have HW := Lib.hid (fun w => words_any n hn.2 w)
    go_enter Tryd.func26, Tryd.ntmps26
    go_wp2_with (first
      | (go_at_call 75; refine (HW.out _).mono ?_; rintro e w1 ⟨v, rfl, ⟨A, c, l, rfl, hw⟩, hb⟩; have hN1 := HNB.out.1.below hb HNB.out.1.lt; have HW1 := Lib.hid (And.intro (show NW w1 (.slice A l.length c) n from ⟨A, c, l, rfl, hw⟩) (And.intro hN1 (HNB.out.2.trans (hb.mono HNB.out.2.size)))); clear hw hb hN1)
      | (go_at_call 49; refine (give_any w.heap.size _ _ true A l.length c _ HW1.out.2.1).mono ?_; rintro e w2 ⟨rfl, hN2, ho2⟩; have HW2 := Lib.hid (And.intro hN2 ho2); clear hN2 ho2)
      | (go_at_call 51; go_in))
    go_ret
    refine ⟨w.heap.size, rfl, Nat.le_refl _, ?_, HW1.out.2.2.trans (HW2.out.2.below HW1.out.2.2.size (fun k hk hn => by omega))⟩
    exact IsI.made (neg := true) HW2.out.1 (HW1.out.1.other HW1.out.2.1 HW2.out.2)
  · obtain ⟨n, rfl⟩ : ∃ n : Nat, x = (n : Int) := ⟨x.toNat, by omega⟩
    have HW := Lib.hid (fun w => words_any n (by omega) w)
    go_enter Tryd.func26, Tryd.ntmps26
    go_wp2_with (first
      | (go_at_call 75; refine (HW.out _).mono ?_; rintro e w1 ⟨v, rfl, ⟨A, c, l, rfl, hw⟩, hb⟩; have hN1 := HNB.out.1.below hb HNB.out.1.lt; have HW1 := Lib.hid (And.intro (show NW w1 (.slice A l.length c) n from ⟨A, c, l, rfl, hw⟩) (And.intro hN1 (HNB.out.2.trans (hb.mono HNB.out.2.size)))); clear hw hb hN1)
      | (go_at_call 49; refine (give_any w.heap.size _ _ false A l.length c _ HW1.out.2.1).mono ?_; rintro e w2 ⟨rfl, hN2, ho2⟩; have HW2 := Lib.hid (And.intro hN2 ho2); clear hN2 ho2)
      | (go_at_call 51; go_in))
    go_ret
    refine ⟨w.heap.size, rfl, Nat.le_refl _, ?_, HW1.out.2.2.trans (HW2.out.2.below HW1.out.2.2.size (fun k hk hn => by omega))⟩
    exact IsI.made (neg := false) HW2.out.1 (HW1.out.1.other HW1.out.2.1 HW2.out.2)
end Go.Proofs.YtfnigdbnkdofiaaDoor
