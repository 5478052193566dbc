/- bookref3.Places: a contract. -/
import Derived.Test.YtfnigdbnkdofiaaDoorRefPlaces
namespace Go.Proofs.YtfnigdbnkdofiaaDoor
open Go.RowKit
set_option linter.unusedVariables false
set_option linter.unusedSimpArgs false

/-- A row of ints stands, whatever is written into a number. -/
theorem row_off {w w' : World} {B z n : Nat} {v : Value} {xs : List Value} (h : w.ownsRow B 3 1 v n xs) (hz : IsZ w z) (ho : Only (fun k => k = z) w w') : w'.ownsRow B 3 1 v n xs := by
  obtain ⟨p, A, m, k, hz⟩ := hz
  refine ⟨h.1, ?_⟩
  rcases h.2 with hn | ⟨g, cap, cur, hv, hb, hg, rest⟩
  · exact .inl hn
  · refine .inr ⟨g, cap, cur, hv, hb, ?_, rest⟩
    rw [ho.block g (Array.getElem?_eq_some_iff.1 hg).1 ?_]
    · exact hg
    · intro e
      subst e
      unfold Blk at hz
      rw [hz] at hg
      injection hg with hg
      injection hg with h1 h2
      exact absurd h2 (by decide)
theorem z_first {w W1 : World} {o : Obj} (hb : Below ((w.alloc o).alloc (.cells #[.bool false, .slice none 0 0] 69)).heap.size ((w.alloc o).alloc (.cells #[.bool false, .slice none 0 0] 69)) W1) :
    IsZ W1 (w.heap.size + 1) ∧ Below (w.heap.size + 1) (w.alloc o) W1 ∧ w.heap.size + 2 ≤ W1.heap.size := by
  have h1 := (IsZ.new (w.alloc o)).below hb
  have e1 : (w.alloc o).heap.size = w.heap.size + 1 := by simp
  rw [e1] at h1
  have h2 : Below (w.alloc o).heap.size (w.alloc o) ((w.alloc o).alloc (.cells #[.bool false, .slice none 0 0] 69)) := (Below.refl _ _).alloc (Nat.le_refl _) _
  have h3 := h2.trans (hb.mono h2.size)
  rw [e1] at h3
  have h4 := hb.size
  have e2 : ((w.alloc o).alloc (.cells #[.bool false, .slice none 0 0] 69)).heap.size = w.heap.size + 2 := by simp
  rw [e2] at h4
  exact ⟨h1, h3, h4⟩
/-- The ref's box and mod, behind Lsh. -/
theorem start_mod {w W1 W2 : World} {t : TypeId} {cs : Array Value} (h : IsZ W1 (w.heap.size + 1) ∧ Below (w.heap.size + 1) (w.alloc (.cells cs t (0, 0))) W1 ∧ w.heap.size + 2 ≤ W1.heap.size) (hN : IsN W2 (w.heap.size + 1) 18446744073709551616) (ho : Only (fun k => k = w.heap.size + 1) W1 W2) :
    Below w.heap.size w W2 ∧ Blk W2 w.heap.size t cs ∧ IsN W2 (w.heap.size + 1) 18446744073709551616 ∧ w.heap.size + 2 ≤ W2.heap.size := by
  obtain ⟨h1, h2, h3⟩ := h
  have h4 : Blk W1 w.heap.size t cs := (Blk.new w t cs).below h2 (by omega)
  have h5 : Blk W2 w.heap.size t cs := h4.only ho (fun e => by omega)
  have h6 : Below w.heap.size w W1 := ((Below.refl w.heap.size w).alloc (Nat.le_refl _) _).trans (h2.mono (by omega))
  exact ⟨h6.trans (ho.below (by omega) (fun k hk e => by omega)), h5, hN, Nat.le_trans h3 ho.size⟩
/-- x is made: actor times a million and three. -/
theorem start_x {w W2 W3 W4 : World} {t : TypeId} {cs : Array Value} {g2 g3 a : Nat} (h : Below w.heap.size w W2 ∧ Blk W2 w.heap.size t cs ∧ IsN W2 (w.heap.size + 1) 18446744073709551616 ∧ w.heap.size + 2 ≤ W2.heap.size)
    (hI2 : IsI W3 g2 (a : Int)) (hb3 : Below (W2.alloc (.cells #[.bool false, .slice none 0 0] 69)).heap.size (W2.alloc (.cells #[.bool false, .slice none 0 0] 69)) W3)
    (hI3 : IsI W4 g3 1000003) (hb4 : Below W3.heap.size W3 W4) (ha : a ≤ 99) :
    (Below w.heap.size w W4 ∧ Blk W4 w.heap.size t cs ∧ IsN W4 (w.heap.size + 1) 18446744073709551616 ∧ IsZ W4 W2.heap.size ∧ w.heap.size + 2 ≤ W2.heap.size) ∧
    Calls Tryd.prog 27 #[.pointer (some ⟨W2.heap.size, 0, none⟩), .pointer (some ⟨g2, 0, none⟩), .pointer (some ⟨g3, 0, none⟩)] W4 (OpQ W4 W2.heap.size (a * 1000003)) := by
  obtain ⟨h1, h2, h3, h4⟩ := h
  have c1 : Below W2.heap.size W2 (W2.alloc (.cells #[.bool false, .slice none 0 0] 69)) := (Below.refl _ _).alloc (Nat.le_refl _) _
  have c3 : Below W2.heap.size W2 W4 := c1.trans ((hb3.mono c1.size).trans (hb4.mono (Nat.le_trans c1.size hb3.size)))
  have hz : IsZ W4 W2.heap.size := ((IsZ.new W2).below hb3).below hb4
  exact ⟨⟨h1.trans (c3.mono h1.size), h2.below c3 h2.lt, h3.below c3, hz, h4⟩, mulop _ g2 g3 a 1000003 W4 hz ((ofI a hI2 rfl).below hb4) (ofI 1000003 hI3 rfl) (by omega) (by decide)⟩
theorem start_pl {w W4 W5 : World} {t : TypeId} {cs : Array Value} {z x : Nat} (h : Below w.heap.size w W4 ∧ Blk W4 w.heap.size t cs ∧ IsN W4 (w.heap.size + 1) 18446744073709551616 ∧ IsZ W4 z ∧ w.heap.size + 2 ≤ z) (hN : IsN W5 z x) (ho : Only (fun k => k = z) W4 W5) :
    Pl w W5 (w.heap.size + 1) z x ∧ Blk W5 w.heap.size t cs := by
  obtain ⟨h1, h2, h3, h4, h5⟩ := h
  exact ⟨⟨Only.below_of h1 (by omega) ho, by omega, by omega, by omega, h3.only h4 ho (by omega), hN⟩, h2.only ho (fun e => by omega)⟩
theorem start_add {w W5 W6 : World} {z g a s : Nat} (h : Pl w W5 (w.heap.size + 1) z (a * 1000003)) (hI : IsI W6 g (s : Int)) (hb : Below W5.heap.size W5 W6) (ha : a ≤ 99) (hs : s ≤ 1000000) :
    Pl w W6 (w.heap.size + 1) z (a * 1000003) ∧ Calls Tryd.prog 28 #[.pointer (some ⟨z, 0, none⟩), .pointer (some ⟨z, 0, none⟩), .pointer (some ⟨g, 0, none⟩)] W6 (OpQ W6 z (a * 1000003 + s)) :=
  ⟨h.new hb, addop z z g (a * 1000003) s W6 (h.new hb).n1.z (h.new hb).n1 (ofI s hI rfl) (by omega) (by omega)⟩

/-- y, the round's own number. -/
theorem y_rsh {w W : World} {z0 z1 x : Nat} (h : Pl w W z0 z1 x) (hx : x < 18446744073709551616) :
    Calls Tryd.prog 30 #[.pointer (some ⟨W.heap.size, 0, none⟩), .pointer (some ⟨z1, 0, none⟩), .int .u64 33] (W.alloc (.cells #[.bool false, .slice none 0 0] 69)) (OpQ (W.alloc (.cells #[.bool false, .slice none 0 0] 69)) W.heap.size (x / 8589934592)) :=
  rsh33 _ z1 x _ (IsZ.new W) (h.n1.below ((Below.refl _ _).alloc (Nat.le_refl _) _)) hx
theorem y_made {W W' : World} (ho : Only (fun k => k = W.heap.size) (W.alloc (.cells #[.bool false, .slice none 0 0] 69)) W') : Below W.heap.size W W' := by
  have h1 : Below W.heap.size W (W.alloc (.cells #[.bool false, .slice none 0 0] 69)) := (Below.refl _ _).alloc (Nat.le_refl _) _
  exact h1.trans (ho.below h1.size (fun k hk e => by omega))
theorem y_mod {W W' : World} {y g q n : Nat} (hN : IsN W y q) (hq : q < 18446744073709551616) (hI : IsI W' g (n : Int)) (hb : Below W.heap.size W W') (hn : 8 ≤ n) (hn2 : n ≤ 4096) :
    Calls Tryd.prog 29 #[.pointer (some ⟨y, 0, none⟩), .pointer (some ⟨y, 0, none⟩), .pointer (some ⟨g, 0, none⟩)] W' fun e w' => OpQ W' y (q % n) e w' ∧ Own False W'.heap.size w' y :=
  modop y y g q n W' False (DivOk.small hq (by omega) (by omega)) (hN.below hb).z (hN.below hb) (ofI n hI rfl)

theorem Own.below {F : Prop} {n r : Nat} {w w' : World} (h : Own F n w r) (hl : r < w.heap.size) (hb : Below w.heap.size w w') : Own F n w' r := by
  intro hF A m c hc a ha
  rw [(bcell hb).1 r 1 hl] at hc
  exact h hF A m c hc a ha
theorem Own.mono {F : Prop} {n m r : Nat} {w : World} (h : Own F n w r) (hl : m ≤ n) : Own F m w r := fun hF A k c hc a ha => Nat.le_trans hl (h hF A k c hc a ha)
/-- The words of the number at g lie below block B. -/
def Low (w : World) (g B : Nat) : Prop := ∀ A n c, w.cell? ⟨g, 1, none⟩ = some (.slice A n c) → ∀ a, A = some a → a.block < B
theorem Low.only {w w' : World} {g B z : Nat} (h : Low w g B) (hl : g < w.heap.size) (ho : Only (fun k => k = z) w w') (hn : g ≠ z) : Low w' g B := by
  intro A m c hc a ha
  rw [World.cell?_of_block (a := ⟨g, 1, none⟩) (ho.block g hl hn)] at hc
  exact h A m c hc a ha
theorem Low.grown {w w' : World} {g B : Nat} {rb : Option Nat} (h : Low w g B) (hl : g < w.heap.size) (hg : w.grownBy w' rb) (hn : some g ≠ rb) : Low w' g B := by
  intro A m c hc a ha
  rw [World.cell?_of_block (a := ⟨g, 1, none⟩) (hg.block g hl hn)] at hc
  exact h A m c hc a ha
theorem IsN.low {w : World} {g x : Nat} (h : IsN w g x) (hx : x ≠ 0) : Low w g w.heap.size := by
  obtain ⟨A, n, c, hb, A1, c1, l, hv, h1, h2, h3, h4, h5⟩ := h
  intro A' m c' hc a ha
  rw [hb.cell 1] at hc
  injection hc with hc
  injection hc with e1 e2 e3
  injection hv with e4 e5 e6
  cases l with
  | nil => exact absurd h4.symm hx
  | cons p l =>
    obtain ⟨b, off, hA, hcell⟩ := h1.word_at (k := 0) (x := p) rfl
    have : a = ⟨b, off, none⟩ := by
      have h6 := ha.symm.trans (e1.symm.trans (e4.trans hA))
      injection h6
    rw [this]
    exact cell_lt hcell
theorem IsN.grown {w w' : World} {g x : Nat} {rb : Option Nat} (h : IsN w g x) (hg : w.grownBy w' rb) (hn : some g ≠ rb) (hw : ∀ A n c, w.cell? ⟨g, 1, none⟩ = some (.slice A n c) → ∀ a, A = some a → rb ≠ some a.block) : IsN w' g x := by
  obtain ⟨A, n, c, hb, hv⟩ := h
  refine ⟨A, n, c, (hg.block g hb.lt hn).trans hb, hv.grown hg ?_⟩
  intro k hk
  have h1 := hw A n c (hb.cell 1)
  cases A with
  | none => simp [Value.ownBlock] at hk
  | some a =>
    simp only [Value.ownBlock, Option.some.injEq] at hk
    rw [← hk]
    exact h1 a rfl
/-- Behind the append: all stands. -/
theorem Pl.push {w wr V w2 : World} {z0 z1 x B n c : Nat} {A : Option Addr} {xs : List Value} (h : Pl w V z0 z1 x) (hr : wr.ownsRow B 3 1 (.slice A n c) n xs) (hB : w.heap.size ≤ B) (hz0 : z0 < B) (hz1 : z1 < B)
    (hlow : Low V z0 B) (hown : Own True wr.heap.size V z1) (hg : V.grownBy w2 (Value.slice A n c).ownBlock) : Pl w w2 z0 z1 x ∧ Low w2 z0 B := by
  have hlt := hr.lt
  have hne0 : some z0 ≠ (Value.slice A n c).ownBlock := fun e => by have := (hlt z0 e.symm).1; omega
  have hne1 : some z1 ≠ (Value.slice A n c).ownBlock := fun e => by have := (hlt z1 e.symm).1; omega
  refine ⟨⟨h.below.grown hg h.below.size (fun k hk => Nat.le_trans hB (hlt k hk).1), h.l0, h.l1, h.ne, h.n0.grown hg hne0 ?_, h.n1.grown hg hne1 ?_⟩, hlow.grown h.n0.lt hg hne0⟩
  · intro A' m' c' hc a ha e
    have h1 := hlow A' m' c' hc a ha
    have h2 := (hlt a.block e).1
    omega
  · intro A' m' c' hc a ha e
    have h1 := hown trivial A' m' c' hc a ha
    have h2 := (hlt a.block e).2
    omega

theorem int64_is {W : World} {y x k n : Nat} (h : IsN W y (nbx x (k + 1) / 8589934592 % n)) (hn1 : 8 ≤ n) (hn2 : n ≤ 4096) :
    Calls Tryd.prog 31 #[.pointer (some ⟨y, 0, none⟩)] W fun e w' => e = .returned (.int .i64 (bplace (x : Int) (n : Int) k)) ∧ w' = W := by
  rw [bplace_nat x n k (by omega) hn2]
  exact int64_any y _ W h (by have h2 : nbx x (k + 1) / 8589934592 % n < n := Nat.mod_lt _ (by omega); omega)

theorem owns_le {w : World} {B B' : Nat} {e : TypeId} {size : Nat} {v : Value} {n : Nat} {xs : List Value} (h : w.ownsRow B e size v n xs) (hB : B' ≤ B) : w.ownsRow B' e size v n xs := by
  obtain ⟨h1, h2⟩ := h
  refine ⟨h1, ?_⟩
  rcases h2 with h2 | ⟨g, cap, cur, e1, e2, r⟩
  · exact .inl h2
  · exact .inr ⟨g, cap, cur, e1, Nat.le_trans hB e2, r⟩

set_option maxRecDepth 100000 in
set_option maxHeartbeats 4000000 in
theorem placesR (a s n x : Nat) (hx : x = a * 1000003 + s) (ha1 : 1 ≤ a) (ha2 : a ≤ 99) (hs1 : 1 ≤ s) (hs2 : s ≤ 1000000) (hn1 : 8 ≤ n) (hn2 : n ≤ 4096) (w : World) :
    Calls Tryd.prog 11 #[.agg #[.int .i64 a, .int .i64 s], .int .i64 n] w fun e w' => ∃ A c, e = .returned (.slice A 3 c) ∧ w'.ownsRow w.heap.size 3 1 (.slice A 3 c) 3 (ints (bplaces (x : Int) n 3)) ∧ Below w.heap.size w w' := by
  have HB := Lib.hid (And.intro ha1 (And.intro ha2 (And.intro hs1 (And.intro hs2 (And.intro hn1 hn2)))))
  have HX := Lib.hid (show x < 18446744073709551616 by omega)
  have HXE := Lib.hid hx
  clear hx
  have hNI := newint_any
  have HNI := Lib.hid hNI
  have HA := Lib.hid (show -9223372036854775808 ≤ (a : Int) ∧ (a : Int) ≤ 9223372036854775807 from ⟨by omega, by omega⟩)
  have HS := Lib.hid (show -9223372036854775808 ≤ (s : Int) ∧ (s : Int) ≤ 9223372036854775807 from ⟨by omega, by omega⟩)
  have HN := Lib.hid (show -9223372036854775808 ≤ (n : Int) ∧ (n : Int) ≤ 9223372036854775807 from ⟨by omega, by omega⟩)
  clear ha1 ha2 hs1 hs2 hn1 hn2 hNI
  go_enter Tryd.func11, Tryd.ntmps11
  go_wp2_with (first
    | (go_at_call_of 26 (Value.int .i64 1)
       (with_reducible refine (HNI.out 1 (by decide) (by decide) _).mono ?_)
       rintro e W1 ⟨g1, rfl, hg1, hI1, hb1⟩
       have hz1 := z_first hb1
       have H1 := Lib.hid hz1
       have HL := Lib.hid (lsh64 _ g1 W1 hz1.1 (ofI 1 hI1 rfl))
       clear hg1 hI1 hb1 hz1)
    | (go_at_call 25
       (with_reducible refine HL.out.mono ?_)
       rintro e W2 ⟨rfl, hN2, hO2⟩
       have h2 := start_mod H1.out hN2 hO2
       have q0 : (W2.alloc (.cells #[.bool false, .slice none 0 0] 69)).cell? ⟨w.heap.size, 0, none⟩ = some (.int .i64 a) := cell_below ((Below.refl _ _).alloc (Nat.le_refl _) _) (h2.2.1.cell 0)
       have H2 := Lib.hid h2
       clear hN2 hO2 h2)
    | (go_at_call_of 26 (Value.int .i64 (a : Int))
       (with_reducible refine (HNI.out (a : Int) HA.out.1 HA.out.2 _).mono ?_)
       rintro e W3 ⟨g2, rfl, hg2, hI2, hb2⟩
       have H3 := Lib.hid (And.intro hI2 hb2)
       clear hg2 hI2 hb2)
    | (go_at_call_of 26 (Value.int .i64 1000003)
       (with_reducible refine (HNI.out 1000003 (by decide) (by decide) _).mono ?_)
       rintro e W4 ⟨g3, rfl, hg3, hI3, hb3⟩
       have H4 := Lib.hid (start_x H2.out H3.out.1 H3.out.2 hI3 hb3 HB.out.2.1)
       clear hg3 hI3 hb3)
    | (go_at_call 27
       (with_reducible refine H4.out.2.mono ?_)
       rintro e W5 ⟨rfl, hN5, hO5⟩
       have h5 := start_pl H4.out.1 hN5 hO5
       have q1 : W5.cell? ⟨w.heap.size, 1, none⟩ = some (.int .i64 s) := h5.2.cell 1
       have H5 := Lib.hid h5
       clear hN5 hO5 h5)
    | (go_at_call_of 26 (Value.int .i64 (s : Int))
       (with_reducible refine (HNI.out (s : Int) HS.out.1 HS.out.2 _).mono ?_)
       rintro e W6 ⟨g4, rfl, hg4, hI4, hb4⟩
       have H6 := Lib.hid (start_add H5.out.1 hI4 hb4 HB.out.2.1 HB.out.2.2.2.1)
       clear hg4 hI4 hb4)
    | (go_at_call 28
       (with_reducible refine H6.out.2.mono ?_)
       rintro e W7 ⟨rfl, hN7, hO7⟩
       have H7 := Lib.hid (H6.out.1.op hN7 hO7)
       clear hN7 hO7))
  have h7 := H7.out
  rw [← HXE.out] at h7
  have H7 := Lib.hid h7
  clear h7
  obtain ⟨z, hz⟩ : ∃ z, z = W2.heap.size := ⟨_, rfl⟩
  obtain ⟨z0, hz0⟩ : ∃ z, z = w.heap.size + 1 := ⟨_, rfl⟩
  rw [← hz] at H7 ⊢
  rw [← hz0] at H7 ⊢
  have HZB := Lib.hid (show z0 < W7.heap.size ∧ z < W7.heap.size ∧ w.heap.size ≤ W7.heap.size ∧ Low W7 z0 W7.heap.size ∧ W7.heap.size ≤ W7.heap.size from ⟨H7.out.n0.lt, H7.out.n1.lt, H7.out.below.size, H7.out.n0.low (by decide), Nat.le_refl _⟩)
  obtain ⟨B, hB⟩ : ∃ B, B = W7.heap.size := ⟨_, rfl⟩
  rw [← hB] at HZB
  have HBW := Lib.hid (Nat.le_of_eq hB)
  clear q0 q1 H1 H2 H3 H4 H5 H6 HL HA HS hz hz0 hB
  go_loopw [7, 8] (fun v i wr => ∃ (k : Nat) (A : Option Addr) (c : Nat), k ≤ 3 ∧ i = .int .i64 k ∧ v = .slice A k c ∧ wr.ownsRow B 3 1 (.slice A k c) k (ints (bplaces (x : Int) n k)) ∧ Pl w wr z0 z (nbx x k) ∧ Low wr z0 B ∧ B ≤ wr.heap.size)
    (fun _ i _ => 3 - (intOf i).toNat)
  case atStart => exact ⟨0, none, 0, by omega, rfl, rfl, World.ownsRow_nil _ _ _ _, H7.out, HZB.out.2.2.2.1, HBW.out⟩
  case round =>
    obtain ⟨k, A, c, hk, rfl, rfl, hown, hPl, hLow, hBr⟩ := hrel
    have HR := Lib.hid (And.intro hown (And.intro hPl (And.intro hLow hBr)))
    have hkk : k < 3 ∨ k = 3 := by omega
    clear hown hPl hLow hk H7 hBr
    rcases hkk with hkk | rfl
    · have hki : (k : Int) < 3 := by omega
      have HK := Lib.hid hkk
      clear hkk
      go_wp2_with (first
        | (go_at_call_of 26 (Value.int .i64 6364136223846793005)
           (with_reducible refine (HNI.out 6364136223846793005 (by decide) (by decide) _).mono ?_)
           rintro e V1 ⟨g1, rfl, hg1, hI1, hb1⟩
           have M1 := Lib.hid (round_mul HR.out.2.1 (nbx_lt x HX.out k) hI1 hb1)
           have O1 := Lib.hid (Only.of_below (S := fun k => k = z) hb1)
           clear hg1 hI1 hb1)
        | (go_at_call 27
           (with_reducible refine M1.out.2.mono ?_)
           rintro e V2 ⟨rfl, hN2, hO2⟩
           have P2 := Lib.hid (M1.out.1.op hN2 hO2)
           have O2 := Lib.hid (O1.out.trans hO2)
           clear hN2 hO2)
        | (go_at_call_of 26 (Value.int .i64 1442695040888963407)
           (with_reducible refine (HNI.out 1442695040888963407 (by decide) (by decide) _).mono ?_)
           rintro e V3 ⟨g3, rfl, hg3, hI3, hb3⟩
           have M3 := Lib.hid (round_add P2.out (nbx_lt x HX.out k) hI3 hb3)
           have O3 := Lib.hid (O2.out.trans (Only.of_below (S := fun k => k = z) hb3))
           clear hg3 hI3 hb3)
        | (go_at_call 28
           (with_reducible refine M3.out.2.mono ?_)
           rintro e V4 ⟨rfl, hN4, hO4⟩
           have p4 := M3.out.1.op hN4 hO4
           have P4 := Lib.hid (And.intro p4 (round_mod p4 (nbx_lt x HX.out k)))
           have O4 := Lib.hid (O3.out.trans hO4)
           clear hN4 hO4 p4)
        | (go_at_call_of 29 (Value.pointer (some ⟨z, 0, none⟩))
           (with_reducible refine P4.out.2.mono ?_)
           rintro e V5 ⟨⟨rfl, hN5, hO5⟩, hw5⟩
           have p5 := P4.out.1.op hN5 hO5
           have P5 := Lib.hid (And.intro p5 (y_rsh p5 (nbx_lt x HX.out (k + 1))))
           have O5 := Lib.hid (And.intro (O4.out.trans hO5) (hw5.mono O4.out.size))
           clear hN5 hO5 p5 hw5)
        | (go_at_call 30
           (with_reducible refine P5.out.2.mono ?_)
           rintro e V6 ⟨rfl, hN6, hO6⟩
           have N6 := Lib.hid (And.intro hN6 (y_made hO6))
           clear hN6 hO6)
        | (go_at_call_of 26 (Value.int .i64 (n : Int))
           (with_reducible refine (HNI.out (n : Int) HN.out.1 HN.out.2 _).mono ?_)
           rintro e V7 ⟨g7, rfl, hg7, hI7, hb7⟩
           have M7 := Lib.hid (And.intro (y_mod N6.out.1 (Nat.lt_of_le_of_lt (Nat.div_le_self _ _) (nbx_lt x HX.out (k + 1))) hI7 hb7 HB.out.2.2.2.2.1 HB.out.2.2.2.2.2) (N6.out.2.trans (hb7.mono N6.out.2.size)))
           clear hg7 hI7 hb7)
        | (go_at_call 29
           (with_reducible refine M7.out.1.mono ?_)
           rintro e V8 ⟨⟨rfl, hN8, hO8⟩, hw8⟩
           have hb8 : Below V5.heap.size V5 V8 := M7.out.2.trans (hO8.below M7.out.2.size (fun k hk e => Nat.lt_irrefl _ (e ▸ hk)))
           have hi8 := int64_is hN8 HB.out.2.2.2.2.1 HB.out.2.2.2.2.2
           have hown8 : V8.ownsRow B 3 1 (.slice A k c) k (ints (bplaces (x : Int) n k)) := owns_below (row_off HR.out.1 HR.out.2.1.n1.z O5.out.1) hb8
           have HBV := Lib.hid (Nat.le_trans HR.out.2.2.2 (Nat.le_trans O5.out.1.size hb8.size))
           have N8 := Lib.hid (And.intro hi8 (And.intro hown8 (And.intro (P5.out.1.new hb8) (And.intro (O5.out.2.below P5.out.1.n1.lt hb8) ((HR.out.2.2.1.only HR.out.2.1.n0.lt O5.out.1 HR.out.2.1.ne).only (Nat.lt_of_lt_of_le HR.out.2.1.n0.lt O5.out.1.size) (Only.of_below (S := fun k => k = z) hb8) HR.out.2.1.ne)))))
           clear hN8 hO8 hw8 hb8 hi8 hown8)
        | (go_at_call 31
           (with_reducible refine N8.out.1.mono ?_)
           first | (rintro e V9 rfl rfl) | (rintro e V9 ⟨rfl, rfl⟩)
           obtain ⟨pl, hpl⟩ : ∃ p, p = bplace (x : Int) n k := ⟨_, rfl⟩
           rw [← hpl]
           have HPL := Lib.hid hpl
           clear hpl)
        | (at_builtin; refine wpList_push _ rfl (.tmp 49) (.tmp 52) _ rfl B 3 Tryd.underlying44 infoInt rfl (by decide) (by decide) _ _ _ rfl N8.out.2.1 _ rfl rfl ?_ (by have := HK.out; omega) HBV.out ?_))
      · rfl
      · intro A' c' w2 hown' hg
        have hps := Pl.push N8.out.2.2.1 HR.out.1 HZB.out.2.2.1 HZB.out.1 HZB.out.2.1 N8.out.2.2.2.2 N8.out.2.2.2.1 hg
        have hrow : w2.ownsRow B 3 1 (.slice A' (k + 1) c') (k + 1) (ints (bplaces (x : Int) n (k + 1))) := by rw [bplaces_succ, ← HPL.out]; exact hown'
        have HE := Lib.hid (And.intro hrow (And.intro hps.1 (And.intro hps.2 (Nat.le_trans HBV.out hg.size))))
        clear hown' hg hps hrow
        go_wp2_with fail
        go_roundw
        case rel => exact ⟨k + 1, A', c', by have := HK.out; omega, by go_num, rfl, HE.out⟩
        case measure => have := HK.out; simp [intOf]; omega
    · go_wp2_with fail
      go_ret
      exact ⟨A, c, rfl, owns_le HR.out.1 HZB.out.2.2.1, HR.out.2.1.below⟩
end Go.Proofs.YtfnigdbnkdofiaaDoor
