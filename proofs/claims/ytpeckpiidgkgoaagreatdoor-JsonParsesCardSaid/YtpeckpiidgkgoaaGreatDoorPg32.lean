/- TreeLike, JsonParsesWalk. -/
import Derived.Test.YtpeckpiidgkgoaaGreatDoorPg31
import Derived.Test.YtpeckpiidgkgoaaGreatDoorPg19
import Derived.Test.YtpeckpiidgkgoaaGreatDoorPg29
/- booksame.Error, booklaw3.tree: of what is as it should be they say so. -/
namespace Go.Proofs.YtpeckpiidgkgoaaGreatDoor
open Go.RowKit
set_option linter.unusedVariables false
set_option linter.unusedSimpArgs false

set_option maxRecDepth 100000 in
set_option maxHeartbeats 2000000 in
theorem tree_like (T S : PT) (W0 w : World) (hT : InJ W0 T) (hS : InJ W0 S) (he : T.tree = S.tree) (hb : Below W0.heap.size W0 w) (ev : Value) (e : Int) (h : ErrIs ev e) (hg : ErrVar w) :
    Calls Tryz.prog 6 #[T.value, ev, S.value, .int .i64 e] w (BoolIs w true) := by
  have HE := Lib.hid (fun (w1 : World) (g : ErrVar w1) => error_like ev e w1 h g)
  have HS := Lib.hid (fun (w1 : World) (g : Below W0.heap.size W0 w1) => same_any T S W0 hT hS he w1 g)
  have HB := Lib.hid (And.intro hb hg)
  clear h hT hS he hb hg
  rw [PT.value_eq, PT.value_eq] at HS ⊢
  go_enter Tryz.func6, Tryz.ntmps6
  go_wp2_with fail
  refine (HE.out _ ((HB.out.2.alloc _).alloc _)).mono ?_
  rintro e w1 ⟨rfl, hb1⟩
  obtain ⟨hb, hX, hY, _⟩ := boxes2 hb1
  have H1 := Lib.hid (And.intro hb (HB.out.1.trans (hb.mono HB.out.1.size)))
  have hlt1 := hX.lt
  have hlt2 := hY.lt
  have c0 : w1.cell? ⟨w.heap.size, 0, none⟩ = some (.int .i64 T.val.k) := hX.cell 0
  have c1 : w1.cell? ⟨w.heap.size, 1, none⟩ = some (.int .i64 T.val.n) := hX.cell 1
  have c2 : w1.cell? ⟨w.heap.size, 2, none⟩ = some (.string T.val.s) := hX.cell 2
  have c3 : w1.cell? ⟨w.heap.size, 3, none⟩ = some (.int .i64 T.val.o) := hX.cell 3
  have c4 : w1.cell? ⟨w.heap.size, 4, none⟩ = some (.int .i64 T.val.p) := hX.cell 4
  have c5 : w1.cell? ⟨w.heap.size, 5, none⟩ = some (.slice T.kA T.keys.length T.kc) := hX.cell 5
  have c6 : w1.cell? ⟨w.heap.size, 6, none⟩ = some (.slice T.cA T.kids.length T.cc) := hX.cell 6
  have d0 : w1.cell? ⟨w.heap.size + 1, 0, none⟩ = some (.int .i64 S.val.k) := hY.cell 0
  have d1 : w1.cell? ⟨w.heap.size + 1, 1, none⟩ = some (.int .i64 S.val.n) := hY.cell 1
  have d2 : w1.cell? ⟨w.heap.size + 1, 2, none⟩ = some (.string S.val.s) := hY.cell 2
  have d3 : w1.cell? ⟨w.heap.size + 1, 3, none⟩ = some (.int .i64 S.val.o) := hY.cell 3
  have d4 : w1.cell? ⟨w.heap.size + 1, 4, none⟩ = some (.int .i64 S.val.p) := hY.cell 4
  have d5 : w1.cell? ⟨w.heap.size + 1, 5, none⟩ = some (.slice S.kA S.keys.length S.kc) := hY.cell 5
  have d6 : w1.cell? ⟨w.heap.size + 1, 6, none⟩ = some (.slice S.cA S.kids.length S.cc) := hY.cell 6
  clear hb1 hb hX hY
  go_wp2_with fail
  refine (HS.out _ H1.out.2).mono ?_
  clear c0 c1 c2 c3 c4 c5 c6 d0 d1 d2 d3 d4 d5 d6 hlt1 hlt2
  rintro e w2 ⟨rfl, hb2⟩
  have H2 := Lib.hid (H1.out.1.trans (hb2.mono H1.out.1.size))
  clear hb2
  go_wp2_with fail
  go_ret
  exact ⟨rfl, H2.out⟩
end Go.Proofs.YtpeckpiidgkgoaaGreatDoor
/- booklaw3.JsonParses: the walk. -/
namespace Go.Proofs.YtpeckpiidgkgoaaGreatDoor
open Go.RowKit
set_option linter.unusedVariables false
set_option linter.unusedSimpArgs false

def z7 : JV := ⟨0, 0, ⟨#[]⟩, 0, 0⟩
theorem z7_fit : z7.Fit := ⟨by unfold I64 z7; decide, by unfold I64 z7; decide, by decide, by unfold I64 z7; decide, by unfold I64 z7; decide⟩
theorem jp_ok (s : ByteArray) (hm : s.size ≤ maxLen) (t : JT) (hP : parseF Num (toN s) = .ok t) (w : World) (hp : Pow10 w) (he : ErrAt w) :
    Calls Tryz.prog 5 #[.string s] w fun e w' => ∃ U : PT, e = .returned (.tuple #[.agg #[.int .i64 U.val.k, .int .i64 U.val.n, .string U.val.s, .int .i64 U.val.o, .int .i64 U.val.p, .slice U.kA U.keys.length U.kc, .slice U.cA U.kids.length U.cc], .int .i64 0, .nilIface]) ∧ U.tree = t ∧ InJ w' U ∧ Below w.heap.size w w' := by
  refine (parse_any s hm w hp he).mono ?_
  intro e w' h
  unfold ParseQ at h
  rw [hP] at h
  obtain ⟨⟨U, h1, h2, _, _, h3⟩, hb⟩ := h
  exact ⟨U, h1, h3, h2.inJ, hb⟩
theorem jp_err (s : ByteArray) (hm : s.size ≤ maxLen) (a : Nat) (x : Int) (hP : parseF Num (toN s) = .error (a, x)) (w : World) (hp : Pow10 w) (he : ErrAt w) :
    Calls Tryz.prog 5 #[.string s] w fun e w' => e = .returned (.tuple #[.agg #[.int .i64 0, .int .i64 0, .string ⟨#[]⟩, .int .i64 0, .int .i64 0, .slice none 0 0, .slice none 0 0], .int .i64 a, .iface 43 (.int .i64 x)]) ∧ Below w.heap.size w w' := by
  refine (parse_any s hm w hp he).mono ?_
  intro e w' h
  unfold ParseQ at h
  rw [hP] at h
  exact ⟨h.1, h.2⟩
theorem rp_ok (s : ByteArray) (hm : s.size ≤ maxLen) (t : JT) (hP : parseF Num (toN s) = .ok t) (w : World) :
    Calls Tryz.prog 4 #[.string s] w fun e w' => ∃ U : PT, e = .returned (.tuple #[.agg #[.int .i64 U.val.k, .int .i64 U.val.n, .string U.val.s, .int .i64 U.val.o, .int .i64 U.val.p, .slice U.kA U.keys.length U.kc, .slice U.cA U.kids.length U.cc], .int .i64 0, .int .i64 0]) ∧ U.tree = t ∧ InJ w' U ∧ Below w.heap.size w w' := by
  refine (rparse_any s hm w).mono ?_
  intro e w' h
  unfold RParseQ at h
  rw [hP] at h
  obtain ⟨⟨U, h1, h2, _, _, h3⟩, hb⟩ := h
  exact ⟨U, h1, h3, h2.inJ, hb⟩
theorem rp_err (s : ByteArray) (hm : s.size ≤ maxLen) (a : Nat) (x : Int) (hP : parseF Num (toN s) = .error (a, x)) (w : World) :
    Calls Tryz.prog 4 #[.string s] w fun e w' => e = .returned (.tuple #[.agg #[.int .i64 0, .int .i64 0, .string ⟨#[]⟩, .int .i64 0, .int .i64 0, .slice none 0 0, .slice none 0 0], .int .i64 a, .int .i64 x]) ∧ (x = 2 ∨ x = 4) ∧ Below w.heap.size w w' := by
  refine (rparse_any s hm w).mono ?_
  intro e w' h
  unfold RParseQ at h
  rw [hP] at h
  exact ⟨h.1.2, h.1.1, h.2⟩
set_option maxRecDepth 100000 in
set_option maxHeartbeats 4000000 in
theorem jsonParses_walk (s : ByteArray) (hm : s.size ≤ maxLen) (w : World) (hp : Pow10 w) (he : ErrAt w) (hg : ErrVar w) :
    Calls Tryz.prog 3 #[.string s] w fun e w' => e = .returned (.bool true) ∧ Below w.heap.size w w' := by
  have HH := Lib.hid (And.intro hm (And.intro hp (And.intro he hg)))
  clear hm hp he hg
  cases hP : parseF Num (toN s) with
  | error q =>
    obtain ⟨a, x⟩ := q
    have HP := Lib.hid hP
    clear hP
    go_enter Tryz.func3, Tryz.ntmps3
    go_wp2_with (go_at_call 4; (with_reducible refine (rp_err s HH.out.1 a x HP.out _).mono ?_); rintro e w1 ⟨rfl, hx, hb1⟩; have HX := Lib.hid hx; have HB1 := Lib.hid hb1; clear hx hb1)
    refine calls_at (fun W => Below w.heap.size w W ∧ Blk W w1.heap.size 29 #[.int .i64 0, .int .i64 0, .string ⟨#[]⟩, .int .i64 0, .int .i64 0, .slice none 0 0, .slice none 0 0]) ⟨HB1.out.alloc HB1.out.size _, Blk.new w1 _ _⟩ ?_
    rintro W2 ⟨k1, k2⟩
    have H2 := Lib.hid (And.intro k1 k2)
    refine (jp_err s HH.out.1 a x HP.out W2 (HH.out.2.1.below k1) (HH.out.2.2.1.below k1)).mono ?_
    rintro e w3 ⟨rfl, hb3⟩
    have k3 := k2.below hb3 k2.lt
    obtain ⟨r0, r1, r2, r3, r4, r5, r6, zr⟩ := res_cells k3
    have hlt := k3.lt
    have H3 := Lib.hid (And.intro (k1.trans (hb3.mono k1.size)) k3)
    clear k1 k2 k3 hb3
    go_wp2_with fail
    refine calls_at (fun W => Below w.heap.size w W) (H3.out.1.alloc H3.out.1.size _) ?_
    clear r0 r1 r2 r3 r4 r5 r6 zr hlt
    intro W5 hb5
    have HB5 := Lib.hid hb5
    refine (tree_like (leafP z7) (leafP z7) W5 W5 (leaf_own _ _ z7_fit).inJ (leaf_own _ _ z7_fit).inJ rfl (Below.refl _ _) (.iface 43 (.int .i64 x)) x (.inr ⟨rfl, by unfold I64; have := HX.out; omega⟩) (HH.out.2.2.2.below hb5)).mono ?_
    rintro e w6 ⟨rfl, hb6⟩
    have HB6 := Lib.hid (HB5.out.trans (hb6.mono HB5.out.size))
    clear hb6 hb5
    go_wp2_with fail
    go_ret
    exact ⟨rfl, HB6.out⟩
  | ok t =>
    have HP := Lib.hid hP
    clear hP
    go_enter Tryz.func3, Tryz.ntmps3
    go_wp2_with (go_at_call 4; (with_reducible refine (rp_ok s HH.out.1 t HP.out _).mono ?_); rintro e w1 ⟨S, rfl, hS, hSi, hb1⟩; have HS := Lib.hid (And.intro hS hSi); have HB1 := Lib.hid hb1; clear hS hSi hb1)
    refine calls_at (fun W => Below w.heap.size w W ∧ Blk W w1.heap.size 29 #[.int .i64 S.val.k, .int .i64 S.val.n, .string S.val.s, .int .i64 S.val.o, .int .i64 S.val.p, .slice S.kA S.keys.length S.kc, .slice S.cA S.kids.length S.cc] ∧ InJ W S) ⟨HB1.out.alloc HB1.out.size _, Blk.new w1 _ _, HS.out.2.alloc _⟩ ?_
    rintro W2 ⟨k1, k2, ki⟩
    refine (jp_ok s HH.out.1 t HP.out W2 (HH.out.2.1.below k1) (HH.out.2.2.1.below k1)).mono ?_
    rintro e w3 ⟨U, rfl, hU, hUi, hb3⟩
    have k3 := k2.below hb3 k2.lt
    obtain ⟨r0, r1, r2, r3, r4, r5, r6, zr⟩ := res_cells k3
    have hlt := k3.lt
    have H3 := Lib.hid (And.intro (k1.trans (hb3.mono k1.size)) (And.intro k3 (And.intro (ki.below hb3) (And.intro hUi (hU.trans HS.out.1.symm)))))
    clear k1 k2 k3 ki hb3 hU hUi
    go_wp2_with fail
    refine calls_at (fun W => Below w.heap.size w W ∧ InJ W U ∧ InJ W S) ⟨H3.out.1.alloc H3.out.1.size _, H3.out.2.2.2.1.alloc _, H3.out.2.2.1.alloc _⟩ ?_
    clear r0 r1 r2 r3 r4 r5 r6 zr hlt
    rintro W5 ⟨hb5, hu5, hs5⟩
    have HB5 := Lib.hid hb5
    have ht := tree_like U S W5 W5 hu5 hs5 H3.out.2.2.2.2 (Below.refl _ _) .nilIface 0 (.inl ⟨rfl, rfl⟩) (HH.out.2.2.2.below hb5)
    rw [PT.value_eq, PT.value_eq] at ht
    refine ht.mono ?_
    clear ht hu5 hs5
    rintro e w6 ⟨rfl, hb6⟩
    have HB6 := Lib.hid (HB5.out.trans (hb6.mono HB5.out.size))
    clear hb6 hb5
    go_wp2_with fail
    go_ret
    exact ⟨rfl, HB6.out⟩
end Go.Proofs.YtpeckpiidgkgoaaGreatDoor
