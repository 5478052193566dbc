/- booklaw3.JsonGets: the walk. -/
import Derived.Test.YtljemaapicaioaaDoorTreeLike
import Derived.Test.YtljemaapicaioaaDoorRefGet
import Derived.Test.YtljemaapicaioaaDoorBare
namespace Go.Proofs.YtljemaapicaioaaDoor
open Go.RowKit
set_option linter.unusedVariables false
set_option linter.unusedSimpArgs false

/-- What the reference wants, as a tree and a number. -/
structure Want (t : JT) (p : List St) (S : JT) (e : Int) : Prop where
  bad : rcheckN t ≠ 0 → S = (PT.bare zeroV).tree ∧ e = rcheckN t
  none : rcheckN t = 0 → t.get p = none → S = (PT.bare zeroV).tree ∧ e = 6
  some : rcheckN t = 0 → ∀ x, t.get p = some x → S = x ∧ e = 0

/-- What Get gives is what is wanted. -/
theorem get_like {w w' : World} {T S : PT} {p : List St} {e : Int} {en : Ending} (hq : GetQ w T p en w') (hw : Want T.tree p S.tree e) :
    ∃ (G : PT) (ev : Value), en = .returned (.tuple #[G.value, ev]) ∧ InJ w' G ∧ G.tree = S.tree ∧ ErrIs ev e := by
  obtain ⟨_, hq⟩ := hq
  rcases hq with ⟨h1, rfl⟩ | ⟨h1, h2⟩
  · rcases check_both T.tree with ⟨h, _⟩ | ⟨_, hn, he⟩
    · exact absurd h h1
    · obtain ⟨hS, rfl⟩ := hw.bad hn
      exact ⟨PT.bare zeroV, checkV T.tree, by rw [zTree_eq], PT.bare_in _ zeroV_fit, hS.symm, he⟩
  · have hn : rcheckN T.tree = 0 := by
      rcases check_both T.tree with ⟨_, h⟩ | ⟨h, _⟩
      · exact h
      · exact absurd h1 h
    rcases h2 with ⟨hg, rfl⟩ | ⟨G, hg, rfl, ho, _⟩
    · obtain ⟨hS, rfl⟩ := hw.none hn hg
      exact ⟨PT.bare zeroV, _, by rw [zTree_eq], PT.bare_in _ zeroV_fit, hS.symm, .inr ⟨rfl, by unfold I64; omega⟩⟩
    · obtain ⟨hS, rfl⟩ := hw.some hn _ hg
      exact ⟨G, _, rfl, ho.inJ, hS.symm, .inl ⟨rfl, rfl⟩⟩

/-- The tree's box, and the wanted one's. -/
structure GBox (w : World) (g : Nat) (T S : PT) (W : World) : Prop where
  bel : Below w.heap.size w W
  t : Blk W w.heap.size 47 #[.int .i64 T.val.k, .int .i64 T.val.n, .string T.val.s, .int .i64 T.val.o, .int .i64 T.val.p, .slice T.kA T.keys.length T.kc, .slice T.cA T.kids.length T.cc]
  s : Blk W g 47 #[.int .i64 S.val.k, .int .i64 S.val.n, .string S.val.s, .int .i64 S.val.o, .int .i64 S.val.p, .slice S.kA S.keys.length S.kc, .slice S.cA S.kids.length S.cc]
  i : InJ W S
theorem rcheck_formed {t : JT} (h : rcheckN t = 0) : t.formed = true := by
  rcases check_both t with ⟨g, _⟩ | ⟨_, g, _⟩
  · exact (checkV_ok g).1
  · exact absurd h g
theorem GBox.below {w W W' : World} {g : Nat} {T S : PT} (h : GBox w g T S W) (hb : Below W.heap.size W W') : GBox w g T S W' :=
  ⟨h.bel.trans (hb.mono h.bel.size), h.t.below hb h.t.lt, h.s.below hb h.s.lt, h.i.below hb⟩

set_option maxRecDepth 100000 in
set_option maxHeartbeats 4000000 in
theorem jsonGets_walk (w : World) (hg : ErrVar w) (tv : Value) (T : PT) (hT : IsTree w tv T) (pv : Value) (p : List St) (hp : IsSteps w pv p) :
    Calls Tryd.prog 5 #[tv, pv] w fun e w' => e = .returned (.bool true) ∧ Below w.heap.size w w' := by
  obtain ⟨rfl, hT⟩ := hT
  obtain ⟨A, c, rfl, hA, hl, hcap⟩ := hp
  have HH := Lib.hid (And.intro hT (And.intro hA (And.intro hl (And.intro hcap hg))))
  clear hT hA hl hcap hg
  rw [PT.value_eq]
  go_enter Tryd.func5, Tryd.ntmps5
  go_wp2_with fail
  refine (rcheck_any T w _ HH.out.1 ((Below.refl _ _).alloc (Nat.le_refl _) _)).mono ?_
  rintro e w1 ⟨rfl, hb1⟩
  obtain ⟨hb, hX⟩ := box1 hb1
  have H1 := Lib.hid (And.intro hb hX)
  obtain ⟨n, hn⟩ : ∃ n, rcheckN T.tree = n := ⟨_, rfl⟩
  rw [hn]
  have HN := Lib.hid hn
  have hlt := hX.lt
  have c0 : w1.cell? ⟨w.heap.size, 0, none⟩ = some (.int .i64 T.val.k) := hX.cell 0
  have c1 : w1.cell? ⟨w.heap.size, 1, none⟩ = some (.int .i64 T.val.n) := hX.cell 1
  have c2 : w1.cell? ⟨w.heap.size, 2, none⟩ = some (.string T.val.s) := hX.cell 2
  have c3 : w1.cell? ⟨w.heap.size, 3, none⟩ = some (.int .i64 T.val.o) := hX.cell 3
  have c4 : w1.cell? ⟨w.heap.size, 4, none⟩ = some (.int .i64 T.val.p) := hX.cell 4
  have c5 : w1.cell? ⟨w.heap.size, 5, none⟩ = some (.slice T.kA T.keys.length T.kc) := hX.cell 5
  have c6 : w1.cell? ⟨w.heap.size, 6, none⟩ = some (.slice T.cA T.kids.length T.cc) := hX.cell 6
  clear hb1 hb hX hn
  by_cases h0 : n = 0
  · subst h0
    go_wp2_with fail
    have hg1 := rget_any T A c p (w1.alloc (.cells #[.int .i64 0, .int .i64 0, .string ⟨#[]⟩, .int .i64 0, .int .i64 0, .slice none 0 0, .slice none 0 0] 47)) (HH.out.1.below (H1.out.1.trans ((Below.refl _ _).alloc H1.out.1.size _))) (HH.out.2.1.below (H1.out.1.trans ((Below.refl _ _).alloc H1.out.1.size _))) HH.out.2.2.1 (rcheck_formed HN.out)
    rw [PT.value_eq] at hg1
    refine hg1.mono ?_
    clear hg1 c0 c1 c2 c3 c4 c5 c6 hlt
    rintro e w2 ⟨hb2, hr⟩
    have hbb := H1.out.1.trans (((Below.refl _ w1).alloc (Nat.le_refl _) _).trans (hb2.mono (by simp)) |>.mono H1.out.1.size)
    have HB2 := Lib.hid hb2
    have hX2 := (H1.out.2.alloc _).below hb2 (H1.out.2.alloc _).lt
    have hZ2 := (Blk.new w1 47 _).below hb2 (by simp)
    have H2 := Lib.hid (And.intro hbb (And.intro hX2 hZ2))
    have hlt1 := hX2.lt
    have hlt2 := hZ2.lt
    have c0 : w2.cell? ⟨w.heap.size, 0, none⟩ = some (.int .i64 T.val.k) := hX2.cell 0
    have c1 : w2.cell? ⟨w.heap.size, 1, none⟩ = some (.int .i64 T.val.n) := hX2.cell 1
    have c2 : w2.cell? ⟨w.heap.size, 2, none⟩ = some (.string T.val.s) := hX2.cell 2
    have c3 : w2.cell? ⟨w.heap.size, 3, none⟩ = some (.int .i64 T.val.o) := hX2.cell 3
    have c4 : w2.cell? ⟨w.heap.size, 4, none⟩ = some (.int .i64 T.val.p) := hX2.cell 4
    have c5 : w2.cell? ⟨w.heap.size, 5, none⟩ = some (.slice T.kA T.keys.length T.kc) := hX2.cell 5
    have c6 : w2.cell? ⟨w.heap.size, 6, none⟩ = some (.slice T.cA T.kids.length T.cc) := hX2.cell 6
    have z0 : w2.cell? ⟨w1.heap.size, 0, none⟩ = some (.int .i64 0) := hZ2.cell 0
    have z1 : w2.cell? ⟨w1.heap.size, 1, none⟩ = some (.int .i64 0) := hZ2.cell 1
    have z2 : w2.cell? ⟨w1.heap.size, 2, none⟩ = some (.string ⟨#[]⟩) := hZ2.cell 2
    have z3 : w2.cell? ⟨w1.heap.size, 3, none⟩ = some (.int .i64 0) := hZ2.cell 3
    have z4 : w2.cell? ⟨w1.heap.size, 4, none⟩ = some (.int .i64 0) := hZ2.cell 4
    have z5 : w2.cell? ⟨w1.heap.size, 5, none⟩ = some (.slice none 0 0) := hZ2.cell 5
    have z6 : w2.cell? ⟨w1.heap.size, 6, none⟩ = some (.slice none 0 0) := hZ2.cell 6
    have zf := hZ2.frozen
    have hs12 : w1.heap.size ≠ w.heap.size := by have := H1.out.2.lt; omega
    clear hb2 hbb hX2 hZ2
    rcases hr with ⟨hn, rfl⟩ | ⟨X, is, hgt, rfl, hL⟩
    · unfold zTree
      have HW := Lib.hid (show Want T.tree p (PT.bare zeroV).tree 6 from ⟨fun h => absurd HN.out h, fun _ _ => ⟨rfl, rfl⟩, fun _ x h => by rw [hn] at h; cases h⟩)
      clear hn z0 z1 z2 z3 z4 z5 z6 zf
      go_wp2_with fail
      refine calls_at (fun W => GBox w w1.heap.size T (PT.bare zeroV) W) ⟨H2.out.1.trans ((Below.refl _ _).alloc H2.out.1.size _), H2.out.2.1.alloc _, H2.out.2.2.alloc _, PT.bare_in _ zeroV_fit⟩ ?_
      clear c0 c1 c2 c3 c4 c5 c6 hlt1 hlt2
      rintro W3 hG3
      have HG3 := Lib.hid hG3
      refine (get_any T A c p W3 (HH.out.1.below hG3.bel) (HH.out.2.1.below hG3.bel) HH.out.2.2.1).mono ?_
      clear hG3
      rintro en W4 hq
      have hb4 := hq.1
      obtain ⟨G, ev, rfl, hGi, hGt, hE⟩ := get_like hq HW.out
      have HG4 := Lib.hid (And.intro (HG3.out.below hb4) (And.intro hGi (And.intro hGt hE)))
      clear hq hb4 hGi hGt hE
      rw [PT.value_eq]
      have hltg := HG4.out.1.s.lt
      have s0 : W4.cell? ⟨w1.heap.size, 0, none⟩ = some (.int .i64 (PT.bare zeroV).val.k) := HG4.out.1.s.cell 0
      have s1 : W4.cell? ⟨w1.heap.size, 1, none⟩ = some (.int .i64 (PT.bare zeroV).val.n) := HG4.out.1.s.cell 1
      have s2 : W4.cell? ⟨w1.heap.size, 2, none⟩ = some (.string (PT.bare zeroV).val.s) := HG4.out.1.s.cell 2
      have s3 : W4.cell? ⟨w1.heap.size, 3, none⟩ = some (.int .i64 (PT.bare zeroV).val.o) := HG4.out.1.s.cell 3
      have s4 : W4.cell? ⟨w1.heap.size, 4, none⟩ = some (.int .i64 (PT.bare zeroV).val.p) := HG4.out.1.s.cell 4
      have s5 : W4.cell? ⟨w1.heap.size, 5, none⟩ = some (.slice (PT.bare zeroV).kA (PT.bare zeroV).keys.length (PT.bare zeroV).kc) := HG4.out.1.s.cell 5
      have s6 : W4.cell? ⟨w1.heap.size, 6, none⟩ = some (.slice (PT.bare zeroV).cA (PT.bare zeroV).kids.length (PT.bare zeroV).cc) := HG4.out.1.s.cell 6
      go_wp2_with fail
      clear s0 s1 s2 s3 s4 s5 s6 hltg
      refine calls_at (fun W => Below w.heap.size w W ∧ InJ W G ∧ InJ W (PT.bare zeroV)) ⟨HG4.out.1.bel.trans ((Below.refl _ _).alloc HG4.out.1.bel.size _), HG4.out.2.1.alloc _, HG4.out.1.i.alloc _⟩ ?_
      rintro W5 ⟨hb5, hG5, hS5⟩
      have ht := tree_like G (PT.bare zeroV) W5 W5 hG5 hS5 HG4.out.2.2.1 (Below.refl _ _) ev 6 HG4.out.2.2.2 (HH.out.2.2.2.2.below hb5)
      rw [PT.value_eq, PT.value_eq] at ht
      refine ht.mono ?_
      clear ht hG5 hS5
      rintro e W6 ⟨rfl, hb6⟩
      have H6 := Lib.hid (hb5.trans (hb6.mono hb5.size))
      clear hb5 hb6
      go_wp2_with fail
      go_ret
      exact ⟨rfl, H6.out⟩
    · have HW := Lib.hid (show Want T.tree p X.tree 0 from ⟨fun h => absurd HN.out h, fun _ h => (by rw [hgt] at h; cases h), fun _ x h => (by rw [hgt] at h; injection h with h; exact ⟨h, rfl⟩)⟩)
      have HX0 := Lib.hid (hL.inJ HH.out.1)
      have ho := only7 w2 w1.heap.size (.int .i64 X.val.k) (.int .i64 X.val.n) (.string X.val.s) (.int .i64 X.val.o) (.int .i64 X.val.p) (.slice X.kA X.keys.length X.kc) (.slice X.cA X.kids.length X.cc) 0 1 2 3 4 5 6
      have hbo := (H2.out.1.trans (ho.below H2.out.1.size (fun q hq e => by have := H1.out.1.size; omega)))
      have HO := Lib.hid (And.intro hbo (And.intro (H2.out.2.1.only ho (fun e => hs12 e.symm)) (blk7 (.int .i64 X.val.k) (.int .i64 X.val.n) (.string X.val.s) (.int .i64 X.val.o) (.int .i64 X.val.p) (.slice X.kA X.keys.length X.kc) (.slice X.cA X.kids.length X.cc) H2.out.2.2)))
      clear hgt hL ho hbo
      rw [PT.value_eq]
      go_wp2_with fail
      refine calls_at (fun W => GBox w w1.heap.size T X W) ⟨HO.out.1.trans ((Below.refl _ _).alloc HO.out.1.size _), HO.out.2.1.alloc _, HO.out.2.2.alloc _, HX0.out.below (HO.out.1.trans ((Below.refl _ _).alloc HO.out.1.size _))⟩ ?_
      clear c0 c1 c2 c3 c4 c5 c6 z0 z1 z2 z3 z4 z5 z6 zf hlt1 hlt2 hs12
      rintro W3 hG3
      have HG3 := Lib.hid hG3
      refine (get_any T A c p W3 (HH.out.1.below hG3.bel) (HH.out.2.1.below hG3.bel) HH.out.2.2.1).mono ?_
      clear hG3
      rintro en W4 hq
      have hb4 := hq.1
      obtain ⟨G, ev, rfl, hGi, hGt, hE⟩ := get_like hq HW.out
      have HG4 := Lib.hid (And.intro (HG3.out.below hb4) (And.intro hGi (And.intro hGt hE)))
      clear hq hb4 hGi hGt hE
      rw [PT.value_eq]
      have hltg := HG4.out.1.s.lt
      have s0 : W4.cell? ⟨w1.heap.size, 0, none⟩ = some (.int .i64 X.val.k) := HG4.out.1.s.cell 0
      have s1 : W4.cell? ⟨w1.heap.size, 1, none⟩ = some (.int .i64 X.val.n) := HG4.out.1.s.cell 1
      have s2 : W4.cell? ⟨w1.heap.size, 2, none⟩ = some (.string X.val.s) := HG4.out.1.s.cell 2
      have s3 : W4.cell? ⟨w1.heap.size, 3, none⟩ = some (.int .i64 X.val.o) := HG4.out.1.s.cell 3
      have s4 : W4.cell? ⟨w1.heap.size, 4, none⟩ = some (.int .i64 X.val.p) := HG4.out.1.s.cell 4
      have s5 : W4.cell? ⟨w1.heap.size, 5, none⟩ = some (.slice X.kA X.keys.length X.kc) := HG4.out.1.s.cell 5
      have s6 : W4.cell? ⟨w1.heap.size, 6, none⟩ = some (.slice X.cA X.kids.length X.cc) := HG4.out.1.s.cell 6
      go_wp2_with fail
      clear s0 s1 s2 s3 s4 s5 s6 hltg
      refine calls_at (fun W => Below w.heap.size w W ∧ InJ W G ∧ InJ W X) ⟨HG4.out.1.bel.trans ((Below.refl _ _).alloc HG4.out.1.bel.size _), HG4.out.2.1.alloc _, HG4.out.1.i.alloc _⟩ ?_
      rintro W5 ⟨hb5, hG5, hS5⟩
      have ht := tree_like G X W5 W5 hG5 hS5 HG4.out.2.2.1 (Below.refl _ _) ev 0 HG4.out.2.2.2 (HH.out.2.2.2.2.below hb5)
      rw [PT.value_eq, PT.value_eq] at ht
      refine ht.mono ?_
      clear ht hG5 hS5
      rintro e W6 ⟨rfl, hb6⟩
      have H6 := Lib.hid (hb5.trans (hb6.mono hb5.size))
      clear hb5 hb6
      go_wp2_with fail
      go_ret
      exact ⟨rfl, H6.out⟩
  · have h0b : (n == 0) = false := by simpa using h0
    go_wp2_with fail
    have HW := Lib.hid (show Want T.tree p (PT.bare zeroV).tree n from ⟨fun _ => ⟨rfl, HN.out.symm⟩, fun h => absurd (HN.out.symm.trans h) h0, fun h => absurd (HN.out.symm.trans h) h0⟩)
    refine calls_at (fun W => GBox w w1.heap.size T (PT.bare zeroV) W) ⟨H1.out.1.trans ((Below.refl _ _).alloc H1.out.1.size _), H1.out.2.alloc _, Blk.new _ _ _, PT.bare_in _ zeroV_fit⟩ ?_
    clear c0 c1 c2 c3 c4 c5 c6 hlt h0b
    rintro W3 hG3
    have HG3 := Lib.hid hG3
    refine (get_any T A c p W3 (HH.out.1.below hG3.bel) (HH.out.2.1.below hG3.bel) HH.out.2.2.1).mono ?_
    clear hG3
    rintro en W4 hq
    have hb4 := hq.1
    obtain ⟨G, ev, rfl, hGi, hGt, hE⟩ := get_like hq HW.out
    have HG4 := Lib.hid (And.intro (HG3.out.below hb4) (And.intro hGi (And.intro hGt hE)))
    clear hq hb4 hGi hGt hE
    rw [PT.value_eq]
    have hltg := HG4.out.1.s.lt
    have s0 : W4.cell? ⟨w1.heap.size, 0, none⟩ = some (.int .i64 (PT.bare zeroV).val.k) := HG4.out.1.s.cell 0
    have s1 : W4.cell? ⟨w1.heap.size, 1, none⟩ = some (.int .i64 (PT.bare zeroV).val.n) := HG4.out.1.s.cell 1
    have s2 : W4.cell? ⟨w1.heap.size, 2, none⟩ = some (.string (PT.bare zeroV).val.s) := HG4.out.1.s.cell 2
    have s3 : W4.cell? ⟨w1.heap.size, 3, none⟩ = some (.int .i64 (PT.bare zeroV).val.o) := HG4.out.1.s.cell 3
    have s4 : W4.cell? ⟨w1.heap.size, 4, none⟩ = some (.int .i64 (PT.bare zeroV).val.p) := HG4.out.1.s.cell 4
    have s5 : W4.cell? ⟨w1.heap.size, 5, none⟩ = some (.slice (PT.bare zeroV).kA (PT.bare zeroV).keys.length (PT.bare zeroV).kc) := HG4.out.1.s.cell 5
    have s6 : W4.cell? ⟨w1.heap.size, 6, none⟩ = some (.slice (PT.bare zeroV).cA (PT.bare zeroV).kids.length (PT.bare zeroV).cc) := HG4.out.1.s.cell 6
    go_wp2_with fail
    clear s0 s1 s2 s3 s4 s5 s6 hltg
    refine calls_at (fun W => Below w.heap.size w W ∧ InJ W G ∧ InJ W (PT.bare zeroV)) ⟨HG4.out.1.bel.trans ((Below.refl _ _).alloc HG4.out.1.bel.size _), HG4.out.2.1.alloc _, HG4.out.1.i.alloc _⟩ ?_
    rintro W5 ⟨hb5, hG5, hS5⟩
    have ht := tree_like G (PT.bare zeroV) W5 W5 hG5 hS5 HG4.out.2.2.1 (Below.refl _ _) ev n HG4.out.2.2.2 (HH.out.2.2.2.2.below hb5)
    rw [PT.value_eq, PT.value_eq] at ht
    refine ht.mono ?_
    clear ht hG5 hS5
    rintro e W6 ⟨rfl, hb6⟩
    have H6 := Lib.hid (hb5.trans (hb6.mono hb5.size))
    clear hb5 hb6
    go_wp2_with fail
    go_ret
    exact ⟨rfl, H6.out⟩
end Go.Proofs.YtljemaapicaioaaDoor
