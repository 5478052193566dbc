/- booklaw3.JsonApplies: the walk. -/
import Derived.Test.YtbfmdpgghknccaaDoorRefApply
import Derived.Test.YtbfmdpgghknccaaDoorAppliesArgs
namespace Go.Proofs.YtbfmdpgghknccaaDoor
open Go.RowKit
set_option linter.unusedVariables false
set_option linter.unusedSimpArgs false

theorem patR_err {kind : Int} {v : JV} {t : JT} {p : List St} {n : Int} (h : patR kind v t p = .error n) : n = 1 ∨ n = 4 ∨ n = 6 := by
  unfold patR at h
  split at h
  · injection h with h; exact .inl h.symm
  · split at h
    · injection h with h; exact .inr (.inr h.symm)
    · split at h
      · injection h with h; exact .inr (.inr h.symm)
      · split at h
        · cases h
        · injection h with h; exact .inr (.inl h.symm)
theorem appR_num (l : List Pa) {n : Int} : ∀ (t : JT), appR t l = .error n → n = 1 ∨ n = 4 ∨ n = 6 := by
  induction l with
  | nil => intro t h; cases h
  | cons y l ih =>
    intro t h
    unfold appR at h
    cases hy : patR y.kind y.v t y.p with
    | error k => rw [hy] at h; injection h with h; subst h; exact patR_err hy
    | ok u => rw [hy] at h; exact ih u h

/-- What is wanted. -/
def WantA (t : JT) (r : Except Int JT) (S : JT) (e : Int) : Prop :=
  (rcheckN t ≠ 0 ∧ S = (PT.bare zeroV).tree ∧ e = rcheckN t) ∨ (rcheckN t = 0 ∧ ∃ n, r = .error n ∧ S = (PT.bare zeroV).tree ∧ e = n) ∨ (rcheckN t = 0 ∧ ∃ u, r = .ok u ∧ S = u ∧ e = 0)
theorem rapply_want {w w' : World} {T : PT} {r : Except Int JT} {en : Ending} (h : RApplyQ w T r en w') : ∃ (S : PT) (e : Int), en = .returned (.tuple #[S.value, .int .i64 e]) ∧ InJ w' S ∧ WantA T.tree r S.tree e ∧ Below w.heap.size w w' := by
  obtain ⟨hb, h⟩ := h
  rcases h with ⟨h1, rfl⟩ | ⟨h1, h2⟩
  · exact ⟨PT.bare zeroV, _, by rw [zTree_eq], PT.bare_in _ zeroV_fit, .inl ⟨h1, rfl, rfl⟩, hb⟩
  · cases r with
    | error n =>
      simp only at h2
      subst h2
      exact ⟨PT.bare zeroV, _, by rw [zTree_eq], PT.bare_in _ zeroV_fit, .inr (.inl ⟨h1, n, rfl, rfl, rfl⟩), hb⟩
    | ok u =>
      simp only at h2
      obtain ⟨R, rfl, rfl, hR⟩ := h2
      exact ⟨R, 0, rfl, hR, .inr (.inr ⟨h1, _, rfl, rfl, rfl⟩), hb⟩
theorem apply_like {w w' : World} {T S : PT} {l : List Pa} {e : Int} {en : Ending} (hq : ApplyQ w T (appR T.tree l) en w') (hw : WantA T.tree (appR T.tree l) S.tree e) :
    ∃ (G : PT) (ev : Value), en = .returned (.tuple #[G.value, ev]) ∧ InJ w' G ∧ G.tree = S.tree ∧ ErrIs ev e := by
  obtain ⟨_, hq⟩ := hq
  rcases check_both T.tree with ⟨h1, h2⟩ | ⟨h1, h2, h3⟩
  · rcases hq with ⟨q, _⟩ | ⟨_, hq⟩
    · exact absurd h1 q
    · rcases hw with ⟨g, _⟩ | ⟨_, n, hr, hS, rfl⟩ | ⟨_, u, hr, hS, rfl⟩
      · exact absurd h2 g
      · have hn := appR_num l T.tree hr
        rw [hr] at hq
        simp only at hq
        subst hq
        refine ⟨PT.bare zeroV, _, by rw [zTree_eq]; rfl, PT.bare_in _ zeroV_fit, hS.symm, .inr ⟨rfl, ?_⟩⟩
        unfold I64
        rcases hn with rfl | rfl | rfl <;> omega
      · rw [hr] at hq
        simp only at hq
        obtain ⟨G, hG, rfl, ho, _⟩ := hq
        exact ⟨G, _, rfl, ho.inJ, by rw [hG, hS], .inl ⟨rfl, rfl⟩⟩
  · rcases hq with ⟨_, rfl⟩ | ⟨q, _⟩
    · rcases hw with ⟨_, hS, rfl⟩ | ⟨g, _⟩ | ⟨g, _⟩
      · exact ⟨PT.bare zeroV, checkV T.tree, by rw [zTree_eq], PT.bare_in _ zeroV_fit, hS.symm, h3⟩
      · exact absurd g h2
      · exact absurd g h2
    · exact absurd q h1

/-- The tree's box, and the wanted one's. -/
structure ABox (w : World) (g : Nat) (T S : PT) (W : World) : Prop where
  bel : Below w.heap.size w W
  t : Blk W w.heap.size 29 #[.int .i64 T.val.k, .int .i64 T.val.n, .string T.val.s, .int .i64 T.val.o, .int .i64 T.val.p, .slice T.kA T.keys.length T.kc, .slice T.cA T.kids.length T.cc]
  s : Blk W g 29 #[.int .i64 S.val.k, .int .i64 S.val.n, .string S.val.s, .int .i64 S.val.o, .int .i64 S.val.p, .slice S.kA S.keys.length S.kc, .slice S.cA S.kids.length S.cc]
  i : InJ W S
theorem ABox.below {w W W' : World} {g : Nat} {T S : PT} (h : ABox w g T S W) (hb : Below W.heap.size W W') : ABox w g T S W' :=
  ⟨h.bel.trans (hb.mono h.bel.size), h.t.below hb h.t.lt, h.s.below hb h.s.lt, h.i.below hb⟩

set_option maxRecDepth 100000 in
set_option maxHeartbeats 4000000 in
theorem jsonApplies_walk (w : World) (hg : ErrVar w) (tv : Value) (T : PT) (hT : IsTreeCap w tv T) (pv : Value) (l : List Pa) (hp : IsPatches w pv l) :
    Calls Tryd.prog 3 #[tv, pv] w fun e w' => e = .returned (.bool true) ∧ Below w.heap.size w w' := by
  obtain ⟨rfl, hT, hTc⟩ := hT
  obtain ⟨B, d, rfl, hB, hok, hll⟩ := hp
  have HR := Lib.hid (fun (w1 : World) (h1 : Below w.heap.size w w1) => rapply_any T B d l w1 (hT.below h1) hTc (hB.below h1) (fun x hx => (hok x hx).below h1) hll)
  have HP := Lib.hid (fun (w1 : World) (h1 : Below w.heap.size w w1) => apply_any T B d l w1 (hT.below h1) (hB.below h1) (fun x hx => (hok x hx).below h1) hll)
  have HG := Lib.hid hg
  clear hT hTc hB hok hll hg
  rw [PT.value_eq] at HR HP ⊢
  go_enter Tryd.func3, Tryd.ntmps3
  go_wp2_with fail
  refine (HR.out _ ((Below.refl _ _).alloc (Nat.le_refl _) _)).mono ?_
  rintro e w1 hq
  obtain ⟨S, en, rfl, hSi, hW, hb1⟩ := rapply_want hq
  obtain ⟨hb, hX⟩ := box1 hb1
  have H1 := Lib.hid (And.intro hb (And.intro hX (And.intro hSi hW)))
  clear hq hSi hW hb1 hb hX
  rw [PT.value_eq]
  have hlt0 : w.heap.size < w1.heap.size := H1.out.2.1.lt
  have c0 : w1.cell? ⟨w.heap.size, 0, none⟩ = some (.int .i64 T.val.k) := (H1.out.2.1).cell 0
  have c1 : w1.cell? ⟨w.heap.size, 1, none⟩ = some (.int .i64 T.val.n) := (H1.out.2.1).cell 1
  have c2 : w1.cell? ⟨w.heap.size, 2, none⟩ = some (.string T.val.s) := (H1.out.2.1).cell 2
  have c3 : w1.cell? ⟨w.heap.size, 3, none⟩ = some (.int .i64 T.val.o) := (H1.out.2.1).cell 3
  have c4 : w1.cell? ⟨w.heap.size, 4, none⟩ = some (.int .i64 T.val.p) := (H1.out.2.1).cell 4
  have c5 : w1.cell? ⟨w.heap.size, 5, none⟩ = some (.slice T.kA T.keys.length T.kc) := (H1.out.2.1).cell 5
  have c6 : w1.cell? ⟨w.heap.size, 6, none⟩ = some (.slice T.cA T.kids.length T.cc) := (H1.out.2.1).cell 6
  go_wp2_with fail
  refine calls_at (fun W => ABox w w1.heap.size T S W) ⟨H1.out.1.alloc H1.out.1.size _, H1.out.2.1.alloc _, Blk.new _ _ _, H1.out.2.2.1.alloc _⟩ ?_
  clear c0 c1 c2 c3 c4 c5 c6 hlt0
  rintro W3 hG3
  have HG3 := Lib.hid hG3
  refine (HP.out W3 hG3.bel).mono ?_
  clear hG3
  rintro e W4 hq
  have hb4 := hq.1
  obtain ⟨G, ev, rfl, hGi, hGt, hE⟩ := apply_like hq H1.out.2.2.2
  have HG4 := Lib.hid (And.intro (HG3.out.below hb4) (And.intro hGi (And.intro hGt hE)))
  clear hq hb4 hGi hGt hE
  rw [PT.value_eq]
  have hltg := HG4.out.1.s.lt
  have s0 : W4.cell? ⟨w1.heap.size, 0, none⟩ = some (.int .i64 S.val.k) := (HG4.out.1.s).cell 0
  have s1 : W4.cell? ⟨w1.heap.size, 1, none⟩ = some (.int .i64 S.val.n) := (HG4.out.1.s).cell 1
  have s2 : W4.cell? ⟨w1.heap.size, 2, none⟩ = some (.string S.val.s) := (HG4.out.1.s).cell 2
  have s3 : W4.cell? ⟨w1.heap.size, 3, none⟩ = some (.int .i64 S.val.o) := (HG4.out.1.s).cell 3
  have s4 : W4.cell? ⟨w1.heap.size, 4, none⟩ = some (.int .i64 S.val.p) := (HG4.out.1.s).cell 4
  have s5 : W4.cell? ⟨w1.heap.size, 5, none⟩ = some (.slice S.kA S.keys.length S.kc) := (HG4.out.1.s).cell 5
  have s6 : W4.cell? ⟨w1.heap.size, 6, none⟩ = some (.slice S.cA S.kids.length S.cc) := (HG4.out.1.s).cell 6
  go_wp2_with fail
  clear s0 s1 s2 s3 s4 s5 s6 hltg
  refine calls_at (fun W => Below w.heap.size w W ∧ InJ W G ∧ InJ W S) ⟨HG4.out.1.bel.trans ((Below.refl _ _).alloc HG4.out.1.bel.size _), HG4.out.2.1.alloc _, HG4.out.1.i.alloc _⟩ ?_
  rintro W5 ⟨hb5, hG5, hS5⟩
  have ht := tree_like G S W5 W5 hG5 hS5 HG4.out.2.2.1 (Below.refl _ _) ev en HG4.out.2.2.2 (HG.out.below hb5)
  rw [PT.value_eq, PT.value_eq] at ht
  refine ht.mono ?_
  clear ht hG5 hS5
  rintro e W6 ⟨rfl, hb6⟩
  go_wp2_with fail
  go_ret
  exact ⟨rfl, hb5.trans (hb6.mono hb5.size)⟩
end Go.Proofs.YtbfmdpgghknccaaDoor
