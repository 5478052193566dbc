/- bookref3.Formed at any tree, bookref3.Check: the contracts. -/
import Derived.Test.YtfnigdbnkdofiaaDoorRefFormList
import Derived.Test.YtfnigdbnkdofiaaDoorRefFormMap
import Derived.Test.YtfnigdbnkdofiaaDoorRefFormPlain
import Derived.Test.YtfnigdbnkdofiaaDoorCkHead
namespace Go.Proofs.YtfnigdbnkdofiaaDoor
open Go.RowKit
set_option linter.unusedVariables false
set_option linter.unusedSimpArgs false

theorem rform_any : ∀ (T : PT) (W0 : World) (hT : InJ W0 T) (w : World) (hb : Below W0.heap.size W0 w), Calls Tryd.prog 17 #[T.value] w (BoolIs w T.tree.formed) := by
  intro T
  refine PT.ind (P := fun T => ∀ (W0 : World) (hT : InJ W0 T) (w : World) (hb : Below W0.heap.size W0 w), Calls Tryd.prog 17 #[T.value] w (BoolIs w T.tree.formed)) ?_ T
  clear T
  intro v kA kc keys cA cc kids ih W0 hT w hb
  have ih' : ∀ k ∈ kids, ∀ w1, Below W0.heap.size W0 w1 → Calls Tryd.prog 17 #[k.value] w1 (BoolIs w1 k.tree.formed) := fun k hk w1 h1 => ih k hk W0 (hT.kids k hk) w1 h1
  cases hd : v.head with
  | false =>
    have : (PT.node v kA kc keys cA cc kids).tree.formed = false := by
      rw [show (PT.node v kA kc keys cA cc kids).tree = .node v keys (kids.map PT.tree) from PT.tree_eq _, JT.formed_eq, JT.top_node, hd]; rfl
    rw [this]
    exact rform_head _ w hd
  | true =>
    by_cases h5 : v.k = 5
    · exact rform_map v kA kc keys cA cc kids W0 w hT hb hd h5 ih'
    · by_cases h6 : v.k = 6
      · exact rform_list v kA kc keys cA cc kids W0 w hT hb hd h6 ih'
      · exact rform_plain v kA kc keys cA cc kids W0 w hT hb hd (by rcases head_kind hd with h | h | h | h | h | h <;> omega) ih'

theorem box1 {w w' : World} {cs : Array Value} {t : TypeId} (h : Below (w.alloc (.cells cs t (0, 0))).heap.size (w.alloc (.cells cs t (0, 0))) w') : Below w.heap.size w w' ∧ Blk w' w.heap.size t cs :=
  ⟨((Below.refl _ _).alloc (Nat.le_refl _) _).trans (h.mono (by simp)), (Blk.new w t cs).below h (by simp)⟩

/-- The fault of a tree, as the reference has it. -/
def rcheckN (t : JT) : Int := if t.size ≤ 400 then (if t.formed then 0 else 1) else 4

set_option maxRecDepth 100000 in
set_option maxHeartbeats 2000000 in
theorem rcheck_any (T : PT) (W0 w : World) (hT : InJ W0 T) (hb : Below W0.heap.size W0 w) : Calls Tryd.prog 5 #[T.value] w fun e w' => e = .returned (.int .i64 (rcheckN T.tree)) ∧ Below w.heap.size w w' := by
  have HC := Lib.hid (fun (w1 : World) (h1 : Below W0.heap.size W0 w1) => rcount_any T W0 hT 400 (by decide) w1 h1)
  have HF := Lib.hid (fun (w1 : World) (h2 : Below W0.heap.size W0 w1) => rform_any T W0 hT w1 h2)
  have HB := Lib.hid hb
  rw [PT.value_eq]
  clear hT hb
  go_enter Tryd.func5, Tryd.ntmps5
  go_wp2_with fail
  have hA1 : Below w.heap.size w (w.alloc (.cells T.cells.toArray 29)) := (Below.refl _ _).alloc (Nat.le_refl _) _
  refine (HC.out _ (HB.out.trans (hA1.mono HB.out.size))).mono ?_
  clear hA1 HC
  rintro e w1 ⟨rfl, hb1⟩
  obtain ⟨hb, hB⟩ := box1 hb1
  have g0 : w1.cell? ⟨w.heap.size, 0, none⟩ = some (.int .i64 T.val.k) := hB.cell 0
  have g1 : w1.cell? ⟨w.heap.size, 1, none⟩ = some (.int .i64 T.val.n) := hB.cell 1
  have g2 : w1.cell? ⟨w.heap.size, 2, none⟩ = some (.string T.val.s) := hB.cell 2
  have g3 : w1.cell? ⟨w.heap.size, 3, none⟩ = some (.int .i64 T.val.o) := hB.cell 3
  have g4 : w1.cell? ⟨w.heap.size, 4, none⟩ = some (.int .i64 T.val.p) := hB.cell 4
  have g5 : w1.cell? ⟨w.heap.size, 5, none⟩ = some (.slice T.kA T.keys.length T.kc) := hB.cell 5
  have g6 : w1.cell? ⟨w.heap.size, 6, none⟩ = some (.slice T.cA T.kids.length T.cc) := hB.cell 6
  have H1 := Lib.hid (And.intro hb (HB.out.trans (hb.mono HB.out.size)))
  obtain ⟨z, hz⟩ : ∃ z, min T.tree.size (400 + 1) = z := ⟨_, rfl⟩
  rw [hz]
  clear hb1 hb hB
  by_cases hs : T.tree.size ≤ 400
  · have hzi : ¬ (400 : Int) < (z : Int) := by omega
    have HS := Lib.hid hs
    clear hz hs
    go_wp2_with fail
    refine (HF.out _ H1.out.2).mono ?_
    rintro e w2 ⟨rfl, hb2⟩
    have H2 := Lib.hid (H1.out.1.trans (hb2.mono H1.out.1.size))
    clear hb2 g0 g1 g2 g3 g4 g5 g6
    cases hf : T.tree.formed with
    | true =>
      have HR := Lib.hid (show rcheckN T.tree = 0 from by rw [rcheckN, if_pos HS.out, if_pos hf])
      clear hf
      go_wp2_with fail
      go_ret
      exact ⟨by rw [HR.out] <;> rfl, H2.out⟩
    | false =>
      have HR := Lib.hid (show rcheckN T.tree = 1 from by rw [rcheckN, if_pos HS.out, hf]; rfl)
      clear hf
      go_wp2_with fail
      go_ret
      exact ⟨by rw [HR.out] <;> rfl, H2.out⟩
  · have hzi : (400 : Int) < (z : Int) := by omega
    have HR := Lib.hid (show rcheckN T.tree = 4 from by rw [rcheckN, if_neg hs])
    clear hz hs g0 g1 g2 g3 g4 g5 g6
    go_wp2_with fail
    go_ret
    exact ⟨by rw [HR.out] <;> rfl, H1.out.1⟩
end Go.Proofs.YtfnigdbnkdofiaaDoor
