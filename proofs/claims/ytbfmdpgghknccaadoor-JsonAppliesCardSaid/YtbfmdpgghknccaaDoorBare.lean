/- Trees that are plain values; paths, values that come in. -/
import Derived.Test.YtbfmdpgghknccaaDoorGetHead
namespace Go.Proofs.YtbfmdpgghknccaaDoor
open Go.RowKit
set_option linter.unusedVariables false
set_option linter.unusedSimpArgs false

/-- A path that came in. -/
def IsSteps (W : World) (v : Value) (p : List St) : Prop := ∃ A c, v = .slice A p.length c ∧ SlAt W A (stCells p) ∧ p.length ≤ maxLen ∧ p.length ≤ c
/-- A value that came in. -/
def IsVal (W : World) (x : Value) (v : JV) : Prop := x = .agg v.cells.toArray ∧ v.Fit

/-- A tree that is a value alone. -/
def PT.bare (v : JV) : PT := .node v none 0 [] none 0 []
theorem PT.bare_tree (v : JV) : (PT.bare v).tree = JT.leaf v := by rw [PT.bare, PT.tree_eq]; rfl
theorem PT.bare_in (w : World) {v : JV} (h : v.Fit) : InJ w (PT.bare v) := InJ.mk_ ⟨h, .inl rfl, .inl rfl, Nat.zero_le _, Nat.zero_le _, by intro s hs; simp [PT.keys, PT.bare] at hs⟩ (by intro k hk; simp [PT.kids, PT.bare] at hk)
theorem PT.bare_own {TS TT : TypeId} (w : World) {v : JV} (h : v.Fit) : OwnJ TS TT w (PT.bare v) := OwnJ.mk_ ⟨h, World.ownsRow_nil _ _ _ _, World.ownsRow_nil _ _ _ _, by intro s hs; simp [PT.keys, PT.bare] at hs⟩ (by intro k hk; simp [PT.kids, PT.bare] at hk)
def zeroV : JV := ⟨0, 0, ⟨#[]⟩, 0, 0⟩
theorem zeroV_fit : zeroV.Fit := ⟨by unfold I64 zeroV; decide, by unfold I64 zeroV; decide, by decide, by unfold I64 zeroV; decide, by unfold I64 zeroV; decide⟩
theorem zTree_eq : zTree = (PT.bare zeroV).value := rfl
theorem toList_nil : (⟨#[]⟩ : ByteArray).toList = [] := by rw [ByteArray.toList_eq]
theorem calls_at {P : Program} {f : FuncId} {args : Array Value} {Q : Ending → World → Prop} {w : World} (F : World → Prop) (hF : F w) (h : ∀ w1, F w1 → Calls P f args w1 Q) : Calls P f args w Q := h w hF
theorem SlAt.of_blk {w : World} {g : Nat} {t : TypeId} {cs : Array Value} (h : Blk w g t cs) : SlAt w (some ⟨g, 0, none⟩) cs.toList :=
  .inr ⟨g, 0, rfl, fun j u hu => by rw [Nat.zero_add, h.cell]; simpa using hu⟩
/-- What stays known: the arguments' boxes. -/
structure Boxes (w : World) (T : PT) (v : JV) (W : World) : Prop where
  bel : Below w.heap.size w W
  t : Blk W w.heap.size 29 #[.int .i64 T.val.k, .int .i64 T.val.n, .string T.val.s, .int .i64 T.val.o, .int .i64 T.val.p, .slice T.kA T.keys.length T.kc, .slice T.cA T.kids.length T.cc]
  v : Blk W (w.heap.size + 1) 25 #[.int .i64 v.k, .int .i64 v.n, .string v.s, .int .i64 v.o, .int .i64 v.p]
theorem Boxes.below {w W W' : World} {T : PT} {v : JV} (h : Boxes w T v W) (hb : Below W.heap.size W W') : Boxes w T v W' :=
  ⟨h.bel.trans (hb.mono h.bel.size), h.t.below hb h.t.lt, h.v.below hb h.v.lt⟩
end Go.Proofs.YtbfmdpgghknccaaDoor
