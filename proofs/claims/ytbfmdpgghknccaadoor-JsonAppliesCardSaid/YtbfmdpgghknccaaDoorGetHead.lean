/- json.Get: what it and others share: the contract. -/
import Derived.Test.YtbfmdpgghknccaaDoorIndex
import Derived.Test.YtbfmdpgghknccaaDoorJsonCheck
import Derived.Laws.ResultCell
namespace Go.Proofs.YtbfmdpgghknccaaDoor
open Go.RowKit
set_option linter.unusedVariables false
set_option linter.unusedSimpArgs false

/-- A struct and one more result. -/
theorem results_row_tmp {P : Program} {fn : Func} {p u : Tmp} {ty : TypeId} (h : fn.results = #[.cell p ty, .tmp u]) (tmps : Array Value) (w : World) (g : Nat) (t : TypeId) (cs : Array Value) (d : TypeDesc)
    (hp : tmps.getD p undef = .pointer (some ⟨g, 0, none⟩)) (hg : Blk w g t cs)
    (hu : P.underlying ty = some d) (hd : (match d with | .struct _ | .array _ _ => true | _ => false) = true) (hi : (P.info? ty).map (·.size) = some cs.size) :
    (results fn tmps).run P w = .ok (.tuple #[.agg cs, tmps.getD u undef]) w := by
  have hp' : tmps[p]?.getD undef = .pointer (some ⟨g, 0, none⟩) := by simpa using hp
  simp [results, h, hp', asAddr, run_loadVar_row w g t ty cs (0, 0) d hg hu hd hi]

theorem boxes2 {w w' : World} {cs cs2 : Array Value} {t t2 : TypeId} (h : Below ((w.alloc (.cells cs t (0, 0))).alloc (.cells cs2 t2 (0, 0))).heap.size ((w.alloc (.cells cs t (0, 0))).alloc (.cells cs2 t2 (0, 0))) w') :
    Below w.heap.size w w' ∧ Blk w' w.heap.size t cs ∧ Blk w' (w.heap.size + 1) t2 cs2 ∧ w.heap.size + 2 ≤ w'.heap.size := by
  refine ⟨below_al2 h, ((Blk.new w t cs).alloc _).below h (by simp; omega), (Blk.newer (w.alloc (.cells cs t (0, 0))) t2 cs2 (g := w.heap.size + 1) (by simp)).below h (by simp), ?_⟩
  have := h.size
  simp at this
  omega
/-- What Get gives. -/
def GetQ (w : World) (T : PT) (p : List St) (e : Ending) (w' : World) : Prop :=
  Below w.heap.size w w' ∧ ((checkV T.tree ≠ .nilIface ∧ e = .returned (.tuple #[zTree, checkV T.tree])) ∨
    (checkV T.tree = .nilIface ∧ ((T.tree.get p = none ∧ e = .returned (.tuple #[zTree, .iface 98 (.int .i64 6)])) ∨
      ∃ T' : PT, T.tree.get p = some T'.tree ∧ e = .returned (.tuple #[T'.value, .nilIface]) ∧ OwnJ 9 29 w' T' ∧ T'.own.Nodup ∧ ∀ b ∈ T'.own, w.heap.size ≤ b)))

theorem checkV_ok {t : JT} (h : checkV t = .nilIface) : t.formed = true ∧ t.size ≤ 400 := by
  unfold checkV at h
  split at h
  · split at h
    · rename_i h1 h2; exact ⟨h2, h1⟩
    · cases h
  · cases h
theorem checkV_cases (t : JT) : checkV t = .nilIface ∨ ∃ n, checkV t = .iface 98 (.int .i64 n) := by
  unfold checkV
  split
  · split
    · exact .inl rfl
    · exact .inr ⟨1, rfl⟩
  · exact .inr ⟨4, rfl⟩

end Go.Proofs.YtbfmdpgghknccaaDoor
