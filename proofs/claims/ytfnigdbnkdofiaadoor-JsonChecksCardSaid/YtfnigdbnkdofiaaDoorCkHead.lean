/- What the walks over trees share. -/
import Derived.Test.YtfnigdbnkdofiaaDoorJsonCheck
import Derived.Laws.ResultCell
namespace Go.Proofs.YtfnigdbnkdofiaaDoor
open Go.RowKit
set_option linter.unusedVariables false
set_option linter.unusedSimpArgs false

/-- A struct and one more result. -/
theorem results_row_tmp {P : Program} {fn : Func} {p u : Tmp} {ty : TypeId} (h : fn.results = #[.cell p ty, .tmp u]) (tmps : Array Value) (w : World) (g : Nat) (t : TypeId) (cs : Array Value) (d : TypeDesc)
    (hp : tmps.getD p undef = .pointer (some ⟨g, 0, none⟩)) (hg : Blk w g t cs)
    (hu : P.underlying ty = some d) (hd : (match d with | .struct _ | .array _ _ => true | _ => false) = true) (hi : (P.info? ty).map (·.size) = some cs.size) :
    (results fn tmps).run P w = .ok (.tuple #[.agg cs, tmps.getD u undef]) w := by
  have hp' : tmps[p]?.getD undef = .pointer (some ⟨g, 0, none⟩) := by simpa using hp
  simp [results, h, hp', asAddr, run_loadVar_row w g t ty cs (0, 0) d hg hu hd hi]

theorem boxes2 {w w' : World} {cs cs2 : Array Value} {t t2 : TypeId} (h : Below ((w.alloc (.cells cs t (0, 0))).alloc (.cells cs2 t2 (0, 0))).heap.size ((w.alloc (.cells cs t (0, 0))).alloc (.cells cs2 t2 (0, 0))) w') :
    Below w.heap.size w w' ∧ Blk w' w.heap.size t cs ∧ Blk w' (w.heap.size + 1) t2 cs2 ∧ w.heap.size + 2 ≤ w'.heap.size := by
  refine ⟨below_al2 h, ((Blk.new w t cs).alloc _).below h (by simp; omega), (Blk.newer (w.alloc (.cells cs t (0, 0))) t2 cs2 (g := w.heap.size + 1) (by simp)).below h (by simp), ?_⟩
  have := h.size
  simp at this
  omega
theorem checkV_ok {t : JT} (h : checkV t = .nilIface) : t.formed = true ∧ t.size ≤ 400 := by
  unfold checkV at h
  split at h
  · split at h
    · rename_i h1 h2; exact ⟨h2, h1⟩
    · cases h
  · cases h
theorem checkV_cases (t : JT) : checkV t = .nilIface ∨ ∃ n, checkV t = .iface 57 (.int .i64 n) := by
  unfold checkV
  split
  · split
    · exact .inl rfl
    · exact .inr ⟨1, rfl⟩
  · exact .inr ⟨4, rfl⟩
theorem calls_at {P : Program} {f : FuncId} {args : Array Value} {Q : Ending → World → Prop} {w : World} (F : World → Prop) (hF : F w) (h : ∀ w1, F w1 → Calls P f args w1 Q) : Calls P f args w Q := h w hF
theorem SlAt.of_blk {w : World} {g : Nat} {t : TypeId} {cs : Array Value} (h : Blk w g t cs) : SlAt w (some ⟨g, 0, none⟩) cs.toList :=
  .inr ⟨g, 0, rfl, fun j u hu => by rw [Nat.zero_add, h.cell]; simpa using hu⟩
theorem PT.value_eq (T : PT) : T.value = .agg #[.int .i64 T.val.k, .int .i64 T.val.n, .string T.val.s, .int .i64 T.val.o, .int .i64 T.val.p, .slice T.kA T.keys.length T.kc, .slice T.cA T.kids.length T.cc] := rfl

end Go.Proofs.YtfnigdbnkdofiaaDoor
