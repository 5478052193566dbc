/- dag.op.place: a contract; a map of ops. -/
import Derived.Test.YtdenaejhfgmihaaDagPut
namespace Go.Proofs.Ytdenaejhfgmihaa
open Go.RowKit Go.Maps
set_option linter.unusedVariables false
set_option linter.unusedSimpArgs false

/-- An op that is known, with its id. -/
def opxCells (o : OpV) (pA : Option Addr) (pc : Nat) (n : Int × Int) : Array Value := #[.int .i64 o.kind, .int .i64 o.obj.1, .int .i64 o.obj.2, .string o.key, .int .i64 o.elem.1, .int .i64 o.elem.2, .bool o.ins, .int .i64 o.val.k, .int .i64 o.val.n, .string o.val.s, .int .i64 o.val.o, .int .i64 o.val.p, .slice pA o.preds.length pc, .int .i64 n.1, .int .i64 n.2]
def OpX (o : OpV) (pA : Option Addr) (pc : Nat) (n : Int × Int) : Value := .agg #[.int .i64 o.kind, .int .i64 o.obj.1, .int .i64 o.obj.2, .string o.key, .int .i64 o.elem.1, .int .i64 o.elem.2, .bool o.ins, .int .i64 o.val.k, .int .i64 o.val.n, .string o.val.s, .int .i64 o.val.o, .int .i64 o.val.p, .slice pA o.preds.length pc, .int .i64 n.1, .int .i64 n.2]
def zOpV : OpV := ⟨0, (0, 0), ⟨#[]⟩, (0, 0), false, ⟨0, 0, ⟨#[]⟩, 0, 0⟩, []⟩
theorem zeroOpX (w : World) : (zeroValue 75).run Try.prog w = .ok (OpX zOpV none 0 (0, 0)) w := by kernel_rfl
/-- A map of ops. -/
def OpsM (w : World) (m : Nat) (D : DataW Value) : Prop := w.ownsMap Try.prog 59 anyElem m (Maps.size D) D ∧ ∀ r, I2 r → ∀ v, mget D r = some v → ∃ o pA pc n, v = OpX o pA pc n
theorem OpsM.only {w w' : World} {S : Nat → Prop} {b : Nat} {D : DataW Value} (h : OpsM w b D) (ho : Only S w w') (hn : ¬ S b) : OpsM w' b D := ⟨own_only h.1 ho hn, h.2⟩
theorem OpsM.below {w w' : World} {b : Nat} {D : DataW Value} (h : OpsM w b D) (hb : Below w.heap.size w w') : OpsM w' b D := h.only (Only.of_below (S := fun _ => False) hb) (fun h => h)
theorem OpsM.get {w : World} {m : Nat} {D : DataW Value} (h : OpsM w m D) {r : Int × Int} (hr : I2 r) : ∃ o pA pc n, (mget D r).getD (OpX zOpV none 0 (0, 0)) = OpX o pA pc n := by
  cases e : mget D r with
  | none => exact ⟨_, _, _, _, rfl⟩
  | some v => obtain ⟨o, pA, pc, n, hv⟩ := h.2 r hr v e; exact ⟨o, pA, pc, n, hv⟩
theorem OpsM.put {w w' : World} {m k : Nat} {D : DataW Value} (h : OpsM w m D) {r : Int × Int} (hr : I2 r) {o : OpV} {pA : Option Addr} {pc : Nat} {n : Int × Int}
    (h2 : w'.ownsMap Try.prog 59 anyElem m k (D.put (rlit r) (.held (OpX o pA pc n)))) : OpsM w' m (D.put (rlit r) (.held (OpX o pA pc n))) := by
  refine ⟨own_tight h2, fun s hs v hv => ?_⟩
  rw [mget_put pairId (World.ownsMap.isMap h.1) hr hs] at hv
  split at hv
  · exact ⟨o, pA, pc, n, (Option.some.inj hv).symm⟩
  · exact h.2 s hs v hv

/-- An op's place. -/
def PlaceE (a b : Int) (s : ByteArray) (c d : Int) (w : World) (e : Ending) (w' : World) : Prop := e = .returned (.agg #[.int .i64 a, .int .i64 b, .string s, .int .i64 c, .int .i64 d]) ∧ Below w.heap.size w w'
set_option maxRecDepth 100000 in
set_option maxHeartbeats 1000000 in
theorem place_any (o : OpV) (pA : Option Addr) (pc : Nat) (n : Int × Int) : ∃ (a b : Int) (s : ByteArray) (c d : Int), ∀ w, Calls Try.prog 50 #[OpX o pA pc n] w (PlaceE a b s c d w) := by
  unfold OpX
  cases hi : o.ins
  · refine ⟨o.obj.1, o.obj.2, o.key, o.elem.1, o.elem.2, fun w => ?_⟩
    go_enter Try.func50, Try.ntmps50
    go_wp2_with fail
    refine bodyPost_ret (results_cell_row Try.results50 _ _ (w.heap.size + 1) _ _ _ _ rfl ((Blk.newer _ _ _ (by simp)).alloc _) Try.underlying89 rfl (by kernel_rfl)) rfl ?_
    refine ⟨rfl, ?_⟩
    exact (((Below.refl _ _).alloc (Nat.le_refl _) _).alloc (by simp) _).alloc (by simp; omega) _
  · refine ⟨o.obj.1, o.obj.2, o.key, n.1, n.2, fun w => ?_⟩
    go_enter Try.func50, Try.ntmps50
    go_wp2_with fail
    refine bodyPost_ret (results_cell_row Try.results50 _ _ (w.heap.size + 1) _ _ _ _ rfl ((Blk.newer _ _ _ (by simp)).alloc _) Try.underlying89 rfl (by kernel_rfl)) rfl ?_
    refine ⟨rfl, ?_⟩
    exact (((Below.refl _ _).alloc (Nat.le_refl _) _).alloc (by simp) _).alloc (by simp; omega) _
theorem place_split (a1 a2 b1 b2 c1 c2 d1 d2 : Int) (s t : ByteArray) : (a1 = a2 ∧ b1 = b2 ∧ s = t ∧ c1 = c2 ∧ d1 = d2) ∨ (¬ a1 = a2) ∨ (a1 = a2 ∧ ¬ b1 = b2) ∨ (a1 = a2 ∧ b1 = b2 ∧ ¬ s.toList = t.toList ∧ ¬ s = t ∧ decide (s = t) = false) ∨ (a1 = a2 ∧ b1 = b2 ∧ s = t ∧ ¬ c1 = c2) ∨ (a1 = a2 ∧ b1 = b2 ∧ s = t ∧ c1 = c2 ∧ ¬ d1 = d2) := by
  by_cases h1 : a1 = a2 <;> by_cases h2 : b1 = b2 <;> by_cases h3 : s = t <;> by_cases h4 : c1 = c2 <;> by_cases h5 : d1 = d2 <;> simp [h1, h2, h3, h4, h5]
  all_goals exact fun e => h3 (Go.WideShapes.bytes_inj (by simpa [ByteArray.toList_eq] using e))
end Go.Proofs.Ytdenaejhfgmihaa
