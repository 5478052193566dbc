/- Regions whose operations are quiet in a class of worlds of one's choice: one step at a time, the value given. Over any program. -/
import Derived.Test.YtdenaejhfgmihaaProg
import Derived.Test.YtdenaejhfgmihaaKit
import Derived.Deep.QuietTactic
namespace Go.Proofs.Ytdenaejhfgmihaa
open Go.RowKit
set_option linter.unusedVariables false
set_option linter.unusedSimpArgs false

theorem quiet_run {P : Program} {ops : Array Oper} {C : World → Prop} {Q : Act → Prop} {a : Act} {o : Oper} {rest : List Oper} (v : Value) (hg : Region.wanted o (yielded ops a.tmps) = true)
    (hr : ∀ w, C w → (execOp a.eval o).run P w = .ok (.value v) w) (h : wpQuiet P ops C Q rest (a.put o.dst v)) : wpQuiet P ops C Q (o :: rest) a :=
  wpQuiet_step (fun K hK => by
    rw [if_pos hg]
    exact ⟨v, fun w hw => by unfold Oper.quietAt; rw [hr w hw]; exact ⟨rfl, rfl⟩, hK _ h⟩)
theorem quiet_call {P : Program} {ops : Array Oper} {C : World → Prop} {Q : Act → Prop} {a : Act} {o : Oper} {rest : List Oper} (v : Value) (f : FuncId) (args : Array Value) (hg : Region.wanted o (yielded ops a.tmps) = true)
    (hr : ∀ w, (execOp a.eval o).run P w = .ok (.enter f args) w) (hc : ∀ w, C w → Calls P f args w (fun e w' => e = .returned v ∧ C w')) (h : wpQuiet P ops C Q rest (a.put o.dst v)) : wpQuiet P ops C Q (o :: rest) a :=
  wpQuiet_step (fun K hK => by
    rw [if_pos hg]
    exact ⟨v, fun w hw => by unfold Oper.quietAt; rw [hr w]; exact ⟨rfl, hc w hw⟩, hK _ h⟩)
theorem quiet_skip {P : Program} {ops : Array Oper} {C : World → Prop} {Q : Act → Prop} {a : Act} {o : Oper} {rest : List Oper} (hg : Region.wanted o (yielded ops a.tmps) = false)
    (h : wpQuiet P ops C Q rest (a.put o.dst undef)) : wpQuiet P ops C Q (o :: rest) a :=
  wpQuiet_step (fun K hK => by
    rw [if_neg (by rw [hg]; exact Bool.false_ne_true)]
    exact hK _ h)
theorem exec_load {P : Program} {a : Act} {o : Oper} {t : TypeId} {x : Operand} {u v : Value} {w : World} (ho : o.op = .load t x) (hx : a.eval x = u) (hl : (Instr.loadAt t u).run P w = .ok v w) : (execOp a.eval o).run P w = .ok (.value v) w := by
  unfold execOp
  simp [ho, hx, hl, Result.andThen]
theorem exec_field {P : Program} {a : Act} {o : Oper} {t : TypeId} {x : Operand} {f : Nat} {u v : Value} {w : World} (ho : o.op = .fieldAddr t x f) (hx : a.eval x = u) (hl : (Instr.fieldAt t u f).run P w = .ok v w) : (execOp a.eval o).run P w = .ok (.value v) w := by
  unfold execOp
  simp [ho, hx, hl, Result.andThen]
theorem exec_bin {P : Program} {a : Act} {o : Oper} {op : BinOp} {t ty : TypeId} {x y : Operand} {u1 u2 v : Value} {w : World} (ho : o.op = .binOp op t x y ty) (hx : a.eval x = u1) (hy : a.eval y = u2)
    (hl : (do eqGuard op t x y u1 u2; binOp op t u1 u2 : Sem Value).run P w = .ok v w) : (execOp a.eval o).run P w = .ok (.value v) w := by
  unfold execOp
  simp only [ho, hx, hy]
  simp only [Sem.run_bind, Sem.run_pure] at hl ⊢
  rw [hl]
  simp [Result.andThen]
theorem wp_region_quiet_in {P : Program} {C : World → Prop} {id : Nat} {Q : Exit → Act → World → Prop} {a : Act} {w : World} {l : List Oper} (hm : P.follows .mixedOrders = true) (hB : Region.lexB .any l.toArray = true) (hC : C w.drew)
    (h : wpQuiet P l.toArray C (fun a' => ∀ w', C w' → Q .normal a' w') l a) : (Code.region id l.toArray true).wp P Q a w :=
  wp_region_quiet (C := C) hm hB hC (by simpa using h)
def InW (W : World) : World → Prop := fun W' => Below W.heap.size W W'
end Go.Proofs.Ytdenaejhfgmihaa
