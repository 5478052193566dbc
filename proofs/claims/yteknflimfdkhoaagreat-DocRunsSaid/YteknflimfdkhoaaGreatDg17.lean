/- Regions whose operations are quiet in a class of worlds of one's choice: one step at a time, the value given. Over any program. dag.op.fits: a contract. -/
import Derived.Test.YteknflimfdkhoaaGreatProg
import Derived.Test.YteknflimfdkhoaaGreatDg1
import Derived.Deep.QuietTactic
import Derived.Test.YteknflimfdkhoaaGreatDg16
import Derived.BigQuiet
namespace Go.Proofs.YteknflimfdkhoaaGreat
open Go.RowKit
set_option linter.unusedVariables false
set_option linter.unusedSimpArgs false

theorem quiet_run {P : Program} {ops : Array Oper} {C : World → Prop} {Q : Act → Prop} {a : Act} {o : Oper} {rest : List Oper} (v : Value) (hg : Region.wanted o (yielded ops a.tmps) = true)
    (hr : ∀ w, C w → (execOp a.eval o).run P w = .ok (.value v) w) (h : wpQuiet P ops C Q rest (a.put o.dst v)) : wpQuiet P ops C Q (o :: rest) a :=
  wpQuiet_step (fun K hK => by
    rw [if_pos hg]
    exact ⟨v, fun w hw => by unfold Oper.quietAt; rw [hr w hw]; exact ⟨rfl, rfl⟩, hK _ h⟩)
theorem quiet_call {P : Program} {ops : Array Oper} {C : World → Prop} {Q : Act → Prop} {a : Act} {o : Oper} {rest : List Oper} (v : Value) (f : FuncId) (args : Array Value) (hg : Region.wanted o (yielded ops a.tmps) = true)
    (hr : ∀ w, (execOp a.eval o).run P w = .ok (.enter f args) w) (hc : ∀ w, C w → Calls P f args w (fun e w' => e = .returned v ∧ C w')) (h : wpQuiet P ops C Q rest (a.put o.dst v)) : wpQuiet P ops C Q (o :: rest) a :=
  wpQuiet_step (fun K hK => by
    rw [if_pos hg]
    exact ⟨v, fun w hw => by unfold Oper.quietAt; rw [hr w]; exact ⟨rfl, hc w hw⟩, hK _ h⟩)
theorem quiet_skip {P : Program} {ops : Array Oper} {C : World → Prop} {Q : Act → Prop} {a : Act} {o : Oper} {rest : List Oper} (hg : Region.wanted o (yielded ops a.tmps) = false)
    (h : wpQuiet P ops C Q rest (a.put o.dst undef)) : wpQuiet P ops C Q (o :: rest) a :=
  wpQuiet_step (fun K hK => by
    rw [if_neg (by rw [hg]; exact Bool.false_ne_true)]
    exact hK _ h)
theorem exec_load {P : Program} {a : Act} {o : Oper} {t : TypeId} {x : Operand} {u v : Value} {w : World} (ho : o.op = .load t x) (hx : a.eval x = u) (hl : (Instr.loadAt t u).run P w = .ok v w) : (execOp a.eval o).run P w = .ok (.value v) w := by
  unfold execOp
  simp [ho, hx, hl, Result.andThen]
theorem exec_field {P : Program} {a : Act} {o : Oper} {t : TypeId} {x : Operand} {f : Nat} {u v : Value} {w : World} (ho : o.op = .fieldAddr t x f) (hx : a.eval x = u) (hl : (Instr.fieldAt t u f).run P w = .ok v w) : (execOp a.eval o).run P w = .ok (.value v) w := by
  unfold execOp
  simp [ho, hx, hl, Result.andThen]
theorem exec_bin {P : Program} {a : Act} {o : Oper} {op : BinOp} {t ty : TypeId} {x y : Operand} {u1 u2 v : Value} {w : World} (ho : o.op = .binOp op t x y ty) (hx : a.eval x = u1) (hy : a.eval y = u2)
    (hl : (do eqGuard op t x y u1 u2; binOp op t u1 u2 : Sem Value).run P w = .ok v w) : (execOp a.eval o).run P w = .ok (.value v) w := by
  unfold execOp
  simp only [ho, hx, hy]
  simp only [Sem.run_bind, Sem.run_pure] at hl ⊢
  rw [hl]
  simp [Result.andThen]
theorem wp_region_quiet_in {P : Program} {C : World → Prop} {id : Nat} {Q : Exit → Act → World → Prop} {a : Act} {w : World} {l : List Oper} (hm : P.follows .mixedOrders = true) (hB : Region.lexB .any l.toArray = true) (hC : C w.drew)
    (h : wpQuiet P l.toArray C (fun a' => ∀ w', C w' → Q .normal a' w') l a) : (Code.region id l.toArray true).wp P Q a w :=
  wp_region_quiet (C := C) hm hB hC (by simpa using h)
def InW (W : World) : World → Prop := fun W' => Below W.heap.size W W'
end Go.Proofs.YteknflimfdkhoaaGreat
namespace Go.Proofs.YteknflimfdkhoaaGreat
open Go.RowKit Go.Maps
set_option linter.unusedVariables false
set_option linter.unusedSimpArgs false

/-- What stands while op.fits goes on. -/
structure FB (w : World) (o : OpV) (pA : Option Addr) (pc : Nat) (n : Int × Int) (mp : Nat) (D : DataW Value) (W : World) : Prop where
  bel : Below w.heap.size w W
  blk : Blk W w.heap.size 135 #[.int .i64 o.kind, .int .i64 o.obj.1, .int .i64 o.obj.2, .string o.key, .int .i64 o.elem.1, .int .i64 o.elem.2, .bool o.ins, .int .i64 o.val.k, .int .i64 o.val.n, .string o.val.s, .int .i64 o.val.o, .int .i64 o.val.p, .slice pA o.preds.length pc, .int .i64 n.1, .int .i64 n.2]
  ops : OpsM W mp D
  preds : SlAt W pA (refs o.preds)
theorem FB.new {w W W' : World} {o : OpV} {pA : Option Addr} {pc : Nat} {n : Int × Int} {mp : Nat} {D : DataW Value} (h : FB w o pA pc n mp D W) (hb : Below W.heap.size W W') : FB w o pA pc n mp D W' :=
  ⟨h.bel.trans (hb.mono h.bel.size), h.blk.below hb h.blk.lt, h.ops.below hb, h.preds.below hb⟩
theorem load15 {W : World} {b : Nat} {c0 c1 c2 c3 c4 c5 c6 c7 c8 c9 c10 c11 c12 c13 c14 : Value} (h : Blk W b 135 #[c0, c1, c2, c3, c4, c5, c6, c7, c8, c9, c10, c11, c12, c13, c14]) :
    (Instr.loadAt 135 (.pointer (some ⟨b, 0, none⟩))).run Tryz.prog W = .ok (.agg #[c0, c1, c2, c3, c4, c5, c6, c7, c8, c9, c10, c11, c12, c13, c14]) W := by
  have q0 := h.cell 0
  have q1 := h.cell 1
  have q2 := h.cell 2
  have q3 := h.cell 3
  have q4 := h.cell 4
  have q5 := h.cell 5
  have q6 := h.cell 6
  have q7 := h.cell 7
  have q8 := h.cell 8
  have q9 := h.cell 9
  have q10 := h.cell 10
  have q11 := h.cell 11
  have q12 := h.cell 12
  have q13 := h.cell 13
  have q14 := h.cell 14
  simp at q0 q1 q2 q3 q4 q5 q6 q7 q8 q9 q10 q11 q12 q13 q14
  go_simp
theorem load_i {W : World} {p : Addr} {x : Int} (h : W.cell? p = some (.int .i64 x)) : (Instr.loadAt 3 (.pointer (some p))).run Tryz.prog W = .ok (.int .i64 x) W := by
  go_simp
theorem fa_dag (b : Nat) (W : World) : (Instr.fieldAt 135 (.pointer (some ⟨b, 0, none⟩)) 0).run Tryz.prog W = .ok (.pointer (some ⟨b, 0, none⟩)) W := by go_simp
theorem fa_api (b : Nat) (W : World) : (Instr.fieldAt 51 (.pointer (some ⟨b, 0, none⟩)) 0).run Tryz.prog W = .ok (.pointer (some ⟨b, 0, none⟩)) W := by go_simp
def samePl (y1 x1 y2 x2 y4 x4 y5 x5 : Int) (y3 x3 : ByteArray) : Bool := !(decide (y1 = x1) && (decide (y2 = x2) && (decide (y3 = x3) && (decide (y4 = x4) && decide (y5 = x5)))))
theorem neq_place (y1 x1 y2 x2 y4 x4 y5 x5 : Int) (y3 x3 : ByteArray) (W : World) (p q : Operand) :
    (do eqGuard .neq 150 p q (.agg #[.int .i64 y1, .int .i64 y2, .string y3, .int .i64 y4, .int .i64 y5]) (.agg #[.int .i64 x1, .int .i64 x2, .string x3, .int .i64 x4, .int .i64 x5]); binOp .neq 150 (.agg #[.int .i64 y1, .int .i64 y2, .string y3, .int .i64 y4, .int .i64 y5]) (.agg #[.int .i64 x1, .int .i64 x2, .string x3, .int .i64 x4, .int .i64 x5]) : Sem Value).run Tryz.prog W = .ok (.bool (samePl y1 x1 y2 x2 y4 x4 y5 x5 y3 x3)) W := by
  unfold samePl
  rcases place_split y1 x1 y2 x2 y4 x4 y5 x5 y3 x3 with ⟨rfl, rfl, rfl, rfl, rfl⟩ | h | ⟨rfl, h⟩ | ⟨rfl, rfl, h, h7, h8⟩ | ⟨rfl, rfl, rfl, h⟩ | ⟨rfl, rfl, rfl, rfl, h⟩ <;> go_simp
theorem not_ff (h : false = true) : False := by cases h
def SomeB (w : World) (e : Ending) (w' : World) : Prop := ∃ x, e = .returned (.bool x) ∧ Below w.heap.size w w'

set_option maxRecDepth 100000 in
set_option maxHeartbeats 40000000 in
theorem opFits_any (o : OpV) (pA : Option Addr) (pc : Nat) (n : Int × Int) (mp : Nat) (D : DataW Value) (w : World) (hD : OpsM w mp D) (hp : SlAt w pA (refs o.preds)) (hf : o.Fit) :
    Calls Tryz.prog 76 #[OpX o pA pc n, .map (some mp)] w (SomeB w) := by
  unfold OpX
  obtain ⟨W0, hW0⟩ : ∃ W0, W0 = w.alloc (.cells #[.int .i64 o.kind, .int .i64 o.obj.1, .int .i64 o.obj.2, .string o.key, .int .i64 o.elem.1, .int .i64 o.elem.2, .bool o.ins, .int .i64 o.val.k, .int .i64 o.val.n, .string o.val.s, .int .i64 o.val.o, .int .i64 o.val.p, .slice pA o.preds.length pc, .int .i64 n.1, .int .i64 n.2] 135) := ⟨_, rfl⟩
  have hb0 : Below w.heap.size w W0 := by rw [hW0]; exact (Below.refl _ _).alloc (Nat.le_refl _) _
  have hF0 : FB w o pA pc n mp D W0 := ⟨hb0, by rw [hW0]; exact Blk.new _ _ _, hD.below hb0, hp.below hb0⟩
  have HF := Lib.hid (And.intro hF0 hf)
  have HW := Lib.hid hW0
  have hlen : o.preds.length ≤ 9223372036854775807 := by have := hf.len; unfold maxLen at this; omega
  clear hb0 hD hp hf hF0 hW0
  go_enter Tryz.func76, Tryz.ntmps76
  go_upto_region 2 with (fail)
  rw [← HW.out]
  have q0 : W0.cell? ⟨w.heap.size, 0, none⟩ = some (.int .i64 o.kind) := HF.out.1.blk.cell 0
  have q1 : W0.cell? ⟨w.heap.size, 1, none⟩ = some (.int .i64 o.obj.1) := HF.out.1.blk.cell 1
  have q2 : W0.cell? ⟨w.heap.size, 2, none⟩ = some (.int .i64 o.obj.2) := HF.out.1.blk.cell 2
  have q3 : W0.cell? ⟨w.heap.size, 3, none⟩ = some (.string o.key) := HF.out.1.blk.cell 3
  have q4 : W0.cell? ⟨w.heap.size, 4, none⟩ = some (.int .i64 o.elem.1) := HF.out.1.blk.cell 4
  have q5 : W0.cell? ⟨w.heap.size, 5, none⟩ = some (.int .i64 o.elem.2) := HF.out.1.blk.cell 5
  have q6 : W0.cell? ⟨w.heap.size, 6, none⟩ = some (.bool o.ins) := HF.out.1.blk.cell 6
  have q7 : W0.cell? ⟨w.heap.size, 7, none⟩ = some (.int .i64 o.val.k) := HF.out.1.blk.cell 7
  have q8 : W0.cell? ⟨w.heap.size, 8, none⟩ = some (.int .i64 o.val.n) := HF.out.1.blk.cell 8
  have q9 : W0.cell? ⟨w.heap.size, 9, none⟩ = some (.string o.val.s) := HF.out.1.blk.cell 9
  have q10 : W0.cell? ⟨w.heap.size, 10, none⟩ = some (.int .i64 o.val.o) := HF.out.1.blk.cell 10
  have q11 : W0.cell? ⟨w.heap.size, 11, none⟩ = some (.int .i64 o.val.p) := HF.out.1.blk.cell 11
  have q12 : W0.cell? ⟨w.heap.size, 12, none⟩ = some (.slice pA o.preds.length pc) := HF.out.1.blk.cell 12
  have q13 : W0.cell? ⟨w.heap.size, 13, none⟩ = some (.int .i64 n.1) := HF.out.1.blk.cell 13
  have q14 : W0.cell? ⟨w.heap.size, 14, none⟩ = some (.int .i64 n.2) := HF.out.1.blk.cell 14

  go_cut [18] from 14 to 18 (fun s18 wx => (∃ z : Bool, s18 = .bool z) ∧ wx = W0)
  case first =>
    obtain ⟨a, ha⟩ : ∃ a, (o.obj.1 == 0) = a := ⟨_, rfl⟩
    obtain ⟨b, hb⟩ : ∃ b, (o.obj.2 == 0) = b := ⟨_, rfl⟩
    cases a <;> cases b
    all_goals
      go_wp2_with fail
      go_meet
      exact ⟨⟨_, rfl⟩, rfl⟩
  case rest =>
    obtain ⟨⟨z, rfl⟩, rfl⟩ := hcut
    go_upto_if 18 with (fail)
    go_cut [5] from 6 to 38 (fun s5 wx => (∃ k : Int, s5 = .int .i64 k) ∧ FB w o pA pc n mp D wx)
    case first =>
      cases z with
      | false =>
        go_wp2_with fail
        go_meet
        exact ⟨⟨_, rfl⟩, HF.out.1⟩
      | true =>
        have hi := HF.out.2.obj
        obtain ⟨m, mA, mc, mn, hm⟩ := HF.out.1.ops.get hi
        obtain ⟨s, hs⟩ : ∃ s, (mget D o.obj).isSome = s := ⟨_, rfl⟩
        unfold OpX at hm
        have HM := Lib.hid (And.intro hm (And.intro hs hi))
        clear hm hs hi
        obtain ⟨k2, hk2⟩ : ∃ k2, (m.kind == 2) = k2 := ⟨_, rfl⟩
        have HA : ∀ cs t, Hid (FB w o pA pc n mp D (wc.alloc (.cells cs t))) := fun cs t => Lib.hid (HF.out.1.new ((Below.refl _ _).alloc (Nat.le_refl _) _))
        cases s <;> cases k2
        all_goals
          go_wp2_with (first | (at_lookup; refine wpList_look_ok _ rfl _ _ 133 rfl 24 135 pairId Tryz.underlying133 _ (zeroOpX _) mp _ D rfl HF.out.1.ops.1 o.obj rfl HM.out.2.2 _ HM.out.1 _ HM.out.2.1 ?_) | fail)
          first
            | (go_meet; exact ⟨⟨_, rfl⟩, (HA _ _).out⟩)
            | (go_ret; exact ⟨_, rfl, (HA _ _).out.bel⟩)
    case rest =>
      obtain ⟨⟨k, rfl⟩, hK⟩ := hcut
      have HK := Lib.hid hK
      clear hK
      clear q0 q1 q2 q3 q4 q5 q6 q7 q8 q9 q10 q11 q12 q13 q14
      have q0 : wc.cell? ⟨w.heap.size, 0, none⟩ = some (.int .i64 o.kind) := HK.out.blk.cell 0
      have q1 : wc.cell? ⟨w.heap.size, 1, none⟩ = some (.int .i64 o.obj.1) := HK.out.blk.cell 1
      have q2 : wc.cell? ⟨w.heap.size, 2, none⟩ = some (.int .i64 o.obj.2) := HK.out.blk.cell 2
      have q3 : wc.cell? ⟨w.heap.size, 3, none⟩ = some (.string o.key) := HK.out.blk.cell 3
      have q4 : wc.cell? ⟨w.heap.size, 4, none⟩ = some (.int .i64 o.elem.1) := HK.out.blk.cell 4
      have q5 : wc.cell? ⟨w.heap.size, 5, none⟩ = some (.int .i64 o.elem.2) := HK.out.blk.cell 5
      have q6 : wc.cell? ⟨w.heap.size, 6, none⟩ = some (.bool o.ins) := HK.out.blk.cell 6
      have q7 : wc.cell? ⟨w.heap.size, 7, none⟩ = some (.int .i64 o.val.k) := HK.out.blk.cell 7
      have q8 : wc.cell? ⟨w.heap.size, 8, none⟩ = some (.int .i64 o.val.n) := HK.out.blk.cell 8
      have q9 : wc.cell? ⟨w.heap.size, 9, none⟩ = some (.string o.val.s) := HK.out.blk.cell 9
      have q10 : wc.cell? ⟨w.heap.size, 10, none⟩ = some (.int .i64 o.val.o) := HK.out.blk.cell 10
      have q11 : wc.cell? ⟨w.heap.size, 11, none⟩ = some (.int .i64 o.val.p) := HK.out.blk.cell 11
      have q12 : wc.cell? ⟨w.heap.size, 12, none⟩ = some (.slice pA o.preds.length pc) := HK.out.blk.cell 12
      have q13 : wc.cell? ⟨w.heap.size, 13, none⟩ = some (.int .i64 n.1) := HK.out.blk.cell 13
      have q14 : wc.cell? ⟨w.heap.size, 14, none⟩ = some (.int .i64 n.2) := HK.out.blk.cell 14

      go_upto_region 7 with (fail)
      go_cut [45] from 39 to 45 (fun s45 wx => (∃ z : Bool, s45 = .bool z) ∧ wx = wc)
      case first =>
        obtain ⟨a, ha⟩ : ∃ a, (k == 5) = a := ⟨_, rfl⟩
        cases hk : o.key.toList.isEmpty with
        | false =>
          have hk2 : (!o.key.toList.isEmpty) = true := by rw [hk]; rfl
          cases a
          all_goals
            go_wp2_with fail
            go_meet
            exact ⟨⟨_, rfl⟩, rfl⟩
        | true =>
          have hk2 : o.key.toList = [] := by simpa using hk
          cases a
          all_goals
            go_wp2_with fail
            go_meet
            exact ⟨⟨_, rfl⟩, rfl⟩
      case rest =>
        obtain ⟨⟨z, rfl⟩, rfl⟩ := hcut
        cases z with
        | true =>
          go_wp2_with fail
          go_ret
          exact ⟨_, rfl, HK.out.bel⟩
        | false =>
          go_upto_region 9 with (fail)
          go_cut [50] from 46 to 50 (fun s50 wx => (∃ z : Bool, s50 = .bool z) ∧ wx = wc)
          case first =>
            obtain ⟨a, ha⟩ : ∃ a, (o.elem.1 == 0) = a := ⟨_, rfl⟩
            obtain ⟨b, hb⟩ : ∃ b, (o.elem.2 == 0) = b := ⟨_, rfl⟩
            cases a <;> cases b
            all_goals
              go_wp2_with fail
              go_meet
              exact ⟨⟨_, rfl⟩, rfl⟩
          case rest =>
            obtain ⟨⟨z, rfl⟩, rfl⟩ := hcut
            go_upto_if 50 with (fail)
            go_cut [8] from 8 to 75 (fun s8 wx => FB w o pA pc n mp D wx)
            case first =>
              cases z with
              | false =>
                go_wp2_with fail
                go_meet
                exact HK.out
              | true =>
                have hi := HF.out.2.elem
                obtain ⟨m, mA, mc, mn, hm⟩ := HK.out.ops.get hi
                obtain ⟨m1, m2, m3, m4, mi, m6, m7⟩ := m
                obtain ⟨s, hs⟩ : ∃ s, (mget D o.elem).isSome = s := ⟨_, rfl⟩
                unfold OpX at hm
                dsimp only at hm
                have HM := Lib.hid (And.intro hm (And.intro hs hi))
                clear hm hs hi
                obtain ⟨a, ha⟩ : ∃ a, (m2.1 == o.obj.1) = a := ⟨_, rfl⟩
                obtain ⟨b, hb⟩ : ∃ b, (m2.2 == o.obj.2) = b := ⟨_, rfl⟩
                have HA : ∀ cs t, Hid (FB w o pA pc n mp D (wc.alloc (.cells cs t))) := fun cs t => Lib.hid (HK.out.new ((Below.refl _ _).alloc (Nat.le_refl _) _))
                have r1 : (wc.alloc (.cells #[.int .i64 m1, .int .i64 m2.1, .int .i64 m2.2, .string m3, .int .i64 m4.1, .int .i64 m4.2, .bool mi, .int .i64 m6.k, .int .i64 m6.n, .string m6.s, .int .i64 m6.o, .int .i64 m6.p, .slice mA m7.length mc, .int .i64 mn.1, .int .i64 mn.2] 135)).cell? ⟨w.heap.size, 1, none⟩ = some (.int .i64 o.obj.1) := (HA _ _).out.blk.cell 1
                have r2 : (wc.alloc (.cells #[.int .i64 m1, .int .i64 m2.1, .int .i64 m2.2, .string m3, .int .i64 m4.1, .int .i64 m4.2, .bool mi, .int .i64 m6.k, .int .i64 m6.n, .string m6.s, .int .i64 m6.o, .int .i64 m6.p, .slice mA m7.length mc, .int .i64 mn.1, .int .i64 mn.2] 135)).cell? ⟨w.heap.size, 2, none⟩ = some (.int .i64 o.obj.2) := (HA _ _).out.blk.cell 2
                cases s <;> cases mi <;> cases a <;> cases b
                all_goals
                  go_wp2_with (first | (at_lookup; refine wpList_look_ok _ rfl _ _ 133 rfl 24 135 pairId Tryz.underlying133 _ (zeroOpX _) mp _ D rfl HK.out.ops.1 o.elem rfl HM.out.2.2 _ HM.out.1 _ HM.out.2.1 ?_) | fail)
                  first
                    | (go_meet; exact (HA _ _).out)
                    | (go_ret; exact ⟨_, rfl, (HA _ _).out.bel⟩)
            case rest =>
              have HK := Lib.hid hcut
              clear hcut
              clear q0 q1 q2 q3 q4 q5 q6 q7 q8 q9 q10 q11 q12 q13 q14
              have q12 : wc.cell? ⟨w.heap.size, 12, none⟩ = some (.slice pA o.preds.length pc) := HK.out.blk.cell 12
              go_wp2_with fail
              clear q12
              go_loopw [80, 11, 12, 13] (fun iv _ _ _ wr => ∃ j : Nat, iv = .int .i64 j ∧ j ≤ o.preds.length ∧ FB w o pA pc n mp D wr) (fun iv _ _ _ _ => o.preds.length - (intOf iv).toNat)
              case atStart => exact ⟨0, rfl, Nat.zero_le _, HK.out⟩
              case round =>
                obtain ⟨j, rfl, hj, hI⟩ := hrel
                by_cases hlt : j < o.preds.length
                · obtain ⟨b, off, d, ha, hd, hx, hy⟩ := hI.preds.ref hlt
                  have hdi := HF.out.2.preds d (List.mem_of_getElem? hd)
                  obtain ⟨m, mA, mc, mn, hm⟩ := hI.ops.get hdi
                  obtain ⟨m1, m2, m3, m4, mi, m6, m7⟩ := m
                  obtain ⟨s, hs⟩ : ∃ s, (mget D d).isSome = s := ⟨_, rfl⟩
                  unfold OpX at hm
                  dsimp only at hm
                  have HI := Lib.hid hI
                  have HM := Lib.hid (And.intro hm (And.intro hs hdi))
                  have H1 : ∀ cs t, Hid (FB w o pA pc n mp D (wr.alloc (.cells cs t))) := fun cs t => Lib.hid (hI.new ((Below.refl _ _).alloc (Nat.le_refl _) _))
                  clear hm hs hdi hd hI
                  have HA := Lib.hid ha
                  rw [ha]
                  clear ha
                  go_upto_region 17 with (first | (at_lookup; refine wpList_look_ok _ rfl _ _ 133 rfl 24 135 pairId Tryz.underlying133 _ (zeroOpX _) mp _ D rfl (H1 _ _).out.ops.1 d rfl HM.out.2.2 _ HM.out.1 _ HM.out.2.1 ?_) | fail)
                  obtain ⟨W1, hW1⟩ : ∃ W1, W1 = wr.alloc (.cells #[.int .i64 d.1, .int .i64 d.2] 24) := ⟨_, rfl⟩
                  obtain ⟨W2, hW2⟩ : ∃ W2, W2 = W1.alloc (.cells #[.int .i64 m1, .int .i64 m2.1, .int .i64 m2.2, .string m3, .int .i64 m4.1, .int .i64 m4.2, .bool mi, .int .i64 m6.k, .int .i64 m6.n, .string m6.s, .int .i64 m6.o, .int .i64 m6.p, .slice mA m7.length mc, .int .i64 mn.1, .int .i64 mn.2] 135) := ⟨_, rfl⟩
                  have hX : FB w o pA pc n mp D W2 ∧ Blk W2 (wr.heap.size + 1) 135 #[.int .i64 m1, .int .i64 m2.1, .int .i64 m2.2, .string m3, .int .i64 m4.1, .int .i64 m4.2, .bool mi, .int .i64 m6.k, .int .i64 m6.n, .string m6.s, .int .i64 m6.o, .int .i64 m6.p, .slice mA m7.length mc, .int .i64 mn.1, .int .i64 mn.2] := by
                    rw [hW2]
                    refine ⟨?_, Blk.newer _ _ _ (by rw [hW1]; simp)⟩
                    rw [hW1]
                    exact (H1 _ _).out.new ((Below.refl _ _).alloc (Nat.le_refl _) _)
                  rw [← hW1, ← hW2]
                  have HX := Lib.hid hX
                  clear hX hW1 hW2 H1 hx hy
                  go_cut [80, 110] from 80 to 128 (fun s80 s110 wx => s80 = .int .i64 j ∧ (∃ z : Bool, s110 = .bool z) ∧ FB w o pA pc n mp D wx ∧ Blk wx (wr.heap.size + 1) 135 #[.int .i64 m1, .int .i64 m2.1, .int .i64 m2.2, .string m3, .int .i64 m4.1, .int .i64 m4.2, .bool mi, .int .i64 m6.k, .int .i64 m6.n, .string m6.s, .int .i64 m6.o, .int .i64 m6.p, .slice mA m7.length mc, .int .i64 mn.1, .int .i64 mn.2])
                  case first =>
                    have q0 : W2.cell? ⟨w.heap.size, 0, none⟩ = some (.int .i64 o.kind) := HX.out.1.blk.cell 0
                    have q1 : W2.cell? ⟨w.heap.size, 1, none⟩ = some (.int .i64 o.obj.1) := HX.out.1.blk.cell 1
                    have q2 : W2.cell? ⟨w.heap.size, 2, none⟩ = some (.int .i64 o.obj.2) := HX.out.1.blk.cell 2
                    have q3 : W2.cell? ⟨w.heap.size, 3, none⟩ = some (.string o.key) := HX.out.1.blk.cell 3
                    have q4 : W2.cell? ⟨w.heap.size, 4, none⟩ = some (.int .i64 o.elem.1) := HX.out.1.blk.cell 4
                    have q5 : W2.cell? ⟨w.heap.size, 5, none⟩ = some (.int .i64 o.elem.2) := HX.out.1.blk.cell 5
                    have q6 : W2.cell? ⟨w.heap.size, 6, none⟩ = some (.bool o.ins) := HX.out.1.blk.cell 6
                    have q7 : W2.cell? ⟨w.heap.size, 7, none⟩ = some (.int .i64 o.val.k) := HX.out.1.blk.cell 7
                    have q8 : W2.cell? ⟨w.heap.size, 8, none⟩ = some (.int .i64 o.val.n) := HX.out.1.blk.cell 8
                    have q9 : W2.cell? ⟨w.heap.size, 9, none⟩ = some (.string o.val.s) := HX.out.1.blk.cell 9
                    have q10 : W2.cell? ⟨w.heap.size, 10, none⟩ = some (.int .i64 o.val.o) := HX.out.1.blk.cell 10
                    have q11 : W2.cell? ⟨w.heap.size, 11, none⟩ = some (.int .i64 o.val.p) := HX.out.1.blk.cell 11
                    have q12 : W2.cell? ⟨w.heap.size, 12, none⟩ = some (.slice pA o.preds.length pc) := HX.out.1.blk.cell 12
                    have q13 : W2.cell? ⟨w.heap.size, 13, none⟩ = some (.int .i64 n.1) := HX.out.1.blk.cell 13
                    have q14 : W2.cell? ⟨w.heap.size, 14, none⟩ = some (.int .i64 n.2) := HX.out.1.blk.cell 14

                    have p0 : W2.cell? ⟨(wr.heap.size + 1), 0, none⟩ = some (.int .i64 m1) := HX.out.2.cell 0
                    have p1 : W2.cell? ⟨(wr.heap.size + 1), 1, none⟩ = some (.int .i64 m2.1) := HX.out.2.cell 1
                    have p2 : W2.cell? ⟨(wr.heap.size + 1), 2, none⟩ = some (.int .i64 m2.2) := HX.out.2.cell 2
                    have p3 : W2.cell? ⟨(wr.heap.size + 1), 3, none⟩ = some (.string m3) := HX.out.2.cell 3
                    have p4 : W2.cell? ⟨(wr.heap.size + 1), 4, none⟩ = some (.int .i64 m4.1) := HX.out.2.cell 4
                    have p5 : W2.cell? ⟨(wr.heap.size + 1), 5, none⟩ = some (.int .i64 m4.2) := HX.out.2.cell 5
                    have p6 : W2.cell? ⟨(wr.heap.size + 1), 6, none⟩ = some (.bool mi) := HX.out.2.cell 6
                    have p7 : W2.cell? ⟨(wr.heap.size + 1), 7, none⟩ = some (.int .i64 m6.k) := HX.out.2.cell 7
                    have p8 : W2.cell? ⟨(wr.heap.size + 1), 8, none⟩ = some (.int .i64 m6.n) := HX.out.2.cell 8
                    have p9 : W2.cell? ⟨(wr.heap.size + 1), 9, none⟩ = some (.string m6.s) := HX.out.2.cell 9
                    have p10 : W2.cell? ⟨(wr.heap.size + 1), 10, none⟩ = some (.int .i64 m6.o) := HX.out.2.cell 10
                    have p11 : W2.cell? ⟨(wr.heap.size + 1), 11, none⟩ = some (.int .i64 m6.p) := HX.out.2.cell 11
                    have p12 : W2.cell? ⟨(wr.heap.size + 1), 12, none⟩ = some (.slice mA m7.length mc) := HX.out.2.cell 12
                    have p13 : W2.cell? ⟨(wr.heap.size + 1), 13, none⟩ = some (.int .i64 mn.1) := HX.out.2.cell 13
                    have p14 : W2.cell? ⟨(wr.heap.size + 1), 14, none⟩ = some (.int .i64 mn.2) := HX.out.2.cell 14

                    cases s with
                    | false =>
                      go_quiet (fail)
                      go_wp2_with fail
                      go_meet
                      exact ⟨rfl, ⟨_, rfl⟩, HX.out.1.new (below_drewN (Below.refl _ _) _), HX.out.2⟩
                    | true =>
                      have hS : ∀ W, Below W2.heap.size W2 W → W.cell? ⟨w.heap.size, 0, none⟩ = some (.int .i64 o.kind) ∧ W.cell? ⟨w.heap.size, 1, none⟩ = some (.int .i64 o.obj.1) ∧ W.cell? ⟨w.heap.size, 2, none⟩ = some (.int .i64 o.obj.2) ∧ W.cell? ⟨w.heap.size, 3, none⟩ = some (.string o.key) ∧ W.cell? ⟨w.heap.size, 4, none⟩ = some (.int .i64 o.elem.1) ∧ W.cell? ⟨w.heap.size, 5, none⟩ = some (.int .i64 o.elem.2) ∧ W.cell? ⟨w.heap.size, 6, none⟩ = some (.bool o.ins) ∧ W.cell? ⟨w.heap.size, 7, none⟩ = some (.int .i64 o.val.k) ∧ W.cell? ⟨w.heap.size, 8, none⟩ = some (.int .i64 o.val.n) ∧ W.cell? ⟨w.heap.size, 9, none⟩ = some (.string o.val.s) ∧ W.cell? ⟨w.heap.size, 10, none⟩ = some (.int .i64 o.val.o) ∧ W.cell? ⟨w.heap.size, 11, none⟩ = some (.int .i64 o.val.p) ∧ W.cell? ⟨w.heap.size, 12, none⟩ = some (.slice pA o.preds.length pc) ∧ W.cell? ⟨w.heap.size, 13, none⟩ = some (.int .i64 n.1) ∧ W.cell? ⟨w.heap.size, 14, none⟩ = some (.int .i64 n.2) ∧ W.cell? ⟨(wr.heap.size + 1), 0, none⟩ = some (.int .i64 m1) ∧ W.cell? ⟨(wr.heap.size + 1), 1, none⟩ = some (.int .i64 m2.1) ∧ W.cell? ⟨(wr.heap.size + 1), 2, none⟩ = some (.int .i64 m2.2) ∧ W.cell? ⟨(wr.heap.size + 1), 3, none⟩ = some (.string m3) ∧ W.cell? ⟨(wr.heap.size + 1), 4, none⟩ = some (.int .i64 m4.1) ∧ W.cell? ⟨(wr.heap.size + 1), 5, none⟩ = some (.int .i64 m4.2) ∧ W.cell? ⟨(wr.heap.size + 1), 6, none⟩ = some (.bool mi) ∧ W.cell? ⟨(wr.heap.size + 1), 7, none⟩ = some (.int .i64 m6.k) ∧ W.cell? ⟨(wr.heap.size + 1), 8, none⟩ = some (.int .i64 m6.n) ∧ W.cell? ⟨(wr.heap.size + 1), 9, none⟩ = some (.string m6.s) ∧ W.cell? ⟨(wr.heap.size + 1), 10, none⟩ = some (.int .i64 m6.o) ∧ W.cell? ⟨(wr.heap.size + 1), 11, none⟩ = some (.int .i64 m6.p) ∧ W.cell? ⟨(wr.heap.size + 1), 12, none⟩ = some (.slice mA m7.length mc) ∧ W.cell? ⟨(wr.heap.size + 1), 13, none⟩ = some (.int .i64 mn.1) ∧ W.cell? ⟨(wr.heap.size + 1), 14, none⟩ = some (.int .i64 mn.2) := by
                        intro W hW
                        have hB := HX.out.1.blk.below hW HX.out.1.blk.lt
                        have hC := HX.out.2.below hW HX.out.2.lt
                        exact ⟨hB.cell 0, hB.cell 1, hB.cell 2, hB.cell 3, hB.cell 4, hB.cell 5, hB.cell 6, hB.cell 7, hB.cell 8, hB.cell 9, hB.cell 10, hB.cell 11, hB.cell 12, hB.cell 13, hB.cell 14, hC.cell 0, hC.cell 1, hC.cell 2, hC.cell 3, hC.cell 4, hC.cell 5, hC.cell 6, hC.cell 7, hC.cell 8, hC.cell 9, hC.cell 10, hC.cell 11, hC.cell 12, hC.cell 13, hC.cell 14⟩
                      have HKS := Lib.hid hS
                      have hS0 := hS W2 (Below.refl _ _)
                      obtain ⟨x1, x2, x3, x4, x5, hPL⟩ := place_any o pA pc n
                      obtain ⟨y1, y2, y3, y4, y5, hPM⟩ := place_any ⟨m1, m2, m3, m4, mi, m6, m7⟩ mA mc mn
                      have HPL := Lib.hid (show ∀ W, Calls Tryz.prog 89 #[.agg #[.int .i64 o.kind, .int .i64 o.obj.1, .int .i64 o.obj.2, .string o.key, .int .i64 o.elem.1, .int .i64 o.elem.2, .bool o.ins, .int .i64 o.val.k, .int .i64 o.val.n, .string o.val.s, .int .i64 o.val.o, .int .i64 o.val.p, .slice pA o.preds.length pc, .int .i64 n.1, .int .i64 n.2]] W (PlaceE x1 x2 x3 x4 x5 W) from hPL)
                      have HPM := Lib.hid (show ∀ W, Calls Tryz.prog 89 #[.agg #[.int .i64 m1, .int .i64 m2.1, .int .i64 m2.2, .string m3, .int .i64 m4.1, .int .i64 m4.2, .bool mi, .int .i64 m6.k, .int .i64 m6.n, .string m6.s, .int .i64 m6.o, .int .i64 m6.p, .slice mA m7.length mc, .int .i64 mn.1, .int .i64 mn.2]] W (PlaceE y1 y2 y3 y4 y5 W) from hPM)
                      clear hPL hPM
                      clear hS hS0
                      by_cases h1 : m1 = 1
                      · subst h1
                        have HXB : ∀ W, InW W2 W → W.cell? ⟨wr.heap.size + 1, 0, none⟩ = some (.int .i64 1) := fun W hW => (HX.out.2.below hW HX.out.2.lt).cell 0
                        obtain ⟨zb, hzb⟩ : ∃ zb, samePl y1 x1 y2 x2 y4 x4 y5 x5 y3 x3 = zb := ⟨_, rfl⟩
                        have HZB := Lib.hid hzb
                        clear hzb
                        clear q0 q1 q2 q3 q4 q5 q6 q7 q8 q9 q10 q11 q12 q13 q14 p0 p1 p2 p3 p4 p5 p6 p7 p8 p9 p10 p11 p12 p13 p14
                        refine wp_region_quiet_in (C := InW W2) (by kernel_rfl) (by kernel_rfl) (Below.refl _ W2).drew ?_
                        refine quiet_run (.bool true) (by kernel_rfl) (fun W hW => (by kernel_rfl)) ?_
                        simp only [Act.put, List.setIfInBounds_toArray, List.set_cons_zero, List.set_cons_succ]
                        refine quiet_run (.bool false) (by kernel_rfl) (fun W hW => (by kernel_rfl)) ?_
                        simp only [Act.put, List.setIfInBounds_toArray, List.set_cons_zero, List.set_cons_succ]
                        refine quiet_run (.bool false) (by kernel_rfl) (fun W hW => (by kernel_rfl)) ?_
                        simp only [Act.put, List.setIfInBounds_toArray, List.set_cons_zero, List.set_cons_succ]
                        refine quiet_run (.pointer (some ⟨wr.heap.size + 1, 0, none⟩)) (by kernel_rfl) (fun W hW => exec_field rfl (by kernel_rfl) (fa_dag _ W)) ?_
                        simp only [Act.put, List.setIfInBounds_toArray, List.set_cons_zero, List.set_cons_succ]
                        refine quiet_run (.pointer (some ⟨wr.heap.size + 1, 0, none⟩)) (by kernel_rfl) (fun W hW => exec_field rfl (by kernel_rfl) (fa_api _ W)) ?_
                        simp only [Act.put, List.setIfInBounds_toArray, List.set_cons_zero, List.set_cons_succ]
                        refine quiet_run (.int .i64 1) (by kernel_rfl) (fun W hW => exec_load rfl (by kernel_rfl) (load_i (HXB W hW))) ?_
                        simp only [Act.put, List.setIfInBounds_toArray, List.set_cons_zero, List.set_cons_succ]
                        refine quiet_run (.bool false) (by kernel_rfl) (fun W hW => (by kernel_rfl)) ?_
                        simp only [Act.put, List.setIfInBounds_toArray, List.set_cons_zero, List.set_cons_succ]
                        refine quiet_run (.bool false) (by kernel_rfl) (fun W hW => (by kernel_rfl)) ?_
                        simp only [Act.put, List.setIfInBounds_toArray, List.set_cons_zero, List.set_cons_succ]
                        refine quiet_skip (by kernel_rfl) ?_
                        simp only [Act.put, List.setIfInBounds_toArray, List.set_cons_zero, List.set_cons_succ]
                        refine quiet_skip (by kernel_rfl) ?_
                        simp only [Act.put, List.setIfInBounds_toArray, List.set_cons_zero, List.set_cons_succ]
                        refine quiet_skip (by kernel_rfl) ?_
                        simp only [Act.put, List.setIfInBounds_toArray, List.set_cons_zero, List.set_cons_succ]
                        refine quiet_skip (by kernel_rfl) ?_
                        simp only [Act.put, List.setIfInBounds_toArray, List.set_cons_zero, List.set_cons_succ]
                        refine quiet_run (.bool false) (by kernel_rfl) (fun W hW => (by kernel_rfl)) ?_
                        simp only [Act.put, List.setIfInBounds_toArray, List.set_cons_zero, List.set_cons_succ]
                        refine quiet_run (.bool false) (by kernel_rfl) (fun W hW => (by kernel_rfl)) ?_
                        simp only [Act.put, List.setIfInBounds_toArray, List.set_cons_zero, List.set_cons_succ]
                        refine quiet_run (.bool false) (by kernel_rfl) (fun W hW => (by kernel_rfl)) ?_
                        simp only [Act.put, List.setIfInBounds_toArray, List.set_cons_zero, List.set_cons_succ]
                        refine quiet_run (.agg #[.int .i64 1, .int .i64 m2.1, .int .i64 m2.2, .string m3, .int .i64 m4.1, .int .i64 m4.2, .bool mi, .int .i64 m6.k, .int .i64 m6.n, .string m6.s, .int .i64 m6.o, .int .i64 m6.p, .slice mA m7.length mc, .int .i64 mn.1, .int .i64 mn.2]) (by kernel_rfl) (fun W hW => exec_load rfl (by kernel_rfl) (load15 (HX.out.2.below hW HX.out.2.lt))) ?_
                        simp only [Act.put, List.setIfInBounds_toArray, List.set_cons_zero, List.set_cons_succ]
                        refine quiet_call (.agg #[.int .i64 y1, .int .i64 y2, .string y3, .int .i64 y4, .int .i64 y5]) _ _ (by kernel_rfl) (fun W => by kernel_rfl) (fun W hW => (HPM.out W).mono (fun e w3 h3 => ⟨h3.1, hW.trans (h3.2.mono hW.size)⟩)) ?_
                        simp only [Act.put, List.setIfInBounds_toArray, List.set_cons_zero, List.set_cons_succ]
                        refine quiet_run (.agg #[.int .i64 o.kind, .int .i64 o.obj.1, .int .i64 o.obj.2, .string o.key, .int .i64 o.elem.1, .int .i64 o.elem.2, .bool o.ins, .int .i64 o.val.k, .int .i64 o.val.n, .string o.val.s, .int .i64 o.val.o, .int .i64 o.val.p, .slice pA o.preds.length pc, .int .i64 n.1, .int .i64 n.2]) (by kernel_rfl) (fun W hW => exec_load rfl (by kernel_rfl) (load15 (HX.out.1.blk.below hW HX.out.1.blk.lt))) ?_
                        simp only [Act.put, List.setIfInBounds_toArray, List.set_cons_zero, List.set_cons_succ]
                        refine quiet_call (.agg #[.int .i64 x1, .int .i64 x2, .string x3, .int .i64 x4, .int .i64 x5]) _ _ (by kernel_rfl) (fun W => by kernel_rfl) (fun W hW => (HPL.out W).mono (fun e w3 h3 => ⟨h3.1, hW.trans (h3.2.mono hW.size)⟩)) ?_
                        simp only [Act.put, List.setIfInBounds_toArray, List.set_cons_zero, List.set_cons_succ]
                        refine quiet_run (.bool zb) (by kernel_rfl) (fun W hW => by rw [← HZB.out]; exact exec_bin rfl (by kernel_rfl) (by kernel_rfl) (neq_place _ _ _ _ _ _ _ _ _ _ _ _ _)) ?_
                        simp only [Act.put, List.setIfInBounds_toArray, List.set_cons_zero, List.set_cons_succ]
                        refine quiet_run (.bool zb) (by kernel_rfl) (fun W hW => (by kernel_rfl)) ?_
                        simp only [Act.put, List.setIfInBounds_toArray, List.set_cons_zero, List.set_cons_succ]
                        refine wpQuiet_nil ?_
                        intro w9 hw9
                        go_simp
                        go_wp2_with fail
                        go_meet
                        exact ⟨rfl, ⟨_, rfl⟩, HX.out.1.new hw9, HX.out.2.below hw9 HX.out.2.lt⟩
                      · by_cases h2 : m1 = 2
                        · subst h2
                          have HXB : ∀ W, InW W2 W → W.cell? ⟨wr.heap.size + 1, 0, none⟩ = some (.int .i64 2) := fun W hW => (HX.out.2.below hW HX.out.2.lt).cell 0
                          obtain ⟨zb, hzb⟩ : ∃ zb, samePl y1 x1 y2 x2 y4 x4 y5 x5 y3 x3 = zb := ⟨_, rfl⟩
                          have HZB := Lib.hid hzb
                          clear hzb
                          clear q0 q1 q2 q3 q4 q5 q6 q7 q8 q9 q10 q11 q12 q13 q14 p0 p1 p2 p3 p4 p5 p6 p7 p8 p9 p10 p11 p12 p13 p14
                          refine wp_region_quiet_in (C := InW W2) (by kernel_rfl) (by kernel_rfl) (Below.refl _ W2).drew ?_
                          refine quiet_run (.bool true) (by kernel_rfl) (fun W hW => (by kernel_rfl)) ?_
                          simp only [Act.put, List.setIfInBounds_toArray, List.set_cons_zero, List.set_cons_succ]
                          refine quiet_run (.bool false) (by kernel_rfl) (fun W hW => (by kernel_rfl)) ?_
                          simp only [Act.put, List.setIfInBounds_toArray, List.set_cons_zero, List.set_cons_succ]
                          refine quiet_run (.bool false) (by kernel_rfl) (fun W hW => (by kernel_rfl)) ?_
                          simp only [Act.put, List.setIfInBounds_toArray, List.set_cons_zero, List.set_cons_succ]
                          refine quiet_run (.pointer (some ⟨wr.heap.size + 1, 0, none⟩)) (by kernel_rfl) (fun W hW => exec_field rfl (by kernel_rfl) (fa_dag _ W)) ?_
                          simp only [Act.put, List.setIfInBounds_toArray, List.set_cons_zero, List.set_cons_succ]
                          refine quiet_run (.pointer (some ⟨wr.heap.size + 1, 0, none⟩)) (by kernel_rfl) (fun W hW => exec_field rfl (by kernel_rfl) (fa_api _ W)) ?_
                          simp only [Act.put, List.setIfInBounds_toArray, List.set_cons_zero, List.set_cons_succ]
                          refine quiet_run (.int .i64 2) (by kernel_rfl) (fun W hW => exec_load rfl (by kernel_rfl) (load_i (HXB W hW))) ?_
                          simp only [Act.put, List.setIfInBounds_toArray, List.set_cons_zero, List.set_cons_succ]
                          refine quiet_run (.bool true) (by kernel_rfl) (fun W hW => (by kernel_rfl)) ?_
                          simp only [Act.put, List.setIfInBounds_toArray, List.set_cons_zero, List.set_cons_succ]
                          refine quiet_run (.bool true) (by kernel_rfl) (fun W hW => (by kernel_rfl)) ?_
                          simp only [Act.put, List.setIfInBounds_toArray, List.set_cons_zero, List.set_cons_succ]
                          refine quiet_run (.pointer (some ⟨wr.heap.size + 1, 0, none⟩)) (by kernel_rfl) (fun W hW => exec_field rfl (by kernel_rfl) (fa_dag _ W)) ?_
                          simp only [Act.put, List.setIfInBounds_toArray, List.set_cons_zero, List.set_cons_succ]
                          refine quiet_run (.pointer (some ⟨wr.heap.size + 1, 0, none⟩)) (by kernel_rfl) (fun W hW => exec_field rfl (by kernel_rfl) (fa_api _ W)) ?_
                          simp only [Act.put, List.setIfInBounds_toArray, List.set_cons_zero, List.set_cons_succ]
                          refine quiet_run (.int .i64 2) (by kernel_rfl) (fun W hW => exec_load rfl (by kernel_rfl) (load_i (HXB W hW))) ?_
                          simp only [Act.put, List.setIfInBounds_toArray, List.set_cons_zero, List.set_cons_succ]
                          refine quiet_run (.bool false) (by kernel_rfl) (fun W hW => (by kernel_rfl)) ?_
                          simp only [Act.put, List.setIfInBounds_toArray, List.set_cons_zero, List.set_cons_succ]
                          refine quiet_run (.bool false) (by kernel_rfl) (fun W hW => (by kernel_rfl)) ?_
                          simp only [Act.put, List.setIfInBounds_toArray, List.set_cons_zero, List.set_cons_succ]
                          refine quiet_run (.bool false) (by kernel_rfl) (fun W hW => (by kernel_rfl)) ?_
                          simp only [Act.put, List.setIfInBounds_toArray, List.set_cons_zero, List.set_cons_succ]
                          refine quiet_run (.bool false) (by kernel_rfl) (fun W hW => (by kernel_rfl)) ?_
                          simp only [Act.put, List.setIfInBounds_toArray, List.set_cons_zero, List.set_cons_succ]
                          refine quiet_run (.agg #[.int .i64 2, .int .i64 m2.1, .int .i64 m2.2, .string m3, .int .i64 m4.1, .int .i64 m4.2, .bool mi, .int .i64 m6.k, .int .i64 m6.n, .string m6.s, .int .i64 m6.o, .int .i64 m6.p, .slice mA m7.length mc, .int .i64 mn.1, .int .i64 mn.2]) (by kernel_rfl) (fun W hW => exec_load rfl (by kernel_rfl) (load15 (HX.out.2.below hW HX.out.2.lt))) ?_
                          simp only [Act.put, List.setIfInBounds_toArray, List.set_cons_zero, List.set_cons_succ]
                          refine quiet_call (.agg #[.int .i64 y1, .int .i64 y2, .string y3, .int .i64 y4, .int .i64 y5]) _ _ (by kernel_rfl) (fun W => by kernel_rfl) (fun W hW => (HPM.out W).mono (fun e w3 h3 => ⟨h3.1, hW.trans (h3.2.mono hW.size)⟩)) ?_
                          simp only [Act.put, List.setIfInBounds_toArray, List.set_cons_zero, List.set_cons_succ]
                          refine quiet_run (.agg #[.int .i64 o.kind, .int .i64 o.obj.1, .int .i64 o.obj.2, .string o.key, .int .i64 o.elem.1, .int .i64 o.elem.2, .bool o.ins, .int .i64 o.val.k, .int .i64 o.val.n, .string o.val.s, .int .i64 o.val.o, .int .i64 o.val.p, .slice pA o.preds.length pc, .int .i64 n.1, .int .i64 n.2]) (by kernel_rfl) (fun W hW => exec_load rfl (by kernel_rfl) (load15 (HX.out.1.blk.below hW HX.out.1.blk.lt))) ?_
                          simp only [Act.put, List.setIfInBounds_toArray, List.set_cons_zero, List.set_cons_succ]
                          refine quiet_call (.agg #[.int .i64 x1, .int .i64 x2, .string x3, .int .i64 x4, .int .i64 x5]) _ _ (by kernel_rfl) (fun W => by kernel_rfl) (fun W hW => (HPL.out W).mono (fun e w3 h3 => ⟨h3.1, hW.trans (h3.2.mono hW.size)⟩)) ?_
                          simp only [Act.put, List.setIfInBounds_toArray, List.set_cons_zero, List.set_cons_succ]
                          refine quiet_run (.bool zb) (by kernel_rfl) (fun W hW => by rw [← HZB.out]; exact exec_bin rfl (by kernel_rfl) (by kernel_rfl) (neq_place _ _ _ _ _ _ _ _ _ _ _ _ _)) ?_
                          simp only [Act.put, List.setIfInBounds_toArray, List.set_cons_zero, List.set_cons_succ]
                          refine quiet_run (.bool zb) (by kernel_rfl) (fun W hW => (by kernel_rfl)) ?_
                          simp only [Act.put, List.setIfInBounds_toArray, List.set_cons_zero, List.set_cons_succ]
                          refine wpQuiet_nil ?_
                          intro w9 hw9
                          go_simp
                          go_wp2_with fail
                          go_meet
                          exact ⟨rfl, ⟨_, rfl⟩, HX.out.1.new hw9, HX.out.2.below hw9 HX.out.2.lt⟩
                        · have e1 : (m1 == 1) = false := by simpa using h1
                          have e2 : (m1 == 2) = false := by simpa using h2
                          have f1 : decide (m1 = 1) = false := by simpa using h1
                          have f2 : decide (m1 = 2) = false := by simpa using h2
                          go_quiet (fail)
                          go_wp2_with fail
                          go_meet
                          exact ⟨rfl, ⟨_, rfl⟩, HX.out.1.new (below_drewN (Below.refl _ _) _), HX.out.2⟩
                  case rest =>
                    obtain ⟨rfl, ⟨z, rfl⟩, hX⟩ := hcut
                    have HX := Lib.hid hX
                    clear hX
                    have q0 : wc.cell? ⟨w.heap.size, 0, none⟩ = some (.int .i64 o.kind) := HX.out.1.blk.cell 0
                    have p0 : wc.cell? ⟨wr.heap.size + 1, 0, none⟩ = some (.int .i64 m1) := HX.out.2.cell 0
                    have p7 : wc.cell? ⟨wr.heap.size + 1, 7, none⟩ = some (.int .i64 m6.k) := HX.out.2.cell 7
                    cases z with
                    | true =>
                      go_wp2_with fail
                      go_ret
                      exact ⟨_, rfl, HX.out.1.bel⟩
                    | false =>
                      obtain ⟨a, ha⟩ : ∃ a, (o.kind == 4) = a := ⟨_, rfl⟩
                      obtain ⟨b1, hb⟩ : ∃ b, (m1 == 1) = b := ⟨_, rfl⟩
                      obtain ⟨c1, hc⟩ : ∃ c, (m6.k == 4) = c := ⟨_, rfl⟩
                      cases a <;> cases b1 <;> cases c1
                      all_goals go_wp2_with fail
                      all_goals
                        first
                          | (go_ret; exact ⟨_, rfl, HX.out.1.bel⟩)
                          | exact ⟨⟨j + 1, by push_cast; rfl, by omega, by rw [← HA.out]; exact HX.out.1⟩, by simp [intOf]; omega⟩
                · obtain rfl : j = o.preds.length := by omega
                  have HI := Lib.hid hI
                  clear hI
                  go_wp2_with fail
                  go_ret
                  exact ⟨_, rfl, HI.out.bel⟩
end Go.Proofs.YteknflimfdkhoaaGreat
