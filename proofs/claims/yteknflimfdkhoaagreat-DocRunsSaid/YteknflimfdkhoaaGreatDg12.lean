/- dag.same: contracts. dag.same: a contract. -/
import Derived.Test.YteknflimfdkhoaaGreatDg10
import Derived.Test.YteknflimfdkhoaaGreatDg11
namespace Go.Proofs.YteknflimfdkhoaaGreat
open Go.RowKit
set_option linter.unusedVariables false
set_option linter.unusedSimpArgs false

def opSame (x y : OpV) : Bool := (x.kind == y.kind) && (pairSame x.obj y.obj && (decide (x.key = y.key) && (pairSame x.elem y.elem && ((x.ins == y.ins) && (jvSame x.val y.val && decide (x.preds = y.preds))))))
theorem opSame_iff (x y : OpV) : opSame x y = true ↔ x = y := by
  obtain ⟨a1, a2, a3, a4, a5, a6, a7⟩ := x
  obtain ⟨b1, b2, b3, b4, b5, b6, b7⟩ := y
  simp [opSame, pairSame_iff, jvSame_iff]
instance : DecidableEq OpV := fun x y => decidable_of_iff (opSame x y = true) (opSame_iff x y)
theorem run_eql_str (a b : ByteArray) (w : World) : (binOp .eql 9 (.string a) (.string b)).run Tryz.prog w = .ok (.bool (decide (a = b))) w := by
  have hs : (a.toList = b.toList) ↔ a = b := ⟨fun h => Go.WideShapes.bytes_inj (by simpa [ByteArray.toList_eq] using h), fun h => by rw [h]⟩
  go_simp
  by_cases h : a = b <;> simp [hs, h]

set_option maxRecDepth 100000 in
set_option maxHeartbeats 2000000 in
theorem same1_any (x y : OpV) (pA qA : Option Addr) (pc qc : Nat) (w : World) (hA : SlAt w pA (refs x.preds)) (hB : SlAt w qA (refs y.preds)) (ha : x.preds.length ≤ maxLen) (hb : y.preds.length ≤ maxLen) :
    Calls Tryz.prog 73 #[.agg #[.int .i64 x.kind, .int .i64 x.obj.1, .int .i64 x.obj.2, .string x.key, .int .i64 x.elem.1, .int .i64 x.elem.2, .bool x.ins, .int .i64 x.val.k, .int .i64 x.val.n, .string x.val.s, .int .i64 x.val.o, .int .i64 x.val.p, .slice pA x.preds.length pc], .agg #[.int .i64 y.kind, .int .i64 y.obj.1, .int .i64 y.obj.2, .string y.key, .int .i64 y.elem.1, .int .i64 y.elem.2, .bool y.ins, .int .i64 y.val.k, .int .i64 y.val.n, .string y.val.s, .int .i64 y.val.o, .int .i64 y.val.p, .slice qA y.preds.length qc]] w fun e w' => e = .returned (.bool (opSame x y)) ∧ Below w.heap.size w w' := by
  have HB := Lib.hid (show Below w.heap.size w ((w.alloc (.cells #[.int .i64 x.kind, .int .i64 x.obj.1, .int .i64 x.obj.2, .string x.key, .int .i64 x.elem.1, .int .i64 x.elem.2, .bool x.ins, .int .i64 x.val.k, .int .i64 x.val.n, .string x.val.s, .int .i64 x.val.o, .int .i64 x.val.p, .slice pA x.preds.length pc] 51)).alloc (.cells #[.int .i64 y.kind, .int .i64 y.obj.1, .int .i64 y.obj.2, .string y.key, .int .i64 y.elem.1, .int .i64 y.elem.2, .bool y.ins, .int .i64 y.val.k, .int .i64 y.val.n, .string y.val.s, .int .i64 y.val.o, .int .i64 y.val.p, .slice qA y.preds.length qc] 51)) from ((Below.refl _ _).alloc (Nat.le_refl _) _).alloc (by simp) _)
  have HE := Lib.hid (equalId_any pA qA pc qc x.preds y.preds _ (hA.below HB.out) (hB.below HB.out) ha hb)
  obtain ⟨r, hr⟩ : ∃ r, opSame x y = r := ⟨_, rfl⟩
  rw [hr]
  unfold opSame at hr
  obtain ⟨q7, h7⟩ : ∃ q, decide (x.preds = y.preds) = q := ⟨_, rfl⟩
  rw [h7] at hr HE
  have g2 := fun w => run_eql_id x.obj y.obj w
  have g3 := fun w => run_eql_str x.key y.key w
  have g4 := fun w => run_eql_id x.elem y.elem w
  have g6 := fun w => run_eql_jv x.val y.val w
  obtain ⟨q1, h1⟩ : ∃ q, (x.kind == y.kind) = q := ⟨_, rfl⟩
  obtain ⟨q2, h2⟩ : ∃ q, pairSame x.obj y.obj = q := ⟨_, rfl⟩
  obtain ⟨q3, h3⟩ : ∃ q, decide (x.key = y.key) = q := ⟨_, rfl⟩
  obtain ⟨q4, h4⟩ : ∃ q, pairSame x.elem y.elem = q := ⟨_, rfl⟩
  obtain ⟨q5, h5⟩ : ∃ q, (x.ins == y.ins) = q := ⟨_, rfl⟩
  obtain ⟨q6, h6⟩ : ∃ q, jvSame x.val y.val = q := ⟨_, rfl⟩
  rw [h1, h2, h3, h4, h5, h6] at hr
  rw [h2] at g2
  rw [h3] at g3
  rw [h4] at g4
  rw [h6] at g6
  have hst : q3 = true → x.key.toList = y.key.toList := fun e => by rw [of_decide_eq_true (h3.trans e)]
  have hsf : q3 = false → ¬ x.key.toList = y.key.toList := fun e h => of_decide_eq_false (h3.trans e) (Go.WideShapes.bytes_inj (by simpa [ByteArray.toList_eq] using h))
  have HR := Lib.hid hr
  have HST := Lib.hid (And.intro hst hsf)
  clear hr h2 h3 h4 h6 h7 hA hB hst hsf
  by_cases ho : q1 = true ∧ q2 = true ∧ q3 = true ∧ q4 = true ∧ q5 = true ∧ q6 = true
  · obtain ⟨rfl, rfl, rfl, rfl, rfl, rfl⟩ := ho
    have g3' := HST.out.1 rfl
    go_enter Tryz.func73, Tryz.ntmps73
    go_wp2_with (go_at_call 74; refine HE.out.mono ?_; rintro e w1 ⟨rfl, hb1⟩)
    go_ret
    exact ⟨by rw [← HR.out]; rfl, HB.out.trans (hb1.mono HB.out.size)⟩
  · have hrf : r = false := by
      rw [← HR.out]
      cases q1 <;> cases q2 <;> cases q3 <;> cases q4 <;> cases q5 <;> cases q6 <;> simp at ho ⊢
    subst hrf
    clear HR HE
    cases q1 with
    | false =>
      clear ho
      go_enter Tryz.func73, Tryz.ntmps73
      go_wp2_with fail
      go_ret
      exact ⟨rfl, HB.out⟩
    | true =>
      cases q2 with
      | false =>
        clear ho
        go_enter Tryz.func73, Tryz.ntmps73
        go_wp2_with fail
        go_ret
        exact ⟨rfl, HB.out⟩
      | true =>
        cases q3 with
        | false =>
          have g3' := HST.out.2 rfl
          clear ho
          go_enter Tryz.func73, Tryz.ntmps73
          go_wp2_with fail
          go_ret
          exact ⟨rfl, HB.out⟩
        | true =>
          have g3' := HST.out.1 rfl
          cases q4 with
          | false =>
            clear ho
            go_enter Tryz.func73, Tryz.ntmps73
            go_wp2_with fail
            go_ret
            exact ⟨rfl, HB.out⟩
          | true =>
            cases q5 with
            | false =>
              clear ho
              go_enter Tryz.func73, Tryz.ntmps73
              go_wp2_with fail
              go_ret
              exact ⟨rfl, HB.out⟩
            | true =>
              cases q6 with
              | false =>
                clear ho
                go_enter Tryz.func73, Tryz.ntmps73
                go_wp2_with fail
                go_ret
                exact ⟨rfl, HB.out⟩
              | true => simp at ho

theorem map_op_take {a b : List POp} {k : Nat} {x y : POp} (hx : a[k]? = some x) (hy : b[k]? = some y) (h : x.op = y.op) (ht : (a.map POp.op).take k = (b.map POp.op).take k) : (a.map POp.op).take (k + 1) = (b.map POp.op).take (k + 1) :=
  pair_take_eq (x := x.op) (by simp [hx]) (by simp [hy, h]) ht

set_option maxRecDepth 100000 in
set_option maxHeartbeats 2000000 in
theorem equalOps_any (A B : Option Addr) (c d : Nat) (a b : List POp) (w : World) (hA : SlAt w A (opsCells a)) (hB : SlAt w B (opsCells b)) (ha : a.length ≤ maxLen) (hb : b.length ≤ maxLen)
    (hpa : ∀ o ∈ a, SlAt w o.pA (refs o.op.preds) ∧ o.op.preds.length ≤ maxLen) (hpb : ∀ o ∈ b, SlAt w o.pA (refs o.op.preds) ∧ o.op.preds.length ≤ maxLen) :
    Calls Tryz.prog 72 #[.slice A a.length c, .slice B b.length d, .func (.func 73) #[] #[]] w fun e w' => e = .returned (.bool (decide (a.map POp.op = b.map POp.op))) ∧ Below w.heap.size w w' := by
  unfold maxLen at ha hb
  by_cases hl : a.length = b.length
  · obtain ⟨n, hn⟩ : ∃ n, b.length = n := ⟨_, rfl⟩
    rw [hl, hn]
    rw [hl, hn] at ha
    have hni : n ≤ 9223372036854775807 := by omega
    have HL := Lib.hid (And.intro hl hn)
    have HH := Lib.hid (And.intro hA (And.intro hB (And.intro hpa hpb)))
    clear hl hn hb ha hA hB hpa hpb
    go_enter Tryz.func72, Tryz.ntmps72
    go_wp2_with fail
    go_loopw [17, 7, 8, 9] (fun i _ _ _ wr => ∃ k : Nat, k ≤ n ∧ i = .int .i64 k ∧ (a.map POp.op).take k = (b.map POp.op).take k ∧ Below w.heap.size w wr) (fun i _ _ _ _ => n - (intOf i).toNat)
    case atStart => exact ⟨0, by omega, rfl, rfl, Below.refl _ _⟩
    case round =>
      obtain ⟨k, hk, rfl, ht, hbr⟩ := hrel
      by_cases hlt : k < n
      · obtain ⟨x, hx⟩ : ∃ x, a[k]? = some x := ⟨_, List.getElem?_eq_getElem (by rw [HL.out.1, HL.out.2]; exact hlt)⟩
        obtain ⟨y, hy⟩ : ∃ y, b[k]? = some y := ⟨_, List.getElem?_eq_getElem (by rw [HL.out.2]; exact hlt)⟩
        obtain ⟨b1, o1, ea, hca⟩ := (HH.out.1.below hbr).op hx
        obtain ⟨b2, o2, eb, hcb⟩ := (HH.out.2.1.below hbr).op hy
        rw [ea, eb]
        have hbs := hbr.size
        have HQ := Lib.hid (fun W (hW : Below wr.heap.size wr W) => same1_any x.op y.op x.pA y.pA x.pc y.pc W ((HH.out.2.2.1 x (List.mem_of_getElem? hx)).1.below (hbr.trans (hW.mono hbs))) ((HH.out.2.2.2 y (List.mem_of_getElem? hy)).1.below (hbr.trans (hW.mono hbs))) (HH.out.2.2.1 x (List.mem_of_getElem? hx)).2 (HH.out.2.2.2 y (List.mem_of_getElem? hy)).2)
        have a0 : wr.cell? ⟨b1, o1 + k * 13, none⟩ = some (.int .i64 x.op.kind) := hca 0 _ rfl
        have a1 : wr.cell? ⟨b1, o1 + k * 13 + 1, none⟩ = some (.int .i64 x.op.obj.1) := hca 1 _ rfl
        have a2 : wr.cell? ⟨b1, o1 + k * 13 + 2, none⟩ = some (.int .i64 x.op.obj.2) := hca 2 _ rfl
        have a3 : wr.cell? ⟨b1, o1 + k * 13 + 3, none⟩ = some (.string x.op.key) := hca 3 _ rfl
        have a4 : wr.cell? ⟨b1, o1 + k * 13 + 4, none⟩ = some (.int .i64 x.op.elem.1) := hca 4 _ rfl
        have a5 : wr.cell? ⟨b1, o1 + k * 13 + 5, none⟩ = some (.int .i64 x.op.elem.2) := hca 5 _ rfl
        have a6 : wr.cell? ⟨b1, o1 + k * 13 + 6, none⟩ = some (.bool x.op.ins) := hca 6 _ rfl
        have a7 : wr.cell? ⟨b1, o1 + k * 13 + 7, none⟩ = some (.int .i64 x.op.val.k) := hca 7 _ rfl
        have a8 : wr.cell? ⟨b1, o1 + k * 13 + 8, none⟩ = some (.int .i64 x.op.val.n) := hca 8 _ rfl
        have a9 : wr.cell? ⟨b1, o1 + k * 13 + 9, none⟩ = some (.string x.op.val.s) := hca 9 _ rfl
        have a10 : wr.cell? ⟨b1, o1 + k * 13 + 10, none⟩ = some (.int .i64 x.op.val.o) := hca 10 _ rfl
        have a11 : wr.cell? ⟨b1, o1 + k * 13 + 11, none⟩ = some (.int .i64 x.op.val.p) := hca 11 _ rfl
        have a12 : wr.cell? ⟨b1, o1 + k * 13 + 12, none⟩ = some (.slice x.pA x.op.preds.length x.pc) := hca 12 _ rfl
        have HX := Lib.hid (And.intro hx (And.intro hy (And.intro ht hbr)))
        clear hx hy ht hbr ea hca
        obtain ⟨p, hp⟩ : ∃ p, opSame x.op y.op = p := ⟨_, rfl⟩
        rw [hp] at HQ
        have HP := Lib.hid hp
        clear hp
        have hb2 : Below wr.heap.size wr (wr.alloc (.cells #[.int .i64 x.op.kind, .int .i64 x.op.obj.1, .int .i64 x.op.obj.2, .string x.op.key, .int .i64 x.op.elem.1, .int .i64 x.op.elem.2, .bool x.op.ins, .int .i64 x.op.val.k, .int .i64 x.op.val.n, .string x.op.val.s, .int .i64 x.op.val.o, .int .i64 x.op.val.p, .slice x.pA x.op.preds.length x.pc] 51)) := (Below.refl _ _).alloc (Nat.le_refl _) _
        have b0_ : (wr.alloc (.cells #[.int .i64 x.op.kind, .int .i64 x.op.obj.1, .int .i64 x.op.obj.2, .string x.op.key, .int .i64 x.op.elem.1, .int .i64 x.op.elem.2, .bool x.op.ins, .int .i64 x.op.val.k, .int .i64 x.op.val.n, .string x.op.val.s, .int .i64 x.op.val.o, .int .i64 x.op.val.p, .slice x.pA x.op.preds.length x.pc] 51)).cell? ⟨b2, o2 + k * 13, none⟩ = some (.int .i64 y.op.kind) := cell_below hb2 (hcb 0 _ rfl)
        have b1_ : (wr.alloc (.cells #[.int .i64 x.op.kind, .int .i64 x.op.obj.1, .int .i64 x.op.obj.2, .string x.op.key, .int .i64 x.op.elem.1, .int .i64 x.op.elem.2, .bool x.op.ins, .int .i64 x.op.val.k, .int .i64 x.op.val.n, .string x.op.val.s, .int .i64 x.op.val.o, .int .i64 x.op.val.p, .slice x.pA x.op.preds.length x.pc] 51)).cell? ⟨b2, o2 + k * 13 + 1, none⟩ = some (.int .i64 y.op.obj.1) := cell_below hb2 (hcb 1 _ rfl)
        have b2_ : (wr.alloc (.cells #[.int .i64 x.op.kind, .int .i64 x.op.obj.1, .int .i64 x.op.obj.2, .string x.op.key, .int .i64 x.op.elem.1, .int .i64 x.op.elem.2, .bool x.op.ins, .int .i64 x.op.val.k, .int .i64 x.op.val.n, .string x.op.val.s, .int .i64 x.op.val.o, .int .i64 x.op.val.p, .slice x.pA x.op.preds.length x.pc] 51)).cell? ⟨b2, o2 + k * 13 + 2, none⟩ = some (.int .i64 y.op.obj.2) := cell_below hb2 (hcb 2 _ rfl)
        have b3_ : (wr.alloc (.cells #[.int .i64 x.op.kind, .int .i64 x.op.obj.1, .int .i64 x.op.obj.2, .string x.op.key, .int .i64 x.op.elem.1, .int .i64 x.op.elem.2, .bool x.op.ins, .int .i64 x.op.val.k, .int .i64 x.op.val.n, .string x.op.val.s, .int .i64 x.op.val.o, .int .i64 x.op.val.p, .slice x.pA x.op.preds.length x.pc] 51)).cell? ⟨b2, o2 + k * 13 + 3, none⟩ = some (.string y.op.key) := cell_below hb2 (hcb 3 _ rfl)
        have b4_ : (wr.alloc (.cells #[.int .i64 x.op.kind, .int .i64 x.op.obj.1, .int .i64 x.op.obj.2, .string x.op.key, .int .i64 x.op.elem.1, .int .i64 x.op.elem.2, .bool x.op.ins, .int .i64 x.op.val.k, .int .i64 x.op.val.n, .string x.op.val.s, .int .i64 x.op.val.o, .int .i64 x.op.val.p, .slice x.pA x.op.preds.length x.pc] 51)).cell? ⟨b2, o2 + k * 13 + 4, none⟩ = some (.int .i64 y.op.elem.1) := cell_below hb2 (hcb 4 _ rfl)
        have b5_ : (wr.alloc (.cells #[.int .i64 x.op.kind, .int .i64 x.op.obj.1, .int .i64 x.op.obj.2, .string x.op.key, .int .i64 x.op.elem.1, .int .i64 x.op.elem.2, .bool x.op.ins, .int .i64 x.op.val.k, .int .i64 x.op.val.n, .string x.op.val.s, .int .i64 x.op.val.o, .int .i64 x.op.val.p, .slice x.pA x.op.preds.length x.pc] 51)).cell? ⟨b2, o2 + k * 13 + 5, none⟩ = some (.int .i64 y.op.elem.2) := cell_below hb2 (hcb 5 _ rfl)
        have b6_ : (wr.alloc (.cells #[.int .i64 x.op.kind, .int .i64 x.op.obj.1, .int .i64 x.op.obj.2, .string x.op.key, .int .i64 x.op.elem.1, .int .i64 x.op.elem.2, .bool x.op.ins, .int .i64 x.op.val.k, .int .i64 x.op.val.n, .string x.op.val.s, .int .i64 x.op.val.o, .int .i64 x.op.val.p, .slice x.pA x.op.preds.length x.pc] 51)).cell? ⟨b2, o2 + k * 13 + 6, none⟩ = some (.bool y.op.ins) := cell_below hb2 (hcb 6 _ rfl)
        have b7_ : (wr.alloc (.cells #[.int .i64 x.op.kind, .int .i64 x.op.obj.1, .int .i64 x.op.obj.2, .string x.op.key, .int .i64 x.op.elem.1, .int .i64 x.op.elem.2, .bool x.op.ins, .int .i64 x.op.val.k, .int .i64 x.op.val.n, .string x.op.val.s, .int .i64 x.op.val.o, .int .i64 x.op.val.p, .slice x.pA x.op.preds.length x.pc] 51)).cell? ⟨b2, o2 + k * 13 + 7, none⟩ = some (.int .i64 y.op.val.k) := cell_below hb2 (hcb 7 _ rfl)
        have b8_ : (wr.alloc (.cells #[.int .i64 x.op.kind, .int .i64 x.op.obj.1, .int .i64 x.op.obj.2, .string x.op.key, .int .i64 x.op.elem.1, .int .i64 x.op.elem.2, .bool x.op.ins, .int .i64 x.op.val.k, .int .i64 x.op.val.n, .string x.op.val.s, .int .i64 x.op.val.o, .int .i64 x.op.val.p, .slice x.pA x.op.preds.length x.pc] 51)).cell? ⟨b2, o2 + k * 13 + 8, none⟩ = some (.int .i64 y.op.val.n) := cell_below hb2 (hcb 8 _ rfl)
        have b9_ : (wr.alloc (.cells #[.int .i64 x.op.kind, .int .i64 x.op.obj.1, .int .i64 x.op.obj.2, .string x.op.key, .int .i64 x.op.elem.1, .int .i64 x.op.elem.2, .bool x.op.ins, .int .i64 x.op.val.k, .int .i64 x.op.val.n, .string x.op.val.s, .int .i64 x.op.val.o, .int .i64 x.op.val.p, .slice x.pA x.op.preds.length x.pc] 51)).cell? ⟨b2, o2 + k * 13 + 9, none⟩ = some (.string y.op.val.s) := cell_below hb2 (hcb 9 _ rfl)
        have b10_ : (wr.alloc (.cells #[.int .i64 x.op.kind, .int .i64 x.op.obj.1, .int .i64 x.op.obj.2, .string x.op.key, .int .i64 x.op.elem.1, .int .i64 x.op.elem.2, .bool x.op.ins, .int .i64 x.op.val.k, .int .i64 x.op.val.n, .string x.op.val.s, .int .i64 x.op.val.o, .int .i64 x.op.val.p, .slice x.pA x.op.preds.length x.pc] 51)).cell? ⟨b2, o2 + k * 13 + 10, none⟩ = some (.int .i64 y.op.val.o) := cell_below hb2 (hcb 10 _ rfl)
        have b11_ : (wr.alloc (.cells #[.int .i64 x.op.kind, .int .i64 x.op.obj.1, .int .i64 x.op.obj.2, .string x.op.key, .int .i64 x.op.elem.1, .int .i64 x.op.elem.2, .bool x.op.ins, .int .i64 x.op.val.k, .int .i64 x.op.val.n, .string x.op.val.s, .int .i64 x.op.val.o, .int .i64 x.op.val.p, .slice x.pA x.op.preds.length x.pc] 51)).cell? ⟨b2, o2 + k * 13 + 11, none⟩ = some (.int .i64 y.op.val.p) := cell_below hb2 (hcb 11 _ rfl)
        have b12_ : (wr.alloc (.cells #[.int .i64 x.op.kind, .int .i64 x.op.obj.1, .int .i64 x.op.obj.2, .string x.op.key, .int .i64 x.op.elem.1, .int .i64 x.op.elem.2, .bool x.op.ins, .int .i64 x.op.val.k, .int .i64 x.op.val.n, .string x.op.val.s, .int .i64 x.op.val.o, .int .i64 x.op.val.p, .slice x.pA x.op.preds.length x.pc] 51)).cell? ⟨b2, o2 + k * 13 + 12, none⟩ = some (.slice y.pA y.op.preds.length y.pc) := cell_below hb2 (hcb 12 _ rfl)
        have HY := Lib.hid (hb2.alloc (by simp) (.cells #[.int .i64 y.op.kind, .int .i64 y.op.obj.1, .int .i64 y.op.obj.2, .string y.op.key, .int .i64 y.op.elem.1, .int .i64 y.op.elem.2, .bool y.op.ins, .int .i64 y.op.val.k, .int .i64 y.op.val.n, .string y.op.val.s, .int .i64 y.op.val.o, .int .i64 y.op.val.p, .slice y.pA y.op.preds.length y.pc] 51))
        clear hcb hb2 eb
        cases p with
        | true =>
          have HN := Lib.hid (map_op_take HX.out.1 HX.out.2.1 ((opSame_iff _ _).1 HP.out) HX.out.2.2.1)
          go_wp2_with (go_at_call 73; (with_reducible refine (HQ.out _ HY.out).mono ?_); rintro e w3 ⟨rfl, hb3⟩)
          go_roundw
          case rel => exact ⟨k + 1, by omega, by go_num, HN.out, HX.out.2.2.2.trans ((HY.out.trans (hb3.mono HY.out.size)).mono hbs)⟩
          case measure => simp [intOf]; omega
        | false =>
          have HN := Lib.hid (show ¬ a.map POp.op = b.map POp.op from pair_take_ne (x := x.op) (y := y.op) (k := k) (by simp [HX.out.1]) (by simp [HX.out.2.1]) (fun e => by have := (opSame_iff x.op y.op).2 e; rw [HP.out] at this; cases this))
          go_wp2_with (go_at_call 73; (with_reducible refine (HQ.out _ HY.out).mono ?_); rintro e w3 ⟨rfl, hb3⟩)
          go_ret
          exact ⟨by rw [decide_eq_false HN.out]; rfl, HX.out.2.2.2.trans ((HY.out.trans (hb3.mono HY.out.size)).mono hbs)⟩
      · go_wp2_with fail
        go_ret
        have hkn : k = n := by omega
        have he : a.map POp.op = b.map POp.op := by
          have := ht
          rwa [List.take_of_length_le (by simp [HL.out.1, HL.out.2]; omega), List.take_of_length_le (by simp [HL.out.2]; omega)] at this
        exact ⟨by rw [decide_eq_true he]; rfl, hbr⟩
  · have hne : ((a.length : Int) != (b.length : Int)) = true := by simp; omega
    have HN := Lib.hid hl
    clear hl
    go_enter Tryz.func72, Tryz.ntmps72
    go_wp2_with fail
    go_ret
    exact ⟨by rw [decide_eq_false (fun e => HN.out (by have := congrArg List.length e; simpa using this))]; rfl, Below.refl _ _⟩
end Go.Proofs.YteknflimfdkhoaaGreat
namespace Go.Proofs.YteknflimfdkhoaaGreat
open Go.RowKit
set_option linter.unusedVariables false
set_option linter.unusedSimpArgs false

def sameB (a b : PCh) : Bool := (a.start == b.start) && (decide (a.deps = b.deps) && decide (a.ops.map POp.op = b.ops.map POp.op))
theorem sameB_ch {a b : PCh} (h : a.ch = b.ch) : sameB a b = true := by
  have h1 : a.start = b.start := congrArg Ch.start h
  have h2 : a.deps = b.deps := congrArg Ch.deps h
  have h3 : a.ops.map POp.op = b.ops.map POp.op := congrArg Ch.ops h
  simp [sameB, h1, h2, h3]
abbrev chCs (c : PCh) : Array Value := #[.int .i64 c.actor, .int .i64 c.seq, .int .i64 c.start, .slice c.dA c.deps.length c.dc, .slice c.oA c.ops.length c.oc]
/-- Two changes' boxes, and what has turned since. -/
structure CB2 (w : World) (a b : PCh) (W : World) : Prop where
  bel : Below w.heap.size w W
  b1 : Blk W w.heap.size 65 #[.int .i64 a.actor, .int .i64 a.seq, .int .i64 a.start, .slice a.dA a.deps.length a.dc, .slice a.oA a.ops.length a.oc]
  b2 : Blk W (w.heap.size + 1) 65 #[.int .i64 b.actor, .int .i64 b.seq, .int .i64 b.start, .slice b.dA b.deps.length b.dc, .slice b.oA b.ops.length b.oc]
theorem CB2.new {w W W' : World} {a b : PCh} (h : CB2 w a b W) (hb : Below W.heap.size W W') : CB2 w a b W' :=
  ⟨h.bel.trans (hb.mono h.bel.size), h.b1.below hb h.b1.lt, h.b2.below hb h.b2.lt⟩

set_option maxRecDepth 100000 in
set_option maxHeartbeats 2000000 in
theorem same_any (a b : PCh) (w : World) (ha : InC w a) (hb : InC w b) :
    Calls Tryz.prog 46 #[.agg #[.int .i64 a.actor, .int .i64 a.seq, .int .i64 a.start, .slice a.dA a.deps.length a.dc, .slice a.oA a.ops.length a.oc], .agg #[.int .i64 b.actor, .int .i64 b.seq, .int .i64 b.start, .slice b.dA b.deps.length b.dc, .slice b.oA b.ops.length b.oc]] w fun e w' => e = .returned (.bool (sameB a b)) ∧ Below w.heap.size w w' := by
  have HB := Lib.hid (show CB2 w a b ((w.alloc (.cells #[.int .i64 a.actor, .int .i64 a.seq, .int .i64 a.start, .slice a.dA a.deps.length a.dc, .slice a.oA a.ops.length a.oc] 65)).alloc (.cells #[.int .i64 b.actor, .int .i64 b.seq, .int .i64 b.start, .slice b.dA b.deps.length b.dc, .slice b.oA b.ops.length b.oc] 65)) from
    ⟨((Below.refl _ _).alloc (Nat.le_refl _) _).alloc (by simp) _, (Blk.new w _ _).alloc _, Blk.newer _ _ _ (by simp)⟩)
  have HI := Lib.hid (And.intro ha hb)
  clear ha hb
  have HD := Lib.hid (fun W (hW : CB2 w a b W) => equalRef_any a.dA b.dA a.dc b.dc a.deps b.deps W (HI.out.1.deps.below hW.bel) (HI.out.2.deps.below hW.bel) HI.out.1.dlen HI.out.2.dlen)
  have HO := Lib.hid (fun W (hW : CB2 w a b W) => equalOps_any a.oA b.oA a.oc b.oc a.ops b.ops W (HI.out.1.ops.below hW.bel) (HI.out.2.ops.below hW.bel) HI.out.1.olen HI.out.2.olen (fun o ho => ⟨(HI.out.1.preds o ho).below hW.bel, (HI.out.1.op o ho).len⟩) (fun o ho => ⟨(HI.out.2.preds o ho).below hW.bel, (HI.out.2.op o ho).len⟩))
  obtain ⟨r, hr⟩ : ∃ r, sameB a b = r := ⟨_, rfl⟩
  rw [hr]
  unfold sameB at hr
  obtain ⟨q2, h2⟩ : ∃ q, decide (a.deps = b.deps) = q := ⟨_, rfl⟩
  obtain ⟨q3, h3⟩ : ∃ q, decide (a.ops.map POp.op = b.ops.map POp.op) = q := ⟨_, rfl⟩
  obtain ⟨q1, h1⟩ : ∃ q, (a.start == b.start) = q := ⟨_, rfl⟩
  rw [h2] at HD
  rw [h3] at HO
  rw [h1, h2, h3] at hr
  clear h2 h3
  cases q1 with
  | false =>
    subst hr
    go_enter Tryz.func46, Tryz.ntmps46
    go_wp2_with fail
    go_ret
    exact ⟨rfl, HB.out.bel⟩
  | true =>
    cases q2 with
    | false =>
      subst hr
      go_enter Tryz.func46, Tryz.ntmps46
      go_wp2_with (go_at_call 71; (with_reducible refine (HD.out _ HB.out).mono ?_); rintro e w1 ⟨rfl, hb1⟩)
      go_ret
      exact ⟨rfl, HB.out.bel.trans (hb1.mono HB.out.bel.size)⟩
    | true =>
      subst hr
      go_enter Tryz.func46, Tryz.ntmps46
      go_wp2_with (first
        | (go_at_call 71
           (with_reducible refine (HD.out _ HB.out).mono ?_)
           rintro e w1 ⟨rfl, hb1⟩
           have HB1 := Lib.hid (HB.out.new hb1)
           clear hb1
           have c4 : w1.cell? ⟨w.heap.size, 4, none⟩ = some (.slice a.oA a.ops.length a.oc) := HB1.out.b1.cell 4
           have d4 : w1.cell? ⟨w.heap.size + 1, 4, none⟩ = some (.slice b.oA b.ops.length b.oc) := HB1.out.b2.cell 4)
        | (go_at_call 72
           (with_reducible refine (HO.out _ HB1.out).mono ?_)
           rintro e w2 ⟨rfl, hb2⟩
           have HB2 := Lib.hid (HB1.out.new hb2)
           clear hb2))
      go_ret
      exact ⟨by simp, HB2.out.bel⟩
end Go.Proofs.YteknflimfdkhoaaGreat
