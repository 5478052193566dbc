/- dag.op.fits: a contract, exact. -/
import Derived.Test.YteknflimfdkhoaaGreatDg17
import Derived.Test.YteknflimfdkhoaaGreatDg4
namespace Go.Proofs.YteknflimfdkhoaaGreat
open Go.RowKit Go.Maps
set_option linter.unusedVariables false
set_option linter.unusedSimpArgs false

/-- What a map of ops has. -/
def DX (D : DataW Value) (f : Int × Int → Option OpV) : Prop := ∀ r, I2 r → match f r with
  | none => mget D r = none
  | some o => ∃ pA pc, mget D r = some (OpX o pA pc r)
theorem DX.get {D : DataW Value} {f : Int × Int → Option OpV} (h : DX D f) {r : Int × Int} (hr : I2 r) :
    ∃ m mA mc mn s, (mget D r).getD (OpX zOpV none 0 (0, 0)) = OpX m mA mc mn ∧ (mget D r).isSome = s ∧ ((s = false ∧ f r = none) ∨ (s = true ∧ f r = some m ∧ mn = r)) := by
  have := h r hr
  cases e : f r with
  | none =>
    rw [e] at this
    simp only at this
    rw [this]
    exact ⟨zOpV, none, 0, (0, 0), false, rfl, rfl, .inl ⟨rfl, rfl⟩⟩
  | some o =>
    rw [e] at this
    simp only at this
    obtain ⟨pA, pc, h2⟩ := this
    rw [h2]
    exact ⟨o, pA, pc, r, true, rfl, rfl, .inr ⟨rfl, rfl, rfl⟩⟩
theorem DX.put {w w' : World} {m k : Nat} {D : DataW Value} {f : Int × Int → Option OpV} (h : DX D f) (hm : OpsM w m D) {r : Int × Int} (hr : I2 r) (o : OpV) (pA : Option Addr) (pc : Nat) : DX (D.put (rlit r) (.held (OpX o pA pc r))) (updF f r o) := by
  intro s hs
  rw [mget_put pairId (World.ownsMap.isMap hm.1) hr hs]
  unfold updF
  by_cases e : s = r
  · subst e
    rw [if_pos rfl, if_pos rfl]
    exact ⟨pA, pc, rfl⟩
  · rw [if_neg e, if_neg e]
    exact h s hs
/-- An op's place, exactly. -/
theorem place_is (o : OpV) (pA : Option Addr) (pc : Nat) (n : Int × Int) (w : World) : Calls Tryz.prog 89 #[OpX o pA pc n] w (PlaceE (placeOf o n).1.1 (placeOf o n).1.2 (placeOf o n).2.1 (placeOf o n).2.2.1 (placeOf o n).2.2.2 w) := by
  unfold OpX placeOf
  cases hi : o.ins
  · go_enter Tryz.func89, Tryz.ntmps89
    go_wp2_with fail
    refine bodyPost_ret (results_cell_row Tryz.results89 _ _ (w.heap.size + 1) _ _ _ _ rfl ((Blk.newer _ _ _ (by simp)).alloc _) Tryz.underlying150 rfl (by kernel_rfl)) rfl ?_
    refine ⟨rfl, ?_⟩
    exact (((Below.refl _ _).alloc (Nat.le_refl _) _).alloc (by simp) _).alloc (by simp; omega) _
  · go_enter Tryz.func89, Tryz.ntmps89
    go_wp2_with fail
    refine bodyPost_ret (results_cell_row Tryz.results89 _ _ (w.heap.size + 1) _ _ _ _ rfl ((Blk.newer _ _ _ (by simp)).alloc _) Tryz.underlying150 rfl (by kernel_rfl)) rfl ?_
    refine ⟨rfl, ?_⟩
    exact (((Below.refl _ _).alloc (Nat.le_refl _) _).alloc (by simp) _).alloc (by simp; omega) _
theorem samePl_eq (a b : (Int × Int) × ByteArray × (Int × Int)) : samePl a.1.1 b.1.1 a.1.2 b.1.2 a.2.2.1 b.2.2.1 a.2.2.2 b.2.2.2 a.2.1 b.2.1 = !decide (a = b) := by
  obtain ⟨⟨a1, a2⟩, a3, a4, a5⟩ := a
  obtain ⟨⟨b1, b2⟩, b3, b4, b5⟩ := b
  unfold samePl
  rw [← Bool.decide_and, ← Bool.decide_and, ← Bool.decide_and, ← Bool.decide_and]
  congr 2
  simp only [Prod.mk.injEq, and_assoc]
/-- This Boolean, and nothing that was there has turned. -/
def BoolW (w : World) (b : Bool) (e : Ending) (w' : World) : Prop := e = .returned (.bool b) ∧ Below w.heap.size w w'
theorem BoolW.no {w w' : World} {b : Bool} (h : b = false) (hb : Below w.heap.size w w') : BoolW w b (.returned (.bool false)) w' := ⟨by rw [h], hb⟩
theorem BoolW.yes {w w' : World} {b : Bool} (h : b = true) (hb : Below w.heap.size w w') : BoolW w b (.returned (.bool true)) w' := ⟨by rw [h], hb⟩
/-- What stands behind the first tests of a pred. -/
def PredZ (f : Int × Int → Option OpV) (o : OpV) (n d : Int × Int) (z : Bool) (m1 k : Int) : Prop :=
  (z = true → predOk f o n d = false) ∧ (z = false → predOk f o n d = (o.kind != 4 || (m1 == 1 && k == 4)))
theorem predZ_none {f : Int × Int → Option OpV} {o : OpV} {n d : Int × Int} (h : f d = none) (m1 k : Int) : PredZ f o n d true m1 k := ⟨fun _ => by unfold predOk; rw [h], fun e => by cases e⟩
theorem predZ_kind {f : Int × Int → Option OpV} {o m : OpV} {n d : Int × Int} (h : f d = some m) (h1 : (m.kind == 1) = false) (h2 : (m.kind == 2) = false) : PredZ f o n d true m.kind m.val.k := ⟨fun _ => by unfold predOk; rw [h]; simp [h1, h2], fun e => by cases e⟩
theorem predZ_place {f : Int × Int → Option OpV} {o m : OpV} {n d : Int × Int} (h : f d = some m) (hk : (m.kind == 1 || m.kind == 2) = true) : PredZ f o n d (!decide (placeOf m d = placeOf o n)) m.kind m.val.k := by
  unfold PredZ predOk
  rw [h]
  simp only
  rw [hk]
  constructor
  · intro e
    have : decide (placeOf m d = placeOf o n) = false := by simpa using e
    rw [this]
    rfl
  · intro e
    have : decide (placeOf m d = placeOf o n) = true := by simpa using e
    rw [this]
    rfl
theorem dec_pair (a b : Int × Int) : decide (a = b) = (a.1 == b.1 && a.2 == b.2) := by
  rw [Bool.eq_iff_iff]
  simp [Prod.ext_iff]
theorem take_all {α : Type} {p : α → Bool} {l : List α} {k : Nat} {r : α} (h : ∀ x ∈ l.take k, p x = true) (hr : l[k]? = some r) (hp : p r = true) : ∀ x ∈ l.take (k + 1), p x = true := by
  obtain ⟨hk, e⟩ := List.getElem?_eq_some_iff.1 hr
  intro x hx
  rw [List.take_add_one, List.mem_append] at hx
  rcases hx with hx | hx
  · exact h x hx
  · rw [hr] at hx
    simp at hx
    rw [hx]; exact hp
theorem predOk_end {f : Int × Int → Option OpV} {o : OpV} {n d : Int × Int} {m1 k : Int} {a b c : Bool} (h : PredZ f o n d false m1 k) (ha : (o.kind == 4) = a) (hb : (m1 == 1) = b) (hc : (k == 4) = c) : predOk f o n d = (!a || (b && c)) := by
  rw [h.2 rfl, ← ha, ← hb, ← hc]
  rfl

set_option maxRecDepth 100000 in
set_option maxHeartbeats 40000000 in
theorem opFits_is (o : OpV) (pA : Option Addr) (pc : Nat) (n : Int × Int) (mp : Nat) (D : DataW Value) (f : Int × Int → Option OpV) (hx : DX D f) (w : World) (hD : OpsM w mp D) (hp : SlAt w pA (refs o.preds)) (hf : o.Fit) :
    Calls Tryz.prog 76 #[OpX o pA pc n, .map (some mp)] w (BoolW w (mayF f o n)) := by
  have HDX := Lib.hid hx
  clear hx
  unfold OpX
  obtain ⟨W0, hW0⟩ : ∃ W0, W0 = w.alloc (.cells #[.int .i64 o.kind, .int .i64 o.obj.1, .int .i64 o.obj.2, .string o.key, .int .i64 o.elem.1, .int .i64 o.elem.2, .bool o.ins, .int .i64 o.val.k, .int .i64 o.val.n, .string o.val.s, .int .i64 o.val.o, .int .i64 o.val.p, .slice pA o.preds.length pc, .int .i64 n.1, .int .i64 n.2] 135) := ⟨_, rfl⟩
  have hb0 : Below w.heap.size w W0 := by rw [hW0]; exact (Below.refl _ _).alloc (Nat.le_refl _) _
  have hF0 : FB w o pA pc n mp D W0 := ⟨hb0, by rw [hW0]; exact Blk.new _ _ _, hD.below hb0, hp.below hb0⟩
  have HF := Lib.hid (And.intro hF0 hf)
  have HW := Lib.hid hW0
  have hlen : o.preds.length ≤ 9223372036854775807 := by have := hf.len; unfold maxLen at this; omega
  clear hb0 hD hp hf hF0 hW0
  go_enter Tryz.func76, Tryz.ntmps76
  go_upto_region 2 with (fail)
  rw [← HW.out]
  have q0 : W0.cell? ⟨w.heap.size, 0, none⟩ = some (.int .i64 o.kind) := HF.out.1.blk.cell 0
  have q1 : W0.cell? ⟨w.heap.size, 1, none⟩ = some (.int .i64 o.obj.1) := HF.out.1.blk.cell 1
  have q2 : W0.cell? ⟨w.heap.size, 2, none⟩ = some (.int .i64 o.obj.2) := HF.out.1.blk.cell 2
  have q3 : W0.cell? ⟨w.heap.size, 3, none⟩ = some (.string o.key) := HF.out.1.blk.cell 3
  have q4 : W0.cell? ⟨w.heap.size, 4, none⟩ = some (.int .i64 o.elem.1) := HF.out.1.blk.cell 4
  have q5 : W0.cell? ⟨w.heap.size, 5, none⟩ = some (.int .i64 o.elem.2) := HF.out.1.blk.cell 5
  have q6 : W0.cell? ⟨w.heap.size, 6, none⟩ = some (.bool o.ins) := HF.out.1.blk.cell 6
  have q7 : W0.cell? ⟨w.heap.size, 7, none⟩ = some (.int .i64 o.val.k) := HF.out.1.blk.cell 7
  have q8 : W0.cell? ⟨w.heap.size, 8, none⟩ = some (.int .i64 o.val.n) := HF.out.1.blk.cell 8
  have q9 : W0.cell? ⟨w.heap.size, 9, none⟩ = some (.string o.val.s) := HF.out.1.blk.cell 9
  have q10 : W0.cell? ⟨w.heap.size, 10, none⟩ = some (.int .i64 o.val.o) := HF.out.1.blk.cell 10
  have q11 : W0.cell? ⟨w.heap.size, 11, none⟩ = some (.int .i64 o.val.p) := HF.out.1.blk.cell 11
  have q12 : W0.cell? ⟨w.heap.size, 12, none⟩ = some (.slice pA o.preds.length pc) := HF.out.1.blk.cell 12
  have q13 : W0.cell? ⟨w.heap.size, 13, none⟩ = some (.int .i64 n.1) := HF.out.1.blk.cell 13
  have q14 : W0.cell? ⟨w.heap.size, 14, none⟩ = some (.int .i64 n.2) := HF.out.1.blk.cell 14

  go_cut [18] from 14 to 18 (fun s18 wx => (∃ z : Bool, s18 = .bool z ∧ z = !zId o.obj) ∧ wx = W0)
  case first =>
    obtain ⟨a, ha⟩ : ∃ a, (o.obj.1 == 0) = a := ⟨_, rfl⟩
    obtain ⟨b, hb⟩ : ∃ b, (o.obj.2 == 0) = b := ⟨_, rfl⟩
    have HZ := Lib.hid (show zId o.obj = (a && b) from by unfold zId; rw [ha, hb])
    cases a <;> cases b
    all_goals
      go_wp2_with fail
      go_meet
      exact ⟨⟨_, rfl, by rw [HZ.out]; rfl⟩, rfl⟩
  case rest =>
    obtain ⟨⟨z, rfl, hzz⟩, rfl⟩ := hcut
    have HZO := Lib.hid hzz
    clear hzz
    go_upto_if 18 with (fail)
    go_cut [5] from 6 to 38 (fun s5 wx => (∃ k : Int, s5 = .int .i64 k ∧ kindIn f o.obj = some k) ∧ FB w o pA pc n mp D wx)
    case first =>
      cases z with
      | false =>
        go_wp2_with fail
        go_meet
        exact ⟨⟨_, rfl, by unfold kindIn; rw [if_pos (by have := HZO.out; simpa using this.symm)]⟩, HF.out.1⟩
      | true =>
        have hi := HF.out.2.obj
        obtain ⟨m, mA, mc, mn, s, hm, hs, hv⟩ := HDX.out.get hi
        unfold OpX at hm
        have HM := Lib.hid (And.intro hm (And.intro hs hi))
        have HV := Lib.hid hv
        have HZ2 := Lib.hid (show zId o.obj = false from by have := HZO.out; simpa using this.symm)
        clear hm hs hi hv
        obtain ⟨k2, hk2⟩ : ∃ k2, (m.kind == 2) = k2 := ⟨_, rfl⟩
        have HK2 := Lib.hid hk2
        have HKI := Lib.hid (show kindIn f o.obj = if (s && k2) = true then some m.val.k else none from by
          unfold kindIn
          rw [HZ2.out, if_neg (by decide)]
          rcases HV.out with ⟨h1, h2⟩ | ⟨h1, h2, h3⟩
          · rw [h2, h1]; rfl
          · rw [h2, h1, ← HK2.out]
            simp)
        have HA : ∀ cs t, Hid (FB w o pA pc n mp D (wc.alloc (.cells cs t))) := fun cs t => Lib.hid (HF.out.1.new ((Below.refl _ _).alloc (Nat.le_refl _) _))
        cases s <;> cases k2
        all_goals
          go_wp2_with (first | (at_lookup; refine wpList_look_ok _ rfl _ _ 133 rfl 24 135 pairId Tryz.underlying133 _ (zeroOpX _) mp _ D rfl HF.out.1.ops.1 o.obj rfl HM.out.2.2 _ HM.out.1 _ HM.out.2.1 ?_) | fail)
          first
            | (go_meet; exact ⟨⟨_, rfl, HKI.out⟩, (HA _ _).out⟩)
            | (go_ret; exact BoolW.no (mayF_kind HKI.out) (HA _ _).out.bel)
    case rest =>
      obtain ⟨⟨k, rfl, hki⟩, hK⟩ := hcut
      have HK := Lib.hid hK
      have HKI := Lib.hid hki
      clear hK hki
      clear q0 q1 q2 q3 q4 q5 q6 q7 q8 q9 q10 q11 q12 q13 q14
      have q0 : wc.cell? ⟨w.heap.size, 0, none⟩ = some (.int .i64 o.kind) := HK.out.blk.cell 0
      have q1 : wc.cell? ⟨w.heap.size, 1, none⟩ = some (.int .i64 o.obj.1) := HK.out.blk.cell 1
      have q2 : wc.cell? ⟨w.heap.size, 2, none⟩ = some (.int .i64 o.obj.2) := HK.out.blk.cell 2
      have q3 : wc.cell? ⟨w.heap.size, 3, none⟩ = some (.string o.key) := HK.out.blk.cell 3
      have q4 : wc.cell? ⟨w.heap.size, 4, none⟩ = some (.int .i64 o.elem.1) := HK.out.blk.cell 4
      have q5 : wc.cell? ⟨w.heap.size, 5, none⟩ = some (.int .i64 o.elem.2) := HK.out.blk.cell 5
      have q6 : wc.cell? ⟨w.heap.size, 6, none⟩ = some (.bool o.ins) := HK.out.blk.cell 6
      have q7 : wc.cell? ⟨w.heap.size, 7, none⟩ = some (.int .i64 o.val.k) := HK.out.blk.cell 7
      have q8 : wc.cell? ⟨w.heap.size, 8, none⟩ = some (.int .i64 o.val.n) := HK.out.blk.cell 8
      have q9 : wc.cell? ⟨w.heap.size, 9, none⟩ = some (.string o.val.s) := HK.out.blk.cell 9
      have q10 : wc.cell? ⟨w.heap.size, 10, none⟩ = some (.int .i64 o.val.o) := HK.out.blk.cell 10
      have q11 : wc.cell? ⟨w.heap.size, 11, none⟩ = some (.int .i64 o.val.p) := HK.out.blk.cell 11
      have q12 : wc.cell? ⟨w.heap.size, 12, none⟩ = some (.slice pA o.preds.length pc) := HK.out.blk.cell 12
      have q13 : wc.cell? ⟨w.heap.size, 13, none⟩ = some (.int .i64 n.1) := HK.out.blk.cell 13
      have q14 : wc.cell? ⟨w.heap.size, 14, none⟩ = some (.int .i64 n.2) := HK.out.blk.cell 14

      go_upto_region 7 with (fail)
      go_cut [45] from 39 to 45 (fun s45 wx => (∃ z : Bool, s45 = .bool z ∧ z = !((k == 5) == !o.key.toList.isEmpty)) ∧ wx = wc)
      case first =>
        obtain ⟨a, ha⟩ : ∃ a, (k == 5) = a := ⟨_, rfl⟩
        have HAK := Lib.hid ha
        cases hk : o.key.toList.isEmpty with
        | false =>
          have hk2 : (!o.key.toList.isEmpty) = true := by rw [hk]; rfl
          have HEK := Lib.hid hk
          cases a
          all_goals
            go_wp2_with fail
            go_meet
            exact ⟨⟨_, rfl, by rw [HAK.out, HEK.out]; rfl⟩, rfl⟩
        | true =>
          have hk2 : o.key.toList = [] := by simpa using hk
          have HEK := Lib.hid hk
          cases a
          all_goals
            go_wp2_with fail
            go_meet
            exact ⟨⟨_, rfl, by rw [HAK.out, HEK.out]; rfl⟩, rfl⟩
      case rest =>
        obtain ⟨⟨z, rfl, hzk⟩, rfl⟩ := hcut
        have HZK := Lib.hid hzk
        clear hzk
        cases z with
        | true =>
          have HNO := Lib.hid (show mayF f o n = false from by
            rw [mayF_some HKI.out, show ((k == 5) == !o.key.toList.isEmpty) = false from by have := HZK.out; simpa using this.symm]
            rfl)
          go_wp2_with fail
          go_ret
          exact BoolW.no HNO.out HK.out.bel
        | false =>
          go_upto_region 9 with (fail)
          go_cut [50] from 46 to 50 (fun s50 wx => (∃ z : Bool, s50 = .bool z ∧ z = !zId o.elem) ∧ wx = wc)
          case first =>
            obtain ⟨a, ha⟩ : ∃ a, (o.elem.1 == 0) = a := ⟨_, rfl⟩
            obtain ⟨b, hb⟩ : ∃ b, (o.elem.2 == 0) = b := ⟨_, rfl⟩
            have HZ := Lib.hid (show zId o.elem = (a && b) from by unfold zId; rw [ha, hb])
            cases a <;> cases b
            all_goals
              go_wp2_with fail
              go_meet
              exact ⟨⟨_, rfl, by rw [HZ.out]; rfl⟩, rfl⟩
          case rest =>
            obtain ⟨⟨z, rfl, hze⟩, rfl⟩ := hcut
            have HZE := Lib.hid hze
            clear hze
            go_upto_if 50 with (fail)
            go_cut [8] from 8 to 75 (fun s8 wx => elemOk f o = true ∧ FB w o pA pc n mp D wx)
            case first =>
              cases z with
              | false =>
                go_wp2_with fail
                go_meet
                exact ⟨by unfold elemOk; rw [if_pos (by have := HZE.out; simpa using this.symm)], HK.out⟩
              | true =>
                have hi := HF.out.2.elem
                obtain ⟨m, mA, mc, mn, s, hm, hs, hv⟩ := HDX.out.get hi
                have HV := Lib.hid hv
                have HZ2 := Lib.hid (show zId o.elem = false from by have := HZE.out; simpa using this.symm)
                obtain ⟨m1, m2, m3, m4, mi, m6, m7⟩ := m
                unfold OpX at hm
                dsimp only at hm
                have HM := Lib.hid (And.intro hm (And.intro hs hi))
                clear hm hs hi hv
                obtain ⟨a, ha⟩ : ∃ a, (m2.1 == o.obj.1) = a := ⟨_, rfl⟩
                obtain ⟨b, hb⟩ : ∃ b, (m2.2 == o.obj.2) = b := ⟨_, rfl⟩
                have HEQ := Lib.hid (show decide (m2 = o.obj) = (a && b) from by rw [← ha, ← hb]; exact dec_pair _ _)
                have HEL := Lib.hid (show elemOk f o = (s && (mi && (a && b))) from by
                  unfold elemOk
                  rw [HZ2.out, if_neg (by decide)]
                  rcases HV.out with ⟨h1, h2⟩ | ⟨h1, h2, h3⟩
                  · rw [h2, h1]; rfl
                  · rw [h2, h1, ← HEQ.out]; rfl)
                have HA : ∀ cs t, Hid (FB w o pA pc n mp D (wc.alloc (.cells cs t))) := fun cs t => Lib.hid (HK.out.new ((Below.refl _ _).alloc (Nat.le_refl _) _))
                have r1 : (wc.alloc (.cells #[.int .i64 m1, .int .i64 m2.1, .int .i64 m2.2, .string m3, .int .i64 m4.1, .int .i64 m4.2, .bool mi, .int .i64 m6.k, .int .i64 m6.n, .string m6.s, .int .i64 m6.o, .int .i64 m6.p, .slice mA m7.length mc, .int .i64 mn.1, .int .i64 mn.2] 135)).cell? ⟨w.heap.size, 1, none⟩ = some (.int .i64 o.obj.1) := (HA _ _).out.blk.cell 1
                have r2 : (wc.alloc (.cells #[.int .i64 m1, .int .i64 m2.1, .int .i64 m2.2, .string m3, .int .i64 m4.1, .int .i64 m4.2, .bool mi, .int .i64 m6.k, .int .i64 m6.n, .string m6.s, .int .i64 m6.o, .int .i64 m6.p, .slice mA m7.length mc, .int .i64 mn.1, .int .i64 mn.2] 135)).cell? ⟨w.heap.size, 2, none⟩ = some (.int .i64 o.obj.2) := (HA _ _).out.blk.cell 2
                cases s <;> cases mi <;> cases a <;> cases b
                all_goals
                  go_wp2_with (first | (at_lookup; refine wpList_look_ok _ rfl _ _ 133 rfl 24 135 pairId Tryz.underlying133 _ (zeroOpX _) mp _ D rfl HK.out.ops.1 o.elem rfl HM.out.2.2 _ HM.out.1 _ HM.out.2.1 ?_) | fail)
                  first
                    | (go_meet; exact ⟨HEL.out, (HA _ _).out⟩)
                    | (go_ret; exact BoolW.no (mayF_elem HEL.out) (HA _ _).out.bel)
            case rest =>
              have HEO := Lib.hid hcut.1
              have HK := Lib.hid hcut.2
              clear hcut
              clear q0 q1 q2 q3 q4 q5 q6 q7 q8 q9 q10 q11 q12 q13 q14
              have q12 : wc.cell? ⟨w.heap.size, 12, none⟩ = some (.slice pA o.preds.length pc) := HK.out.blk.cell 12
              go_wp2_with fail
              clear q12
              go_loopw [80, 11, 12, 13] (fun iv _ _ _ wr => ∃ j : Nat, iv = .int .i64 j ∧ j ≤ o.preds.length ∧ (∀ p ∈ o.preds.take j, predOk f o n p = true) ∧ FB w o pA pc n mp D wr) (fun iv _ _ _ _ => o.preds.length - (intOf iv).toNat)
              case atStart => exact ⟨0, rfl, Nat.zero_le _, (by simp), HK.out⟩
              case round =>
                obtain ⟨j, rfl, hj, hall, hI⟩ := hrel
                have HALL := Lib.hid hall
                clear hall
                by_cases hlt : j < o.preds.length
                · obtain ⟨b, off, d, ha, hd, hx, hy⟩ := hI.preds.ref hlt
                  have hdi := HF.out.2.preds d (List.mem_of_getElem? hd)
                  obtain ⟨m, mA, mc, mn, s, hm, hs, hv⟩ := HDX.out.get hdi
                  obtain ⟨m1, m2, m3, m4, mi, m6, m7⟩ := m
                  have HV := Lib.hid hv
                  have HDD := Lib.hid hd
                  clear hv
                  unfold OpX at hm
                  dsimp only at hm
                  have HI := Lib.hid hI
                  have HM := Lib.hid (And.intro hm (And.intro hs hdi))
                  have H1 : ∀ cs t, Hid (FB w o pA pc n mp D (wr.alloc (.cells cs t))) := fun cs t => Lib.hid (hI.new ((Below.refl _ _).alloc (Nat.le_refl _) _))
                  clear hm hs hdi hd hI
                  have HA := Lib.hid ha
                  rw [ha]
                  clear ha
                  go_upto_region 17 with (first | (at_lookup; refine wpList_look_ok _ rfl _ _ 133 rfl 24 135 pairId Tryz.underlying133 _ (zeroOpX _) mp _ D rfl (H1 _ _).out.ops.1 d rfl HM.out.2.2 _ HM.out.1 _ HM.out.2.1 ?_) | fail)
                  obtain ⟨W1, hW1⟩ : ∃ W1, W1 = wr.alloc (.cells #[.int .i64 d.1, .int .i64 d.2] 24) := ⟨_, rfl⟩
                  obtain ⟨W2, hW2⟩ : ∃ W2, W2 = W1.alloc (.cells #[.int .i64 m1, .int .i64 m2.1, .int .i64 m2.2, .string m3, .int .i64 m4.1, .int .i64 m4.2, .bool mi, .int .i64 m6.k, .int .i64 m6.n, .string m6.s, .int .i64 m6.o, .int .i64 m6.p, .slice mA m7.length mc, .int .i64 mn.1, .int .i64 mn.2] 135) := ⟨_, rfl⟩
                  have hX : FB w o pA pc n mp D W2 ∧ Blk W2 (wr.heap.size + 1) 135 #[.int .i64 m1, .int .i64 m2.1, .int .i64 m2.2, .string m3, .int .i64 m4.1, .int .i64 m4.2, .bool mi, .int .i64 m6.k, .int .i64 m6.n, .string m6.s, .int .i64 m6.o, .int .i64 m6.p, .slice mA m7.length mc, .int .i64 mn.1, .int .i64 mn.2] := by
                    rw [hW2]
                    refine ⟨?_, Blk.newer _ _ _ (by rw [hW1]; simp)⟩
                    rw [hW1]
                    exact (H1 _ _).out.new ((Below.refl _ _).alloc (Nat.le_refl _) _)
                  rw [← hW1, ← hW2]
                  have HX := Lib.hid hX
                  clear hX hW1 hW2 H1 hx hy
                  go_cut [80, 110] from 80 to 128 (fun s80 s110 wx => s80 = .int .i64 j ∧ (∃ z : Bool, s110 = .bool z ∧ PredZ f o n d z m1 m6.k) ∧ FB w o pA pc n mp D wx ∧ Blk wx (wr.heap.size + 1) 135 #[.int .i64 m1, .int .i64 m2.1, .int .i64 m2.2, .string m3, .int .i64 m4.1, .int .i64 m4.2, .bool mi, .int .i64 m6.k, .int .i64 m6.n, .string m6.s, .int .i64 m6.o, .int .i64 m6.p, .slice mA m7.length mc, .int .i64 mn.1, .int .i64 mn.2])
                  case first =>
                    have q0 : W2.cell? ⟨w.heap.size, 0, none⟩ = some (.int .i64 o.kind) := HX.out.1.blk.cell 0
                    have q1 : W2.cell? ⟨w.heap.size, 1, none⟩ = some (.int .i64 o.obj.1) := HX.out.1.blk.cell 1
                    have q2 : W2.cell? ⟨w.heap.size, 2, none⟩ = some (.int .i64 o.obj.2) := HX.out.1.blk.cell 2
                    have q3 : W2.cell? ⟨w.heap.size, 3, none⟩ = some (.string o.key) := HX.out.1.blk.cell 3
                    have q4 : W2.cell? ⟨w.heap.size, 4, none⟩ = some (.int .i64 o.elem.1) := HX.out.1.blk.cell 4
                    have q5 : W2.cell? ⟨w.heap.size, 5, none⟩ = some (.int .i64 o.elem.2) := HX.out.1.blk.cell 5
                    have q6 : W2.cell? ⟨w.heap.size, 6, none⟩ = some (.bool o.ins) := HX.out.1.blk.cell 6
                    have q7 : W2.cell? ⟨w.heap.size, 7, none⟩ = some (.int .i64 o.val.k) := HX.out.1.blk.cell 7
                    have q8 : W2.cell? ⟨w.heap.size, 8, none⟩ = some (.int .i64 o.val.n) := HX.out.1.blk.cell 8
                    have q9 : W2.cell? ⟨w.heap.size, 9, none⟩ = some (.string o.val.s) := HX.out.1.blk.cell 9
                    have q10 : W2.cell? ⟨w.heap.size, 10, none⟩ = some (.int .i64 o.val.o) := HX.out.1.blk.cell 10
                    have q11 : W2.cell? ⟨w.heap.size, 11, none⟩ = some (.int .i64 o.val.p) := HX.out.1.blk.cell 11
                    have q12 : W2.cell? ⟨w.heap.size, 12, none⟩ = some (.slice pA o.preds.length pc) := HX.out.1.blk.cell 12
                    have q13 : W2.cell? ⟨w.heap.size, 13, none⟩ = some (.int .i64 n.1) := HX.out.1.blk.cell 13
                    have q14 : W2.cell? ⟨w.heap.size, 14, none⟩ = some (.int .i64 n.2) := HX.out.1.blk.cell 14

                    have p0 : W2.cell? ⟨(wr.heap.size + 1), 0, none⟩ = some (.int .i64 m1) := HX.out.2.cell 0
                    have p1 : W2.cell? ⟨(wr.heap.size + 1), 1, none⟩ = some (.int .i64 m2.1) := HX.out.2.cell 1
                    have p2 : W2.cell? ⟨(wr.heap.size + 1), 2, none⟩ = some (.int .i64 m2.2) := HX.out.2.cell 2
                    have p3 : W2.cell? ⟨(wr.heap.size + 1), 3, none⟩ = some (.string m3) := HX.out.2.cell 3
                    have p4 : W2.cell? ⟨(wr.heap.size + 1), 4, none⟩ = some (.int .i64 m4.1) := HX.out.2.cell 4
                    have p5 : W2.cell? ⟨(wr.heap.size + 1), 5, none⟩ = some (.int .i64 m4.2) := HX.out.2.cell 5
                    have p6 : W2.cell? ⟨(wr.heap.size + 1), 6, none⟩ = some (.bool mi) := HX.out.2.cell 6
                    have p7 : W2.cell? ⟨(wr.heap.size + 1), 7, none⟩ = some (.int .i64 m6.k) := HX.out.2.cell 7
                    have p8 : W2.cell? ⟨(wr.heap.size + 1), 8, none⟩ = some (.int .i64 m6.n) := HX.out.2.cell 8
                    have p9 : W2.cell? ⟨(wr.heap.size + 1), 9, none⟩ = some (.string m6.s) := HX.out.2.cell 9
                    have p10 : W2.cell? ⟨(wr.heap.size + 1), 10, none⟩ = some (.int .i64 m6.o) := HX.out.2.cell 10
                    have p11 : W2.cell? ⟨(wr.heap.size + 1), 11, none⟩ = some (.int .i64 m6.p) := HX.out.2.cell 11
                    have p12 : W2.cell? ⟨(wr.heap.size + 1), 12, none⟩ = some (.slice mA m7.length mc) := HX.out.2.cell 12
                    have p13 : W2.cell? ⟨(wr.heap.size + 1), 13, none⟩ = some (.int .i64 mn.1) := HX.out.2.cell 13
                    have p14 : W2.cell? ⟨(wr.heap.size + 1), 14, none⟩ = some (.int .i64 mn.2) := HX.out.2.cell 14

                    cases s with
                    | false =>
                      have HPZ := Lib.hid (show PredZ f o n d true m1 m6.k from by
                        rcases HV.out with ⟨h1, h2⟩ | ⟨h1, h2, h3⟩
                        · exact predZ_none h2 _ _
                        · cases h1)
                      go_quiet (fail)
                      go_wp2_with fail
                      go_meet
                      exact ⟨rfl, ⟨_, rfl, HPZ.out⟩, HX.out.1.new (below_drewN (Below.refl _ _) _), HX.out.2⟩
                    | true =>
                      have HFS := Lib.hid (show f d = some ⟨m1, m2, m3, m4, mi, m6, m7⟩ ∧ mn = d from by
                        rcases HV.out with ⟨h1, h2⟩ | ⟨h1, h2, h3⟩
                        · cases h1
                        · exact ⟨h2, h3⟩)
                      have hS : ∀ W, Below W2.heap.size W2 W → W.cell? ⟨w.heap.size, 0, none⟩ = some (.int .i64 o.kind) ∧ W.cell? ⟨w.heap.size, 1, none⟩ = some (.int .i64 o.obj.1) ∧ W.cell? ⟨w.heap.size, 2, none⟩ = some (.int .i64 o.obj.2) ∧ W.cell? ⟨w.heap.size, 3, none⟩ = some (.string o.key) ∧ W.cell? ⟨w.heap.size, 4, none⟩ = some (.int .i64 o.elem.1) ∧ W.cell? ⟨w.heap.size, 5, none⟩ = some (.int .i64 o.elem.2) ∧ W.cell? ⟨w.heap.size, 6, none⟩ = some (.bool o.ins) ∧ W.cell? ⟨w.heap.size, 7, none⟩ = some (.int .i64 o.val.k) ∧ W.cell? ⟨w.heap.size, 8, none⟩ = some (.int .i64 o.val.n) ∧ W.cell? ⟨w.heap.size, 9, none⟩ = some (.string o.val.s) ∧ W.cell? ⟨w.heap.size, 10, none⟩ = some (.int .i64 o.val.o) ∧ W.cell? ⟨w.heap.size, 11, none⟩ = some (.int .i64 o.val.p) ∧ W.cell? ⟨w.heap.size, 12, none⟩ = some (.slice pA o.preds.length pc) ∧ W.cell? ⟨w.heap.size, 13, none⟩ = some (.int .i64 n.1) ∧ W.cell? ⟨w.heap.size, 14, none⟩ = some (.int .i64 n.2) ∧ W.cell? ⟨(wr.heap.size + 1), 0, none⟩ = some (.int .i64 m1) ∧ W.cell? ⟨(wr.heap.size + 1), 1, none⟩ = some (.int .i64 m2.1) ∧ W.cell? ⟨(wr.heap.size + 1), 2, none⟩ = some (.int .i64 m2.2) ∧ W.cell? ⟨(wr.heap.size + 1), 3, none⟩ = some (.string m3) ∧ W.cell? ⟨(wr.heap.size + 1), 4, none⟩ = some (.int .i64 m4.1) ∧ W.cell? ⟨(wr.heap.size + 1), 5, none⟩ = some (.int .i64 m4.2) ∧ W.cell? ⟨(wr.heap.size + 1), 6, none⟩ = some (.bool mi) ∧ W.cell? ⟨(wr.heap.size + 1), 7, none⟩ = some (.int .i64 m6.k) ∧ W.cell? ⟨(wr.heap.size + 1), 8, none⟩ = some (.int .i64 m6.n) ∧ W.cell? ⟨(wr.heap.size + 1), 9, none⟩ = some (.string m6.s) ∧ W.cell? ⟨(wr.heap.size + 1), 10, none⟩ = some (.int .i64 m6.o) ∧ W.cell? ⟨(wr.heap.size + 1), 11, none⟩ = some (.int .i64 m6.p) ∧ W.cell? ⟨(wr.heap.size + 1), 12, none⟩ = some (.slice mA m7.length mc) ∧ W.cell? ⟨(wr.heap.size + 1), 13, none⟩ = some (.int .i64 mn.1) ∧ W.cell? ⟨(wr.heap.size + 1), 14, none⟩ = some (.int .i64 mn.2) := by
                        intro W hW
                        have hB := HX.out.1.blk.below hW HX.out.1.blk.lt
                        have hC := HX.out.2.below hW HX.out.2.lt
                        exact ⟨hB.cell 0, hB.cell 1, hB.cell 2, hB.cell 3, hB.cell 4, hB.cell 5, hB.cell 6, hB.cell 7, hB.cell 8, hB.cell 9, hB.cell 10, hB.cell 11, hB.cell 12, hB.cell 13, hB.cell 14, hC.cell 0, hC.cell 1, hC.cell 2, hC.cell 3, hC.cell 4, hC.cell 5, hC.cell 6, hC.cell 7, hC.cell 8, hC.cell 9, hC.cell 10, hC.cell 11, hC.cell 12, hC.cell 13, hC.cell 14⟩
                      have HKS := Lib.hid hS
                      have hS0 := hS W2 (Below.refl _ _)
                      obtain ⟨x1, x2, x3, x4, x5, hPL, hXE⟩ : ∃ (a b : Int) (c : ByteArray) (d e : Int), (∀ w, Calls Tryz.prog 89 #[OpX o pA pc n] w (PlaceE a b c d e w)) ∧ placeOf o n = ((a, b), c, (d, e)) := ⟨_, _, _, _, _, fun w => place_is o pA pc n w, rfl⟩
                      obtain ⟨y1, y2, y3, y4, y5, hPM, hYE⟩ : ∃ (a b : Int) (c : ByteArray) (d e : Int), (∀ w, Calls Tryz.prog 89 #[OpX ⟨m1, m2, m3, m4, mi, m6, m7⟩ mA mc mn] w (PlaceE a b c d e w)) ∧ placeOf ⟨m1, m2, m3, m4, mi, m6, m7⟩ mn = ((a, b), c, (d, e)) := ⟨_, _, _, _, _, fun w => place_is ⟨m1, m2, m3, m4, mi, m6, m7⟩ mA mc mn w, rfl⟩
                      have HSP := Lib.hid (show samePl y1 x1 y2 x2 y4 x4 y5 x5 y3 x3 = !decide (placeOf ⟨m1, m2, m3, m4, mi, m6, m7⟩ d = placeOf o n) from by
                        rw [← HFS.out.2, hXE, hYE]
                        exact samePl_eq ((y1, y2), y3, (y4, y5)) ((x1, x2), x3, (x4, x5)))
                      clear hXE hYE
                      have HPL := Lib.hid (show ∀ W, Calls Tryz.prog 89 #[.agg #[.int .i64 o.kind, .int .i64 o.obj.1, .int .i64 o.obj.2, .string o.key, .int .i64 o.elem.1, .int .i64 o.elem.2, .bool o.ins, .int .i64 o.val.k, .int .i64 o.val.n, .string o.val.s, .int .i64 o.val.o, .int .i64 o.val.p, .slice pA o.preds.length pc, .int .i64 n.1, .int .i64 n.2]] W (PlaceE x1 x2 x3 x4 x5 W) from hPL)
                      have HPM := Lib.hid (show ∀ W, Calls Tryz.prog 89 #[.agg #[.int .i64 m1, .int .i64 m2.1, .int .i64 m2.2, .string m3, .int .i64 m4.1, .int .i64 m4.2, .bool mi, .int .i64 m6.k, .int .i64 m6.n, .string m6.s, .int .i64 m6.o, .int .i64 m6.p, .slice mA m7.length mc, .int .i64 mn.1, .int .i64 mn.2]] W (PlaceE y1 y2 y3 y4 y5 W) from hPM)
                      clear hPL hPM
                      clear hS hS0
                      by_cases h1 : m1 = 1
                      · subst h1
                        have HXB : ∀ W, InW W2 W → W.cell? ⟨wr.heap.size + 1, 0, none⟩ = some (.int .i64 1) := fun W hW => (HX.out.2.below hW HX.out.2.lt).cell 0
                        obtain ⟨zb, hzb⟩ : ∃ zb, samePl y1 x1 y2 x2 y4 x4 y5 x5 y3 x3 = zb := ⟨_, rfl⟩
                        have HZB := Lib.hid hzb
                        have HPZ := Lib.hid (show PredZ f o n d zb 1 m6.k from by rw [← HZB.out, HSP.out]; exact predZ_place (m := ⟨1, m2, m3, m4, mi, m6, m7⟩) HFS.out.1 (by show ((1 : Int) == 1 || (1 : Int) == 2) = true; decide))
                        clear hzb
                        clear q0 q1 q2 q3 q4 q5 q6 q7 q8 q9 q10 q11 q12 q13 q14 p0 p1 p2 p3 p4 p5 p6 p7 p8 p9 p10 p11 p12 p13 p14
                        refine wp_region_quiet_in (C := InW W2) (by kernel_rfl) (by kernel_rfl) (Below.refl _ W2).drew ?_
                        refine quiet_run (.bool true) (by kernel_rfl) (fun W hW => (by kernel_rfl)) ?_
                        simp only [Act.put, List.setIfInBounds_toArray, List.set_cons_zero, List.set_cons_succ]
                        refine quiet_run (.bool false) (by kernel_rfl) (fun W hW => (by kernel_rfl)) ?_
                        simp only [Act.put, List.setIfInBounds_toArray, List.set_cons_zero, List.set_cons_succ]
                        refine quiet_run (.bool false) (by kernel_rfl) (fun W hW => (by kernel_rfl)) ?_
                        simp only [Act.put, List.setIfInBounds_toArray, List.set_cons_zero, List.set_cons_succ]
                        refine quiet_run (.pointer (some ⟨wr.heap.size + 1, 0, none⟩)) (by kernel_rfl) (fun W hW => exec_field rfl (by kernel_rfl) (fa_dag _ W)) ?_
                        simp only [Act.put, List.setIfInBounds_toArray, List.set_cons_zero, List.set_cons_succ]
                        refine quiet_run (.pointer (some ⟨wr.heap.size + 1, 0, none⟩)) (by kernel_rfl) (fun W hW => exec_field rfl (by kernel_rfl) (fa_api _ W)) ?_
                        simp only [Act.put, List.setIfInBounds_toArray, List.set_cons_zero, List.set_cons_succ]
                        refine quiet_run (.int .i64 1) (by kernel_rfl) (fun W hW => exec_load rfl (by kernel_rfl) (load_i (HXB W hW))) ?_
                        simp only [Act.put, List.setIfInBounds_toArray, List.set_cons_zero, List.set_cons_succ]
                        refine quiet_run (.bool false) (by kernel_rfl) (fun W hW => (by kernel_rfl)) ?_
                        simp only [Act.put, List.setIfInBounds_toArray, List.set_cons_zero, List.set_cons_succ]
                        refine quiet_run (.bool false) (by kernel_rfl) (fun W hW => (by kernel_rfl)) ?_
                        simp only [Act.put, List.setIfInBounds_toArray, List.set_cons_zero, List.set_cons_succ]
                        refine quiet_skip (by kernel_rfl) ?_
                        simp only [Act.put, List.setIfInBounds_toArray, List.set_cons_zero, List.set_cons_succ]
                        refine quiet_skip (by kernel_rfl) ?_
                        simp only [Act.put, List.setIfInBounds_toArray, List.set_cons_zero, List.set_cons_succ]
                        refine quiet_skip (by kernel_rfl) ?_
                        simp only [Act.put, List.setIfInBounds_toArray, List.set_cons_zero, List.set_cons_succ]
                        refine quiet_skip (by kernel_rfl) ?_
                        simp only [Act.put, List.setIfInBounds_toArray, List.set_cons_zero, List.set_cons_succ]
                        refine quiet_run (.bool false) (by kernel_rfl) (fun W hW => (by kernel_rfl)) ?_
                        simp only [Act.put, List.setIfInBounds_toArray, List.set_cons_zero, List.set_cons_succ]
                        refine quiet_run (.bool false) (by kernel_rfl) (fun W hW => (by kernel_rfl)) ?_
                        simp only [Act.put, List.setIfInBounds_toArray, List.set_cons_zero, List.set_cons_succ]
                        refine quiet_run (.bool false) (by kernel_rfl) (fun W hW => (by kernel_rfl)) ?_
                        simp only [Act.put, List.setIfInBounds_toArray, List.set_cons_zero, List.set_cons_succ]
                        refine quiet_run (.agg #[.int .i64 1, .int .i64 m2.1, .int .i64 m2.2, .string m3, .int .i64 m4.1, .int .i64 m4.2, .bool mi, .int .i64 m6.k, .int .i64 m6.n, .string m6.s, .int .i64 m6.o, .int .i64 m6.p, .slice mA m7.length mc, .int .i64 mn.1, .int .i64 mn.2]) (by kernel_rfl) (fun W hW => exec_load rfl (by kernel_rfl) (load15 (HX.out.2.below hW HX.out.2.lt))) ?_
                        simp only [Act.put, List.setIfInBounds_toArray, List.set_cons_zero, List.set_cons_succ]
                        refine quiet_call (.agg #[.int .i64 y1, .int .i64 y2, .string y3, .int .i64 y4, .int .i64 y5]) _ _ (by kernel_rfl) (fun W => by kernel_rfl) (fun W hW => (HPM.out W).mono (fun e w3 h3 => ⟨h3.1, hW.trans (h3.2.mono hW.size)⟩)) ?_
                        simp only [Act.put, List.setIfInBounds_toArray, List.set_cons_zero, List.set_cons_succ]
                        refine quiet_run (.agg #[.int .i64 o.kind, .int .i64 o.obj.1, .int .i64 o.obj.2, .string o.key, .int .i64 o.elem.1, .int .i64 o.elem.2, .bool o.ins, .int .i64 o.val.k, .int .i64 o.val.n, .string o.val.s, .int .i64 o.val.o, .int .i64 o.val.p, .slice pA o.preds.length pc, .int .i64 n.1, .int .i64 n.2]) (by kernel_rfl) (fun W hW => exec_load rfl (by kernel_rfl) (load15 (HX.out.1.blk.below hW HX.out.1.blk.lt))) ?_
                        simp only [Act.put, List.setIfInBounds_toArray, List.set_cons_zero, List.set_cons_succ]
                        refine quiet_call (.agg #[.int .i64 x1, .int .i64 x2, .string x3, .int .i64 x4, .int .i64 x5]) _ _ (by kernel_rfl) (fun W => by kernel_rfl) (fun W hW => (HPL.out W).mono (fun e w3 h3 => ⟨h3.1, hW.trans (h3.2.mono hW.size)⟩)) ?_
                        simp only [Act.put, List.setIfInBounds_toArray, List.set_cons_zero, List.set_cons_succ]
                        refine quiet_run (.bool zb) (by kernel_rfl) (fun W hW => by rw [← HZB.out]; exact exec_bin rfl (by kernel_rfl) (by kernel_rfl) (neq_place _ _ _ _ _ _ _ _ _ _ _ _ _)) ?_
                        simp only [Act.put, List.setIfInBounds_toArray, List.set_cons_zero, List.set_cons_succ]
                        refine quiet_run (.bool zb) (by kernel_rfl) (fun W hW => (by kernel_rfl)) ?_
                        simp only [Act.put, List.setIfInBounds_toArray, List.set_cons_zero, List.set_cons_succ]
                        refine wpQuiet_nil ?_
                        intro w9 hw9
                        go_simp
                        go_wp2_with fail
                        go_meet
                        exact ⟨rfl, ⟨_, rfl, HPZ.out⟩, HX.out.1.new hw9, HX.out.2.below hw9 HX.out.2.lt⟩
                      · by_cases h2 : m1 = 2
                        · subst h2
                          have HXB : ∀ W, InW W2 W → W.cell? ⟨wr.heap.size + 1, 0, none⟩ = some (.int .i64 2) := fun W hW => (HX.out.2.below hW HX.out.2.lt).cell 0
                          obtain ⟨zb, hzb⟩ : ∃ zb, samePl y1 x1 y2 x2 y4 x4 y5 x5 y3 x3 = zb := ⟨_, rfl⟩
                          have HZB := Lib.hid hzb
                          have HPZ := Lib.hid (show PredZ f o n d zb 2 m6.k from by rw [← HZB.out, HSP.out]; exact predZ_place (m := ⟨2, m2, m3, m4, mi, m6, m7⟩) HFS.out.1 (by show ((2 : Int) == 1 || (2 : Int) == 2) = true; decide))
                          clear hzb
                          clear q0 q1 q2 q3 q4 q5 q6 q7 q8 q9 q10 q11 q12 q13 q14 p0 p1 p2 p3 p4 p5 p6 p7 p8 p9 p10 p11 p12 p13 p14
                          refine wp_region_quiet_in (C := InW W2) (by kernel_rfl) (by kernel_rfl) (Below.refl _ W2).drew ?_
                          refine quiet_run (.bool true) (by kernel_rfl) (fun W hW => (by kernel_rfl)) ?_
                          simp only [Act.put, List.setIfInBounds_toArray, List.set_cons_zero, List.set_cons_succ]
                          refine quiet_run (.bool false) (by kernel_rfl) (fun W hW => (by kernel_rfl)) ?_
                          simp only [Act.put, List.setIfInBounds_toArray, List.set_cons_zero, List.set_cons_succ]
                          refine quiet_run (.bool false) (by kernel_rfl) (fun W hW => (by kernel_rfl)) ?_
                          simp only [Act.put, List.setIfInBounds_toArray, List.set_cons_zero, List.set_cons_succ]
                          refine quiet_run (.pointer (some ⟨wr.heap.size + 1, 0, none⟩)) (by kernel_rfl) (fun W hW => exec_field rfl (by kernel_rfl) (fa_dag _ W)) ?_
                          simp only [Act.put, List.setIfInBounds_toArray, List.set_cons_zero, List.set_cons_succ]
                          refine quiet_run (.pointer (some ⟨wr.heap.size + 1, 0, none⟩)) (by kernel_rfl) (fun W hW => exec_field rfl (by kernel_rfl) (fa_api _ W)) ?_
                          simp only [Act.put, List.setIfInBounds_toArray, List.set_cons_zero, List.set_cons_succ]
                          refine quiet_run (.int .i64 2) (by kernel_rfl) (fun W hW => exec_load rfl (by kernel_rfl) (load_i (HXB W hW))) ?_
                          simp only [Act.put, List.setIfInBounds_toArray, List.set_cons_zero, List.set_cons_succ]
                          refine quiet_run (.bool true) (by kernel_rfl) (fun W hW => (by kernel_rfl)) ?_
                          simp only [Act.put, List.setIfInBounds_toArray, List.set_cons_zero, List.set_cons_succ]
                          refine quiet_run (.bool true) (by kernel_rfl) (fun W hW => (by kernel_rfl)) ?_
                          simp only [Act.put, List.setIfInBounds_toArray, List.set_cons_zero, List.set_cons_succ]
                          refine quiet_run (.pointer (some ⟨wr.heap.size + 1, 0, none⟩)) (by kernel_rfl) (fun W hW => exec_field rfl (by kernel_rfl) (fa_dag _ W)) ?_
                          simp only [Act.put, List.setIfInBounds_toArray, List.set_cons_zero, List.set_cons_succ]
                          refine quiet_run (.pointer (some ⟨wr.heap.size + 1, 0, none⟩)) (by kernel_rfl) (fun W hW => exec_field rfl (by kernel_rfl) (fa_api _ W)) ?_
                          simp only [Act.put, List.setIfInBounds_toArray, List.set_cons_zero, List.set_cons_succ]
                          refine quiet_run (.int .i64 2) (by kernel_rfl) (fun W hW => exec_load rfl (by kernel_rfl) (load_i (HXB W hW))) ?_
                          simp only [Act.put, List.setIfInBounds_toArray, List.set_cons_zero, List.set_cons_succ]
                          refine quiet_run (.bool false) (by kernel_rfl) (fun W hW => (by kernel_rfl)) ?_
                          simp only [Act.put, List.setIfInBounds_toArray, List.set_cons_zero, List.set_cons_succ]
                          refine quiet_run (.bool false) (by kernel_rfl) (fun W hW => (by kernel_rfl)) ?_
                          simp only [Act.put, List.setIfInBounds_toArray, List.set_cons_zero, List.set_cons_succ]
                          refine quiet_run (.bool false) (by kernel_rfl) (fun W hW => (by kernel_rfl)) ?_
                          simp only [Act.put, List.setIfInBounds_toArray, List.set_cons_zero, List.set_cons_succ]
                          refine quiet_run (.bool false) (by kernel_rfl) (fun W hW => (by kernel_rfl)) ?_
                          simp only [Act.put, List.setIfInBounds_toArray, List.set_cons_zero, List.set_cons_succ]
                          refine quiet_run (.agg #[.int .i64 2, .int .i64 m2.1, .int .i64 m2.2, .string m3, .int .i64 m4.1, .int .i64 m4.2, .bool mi, .int .i64 m6.k, .int .i64 m6.n, .string m6.s, .int .i64 m6.o, .int .i64 m6.p, .slice mA m7.length mc, .int .i64 mn.1, .int .i64 mn.2]) (by kernel_rfl) (fun W hW => exec_load rfl (by kernel_rfl) (load15 (HX.out.2.below hW HX.out.2.lt))) ?_
                          simp only [Act.put, List.setIfInBounds_toArray, List.set_cons_zero, List.set_cons_succ]
                          refine quiet_call (.agg #[.int .i64 y1, .int .i64 y2, .string y3, .int .i64 y4, .int .i64 y5]) _ _ (by kernel_rfl) (fun W => by kernel_rfl) (fun W hW => (HPM.out W).mono (fun e w3 h3 => ⟨h3.1, hW.trans (h3.2.mono hW.size)⟩)) ?_
                          simp only [Act.put, List.setIfInBounds_toArray, List.set_cons_zero, List.set_cons_succ]
                          refine quiet_run (.agg #[.int .i64 o.kind, .int .i64 o.obj.1, .int .i64 o.obj.2, .string o.key, .int .i64 o.elem.1, .int .i64 o.elem.2, .bool o.ins, .int .i64 o.val.k, .int .i64 o.val.n, .string o.val.s, .int .i64 o.val.o, .int .i64 o.val.p, .slice pA o.preds.length pc, .int .i64 n.1, .int .i64 n.2]) (by kernel_rfl) (fun W hW => exec_load rfl (by kernel_rfl) (load15 (HX.out.1.blk.below hW HX.out.1.blk.lt))) ?_
                          simp only [Act.put, List.setIfInBounds_toArray, List.set_cons_zero, List.set_cons_succ]
                          refine quiet_call (.agg #[.int .i64 x1, .int .i64 x2, .string x3, .int .i64 x4, .int .i64 x5]) _ _ (by kernel_rfl) (fun W => by kernel_rfl) (fun W hW => (HPL.out W).mono (fun e w3 h3 => ⟨h3.1, hW.trans (h3.2.mono hW.size)⟩)) ?_
                          simp only [Act.put, List.setIfInBounds_toArray, List.set_cons_zero, List.set_cons_succ]
                          refine quiet_run (.bool zb) (by kernel_rfl) (fun W hW => by rw [← HZB.out]; exact exec_bin rfl (by kernel_rfl) (by kernel_rfl) (neq_place _ _ _ _ _ _ _ _ _ _ _ _ _)) ?_
                          simp only [Act.put, List.setIfInBounds_toArray, List.set_cons_zero, List.set_cons_succ]
                          refine quiet_run (.bool zb) (by kernel_rfl) (fun W hW => (by kernel_rfl)) ?_
                          simp only [Act.put, List.setIfInBounds_toArray, List.set_cons_zero, List.set_cons_succ]
                          refine wpQuiet_nil ?_
                          intro w9 hw9
                          go_simp
                          go_wp2_with fail
                          go_meet
                          exact ⟨rfl, ⟨_, rfl, HPZ.out⟩, HX.out.1.new hw9, HX.out.2.below hw9 HX.out.2.lt⟩
                        · have e1 : (m1 == 1) = false := by simpa using h1
                          have e2 : (m1 == 2) = false := by simpa using h2
                          have f1 : decide (m1 = 1) = false := by simpa using h1
                          have f2 : decide (m1 = 2) = false := by simpa using h2
                          have HPZ := Lib.hid (show PredZ f o n d true m1 m6.k from predZ_kind (m := ⟨m1, m2, m3, m4, mi, m6, m7⟩) HFS.out.1 e1 e2)
                          go_quiet (fail)
                          go_wp2_with fail
                          go_meet
                          exact ⟨rfl, ⟨_, rfl, HPZ.out⟩, HX.out.1.new (below_drewN (Below.refl _ _) _), HX.out.2⟩
                  case rest =>
                    obtain ⟨rfl, ⟨z, rfl, hpz⟩, hX⟩ := hcut
                    have HX := Lib.hid hX
                    have HPZ := Lib.hid hpz
                    clear hX hpz
                    have q0 : wc.cell? ⟨w.heap.size, 0, none⟩ = some (.int .i64 o.kind) := HX.out.1.blk.cell 0
                    have p0 : wc.cell? ⟨wr.heap.size + 1, 0, none⟩ = some (.int .i64 m1) := HX.out.2.cell 0
                    have p7 : wc.cell? ⟨wr.heap.size + 1, 7, none⟩ = some (.int .i64 m6.k) := HX.out.2.cell 7
                    cases z with
                    | true =>
                      go_wp2_with fail
                      go_ret
                      exact BoolW.no (mayF_pred (List.mem_of_getElem? HDD.out) (HPZ.out.1 rfl)) HX.out.1.bel
                    | false =>
                      obtain ⟨a, ha⟩ : ∃ a, (o.kind == 4) = a := ⟨_, rfl⟩
                      obtain ⟨b1, hb⟩ : ∃ b, (m1 == 1) = b := ⟨_, rfl⟩
                      obtain ⟨c1, hc⟩ : ∃ c, (m6.k == 4) = c := ⟨_, rfl⟩
                      have HPE := Lib.hid (predOk_end HPZ.out ha hb hc)
                      cases a <;> cases b1 <;> cases c1
                      all_goals go_wp2_with fail
                      all_goals
                        first
                          | (go_ret; exact BoolW.no (mayF_pred (List.mem_of_getElem? HDD.out) (HPE.out.trans rfl)) HX.out.1.bel)
                          | exact ⟨⟨j + 1, by push_cast; rfl, by omega, take_all HALL.out HDD.out (HPE.out.trans rfl), by rw [← HA.out]; exact HX.out.1⟩, by simp [intOf]; omega⟩
                          | (exfalso; simp only [beq_iff_eq, beq_eq_false_iff_ne, ne_eq] at ha hb hc; omega)
                · obtain rfl : j = o.preds.length := by omega
                  have HI := Lib.hid hI
                  clear hI
                  have HYES := Lib.hid (show mayF f o n = true from by
                    rw [mayF_some HKI.out, show ((k == 5) == !o.key.toList.isEmpty) = true from by have := HZK.out; simpa using this.symm, HEO.out]
                    have h := HALL.out
                    rw [List.take_length] at h
                    rw [List.all_eq_true.2 h]
                    rfl)
                  go_wp2_with fail
                  go_ret
                  exact BoolW.yes HYES.out HI.out.bel
end Go.Proofs.YteknflimfdkhoaaGreat
