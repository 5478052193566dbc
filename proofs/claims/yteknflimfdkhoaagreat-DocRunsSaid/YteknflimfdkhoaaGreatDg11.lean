/- change.op: a contract. change.Check, change.Ref: contracts. -/
import Derived.Test.YteknflimfdkhoaaGreatDg10
import Derived.Deep.CutBlock
namespace Go.Proofs.YteknflimfdkhoaaGreat
open Go.RowKit
set_option linter.unusedVariables false
set_option linter.unusedSimpArgs false

def objB (k : Int) : Bool := k == 5 || k == 6
set_option maxRecDepth 100000 in
set_option maxHeartbeats 1000000 in
theorem object_any (v : JV) (w : World) : Calls Tryz.prog 35 #[.agg #[.int .i64 v.k, .int .i64 v.n, .string v.s, .int .i64 v.o, .int .i64 v.p]] w fun e w' => e = .returned (.bool (objB v.k)) ∧ Below w.heap.size w w' := by
  obtain ⟨k, n, s, o, p⟩ := v
  by_cases h5 : k = 5
  · subst h5
    go_enter Tryz.func35, Tryz.ntmps35
    go_wp2_with fail
    go_ret
    exact ⟨rfl, (Below.refl _ _).alloc (Nat.le_refl _) _⟩
  · by_cases h6 : k = 6
    · subst h6
      go_enter Tryz.func35, Tryz.ntmps35
      go_wp2_with fail
      go_ret
      exact ⟨rfl, (Below.refl _ _).alloc (Nat.le_refl _) _⟩
    · have e5 : (k == 5) = false := by simpa using h5
      have e6 : (k == 6) = false := by simpa using h6
      have HO := Lib.hid (show objB k = false from by unfold objB; rw [e5, e6]; rfl)
      go_enter Tryz.func35, Tryz.ntmps35
      go_wp2_with fail
      go_ret
      exact ⟨by rw [HO.out]; rfl, (Below.refl _ _).alloc (Nat.le_refl _) _⟩

/-- The op's box, and what has turned since. -/
structure OB (w : World) (o : OpV) (pA : Option Addr) (pc : Nat) (W : World) : Prop where
  bel : Below w.heap.size w W
  blk : Blk W w.heap.size 51 #[.int .i64 o.kind, .int .i64 o.obj.1, .int .i64 o.obj.2, .string o.key, .int .i64 o.elem.1, .int .i64 o.elem.2, .bool o.ins, .int .i64 o.val.k, .int .i64 o.val.n, .string o.val.s, .int .i64 o.val.o, .int .i64 o.val.p, .slice pA o.preds.length pc]
theorem OB.new {w W W' : World} {o : OpV} {pA : Option Addr} {pc : Nat} (h : OB w o pA pc W) (hb : Below W.heap.size W W') : OB w o pA pc W' :=
  ⟨h.bel.trans (hb.mono h.bel.size), h.blk.below hb h.blk.lt⟩

theorem opE_1 {o : OpV} (h : opE1 o = 1) : opE o = 1 := by unfold opE firstF; rw [h]; rfl
theorem opE_2 {o : OpV} (h1 : opE1 o = 0) (h : opE2 o = 1) : opE o = 1 := by simp [opE, firstF, h1, h]
theorem opE_3 {o : OpV} {n : Int} (h1 : opE1 o = 0) (h2 : opE2 o = 0) (h : opE3 o = n) (hn : n ≠ 0) : opE o = n := by simp [opE, firstF, h1, h2, h, hn]
theorem opE_4 {o : OpV} {n : Int} (h1 : opE1 o = 0) (h2 : opE2 o = 0) (h3 : opE3 o = 0) (h : opE4 o = n) (hn : n ≠ 0) : opE o = n := by simp [opE, firstF, h1, h2, h3, h, hn]
theorem opE_5 {o : OpV} {n : Int} (h1 : opE1 o = 0) (h2 : opE2 o = 0) (h3 : opE3 o = 0) (h4 : opE4 o = 0) (h : opE5 o = n) : opE o = n := by
  unfold opE firstF firstF firstF firstF firstF firstF
  rw [h1, h2, h3, h4, h]
  simp
  exact fun e => e.symm

set_option maxRecDepth 100000 in
set_option maxHeartbeats 2000000 in
theorem op_bad (o : OpV) (pA : Option Addr) (pc : Nat) (w : World) (h : opE1 o = 1) :
    Calls Tryz.prog 70 #[.agg #[.int .i64 o.kind, .int .i64 o.obj.1, .int .i64 o.obj.2, .string o.key, .int .i64 o.elem.1, .int .i64 o.elem.2, .bool o.ins, .int .i64 o.val.k, .int .i64 o.val.n, .string o.val.s, .int .i64 o.val.o, .int .i64 o.val.p, .slice pA o.preds.length pc]] w fun e w' => e = .returned (errC (opE o)) ∧ Below w.heap.size w w' := by
  rw [opE_1 h]
  have HC1 := Lib.hid (fun w => idCheck_any o.obj.1 o.obj.2 w)
  have HC2 := Lib.hid (fun w => idCheck_any o.elem.1 o.elem.2 w)
  have hB : Below w.heap.size w (w.alloc (.cells #[.int .i64 o.kind, .int .i64 o.obj.1, .int .i64 o.obj.2, .string o.key, .int .i64 o.elem.1, .int .i64 o.elem.2, .bool o.ins, .int .i64 o.val.k, .int .i64 o.val.n, .string o.val.s, .int .i64 o.val.o, .int .i64 o.val.p, .slice pA o.preds.length pc] 51)) := (Below.refl _ _).alloc (Nat.le_refl _) _
  have HB := Lib.hid hB
  clear hB
  by_cases h1 : o.kind < 1
  · have d1 : decide (o.kind < 1) = true := decide_eq_true h1
    clear h
    go_enter Tryz.func70, Tryz.ntmps70
    go_wp2_with fail
    go_ret
    exact ⟨rfl, HB.out⟩
  · have d1 : decide (o.kind < 1) = false := decide_eq_false h1
    by_cases h2 : 4 < o.kind
    · have d2 : decide (4 < o.kind) = true := decide_eq_true h2
      clear h
      go_enter Tryz.func70, Tryz.ntmps70
      go_wp2_with fail
      go_ret
      exact ⟨rfl, HB.out⟩
    · have d2 : decide (4 < o.kind) = false := decide_eq_false h2
      cases h3 : idOk o.obj.1 o.obj.2 with
      | false =>
        rw [h3] at HC1
        clear h h3
        go_enter Tryz.func70, Tryz.ntmps70
        go_wp2_with (go_at_call_of 62 (Value.agg #[.int .i64 o.obj.1, .int .i64 o.obj.2]); refine (HC1.out _).mono ?_; rintro e w1 ⟨rfl, hb1⟩; rw [errIf_false])
        go_ret
        exact ⟨rfl, HB.out.trans (hb1.mono HB.out.size)⟩
      | true =>
        rw [h3] at HC1
        have h4 : idOk o.elem.1 o.elem.2 = false := by
          cases h4 : idOk o.elem.1 o.elem.2 with
          | false => rfl
          | true =>
            unfold opE1 at h
            rw [if_neg (by rintro (h5 | h5 | h5 | h5); exact h1 h5; exact h2 h5; (rw [h3] at h5; cases h5); (rw [h4] at h5; cases h5))] at h
            cases h
        rw [h4] at HC2
        clear h h3 h4
        have HO := Lib.hid (show OB w o pA pc (w.alloc (.cells #[.int .i64 o.kind, .int .i64 o.obj.1, .int .i64 o.obj.2, .string o.key, .int .i64 o.elem.1, .int .i64 o.elem.2, .bool o.ins, .int .i64 o.val.k, .int .i64 o.val.n, .string o.val.s, .int .i64 o.val.o, .int .i64 o.val.p, .slice pA o.preds.length pc] 51)) from ⟨HB.out, Blk.new w _ _⟩)
        go_enter Tryz.func70, Tryz.ntmps70
        go_wp2_with (go_at_call_of 62 (Value.agg #[.int .i64 o.obj.1, .int .i64 o.obj.2]); refine (HC1.out _).mono ?_; rintro e w1 ⟨rfl, hb1⟩; rw [errIf_true]; have HO1 := Lib.hid (HO.out.new hb1); clear hb1; have q4 : w1.cell? ⟨w.heap.size, 4, none⟩ = some (.int .i64 o.elem.1) := HO1.out.blk.cell 4; have q5 : w1.cell? ⟨w.heap.size, 5, none⟩ = some (.int .i64 o.elem.2) := HO1.out.blk.cell 5)
        refine (HC2.out _).mono ?_
        rintro e w2 ⟨rfl, hb2⟩
        rw [errIf_false]
        go_wp2_with fail
        go_ret
        exact ⟨rfl, HO1.out.bel.trans (hb2.mono HO1.out.bel.size)⟩

theorem preds_zero {o : OpV} (h : firstF ((o.preds.map realF).drop o.preds.length) = opE2 o) : opE2 o = 0 := by
  rw [← h, List.drop_eq_nil_of_le (by simp), firstF]
theorem listed_eq (o : OpV) {a b i : Bool} (ha : (o.elem.1 == 0) = a) (hb : (o.elem.2 == 0) = b) (hi : o.ins = i) : listedB o = (!(a && b) || i) := by
  unfold listedB; rw [ha, hb, hi]
def mixB (o : OpV) : Bool := o.ins && (!freshB o || decide (0 < o.preds.length))
theorem mix_eq (o : OpV) {i f p : Bool} (hi : o.ins = i) (hf : freshB o = f) (hp : decide (0 < o.preds.length) = p) : mixB o = (i && (!f || p)) := by
  unfold mixB; rw [hi, hf, hp]
theorem valOk_1 {o : OpV} (h : o.kind = 1) : valOk o.kind o.val = !objB o.val.k := by unfold valOk objB; rw [if_pos h]
theorem valOk_2 {o : OpV} (h : o.kind = 2) : valOk o.kind o.val = (objB o.val.k && (o.val.o == 0 && o.val.p == 0)) := by unfold valOk objB; rw [h]; rfl
theorem valOk_3 {o : OpV} (h : o.kind = 3) : valOk o.kind o.val = (o.val.k == 0) := by unfold valOk; rw [h]; rfl
theorem valOk_4 {o : OpV} (h : o.kind = 4) : valOk o.kind o.val = (o.val.k == 2) := by unfold valOk; rw [h]; rfl
theorem opE4_a {o : OpV} (h : ((!o.key.toList.isEmpty) == listedB o) = true) : opE4 o = 3 := by unfold opE4; rw [if_pos (.inl h)]
theorem opE4_b {o : OpV} (h : mixB o = true) : opE4 o = 3 := by
  unfold mixB at h
  simp at h
  have h2 : o.ins = true ∧ (freshB o = false ∨ 0 < o.preds.length) := h
  unfold opE4
  rw [if_pos (.inr h2)]
theorem opE4_c {o : OpV} (h1 : ((!o.key.toList.isEmpty) == listedB o) = false) (h2 : mixB o = false) : opE4 o = if o.val.ok = false then 1 else 0 := by
  unfold opE4
  rw [if_neg ?_]
  rintro (h | ⟨ha, hb⟩)
  · rw [h1] at h; cases h
  · unfold mixB at h2
    rw [ha] at h2
    rcases hb with hb | hb
    · rw [hb] at h2; simp at h2
    · simp [decide_eq_true hb] at h2

set_option maxRecDepth 100000 in
set_option maxHeartbeats 4000000 in
theorem op_good (o : OpV) (pA : Option Addr) (pc : Nat) (w : World) (h : opE1 o = 0) (hA : SlAt w pA (refs o.preds)) (hl : o.preds.length ≤ maxLen) (hkl : o.key.size ≤ maxLen) :
    Calls Tryz.prog 70 #[.agg #[.int .i64 o.kind, .int .i64 o.obj.1, .int .i64 o.obj.2, .string o.key, .int .i64 o.elem.1, .int .i64 o.elem.2, .bool o.ins, .int .i64 o.val.k, .int .i64 o.val.n, .string o.val.s, .int .i64 o.val.o, .int .i64 o.val.p, .slice pA o.preds.length pc]] w fun e w' => e = .returned (errC (opE o)) ∧ Below w.heap.size w w' := by
  have h1 : ¬ o.kind < 1 := fun e => by unfold opE1 at h; rw [if_pos (.inl e)] at h; cases h
  have h2 : ¬ 4 < o.kind := fun e => by unfold opE1 at h; rw [if_pos (.inr (.inl e))] at h; cases h
  have h3 : idOk o.obj.1 o.obj.2 = true := by
    cases e : idOk o.obj.1 o.obj.2 with
    | true => rfl
    | false => unfold opE1 at h; rw [if_pos (.inr (.inr (.inl e)))] at h; cases h
  have h4 : idOk o.elem.1 o.elem.2 = true := by
    cases e : idOk o.elem.1 o.elem.2 with
    | true => rfl
    | false => unfold opE1 at h; rw [if_pos (.inr (.inr (.inr e)))] at h; cases h
  have HC1 := Lib.hid (fun w => idCheck_any o.obj.1 o.obj.2 w)
  have HC2 := Lib.hid (fun w => idCheck_any o.elem.1 o.elem.2 w)
  rw [h3] at HC1
  rw [h4] at HC2
  have d1 : decide (o.kind < 1) = false := decide_eq_false h1
  have d2 : decide (4 < o.kind) = false := decide_eq_false h2
  have hl' : o.preds.length ≤ 9223372036854775807 := by unfold maxLen at hl; omega
  have HK := Lib.hid (show o.kind = 1 ∨ o.kind = 2 ∨ o.kind = 3 ∨ o.kind = 4 by omega)
  have HE1 := Lib.hid (And.intro h (And.intro hA hl))
  have HO := Lib.hid (show OB w o pA pc (w.alloc (.cells #[.int .i64 o.kind, .int .i64 o.obj.1, .int .i64 o.obj.2, .string o.key, .int .i64 o.elem.1, .int .i64 o.elem.2, .bool o.ins, .int .i64 o.val.k, .int .i64 o.val.n, .string o.val.s, .int .i64 o.val.o, .int .i64 o.val.p, .slice pA o.preds.length pc] 51)) from ⟨(Below.refl _ _).alloc (Nat.le_refl _) _, Blk.new w _ _⟩)
  clear h h3 h4 hA hl h1 h2
  have hkl2 : o.key.size ≤ 9223372036854775807 := by unfold maxLen at hkl; omega
  clear hkl
  go_enter Tryz.func70, Tryz.ntmps70
  go_wp2_with (go_at_call_of 62 (Value.agg #[.int .i64 o.obj.1, .int .i64 o.obj.2]); refine (HC1.out _).mono ?_; rintro e w1 ⟨rfl, hb1⟩; rw [errIf_true]; have HO1 := Lib.hid (HO.out.new hb1); clear hb1; have q4 : w1.cell? ⟨w.heap.size, 4, none⟩ = some (.int .i64 o.elem.1) := HO1.out.blk.cell 4; have q5 : w1.cell? ⟨w.heap.size, 5, none⟩ = some (.int .i64 o.elem.2) := HO1.out.blk.cell 5)
  refine (HC2.out _).mono ?_
  rintro e w2 ⟨rfl, hb2⟩
  rw [errIf_true]
  have HO2 := Lib.hid (HO1.out.new hb2)
  clear q4 q5 hb2 d1 d2 HC1 HC2
  have q12 : w2.cell? ⟨w.heap.size, 12, none⟩ = some (.slice pA o.preds.length pc) := HO2.out.blk.cell 12
  go_wp2_with fail
  clear q12
  go_loopw [33, 4] (fun iv _ wr => ∃ k : Nat, k ≤ o.preds.length ∧ iv = .int .i64 k ∧ firstF ((o.preds.map realF).drop k) = opE2 o ∧ OB w o pA pc wr) (fun iv _ _ => o.preds.length - (intOf iv).toNat)
  case atStart => exact ⟨0, Nat.zero_le _, rfl, rfl, HO2.out⟩
  case round =>
    obtain ⟨k, hk, rfl, hf, hO⟩ := hrel
    by_cases hlt : k < o.preds.length
    · obtain ⟨b, off, p, rfl, hr, hx, hy⟩ := (HE1.out.2.1.below hO.bel).ref hlt
      have hF : (o.preds.map realF)[k]? = some (realF p) := by rw [List.getElem?_map, hr]; rfl
      have HR := Lib.hid (fun w => real_any p.1 p.2 w)
      have hbs := hO.bel.size
      have H := Lib.hid (And.intro hF (And.intro hf hO))
      clear hF hf hO hr
      cases hre : idReal p.1 p.2 with
      | false =>
        rw [hre] at HR
        have HN := Lib.hid (show opE o = 1 from opE_2 HE1.out.1 (by rw [← H.out.2.1, firstF_hit H.out.1 (by unfold realF; rw [hre]; decide)]; unfold realF; rw [hre]; rfl))
        clear hre
        go_wp2_with (go_at_call 84; refine (HR.out _).mono ?_; rintro e w3 ⟨rfl, hb3⟩)
        go_ret
        exact ⟨by rw [HN.out]; rfl, (H.out.2.2.bel.alloc hbs _).trans (hb3.mono (by simp; omega))⟩
      | true =>
        rw [hre] at HR
        have HN := Lib.hid (show firstF ((o.preds.map realF).drop (k + 1)) = opE2 o from by rw [← H.out.2.1, firstF_zero H.out.1 (by unfold realF; rw [hre]; rfl)])
        clear hre
        go_wp2_with (go_at_call 84; refine (HR.out _).mono ?_; rintro e w3 ⟨rfl, hb3⟩)
        go_roundw
        case rel => exact ⟨k + 1, by omega, by go_num, HN.out, H.out.2.2.new (((Below.refl _ _).alloc (Nat.le_refl _) _).trans (hb3.mono (by simp)))⟩
        case measure => simp [intOf]; omega
    · have e : k = o.preds.length := by omega
      subst e
      have HE2 := Lib.hid (preds_zero hf)
      have HO3 := Lib.hid hO
      clear hf hO HO2 HO1 HO hlt hk
      have q3 : wr.cell? ⟨w.heap.size, 3, none⟩ = some (.string o.key) := HO3.out.blk.cell 3
      have q12 : wr.cell? ⟨w.heap.size, 12, none⟩ = some (.slice pA o.preds.length pc) := HO3.out.blk.cell 12
      by_cases hkey : 20 < o.key.size
      · have d3 : decide (20 < (o.key.size : Int)) = true := decide_eq_true (by omega)
        have HN := Lib.hid (show opE o = 4 from opE_3 HE1.out.1 HE2.out (by unfold opE3; rw [if_pos hkey]) (by decide))
        go_wp2_with fail
        go_ret
        exact ⟨by rw [HN.out]; rfl, HO3.out.bel⟩
      · have d3 : decide (20 < (o.key.size : Int)) = false := decide_eq_false (by omega)
        have HI := Lib.hid (ids_any pA pc o.preds wr (HE1.out.2.1.below HO3.out.bel) HE1.out.2.2)
        have HE3 := Lib.hid (show opE3 o = idsE o.preds from by unfold opE3; rw [if_neg hkey])
        clear hkey
        obtain ⟨n, hn⟩ : ∃ n, idsE o.preds = n := ⟨_, rfl⟩
        rw [hn] at HI HE3
        clear hn
        by_cases h0 : n = 0
        · subst h0
          rw [errC_zero] at HI
          go_upto_region 14 with (go_at_call 88; refine HI.out.mono ?_; rintro e w4 ⟨rfl, hb4⟩; have HO4 := Lib.hid (HO3.out.new hb4); clear hb4)
          clear q3 q12 d3 HO3 HI
          have q0 : w4.cell? ⟨w.heap.size, 0, none⟩ = some (.int .i64 o.kind) := HO4.out.blk.cell 0
          have q1 : w4.cell? ⟨w.heap.size, 1, none⟩ = some (.int .i64 o.obj.1) := HO4.out.blk.cell 1
          have q2 : w4.cell? ⟨w.heap.size, 2, none⟩ = some (.int .i64 o.obj.2) := HO4.out.blk.cell 2
          have q3 : w4.cell? ⟨w.heap.size, 3, none⟩ = some (.string o.key) := HO4.out.blk.cell 3
          have q4 : w4.cell? ⟨w.heap.size, 4, none⟩ = some (.int .i64 o.elem.1) := HO4.out.blk.cell 4
          have q5 : w4.cell? ⟨w.heap.size, 5, none⟩ = some (.int .i64 o.elem.2) := HO4.out.blk.cell 5
          have q6 : w4.cell? ⟨w.heap.size, 6, none⟩ = some (.bool o.ins) := HO4.out.blk.cell 6
          have q7 : w4.cell? ⟨w.heap.size, 7, none⟩ = some (.int .i64 o.val.k) := HO4.out.blk.cell 7
          have q8 : w4.cell? ⟨w.heap.size, 8, none⟩ = some (.int .i64 o.val.n) := HO4.out.blk.cell 8
          have q9 : w4.cell? ⟨w.heap.size, 9, none⟩ = some (.string o.val.s) := HO4.out.blk.cell 9
          have q10 : w4.cell? ⟨w.heap.size, 10, none⟩ = some (.int .i64 o.val.o) := HO4.out.blk.cell 10
          have q11 : w4.cell? ⟨w.heap.size, 11, none⟩ = some (.int .i64 o.val.p) := HO4.out.blk.cell 11
          have q12 : w4.cell? ⟨w.heap.size, 12, none⟩ = some (.slice pA o.preds.length pc) := HO4.out.blk.cell 12
          go_cut [0, 6] from 53 to 60 (fun s0 s6 wx => s6 = .bool (listedB o) ∧ w4 = wx)
          case first =>
            obtain ⟨a, ha⟩ : ∃ a, (o.elem.1 == 0) = a := ⟨_, rfl⟩
            obtain ⟨b, hb⟩ : ∃ b, (o.elem.2 == 0) = b := ⟨_, rfl⟩
            obtain ⟨i, hi⟩ : ∃ i, o.ins = i := ⟨_, rfl⟩
            have HL := Lib.hid (listed_eq o ha hb hi)
            cases a <;> cases b <;> cases i
            all_goals
              go_wp2_with fail
              go_meet
              exact ⟨by rw [HL.out]; rfl, rfl⟩
          case rest =>
            obtain ⟨rfl, rfl⟩ := hcut
            go_upto_region 15 with (fail)
            go_cut [0, 7] from 61 to 68 (fun s0 s7 wx => s7 = .bool (freshB o) ∧ w4 = wx)
            case first =>
              obtain ⟨a, ha⟩ : ∃ a, (o.kind == 1) = a := ⟨_, rfl⟩
              obtain ⟨b, hb⟩ : ∃ b, (o.kind == 2) = b := ⟨_, rfl⟩
              have HL := Lib.hid (show freshB o = (a || b) from by unfold freshB; rw [ha, hb])
              cases a <;> cases b
              all_goals
                go_wp2_with fail
                go_meet
                exact ⟨by rw [HL.out]; rfl, rfl⟩
            case rest =>
              obtain ⟨rfl, rfl⟩ := hcut
              go_upto_region 16 with (fail)
              go_cut [0, 6, 69] from 70 to 74 (fun s0 s6 s69 wx => s69 = .bool ((!o.key.toList.isEmpty) == listedB o) ∧ w4 = wx)
              case first =>
                cases hL : listedB o
                all_goals
                  have HL := Lib.hid hL
                  clear hL
                  cases hk : o.key.toList.isEmpty with
                  | false =>
                    have hk2 : (!o.key.toList.isEmpty) = true := by rw [hk]; rfl
                    have HK2 := Lib.hid hk
                    go_wp2_with fail
                    go_meet
                    exact ⟨by rw [HL.out, HK2.out]; rfl, rfl⟩
                  | true =>
                    have hk2 : o.key.toList = [] := by simpa using hk
                    have HK2 := Lib.hid hk
                    go_wp2_with fail
                    go_meet
                    exact ⟨by rw [HL.out, HK2.out]; rfl, rfl⟩
              case rest =>
                obtain ⟨rfl, rfl⟩ := hcut
                cases hc : ((!o.key.toList.isEmpty) == listedB o) with
                | true =>
                  have HN := Lib.hid (opE_4 HE1.out.1 HE2.out HE3.out (opE4_a hc) (by decide))
                  clear hc
                  go_wp2_with fail
                  go_ret
                  exact ⟨by rw [HN.out]; rfl, HO4.out.bel⟩
                | false =>
                  have HK3 := Lib.hid hc
                  clear hc
                  go_upto_region 17 with (fail)
                  go_cut [0, 7, 69] from 75 to 86 (fun s0 s7 s69 wx => s7 = .bool (freshB o) ∧ s69 = .bool (mixB o) ∧ w4 = wx)
                  case first =>
                    obtain ⟨i, hi⟩ : ∃ i, o.ins = i := ⟨_, rfl⟩
                    cases hf : freshB o
                    all_goals
                      have HF := Lib.hid hf
                      clear hf
                      by_cases hp : 0 < o.preds.length
                      · have d5 : decide (0 < (o.preds.length : Int)) = true := decide_eq_true (by omega)
                        have d6 : decide (0 < o.preds.length) = true := decide_eq_true hp
                        have HM := Lib.hid (mix_eq o hi HF.out d6)
                        clear hp
                        cases i
                        all_goals
                          go_wp2_with fail
                          go_meet
                          exact ⟨by rw [HF.out], by rw [HM.out]; rfl, rfl⟩
                      · have d5 : decide (0 < (o.preds.length : Int)) = false := decide_eq_false (by omega)
                        have d6 : decide (0 < o.preds.length) = false := decide_eq_false hp
                        have HM := Lib.hid (mix_eq o hi HF.out d6)
                        clear hp
                        cases i
                        all_goals
                          go_wp2_with fail
                          go_meet
                          exact ⟨by rw [HF.out], by rw [HM.out]; rfl, rfl⟩
                  case rest =>
                    obtain ⟨rfl, rfl, rfl⟩ := hcut
                    cases hc : mixB o with
                    | true =>
                      have HN := Lib.hid (opE_4 HE1.out.1 HE2.out HE3.out (opE4_b hc) (by decide))
                      clear hc
                      go_wp2_with fail
                      go_ret
                      exact ⟨by rw [HN.out]; rfl, HO4.out.bel⟩
                    | false =>
                      have HE4 := Lib.hid (opE4_c HK3.out hc)
                      clear hc
                      have hv := fun w => valueCheck_any o.val w
                      unfold JV.cells at hv
                      have HV := Lib.hid hv
                      clear hv
                      cases hvo : o.val.ok with
                      | false =>
                        rw [hvo] at HV HE4
                        have HN := Lib.hid (opE_4 HE1.out.1 HE2.out HE3.out HE4.out (by decide))
                        clear hvo
                        go_wp2_with (go_at_call 34; refine (HV.out _).mono ?_; rintro e w5 ⟨rfl, hb5⟩; rw [errIf_false])
                        go_ret
                        exact ⟨by rw [HN.out]; rfl, HO4.out.bel.trans (hb5.mono HO4.out.bel.size)⟩
                      | true =>
                        rw [hvo] at HV HE4
                        clear hvo
                        go_upto_block 3 with (go_at_call 34; refine (HV.out _).mono ?_; rintro e w5 ⟨rfl, hb5⟩; rw [errIf_true]; have HO5 := Lib.hid (HO4.out.new hb5); clear hb5 q0 q1 q2 q3 q4 q5 q6 q7 q8 q9 q10 q11 q12; have q0 : w5.cell? ⟨w.heap.size, 0, none⟩ = some (.int .i64 o.kind) := HO5.out.blk.cell 0; have q1 : w5.cell? ⟨w.heap.size, 1, none⟩ = some (.int .i64 o.obj.1) := HO5.out.blk.cell 1; have q2 : w5.cell? ⟨w.heap.size, 2, none⟩ = some (.int .i64 o.obj.2) := HO5.out.blk.cell 2; have q3 : w5.cell? ⟨w.heap.size, 3, none⟩ = some (.string o.key) := HO5.out.blk.cell 3; have q4 : w5.cell? ⟨w.heap.size, 4, none⟩ = some (.int .i64 o.elem.1) := HO5.out.blk.cell 4; have q5 : w5.cell? ⟨w.heap.size, 5, none⟩ = some (.int .i64 o.elem.2) := HO5.out.blk.cell 5; have q6 : w5.cell? ⟨w.heap.size, 6, none⟩ = some (.bool o.ins) := HO5.out.blk.cell 6; have q7 : w5.cell? ⟨w.heap.size, 7, none⟩ = some (.int .i64 o.val.k) := HO5.out.blk.cell 7; have q8 : w5.cell? ⟨w.heap.size, 8, none⟩ = some (.int .i64 o.val.n) := HO5.out.blk.cell 8; have q9 : w5.cell? ⟨w.heap.size, 9, none⟩ = some (.string o.val.s) := HO5.out.blk.cell 9; have q10 : w5.cell? ⟨w.heap.size, 10, none⟩ = some (.int .i64 o.val.o) := HO5.out.blk.cell 10; have q11 : w5.cell? ⟨w.heap.size, 11, none⟩ = some (.int .i64 o.val.p) := HO5.out.blk.cell 11; have q12 : w5.cell? ⟨w.heap.size, 12, none⟩ = some (.slice pA o.preds.length pc) := HO5.out.blk.cell 12)
                        clear q3 q4 q5 q6
                        go_cut [0, 8, 95, 96] from 94 to 125 (fun s0 s8 s95 s96 wx => s8 = .bool (valOk o.kind o.val) ∧ OB w o pA pc wx)
                        case first =>
                          have HOB := Lib.hid (fun w => object_any o.val w)
                          obtain ⟨ob, hob⟩ : ∃ ob, objB o.val.k = ob := ⟨_, rfl⟩
                          rw [hob] at HOB
                          have HOBK := Lib.hid hob
                          clear hob
                          rcases HK.out with hk | hk | hk | hk
                          · have k1 : (o.kind == 1) = true := by rw [hk]; rfl
                            have HVK := Lib.hid (valOk_1 hk)
                            clear hk
                            go_wp2_with (go_at_call 35; refine (HOB.out _).mono ?_; rintro e w6 ⟨rfl, hb6⟩)
                            go_meet
                            exact ⟨by rw [HVK.out, HOBK.out], HO5.out.new hb6⟩
                          · have k1 : (o.kind == 1) = false := by rw [hk]; rfl
                            have k2 : (o.kind == 2) = true := by rw [hk]; rfl
                            have HVK := Lib.hid (valOk_2 hk)
                            obtain ⟨a, ha⟩ : ∃ a, (o.val.o == 0) = a := ⟨_, rfl⟩
                            obtain ⟨b, hb⟩ : ∃ b, (o.val.p == 0) = b := ⟨_, rfl⟩
                            have HAB := Lib.hid (And.intro ha hb)
                            clear hk
                            cases ob
                            · clear ha hb
                              go_wp2_with (go_at_call 35; refine (HOB.out _).mono ?_; rintro e w6 ⟨rfl, hb6⟩)
                              go_meet
                              exact ⟨by rw [HVK.out, HOBK.out]; rfl, HO5.out.new hb6⟩
                            · cases a <;> cases b
                              all_goals
                                go_wp2_with (go_at_call 35; refine (HOB.out _).mono ?_; rintro e w6 ⟨rfl, hb6⟩; have HO6 := Lib.hid (HO5.out.new hb6); clear hb6; have q0 : w6.cell? ⟨w.heap.size, 0, none⟩ = some (.int .i64 o.kind) := HO6.out.blk.cell 0; have q1 : w6.cell? ⟨w.heap.size, 1, none⟩ = some (.int .i64 o.obj.1) := HO6.out.blk.cell 1; have q2 : w6.cell? ⟨w.heap.size, 2, none⟩ = some (.int .i64 o.obj.2) := HO6.out.blk.cell 2; have q3 : w6.cell? ⟨w.heap.size, 3, none⟩ = some (.string o.key) := HO6.out.blk.cell 3; have q4 : w6.cell? ⟨w.heap.size, 4, none⟩ = some (.int .i64 o.elem.1) := HO6.out.blk.cell 4; have q5 : w6.cell? ⟨w.heap.size, 5, none⟩ = some (.int .i64 o.elem.2) := HO6.out.blk.cell 5; have q6 : w6.cell? ⟨w.heap.size, 6, none⟩ = some (.bool o.ins) := HO6.out.blk.cell 6; have q7 : w6.cell? ⟨w.heap.size, 7, none⟩ = some (.int .i64 o.val.k) := HO6.out.blk.cell 7; have q8 : w6.cell? ⟨w.heap.size, 8, none⟩ = some (.int .i64 o.val.n) := HO6.out.blk.cell 8; have q9 : w6.cell? ⟨w.heap.size, 9, none⟩ = some (.string o.val.s) := HO6.out.blk.cell 9; have q10 : w6.cell? ⟨w.heap.size, 10, none⟩ = some (.int .i64 o.val.o) := HO6.out.blk.cell 10; have q11 : w6.cell? ⟨w.heap.size, 11, none⟩ = some (.int .i64 o.val.p) := HO6.out.blk.cell 11; have q12 : w6.cell? ⟨w.heap.size, 12, none⟩ = some (.slice pA o.preds.length pc) := HO6.out.blk.cell 12)
                                go_meet
                                exact ⟨by rw [HVK.out, HOBK.out, HAB.out.1, HAB.out.2]; rfl, HO6.out⟩
                          · have k1 : (o.kind == 1) = false := by rw [hk]; rfl
                            have k2 : (o.kind == 2) = false := by rw [hk]; rfl
                            have k3 : (o.kind == 3) = true := by rw [hk]; rfl
                            have HVK := Lib.hid (valOk_3 hk)
                            clear hk
                            go_wp2_with fail
                            go_meet
                            exact ⟨by rw [HVK.out], HO5.out⟩
                          · have k1 : (o.kind == 1) = false := by rw [hk]; rfl
                            have k2 : (o.kind == 2) = false := by rw [hk]; rfl
                            have k3 : (o.kind == 3) = false := by rw [hk]; rfl
                            have k4 : (o.kind == 4) = true := by rw [hk]; rfl
                            have HVK := Lib.hid (valOk_4 hk)
                            clear hk
                            go_wp2_with fail
                            go_meet
                            exact ⟨by rw [HVK.out], HO5.out⟩
                        case rest =>
                          obtain ⟨rfl, hOB⟩ := hcut
                          have HO7 := Lib.hid hOB
                          clear hOB q0 q1 q2 q7 q8 q9 q10 q11 q12
                          cases hv : valOk o.kind o.val with
                          | false =>
                            have HN := Lib.hid (show opE o = 1 from opE_5 HE1.out.1 HE2.out HE3.out HE4.out (by unfold opE5; rw [if_pos hv]))
                            clear hv
                            go_wp2_with fail
                            go_ret
                            exact ⟨by rw [HN.out]; rfl, HO7.out.bel⟩
                          | true =>
                            have HV5 := Lib.hid hv
                            clear hv
                            have q12 : wc.cell? ⟨w.heap.size, 12, none⟩ = some (.slice pA o.preds.length pc) := HO7.out.blk.cell 12
                            cases hf : freshB o with
                            | true =>
                              have HN := Lib.hid (show opE o = 0 from opE_5 HE1.out.1 HE2.out HE3.out HE4.out (by unfold opE5; rw [if_neg (by rw [HV5.out]; decide), hf, if_neg (fun h => by cases h.1)]))
                              clear hf
                              go_wp2_with fail
                              go_ret
                              exact ⟨by rw [HN.out]; rfl, HO7.out.bel⟩
                            | false =>
                              by_cases hp : o.preds.length = 0
                              · have d8 : ((o.preds.length : Int) == 0) = true := by simp [hp]
                                have HN := Lib.hid (show opE o = 3 from opE_5 HE1.out.1 HE2.out HE3.out HE4.out (by unfold opE5; rw [if_neg (by rw [HV5.out]; decide), if_pos ⟨hf, hp⟩]))
                                clear hf hp
                                go_wp2_with fail
                                go_ret
                                exact ⟨by rw [HN.out]; rfl, HO7.out.bel⟩
                              · have d8 : ((o.preds.length : Int) == 0) = false := by simpa using hp
                                have HN := Lib.hid (show opE o = 0 from opE_5 HE1.out.1 HE2.out HE3.out HE4.out (by unfold opE5; rw [if_neg (by rw [HV5.out]; decide), if_neg (fun h => hp h.2)]))
                                clear hf hp
                                go_wp2_with fail
                                go_ret
                                exact ⟨by rw [HN.out]; rfl, HO7.out.bel⟩
        · rw [errC_ne h0] at HI
          have HN := Lib.hid (show opE o = n from opE_3 HE1.out.1 HE2.out HE3.out h0)
          have HZ := Lib.hid h0
          clear h0
          go_wp2_with (go_at_call 88; refine HI.out.mono ?_; rintro e w4 ⟨rfl, hb4⟩)
          go_ret
          exact ⟨by rw [HN.out, errC_ne HZ.out]; rfl, HO3.out.bel.trans (hb4.mono HO3.out.bel.size)⟩
end Go.Proofs.YteknflimfdkhoaaGreat
namespace Go.Proofs.YteknflimfdkhoaaGreat
open Go.RowKit
set_option linter.unusedVariables false
set_option linter.unusedSimpArgs false

set_option maxRecDepth 100000 in
theorem changeRef_any (c : PCh) (w : World) : Calls Tryz.prog 21 #[.agg #[.int .i64 c.actor, .int .i64 c.seq, .int .i64 c.start, .slice c.dA c.deps.length c.dc, .slice c.oA c.ops.length c.oc]] w fun e w' => e = .returned (.agg #[.int .i64 c.actor, .int .i64 c.seq]) ∧ Below w.heap.size w w' := by
  go_enter Tryz.func21, Tryz.ntmps21
  go_wp2_with fail
  refine bodyPost_ret (v := .agg #[.int .i64 c.actor, .int .i64 c.seq]) (by simp [results, Tryz.results21, go_sem]) rfl ⟨rfl, ?_⟩
  exact ((Below.refl _ _).alloc (Nat.le_refl _) _).alloc (by simp) _

theorem op_any (o : POp) (w : World) (hf : o.op.Fit) (hA : SlAt w o.pA (refs o.op.preds)) : Calls Tryz.prog 70 #[.agg #[.int .i64 o.op.kind, .int .i64 o.op.obj.1, .int .i64 o.op.obj.2, .string o.op.key, .int .i64 o.op.elem.1, .int .i64 o.op.elem.2, .bool o.op.ins, .int .i64 o.op.val.k, .int .i64 o.op.val.n, .string o.op.val.s, .int .i64 o.op.val.o, .int .i64 o.op.val.p, .slice o.pA o.op.preds.length o.pc]] w fun e w' => e = .returned (errC (opE o.op)) ∧ Below w.heap.size w w' := by
  by_cases h : opE1 o.op = 0
  · exact op_good o.op o.pA o.pc w h hA hf.len hf.key
  · refine op_bad o.op o.pA o.pc w ?_
    unfold opE1 at h ⊢
    split at h
    · rename_i h1; rw [if_pos h1]
    · exact absurd rfl h

/-- The change's box, and what has turned since. -/
structure CB (w : World) (c : PCh) (W : World) : Prop where
  bel : Below w.heap.size w W
  blk : Blk W w.heap.size 65 #[.int .i64 c.actor, .int .i64 c.seq, .int .i64 c.start, .slice c.dA c.deps.length c.dc, .slice c.oA c.ops.length c.oc]
theorem CB.new {w W W' : World} {c : PCh} (h : CB w c W) (hb : Below W.heap.size W W') : CB w c W' :=
  ⟨h.bel.trans (hb.mono h.bel.size), h.blk.below hb h.blk.lt⟩

theorem chE_1 {c : PCh} {n : Int} (h : chE1 c.ch = n) (hn : n ≠ 0) : chE c.ch = n := by unfold chE; rw [h, if_neg hn]
theorem chE_2 {c : PCh} {n : Int} (h1 : chE1 c.ch = 0) (h : chE2 c.ch = n) : chE c.ch = n := by unfold chE; rw [if_pos h1, h]

set_option maxRecDepth 100000 in
set_option maxHeartbeats 4000000 in
theorem changeCheck_any (c : PCh) (w : World) (hc : InC w c) :
    Calls Tryz.prog 45 #[.agg #[.int .i64 c.actor, .int .i64 c.seq, .int .i64 c.start, .slice c.dA c.deps.length c.dc, .slice c.oA c.ops.length c.oc]] w fun e w' => e = .returned (errC (chE c.ch)) ∧ Below w.heap.size w w' := by
  have hdl : c.deps.length ≤ 9223372036854775807 := by have := hc.dlen; unfold maxLen at this; omega
  have hol : c.ops.length ≤ 9223372036854775807 := by have := hc.olen; unfold maxLen at this; omega
  have HI := Lib.hid hc
  clear hc
  have HO := Lib.hid (show CB w c (w.alloc (.cells #[.int .i64 c.actor, .int .i64 c.seq, .int .i64 c.start, .slice c.dA c.deps.length c.dc, .slice c.oA c.ops.length c.oc] 65)) from ⟨(Below.refl _ _).alloc (Nat.le_refl _) _, Blk.new w _ _⟩)
  have HR := Lib.hid (fun w => idRef_any c.actor c.seq w)
  have hE1 : chE1 c.ch = if refOk (c.actor, c.seq) = false ∨ c.start < 1 ∨ 1000000 < c.start then 1 else if 12 < c.deps.length then 4 else refsE c.deps := rfl
  have hE2 : chE2 c.ch = if 40 < c.ops.length then 4 else if 1000000 < c.start + c.ops.length - 1 then 1 else firstF ((c.ops.map POp.op).map opE) := by
    show (if 40 < (c.ops.map POp.op).length then _ else if 1000000 < c.start + (c.ops.map POp.op).length - 1 then _ else _) = _
    rw [List.length_map]; rfl
  have HE1 := Lib.hid hE1
  have HE2 := Lib.hid hE2
  clear hE1 hE2
  cases hr : refOk (c.actor, c.seq) with
  | false =>
    rw [hr] at HR
    have HN := Lib.hid (show chE c.ch = 1 from chE_1 (by rw [HE1.out, if_pos (.inl hr)]) (by decide))
    clear hr
    go_enter Tryz.func45, Tryz.ntmps45
    go_wp2_with (go_at_call 68; refine (HR.out _).mono ?_; rintro e w1 ⟨rfl, hb1⟩)
    go_ret
    exact ⟨by rw [HN.out]; rfl, HO.out.bel.trans (hb1.mono HO.out.bel.size)⟩
  | true =>
    rw [hr] at HR
    by_cases hs1 : c.start < 1
    · have d1 : decide (c.start < 1) = true := decide_eq_true hs1
      have HN := Lib.hid (show chE c.ch = 1 from chE_1 (by rw [HE1.out, if_pos (.inr (.inl hs1))]) (by decide))
      clear hr
      go_enter Tryz.func45, Tryz.ntmps45
      go_wp2_with (go_at_call 68; refine (HR.out _).mono ?_; rintro e w1 ⟨rfl, hb1⟩; have HO1 := Lib.hid (HO.out.new hb1); clear hb1; have q0 : w1.cell? ⟨w.heap.size, 0, none⟩ = some (.int .i64 c.actor) := HO1.out.blk.cell 0; have q1 : w1.cell? ⟨w.heap.size, 1, none⟩ = some (.int .i64 c.seq) := HO1.out.blk.cell 1; have q2 : w1.cell? ⟨w.heap.size, 2, none⟩ = some (.int .i64 c.start) := HO1.out.blk.cell 2; have q3 : w1.cell? ⟨w.heap.size, 3, none⟩ = some (.slice c.dA c.deps.length c.dc) := HO1.out.blk.cell 3; have q4 : w1.cell? ⟨w.heap.size, 4, none⟩ = some (.slice c.oA c.ops.length c.oc) := HO1.out.blk.cell 4)
      go_ret
      exact ⟨by rw [HN.out]; rfl, HO1.out.bel⟩
    · by_cases hs2 : 1000000 < c.start
      · have d1 : decide (c.start < 1) = false := decide_eq_false hs1
        have d2 : decide (1000000 < c.start) = true := decide_eq_true hs2
        have HN := Lib.hid (show chE c.ch = 1 from chE_1 (by rw [HE1.out, if_pos (.inr (.inr hs2))]) (by decide))
        clear hr
        go_enter Tryz.func45, Tryz.ntmps45
        go_wp2_with (go_at_call 68; refine (HR.out _).mono ?_; rintro e w1 ⟨rfl, hb1⟩; have HO1 := Lib.hid (HO.out.new hb1); clear hb1; have q0 : w1.cell? ⟨w.heap.size, 0, none⟩ = some (.int .i64 c.actor) := HO1.out.blk.cell 0; have q1 : w1.cell? ⟨w.heap.size, 1, none⟩ = some (.int .i64 c.seq) := HO1.out.blk.cell 1; have q2 : w1.cell? ⟨w.heap.size, 2, none⟩ = some (.int .i64 c.start) := HO1.out.blk.cell 2; have q3 : w1.cell? ⟨w.heap.size, 3, none⟩ = some (.slice c.dA c.deps.length c.dc) := HO1.out.blk.cell 3; have q4 : w1.cell? ⟨w.heap.size, 4, none⟩ = some (.slice c.oA c.ops.length c.oc) := HO1.out.blk.cell 4)
        go_ret
        exact ⟨by rw [HN.out]; rfl, HO1.out.bel⟩
      · have d1 : decide (c.start < 1) = false := decide_eq_false hs1
        have d2 : decide (1000000 < c.start) = false := decide_eq_false hs2
        have HN1 := Lib.hid (show chE1 c.ch = if 12 < c.deps.length then 4 else refsE c.deps by
          rw [HE1.out, if_neg (by rintro (h | h | h); (rw [hr] at h; cases h); exact hs1 h; exact hs2 h)])
        clear hr
        go_enter Tryz.func45, Tryz.ntmps45
        go_upto_region 3 with (go_at_call 68; refine (HR.out _).mono ?_; rintro e w1 ⟨rfl, hb1⟩; have HO1 := Lib.hid (HO.out.new hb1); clear hb1; have q0 : w1.cell? ⟨w.heap.size, 0, none⟩ = some (.int .i64 c.actor) := HO1.out.blk.cell 0; have q1 : w1.cell? ⟨w.heap.size, 1, none⟩ = some (.int .i64 c.seq) := HO1.out.blk.cell 1; have q2 : w1.cell? ⟨w.heap.size, 2, none⟩ = some (.int .i64 c.start) := HO1.out.blk.cell 2; have q3 : w1.cell? ⟨w.heap.size, 3, none⟩ = some (.slice c.dA c.deps.length c.dc) := HO1.out.blk.cell 3; have q4 : w1.cell? ⟨w.heap.size, 4, none⟩ = some (.slice c.oA c.ops.length c.oc) := HO1.out.blk.cell 4)
        clear d1 d2
        by_cases h12 : 12 < c.deps.length
        · have d3 : decide (12 < (c.deps.length : Int)) = true := decide_eq_true (by omega)
          have HN := Lib.hid (show chE c.ch = 4 from chE_1 (by rw [HN1.out, if_pos h12]) (by decide))
          go_wp2_with fail
          go_ret
          exact ⟨by rw [HN.out]; rfl, HO1.out.bel⟩
        · have d3 : decide (12 < (c.deps.length : Int)) = false := decide_eq_false (by omega)
          have HF := Lib.hid (refsId_any c.dA c.dc c.deps w1 (HI.out.deps.below HO1.out.bel) HI.out.dlen)
          have HN2 := Lib.hid (show chE1 c.ch = refsE c.deps by rw [HN1.out, if_neg h12])
          clear h12
          obtain ⟨n, hn⟩ : ∃ n, refsE c.deps = n := ⟨_, rfl⟩
          rw [hn] at HF HN2
          clear hn
          by_cases h0 : n = 0
          · subst h0
            rw [errC_zero] at HF
            go_upto_block 0 with (go_at_call 69; refine HF.out.mono ?_; rintro e w2 ⟨rfl, hb2⟩; have HO2 := Lib.hid (HO1.out.new hb2); clear hb2 q0 q1 q2 q3 q4; have q0 : w2.cell? ⟨w.heap.size, 0, none⟩ = some (.int .i64 c.actor) := HO2.out.blk.cell 0; have q1 : w2.cell? ⟨w.heap.size, 1, none⟩ = some (.int .i64 c.seq) := HO2.out.blk.cell 1; have q2 : w2.cell? ⟨w.heap.size, 2, none⟩ = some (.int .i64 c.start) := HO2.out.blk.cell 2; have q3 : w2.cell? ⟨w.heap.size, 3, none⟩ = some (.slice c.dA c.deps.length c.dc) := HO2.out.blk.cell 3; have q4 : w2.cell? ⟨w.heap.size, 4, none⟩ = some (.slice c.oA c.ops.length c.oc) := HO2.out.blk.cell 4)
            clear d3
            by_cases h40 : 40 < c.ops.length
            · have d4 : decide (40 < (c.ops.length : Int)) = true := decide_eq_true (by omega)
              have HN := Lib.hid (show chE c.ch = 4 from chE_2 HN2.out (by rw [HE2.out, if_pos h40]))
              go_wp2_with fail
              go_ret
              exact ⟨by rw [HN.out]; rfl, HO2.out.bel⟩
            · have d4 : decide (40 < (c.ops.length : Int)) = false := decide_eq_false (by omega)
              by_cases hm : 1000000 < c.start + c.ops.length - 1
              · have d5 : decide (1000000 < c.start + (c.ops.length : Int) - 1) = true := decide_eq_true hm
                have HN := Lib.hid (show chE c.ch = 1 from chE_2 HN2.out (by rw [HE2.out, if_neg h40, if_pos hm]))
                go_wp2_with fail
                go_ret
                exact ⟨by rw [HN.out]; rfl, HO2.out.bel⟩
              · have d5 : decide (1000000 < c.start + (c.ops.length : Int) - 1) = false := decide_eq_false hm
                have HN3 := Lib.hid (show chE2 c.ch = firstF ((c.ops.map POp.op).map opE) by rw [HE2.out, if_neg h40, if_neg hm])
                clear hm
                go_wp2_with fail
                clear d4 d5 q0 q1 q2 q3 q4
                go_loopw [55, 5, 6] (fun iv _ _ wr => ∃ k : Nat, k ≤ c.ops.length ∧ iv = .int .i64 k ∧ firstF (((c.ops.map POp.op).map opE).drop k) = chE2 c.ch ∧ CB w c wr) (fun iv _ _ _ => c.ops.length - (intOf iv).toNat)
                case atStart => exact ⟨0, Nat.zero_le _, rfl, HN3.out.symm, HO2.out⟩
                case round =>
                  obtain ⟨k, hk, rfl, hf, hO⟩ := hrel
                  by_cases hlt : k < c.ops.length
                  · obtain ⟨x, hx⟩ : ∃ x, c.ops[k]? = some x := ⟨_, List.getElem?_eq_getElem hlt⟩
                    obtain ⟨b, off, ha, hcell⟩ := (HI.out.ops.below hO.bel).op hx
                    rw [ha]
                    have o0 : wr.cell? ⟨b, off + k * 13, none⟩ = some (.int .i64 x.op.kind) := hcell 0 _ rfl
                    have o1 : wr.cell? ⟨b, off + k * 13 + 1, none⟩ = some (.int .i64 x.op.obj.1) := hcell 1 _ rfl
                    have o2 : wr.cell? ⟨b, off + k * 13 + 2, none⟩ = some (.int .i64 x.op.obj.2) := hcell 2 _ rfl
                    have o3 : wr.cell? ⟨b, off + k * 13 + 3, none⟩ = some (.string x.op.key) := hcell 3 _ rfl
                    have o4 : wr.cell? ⟨b, off + k * 13 + 4, none⟩ = some (.int .i64 x.op.elem.1) := hcell 4 _ rfl
                    have o5 : wr.cell? ⟨b, off + k * 13 + 5, none⟩ = some (.int .i64 x.op.elem.2) := hcell 5 _ rfl
                    have o6 : wr.cell? ⟨b, off + k * 13 + 6, none⟩ = some (.bool x.op.ins) := hcell 6 _ rfl
                    have o7 : wr.cell? ⟨b, off + k * 13 + 7, none⟩ = some (.int .i64 x.op.val.k) := hcell 7 _ rfl
                    have o8 : wr.cell? ⟨b, off + k * 13 + 8, none⟩ = some (.int .i64 x.op.val.n) := hcell 8 _ rfl
                    have o9 : wr.cell? ⟨b, off + k * 13 + 9, none⟩ = some (.string x.op.val.s) := hcell 9 _ rfl
                    have o10 : wr.cell? ⟨b, off + k * 13 + 10, none⟩ = some (.int .i64 x.op.val.o) := hcell 10 _ rfl
                    have o11 : wr.cell? ⟨b, off + k * 13 + 11, none⟩ = some (.int .i64 x.op.val.p) := hcell 11 _ rfl
                    have o12 : wr.cell? ⟨b, off + k * 13 + 12, none⟩ = some (.slice x.pA x.op.preds.length x.pc) := hcell 12 _ rfl
                    have hF : ((c.ops.map POp.op).map opE)[k]? = some (opE x.op) := by simp [hx]
                    have hbs := hO.bel.size
                    have HX := Lib.hid (fun W (hW : Below wr.heap.size wr W) => op_any x W (HI.out.op x (List.mem_of_getElem? hx)) ((HI.out.preds x (List.mem_of_getElem? hx)).below (hO.bel.trans (hW.mono hbs))))
                    have H := Lib.hid (And.intro hF (And.intro hf hO))
                    clear hF hf hO hx ha hcell
                    obtain ⟨n, hn⟩ : ∃ n, opE x.op = n := ⟨_, rfl⟩
                    rw [hn] at H HX
                    clear hn
                    by_cases h0 : n = 0
                    · subst h0
                      rw [errC_zero] at HX
                      have HN := Lib.hid (show firstF (((c.ops.map POp.op).map opE).drop (k + 1)) = chE2 c.ch from by rw [← H.out.2.1, firstF_zero H.out.1 rfl])
                      go_wp2_with (go_at_call 70; refine (HX.out _ ((Below.refl _ _).alloc (Nat.le_refl _) _)).mono ?_; rintro e w3 ⟨rfl, hb3⟩)
                      go_roundw
                      case rel => exact ⟨k + 1, by omega, by go_num, HN.out, H.out.2.2.new (((Below.refl _ _).alloc (Nat.le_refl _) _).trans (hb3.mono (by simp)))⟩
                      case measure => simp [intOf]; omega
                    · rw [errC_ne h0] at HX
                      have HN := Lib.hid (show chE c.ch = n from chE_2 HN2.out (by rw [← H.out.2.1, firstF_hit H.out.1 h0]))
                      have HZ := Lib.hid h0
                      clear h0
                      go_wp2_with (go_at_call 70; refine (HX.out _ ((Below.refl _ _).alloc (Nat.le_refl _) _)).mono ?_; rintro e w3 ⟨rfl, hb3⟩)
                      go_ret
                      exact ⟨by rw [HN.out, errC_ne HZ.out]; rfl, (H.out.2.2.bel.alloc hbs _).trans (hb3.mono (by simp; omega))⟩
                  · have e : k = c.ops.length := by omega
                    subst e
                    have HN := Lib.hid (show chE c.ch = 0 from chE_2 HN2.out (by rw [← hf, List.drop_eq_nil_of_le (by simp)]; rfl))
                    have HO3 := Lib.hid hO
                    clear hf hO
                    go_wp2_with fail
                    go_ret
                    exact ⟨by rw [HN.out]; rfl, HO3.out.bel⟩
          · rw [errC_ne h0] at HF
            have HN := Lib.hid (show chE c.ch = n from chE_1 HN2.out h0)
            have HZ := Lib.hid h0
            clear h0
            go_wp2_with (go_at_call 69; refine HF.out.mono ?_; rintro e w2 ⟨rfl, hb2⟩)
            go_ret
            exact ⟨by rw [HN.out, errC_ne HZ.out]; rfl, HO1.out.bel.trans (hb2.mono HO1.out.bel.size)⟩
end Go.Proofs.YteknflimfdkhoaaGreat
