/- doc.keyed, doc.plain, doc.object: contracts. id.Compare, and the falling order of state.at: contracts as SortFunc wants them. -/
import Derived.Test.YthimkpkoimfkiaaGreatCg22
import Derived.Test.YthimkpkoimfkiaaGreatCg20
import Derived.Test.YthimkpkoimfkiaaGreatCg19
namespace Go.Proofs.YthimkpkoimfkiaaGreat
open Go.RowKit Go.Maps
set_option linter.unusedVariables false
set_option linter.unusedSimpArgs false

theorem zeroInt (w : World) : (zeroValue 3).run Tryz.prog w = .ok (.int .i64 0) w := by kernel_rfl
/-- The kind of an object, looked up. -/
theorem StM.look_kind {w : World} {B sb kb vb ib lb N : Nat} {s : Sta} (h : StM w B sb kb vb ib lb N s) {n : Int × Int} (hn : I2 n) :
    (Instr.lookup 100 (.map (some kb)) (.agg #[.int .i64 n.1, .int .i64 n.2]) true).run Tryz.prog w = .ok (.tuple #[.int .i64 ((s.kinds n).getD 0), .bool (s.kinds n).isSome]) w := by
  obtain ⟨Dk, k1, k2, k3⟩ := h.ks
  have := run_look_ok pairId k1 Tryz.underlying100 (zeroInt w) hn
  rw [k2 n hn] at this
  cases e : s.kinds n with
  | none => rw [e] at this; exact this
  | some k => rw [e] at this; exact this
set_option maxRecDepth 100000 in
set_option maxHeartbeats 1000000 in
theorem keyed_any (B sb kb vb ib lb N : Nat) (s : Sta) (obj : Int × Int) (key : ByteArray) (w : World) (H : StM w B sb kb vb ib lb N s) (hn : I2 obj) (hk : key.size ≤ maxLen) :
    Calls Tryz.prog 25 #[.pointer (some ⟨sb, 0, none⟩), .agg #[.int .i64 obj.1, .int .i64 obj.2], .string key] w fun e w' => e = .returned (errC (keyedE s obj key)) ∧ Below w.heap.size w w' := by
  obtain ⟨W0, hW0⟩ : ∃ W0, W0 = w.alloc (.cells #[.int .i64 obj.1, .int .i64 obj.2] 24) := ⟨_, rfl⟩
  have hb0 : Below w.heap.size w W0 := by rw [hW0]; exact (Below.refl _ _).alloc (Nat.le_refl _) _
  have H1 := H.below hb0
  have hN : Blk W0 w.heap.size 24 #[.int .i64 obj.1, .int .i64 obj.2] := by rw [hW0]; exact Blk.new _ _ _
  obtain ⟨kk, hkk⟩ : ∃ kk, s.kinds obj = kk := ⟨_, rfl⟩
  have hS : ∀ W, Below W0.heap.size W0 W → W.cell? ⟨sb, 0, none⟩ = some (.map (some kb)) ∧ W.cell? ⟨w.heap.size, 0, none⟩ = some (.int .i64 obj.1) ∧ W.cell? ⟨w.heap.size, 1, none⟩ = some (.int .i64 obj.2) ∧
      (Instr.lookup 100 (.map (some kb)) (.agg #[.int .i64 obj.1, .int .i64 obj.2]) true).run Tryz.prog W = .ok (.tuple #[.int .i64 (kk.getD 0), .bool kk.isSome]) W := by
    intro W hW
    have h2 := H1.below hW
    have hN2 := hN.below hW hN.lt
    refine ⟨h2.blk.cell 0, hN2.cell 0, hN2.cell 1, ?_⟩
    rw [← hkk]
    exact h2.look_kind hn
  have HB := Lib.hid hb0
  have HKS := Lib.hid hS
  have hS0 := hS W0 (Below.refl _ _)
  have hE : keyedE s obj key = kindE kk key := by
    unfold keyedE
    rw [hkk]
  have HE := Lib.hid hE
  clear H H1 hb0 hS hN hkk hE
  obtain ⟨p1, p2, p3, p4⟩ := hS0
  unfold maxLen at hk
  cases kk with
  | none =>
    have hke : keyedE s obj key = 6 := by rw [HE.out]; rfl
    rw [hke]
    clear HE hke
    go_enter Tryz.func25, Tryz.ntmps25
    go_wp2_with fail
    rw [← hW0]
    clear hW0
    go_region_held3 (fun w' => w'.cell? ⟨sb, 0, none⟩ = some (.map (some kb)) ∧ w'.cell? ⟨w.heap.size, 0, none⟩ = some (.int .i64 obj.1) ∧ w'.cell? ⟨w.heap.size, 1, none⟩ = some (.int .i64 obj.2) ∧ (Instr.lookup 100 (.map (some kb)) (.agg #[.int .i64 obj.1, .int .i64 obj.2]) true).run Tryz.prog w' = .ok (.tuple #[.int .i64 ((none : Option Int).getD 0), .bool (none : Option Int).isSome]) w')
      (first | (with_reducible exact HKS.out _ (Below.refl _ W0).drew) | go_keep) (first | fail)
    all_goals
      go_wp2_with fail
      go_ret
      exact ⟨rfl, HB.out.drew⟩
  | some k =>
    by_cases hk5 : k = 5
    · subst hk5
      obtain ⟨z, hz⟩ : ∃ z, key.toList.isEmpty = z := ⟨_, rfl⟩
      cases z with
      | true =>
        have hke : keyedE s obj key = 1 := by rw [HE.out]; exact kindE_key rfl hz
        rw [hke]
        clear HE
        go_enter Tryz.func25, Tryz.ntmps25
        go_wp2_with fail
        rw [← hW0]
        clear hW0
        go_region_held3 (fun w' => w'.cell? ⟨sb, 0, none⟩ = some (.map (some kb)) ∧ w'.cell? ⟨w.heap.size, 0, none⟩ = some (.int .i64 obj.1) ∧ w'.cell? ⟨w.heap.size, 1, none⟩ = some (.int .i64 obj.2) ∧ (Instr.lookup 100 (.map (some kb)) (.agg #[.int .i64 obj.1, .int .i64 obj.2]) true).run Tryz.prog w' = .ok (.tuple #[.int .i64 ((some (5 : Int)).getD 0), .bool (some (5 : Int)).isSome]) w')
          (first | (with_reducible exact HKS.out _ (Below.refl _ W0).drew) | go_keep) (first | fail)
        all_goals
          go_wp2_with fail
          go_ret
          exact ⟨rfl, HB.out.drew⟩
      | false =>
        have hkn : ¬ key.toList.isEmpty = true := by rw [hz]; decide
        have hw : IntKind.i64.wrap (key.size : Int) = (key.size : Int) := by rw [IntKind.wrap_i64]; omega
        by_cases hl : 20 < key.size
        · have hke : keyedE s obj key = 4 := by rw [HE.out]; exact kindE_long rfl hkn hl
          rw [hke]
          have hl2 : (20 : Int) < (key.size : Int) := by omega
          clear HE hkn
          go_enter Tryz.func25, Tryz.ntmps25
          go_wp2_with fail
          rw [← hW0]
          clear hW0
          go_region_held3 (fun w' => w'.cell? ⟨sb, 0, none⟩ = some (.map (some kb)) ∧ w'.cell? ⟨w.heap.size, 0, none⟩ = some (.int .i64 obj.1) ∧ w'.cell? ⟨w.heap.size, 1, none⟩ = some (.int .i64 obj.2) ∧ (Instr.lookup 100 (.map (some kb)) (.agg #[.int .i64 obj.1, .int .i64 obj.2]) true).run Tryz.prog w' = .ok (.tuple #[.int .i64 ((some (5 : Int)).getD 0), .bool (some (5 : Int)).isSome]) w')
            (first | (with_reducible exact HKS.out _ (Below.refl _ W0).drew) | go_keep) (first | fail)
          all_goals
            go_wp2_with fail
            go_ret
            exact ⟨rfl, HB.out.drew⟩
        · have hke : keyedE s obj key = 0 := by rw [HE.out]; exact kindE_ok rfl hkn hl
          rw [hke]
          have hl2 : ¬ (20 : Int) < (key.size : Int) := by omega
          clear HE hkn
          go_enter Tryz.func25, Tryz.ntmps25
          go_wp2_with fail
          rw [← hW0]
          clear hW0
          go_region_held3 (fun w' => w'.cell? ⟨sb, 0, none⟩ = some (.map (some kb)) ∧ w'.cell? ⟨w.heap.size, 0, none⟩ = some (.int .i64 obj.1) ∧ w'.cell? ⟨w.heap.size, 1, none⟩ = some (.int .i64 obj.2) ∧ (Instr.lookup 100 (.map (some kb)) (.agg #[.int .i64 obj.1, .int .i64 obj.2]) true).run Tryz.prog w' = .ok (.tuple #[.int .i64 ((some (5 : Int)).getD 0), .bool (some (5 : Int)).isSome]) w')
            (first | (with_reducible exact HKS.out _ (Below.refl _ W0).drew) | go_keep) (first | fail)
          all_goals
            go_wp2_with fail
            go_ret
            exact ⟨rfl, HB.out.drew⟩
    · have hke : keyedE s obj key = 10 := by rw [HE.out]; exact kindE_kind hk5
      rw [hke]
      have hk2 : (k != 5) = true := by simpa using hk5
      clear HE
      go_enter Tryz.func25, Tryz.ntmps25
      go_wp2_with fail
      rw [← hW0]
      clear hW0
      go_region_held3 (fun w' => w'.cell? ⟨sb, 0, none⟩ = some (.map (some kb)) ∧ w'.cell? ⟨w.heap.size, 0, none⟩ = some (.int .i64 obj.1) ∧ w'.cell? ⟨w.heap.size, 1, none⟩ = some (.int .i64 obj.2) ∧ (Instr.lookup 100 (.map (some kb)) (.agg #[.int .i64 obj.1, .int .i64 obj.2]) true).run Tryz.prog w' = .ok (.tuple #[.int .i64 ((some k).getD 0), .bool (some k).isSome]) w')
        (first | (with_reducible exact HKS.out _ (Below.refl _ W0).drew) | go_keep) (first | fail)
      all_goals
        go_wp2_with fail
        go_ret
        exact ⟨rfl, HB.out.drew⟩

/-- What plain answers. -/
def plainE (v : JV) : Int := if v.ok && !objB v.k then 0 else 1
set_option maxRecDepth 100000 in
set_option maxHeartbeats 1000000 in
theorem docPlain_any (v : JV) (w : World) : Calls Tryz.prog 16 #[.agg #[.int .i64 v.k, .int .i64 v.n, .string v.s, .int .i64 v.o, .int .i64 v.p]] w fun e w' => e = .returned (errC (plainE v)) ∧ Below w.heap.size w w' := by
  obtain ⟨W0, hW0⟩ : ∃ W0, W0 = w.alloc (.cells #[.int .i64 v.k, .int .i64 v.n, .string v.s, .int .i64 v.o, .int .i64 v.p] 31) := ⟨_, rfl⟩
  have hb0 : Below w.heap.size w W0 := by rw [hW0]; exact (Below.refl _ _).alloc (Nat.le_refl _) _
  have hN : Blk W0 w.heap.size 31 #[.int .i64 v.k, .int .i64 v.n, .string v.s, .int .i64 v.o, .int .i64 v.p] := by rw [hW0]; exact Blk.new _ _ _
  have HB := Lib.hid (And.intro hb0 hN)
  have q0 : W0.cell? ⟨w.heap.size, 0, none⟩ = some (.int .i64 v.k) := hN.cell 0
  have q1 : W0.cell? ⟨w.heap.size, 1, none⟩ = some (.int .i64 v.n) := hN.cell 1
  have q2 : W0.cell? ⟨w.heap.size, 2, none⟩ = some (.string v.s) := hN.cell 2
  have q3 : W0.cell? ⟨w.heap.size, 3, none⟩ = some (.int .i64 v.o) := hN.cell 3
  have q4 : W0.cell? ⟨w.heap.size, 4, none⟩ = some (.int .i64 v.p) := hN.cell 4
  have hvc : ∀ W, Calls Tryz.prog 32 #[.agg #[.int .i64 v.k, .int .i64 v.n, .string v.s, .int .i64 v.o, .int .i64 v.p]] W fun e w' => e = .returned (errIf v.ok) ∧ Below W.heap.size W w' := fun W => valueCheck_any v W
  have HVC := Lib.hid hvc
  clear hb0 hN hvc
  obtain ⟨z1, h1⟩ : ∃ z, v.ok = z := ⟨_, rfl⟩
  obtain ⟨z2, h2⟩ : ∃ z, objB v.k = z := ⟨_, rfl⟩
  have HP := Lib.hid (show plainE v = if z1 && !z2 then 0 else 1 from by unfold plainE; rw [h1, h2])
  have H1 := Lib.hid h1
  have H2 := Lib.hid h2
  rw [HP.out]
  clear h1 h2 HP
  cases z1 with
  | false =>
    go_enter Tryz.func16, Tryz.ntmps16
    go_upto_region 1 with (fail)
    rw [← hW0]
    clear hW0
    go_wp2_with (first
      | (go_at_call 32; (with_reducible refine (HVC.out _).mono ?_); rintro e w1 ⟨rfl, hb1⟩; rw [H1.out, errIf_false]))
    go_ret
    exact ⟨rfl, HB.out.1.trans (hb1.mono HB.out.1.size)⟩
  | true =>
    cases z2 with
    | false =>
      go_enter Tryz.func16, Tryz.ntmps16
      go_upto_region 1 with (fail)
      rw [← hW0]
      clear hW0
      go_wp2_with (first
        | (go_at_call 32; (with_reducible refine (HVC.out _).mono ?_); (rintro e w1 ⟨rfl, hb1⟩); rw [H1.out, errIf_true]; (have hN1 := HB.out.2.below hb1 HB.out.2.lt); (have r0 := hN1.cell 0); (have r1 := hN1.cell 1); (have r2 := hN1.cell 2); (have r3 := hN1.cell 3); (have r4 := hN1.cell 4); simp at r0 r1 r2 r3 r4)
        | (go_at_call 33; (with_reducible refine (object_any v _).mono ?_); rintro e w2 ⟨rfl, hb2⟩; rw [H2.out]))
      go_ret
      exact ⟨rfl, (HB.out.1.trans (hb1.mono HB.out.1.size)).trans (hb2.mono (Nat.le_trans HB.out.1.size hb1.size))⟩
    | true =>
      go_enter Tryz.func16, Tryz.ntmps16
      go_upto_region 1 with (fail)
      rw [← hW0]
      clear hW0
      go_wp2_with (first
        | (go_at_call 32; (with_reducible refine (HVC.out _).mono ?_); (rintro e w1 ⟨rfl, hb1⟩); rw [H1.out, errIf_true]; (have hN1 := HB.out.2.below hb1 HB.out.2.lt); (have r0 := hN1.cell 0); (have r1 := hN1.cell 1); (have r2 := hN1.cell 2); (have r3 := hN1.cell 3); (have r4 := hN1.cell 4); simp at r0 r1 r2 r3 r4)
        | (go_at_call 33; (with_reducible refine (object_any v _).mono ?_); rintro e w2 ⟨rfl, hb2⟩; rw [H2.out]))
      go_ret
      exact ⟨rfl, (HB.out.1.trans (hb1.mono HB.out.1.size)).trans (hb2.mono (Nat.le_trans HB.out.1.size hb1.size))⟩

/-- What object answers. -/
def objectE (k : Int) : Int := if objB k then 0 else 1
theorem docObject_any (k : Int) (w : World) : Calls Tryz.prog 28 #[.int .i64 k] w fun e w' => e = .returned (errC (objectE k)) ∧ Below w.heap.size w w' := by
  by_cases h5 : k = 5
  · subst h5
    go_enter Tryz.func28, Tryz.ntmps28
    go_wp2_with fail
    go_ret
    exact ⟨rfl, Below.refl _ _⟩
  · by_cases h6 : k = 6
    · subst h6
      go_enter Tryz.func28, Tryz.ntmps28
      go_wp2_with fail
      go_ret
      exact ⟨rfl, Below.refl _ _⟩
    · have e : objectE k = 1 := by unfold objectE objB; simp [h5, h6]
      rw [e]
      have h5' : (k != 5) = true := by simpa using h5
      have h6' : (k != 6) = true := by simpa using h6
      go_enter Tryz.func28, Tryz.ntmps28
      go_wp2_with fail
      go_ret
      exact ⟨rfl, Below.refl _ _⟩
end Go.Proofs.YthimkpkoimfkiaaGreat
namespace Go.Proofs.YthimkpkoimfkiaaGreat
open Go.RowKit Go.Sort Go.Proofs
set_option linter.unusedVariables false
set_option linter.unusedSimpArgs false

set_option maxRecDepth 100000 in
set_option maxHeartbeats 800000 in
theorem compareId_grow (a b : Int × Int) (w : World) :
    Calls Tryz.prog 53 #[.agg #[.int .i64 a.1, .int .i64 a.2], .agg #[.int .i64 b.1, .int .i64 b.2]] w fun e w' => e = .returned (.int .i64 (cmpId a b)) ∧ ∃ q os', w' = grow (w.drewN q) os' := by
  obtain ⟨a1, a2⟩ := a
  obtain ⟨b1, b2⟩ := b
  simp only
  have hgr : ∃ q os', ((((w.alloc (.cells #[.int .i64 a1, .int .i64 a2] 24)).alloc (.cells #[.int .i64 b1, .int .i64 b2] 24)).alloc (.cells #[.int .i64 (cmpI a1 b1), .int .i64 (cmpI a2 b2)] 3)).drew) = grow (w.drewN q) os' :=
    ⟨1, _, by rw [alloc_eq_grow, alloc_eq_grow, alloc_eq_grow, grow_grow, grow_grow]; rfl⟩
  have hsl : SlAt ((((w.alloc (.cells #[.int .i64 a1, .int .i64 a2] 24)).alloc (.cells #[.int .i64 b1, .int .i64 b2] 24)).alloc (.cells #[.int .i64 (cmpI a1 b1), .int .i64 (cmpI a2 b2)] 3)).drew) (some ⟨w.heap.size + 1 + 1, 0, none⟩) (ints [cmpI a1 b1, cmpI a2 b2]) :=
    .inr ⟨_, 0, rfl, fun j u hu => by
      have hB : Blk ((((w.alloc (.cells #[.int .i64 a1, .int .i64 a2] 24)).alloc (.cells #[.int .i64 b1, .int .i64 b2] 24)).alloc (.cells #[.int .i64 (cmpI a1 b1), .int .i64 (cmpI a2 b2)] 3)).drew) (w.heap.size + 1 + 1) 3 #[.int .i64 (cmpI a1 b1), .int .i64 (cmpI a2 b2)] := Blk.newer ((w.alloc (.cells #[.int .i64 a1, .int .i64 a2] 24)).alloc (.cells #[.int .i64 b1, .int .i64 b2] 24)) _ _ (by simp)
      rw [Nat.zero_add, hB.cell]
      simpa [ints] using hu⟩
  have hor : Calls Tryz.prog 72 #[.slice (some ⟨w.heap.size + 1 + 1, 0, none⟩) 2 2] _ _ := or_any (some ⟨w.heap.size + 1 + 1, 0, none⟩) 2 [cmpI a1 b1, cmpI a2 b2] _ hsl (by simp)
  have HOR := Lib.hid hor
  have HB := Lib.hid hgr
  have HD := Lib.hid (show cmpId (a1, a2) (b1, b2) = firstNZ [cmpI a1 b1, cmpI a2 b2] from rfl)
  clear hgr hsl hor
  go_enter Tryz.func53, Tryz.ntmps53
  go_wp2_with fail
  go_region_held3 (fun w' => w'.cell? ⟨w.heap.size, 0, none⟩ = some (.int .i64 a1) ∧ w'.cell? ⟨w.heap.size, 1, none⟩ = some (.int .i64 a2) ∧ w'.cell? ⟨w.heap.size + 1, 0, none⟩ = some (.int .i64 b1) ∧ w'.cell? ⟨w.heap.size + 1, 1, none⟩ = some (.int .i64 b2)) (go_keep) (first
    | (go_simp; go_at_call 73; (with_reducible refine (compare_int _ _ _).mono ?_); rintro e w' ⟨rfl, rfl⟩)
    | (go_simp; go_at_call 72; (with_reducible refine HOR.out.mono ?_); rintro e w' ⟨rfl, rfl⟩))
  all_goals
    go_wp2_with fail
    go_ret
    exact ⟨by rw [HD.out]; rfl, HB.out⟩

set_option maxRecDepth 100000 in
set_option maxHeartbeats 800000 in
theorem at1_grow (a b : Int × Int) (w : World) :
    Calls Tryz.prog 69 #[.agg #[.int .i64 a.1, .int .i64 a.2], .agg #[.int .i64 b.1, .int .i64 b.2]] w fun e w' => e = .returned (.int .i64 (cmpDown a b)) ∧ ∃ q os', w' = grow (w.drewN q) os' := by
  have HC := Lib.hid (compareId_grow b a)
  have HD := Lib.hid (show cmpDown a b = cmpId b a from rfl)
  have hgr : ∀ q os', ∃ q2 os2, (grow ((((w.alloc (.cells #[.int .i64 a.1, .int .i64 a.2] 24)).alloc (.cells #[.int .i64 b.1, .int .i64 b.2] 24))).drewN q) os') = grow (w.drewN q2) os2 := fun q os' =>
    ⟨q, _, by rw [alloc_eq_grow, alloc_eq_grow, grow_grow]; exact grow_grow (w.drewN q) _ os'⟩
  have HG := Lib.hid hgr
  clear hgr
  go_enter Tryz.func69, Tryz.ntmps69
  go_wp2_with (go_at_call 53; (with_reducible refine (HC.out _).mono ?_); rintro e w1 ⟨rfl, q, os, rfl⟩)
  go_ret
  exact ⟨by rw [HD.out]; rfl, HG.out q os⟩
theorem enters_at1 : ∀ args w, (callFunc 69 args).run Tryz.prog w = .ok (.enter 69 args) w := enters_of Tryz.func69 (by kernel_rfl) rfl
theorem enters_cmp : ∀ args w, (callFunc 53 args).run Tryz.prog w = .ok (.enter 53 args) w := enters_of Tryz.func53 (by kernel_rfl) rfl
end Go.Proofs.YthimkpkoimfkiaaGreat
