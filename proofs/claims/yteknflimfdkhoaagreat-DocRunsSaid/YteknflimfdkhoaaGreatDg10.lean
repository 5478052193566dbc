/- slices.Equal at refs, at ids: contracts; comparisons of pairs and values. change.ids, change.Ref, value.Object: contracts. -/
import Derived.Test.YteknflimfdkhoaaGreatDg4
import Derived.Deep.QuietTactic
import Derived.BigQuiet
import Derived.WalkSmall
import Derived.Outline
import Derived.Test.YteknflimfdkhoaaGreatDg7
import Derived.Deep.RegionHeld3
import Derived.Deep.DeepCutAuto
namespace Go.Proofs.YteknflimfdkhoaaGreat
open Go.RowKit
set_option linter.unusedVariables false
set_option linter.unusedSimpArgs false

def pairSame (a b : Int × Int) : Bool := a.1 == b.1 && a.2 == b.2
theorem pairSame_iff (a b : Int × Int) : pairSame a b = true ↔ a = b := by
  obtain ⟨x, y⟩ := a
  obtain ⟨z, u⟩ := b
  simp [pairSame]
theorem run_eql_ref (a b : Int × Int) (w : World) : (binOp .eql 33 (.agg #[.int .i64 a.1, .int .i64 a.2]) (.agg #[.int .i64 b.1, .int .i64 b.2])).run Tryz.prog w = .ok (.bool (pairSame a b)) w := by
  go_simp
  unfold pairSame
  by_cases h1 : a.1 = b.1 <;> by_cases h2 : a.2 = b.2 <;> simp [h1, h2]
theorem run_eql_id (a b : Int × Int) (w : World) : (binOp .eql 24 (.agg #[.int .i64 a.1, .int .i64 a.2]) (.agg #[.int .i64 b.1, .int .i64 b.2])).run Tryz.prog w = .ok (.bool (pairSame a b)) w := by
  go_simp
  unfold pairSame
  by_cases h1 : a.1 = b.1 <;> by_cases h2 : a.2 = b.2 <;> simp [h1, h2]
theorem run_neq_ref (a b : Int × Int) (w : World) : (binOp .neq 33 (.agg #[.int .i64 a.1, .int .i64 a.2]) (.agg #[.int .i64 b.1, .int .i64 b.2])).run Tryz.prog w = .ok (.bool (!pairSame a b)) w := by
  go_simp
  unfold pairSame
  by_cases h1 : a.1 = b.1 <;> by_cases h2 : a.2 = b.2 <;> simp [h1, h2]
theorem run_neq_id (a b : Int × Int) (w : World) : (binOp .neq 24 (.agg #[.int .i64 a.1, .int .i64 a.2]) (.agg #[.int .i64 b.1, .int .i64 b.2])).run Tryz.prog w = .ok (.bool (!pairSame a b)) w := by
  go_simp
  unfold pairSame
  by_cases h1 : a.1 = b.1 <;> by_cases h2 : a.2 = b.2 <;> simp [h1, h2]
def jvSame (a b : JV) : Bool := a.k == b.k && a.n == b.n && decide (a.s = b.s) && a.o == b.o && a.p == b.p
theorem jvSame_iff (a b : JV) : jvSame a b = true ↔ a = b := by
  obtain ⟨k, n, s, o, p⟩ := a
  obtain ⟨k', n', s', o', p'⟩ := b
  simp [jvSame, and_assoc]
theorem run_eql_jv (v x : JV) (w : World) : (binOp .eql 31 (.agg #[.int .i64 v.k, .int .i64 v.n, .string v.s, .int .i64 v.o, .int .i64 v.p]) (.agg #[.int .i64 x.k, .int .i64 x.n, .string x.s, .int .i64 x.o, .int .i64 x.p])).run Tryz.prog w = .ok (.bool (jvSame v x)) w := by
  have hs : (v.s.toList = x.s.toList) ↔ v.s = x.s := ⟨fun h => Go.WideShapes.bytes_inj (by simpa [ByteArray.toList_eq] using h), fun h => by rw [h]⟩
  go_simp
  unfold jvSame
  by_cases h1 : v.k = x.k <;> by_cases h2 : v.n = x.n <;> by_cases h3 : v.s = x.s <;> by_cases h4 : v.o = x.o <;> by_cases h5 : v.p = x.p <;> simp [hs, h1, h2, h3, h4, h5]

theorem pair_take_ne {α : Type} {a b : List α} {k : Nat} {x y : α} (hx : a[k]? = some x) (hy : b[k]? = some y) (h : x ≠ y) : a ≠ b := by
  intro e
  rw [e, hy] at hx
  injection hx with hx
  exact h hx.symm
theorem pair_take_eq {α : Type} {a b : List α} {k : Nat} {x : α} (hx : a[k]? = some x) (hy : b[k]? = some x) (h : a.take k = b.take k) : a.take (k + 1) = b.take (k + 1) := by
  have h1 := (List.getElem?_eq_some_iff.1 hx)
  have h2 := (List.getElem?_eq_some_iff.1 hy)
  rw [List.take_succ_eq_append_getElem h1.1, List.take_succ_eq_append_getElem h2.1, h, h1.2, h2.2]

set_option maxRecDepth 100000 in
set_option maxHeartbeats 1000000 in
theorem equalRef_any (A B : Option Addr) (c d : Nat) (a b : List (Int × Int)) (w : World) (hA : SlAt w A (refs a)) (hB : SlAt w B (refs b)) (ha : a.length ≤ maxLen) (hb : b.length ≤ maxLen) :
    Calls Tryz.prog 71 #[.slice A a.length c, .slice B b.length d] w fun e w' => e = .returned (.bool (decide (a = b))) ∧ Below w.heap.size w w' := by
  unfold maxLen at ha hb
  by_cases hl : a.length = b.length
  · obtain ⟨n, hn⟩ : ∃ n, b.length = n := ⟨_, rfl⟩
    rw [hl, hn]
    rw [hl, hn] at ha
    have hni : n ≤ 9223372036854775807 := by omega
    have HL := Lib.hid (And.intro hl hn)
    clear hl hn hb ha
    go_enter Tryz.func71, Tryz.ntmps71
    go_wp2_with fail
    go_loopw [13, 5] (fun i _ wr => ∃ k : Nat, k ≤ n ∧ i = .int .i64 k ∧ a.take k = b.take k ∧ Below w.heap.size w wr) (fun i _ _ => n - (intOf i).toNat)
    case atStart => exact ⟨0, by omega, rfl, rfl, Below.refl _ _⟩
    case round =>
      obtain ⟨k, hk, rfl, ht, hbr⟩ := hrel
      have HT := Lib.hid ht; clear ht
      by_cases hlt : k < n
      · obtain ⟨b1, o1, x, rfl, hx, hcx, hcx2⟩ := (hA.below hbr).ref (k := k) (by rw [HL.out.1, HL.out.2]; exact hlt)
        obtain ⟨b2, o2, y, rfl, hy, hcy, hcy2⟩ := (hB.below hbr).ref (k := k) (by rw [HL.out.2]; exact hlt)
        have hlt2 : (k : Int) < (n : Int) := by omega
        have HX := Lib.hid hx; have HY := Lib.hid hy; clear hx hy
        have hq := fun w => run_neq_ref x y w
        cases hxy : pairSame x y with
        | true =>
          rw [hxy] at hq
          have HE := Lib.hid ((pairSame_iff x y).1 hxy)
          clear hxy
          go_wp2_with fail
          go_quiet (fail)
          go_wp2_with fail
          go_roundw
          case rel => exact ⟨k + 1, by omega, by go_num, pair_take_eq HX.out (by rw [HE.out]; exact HY.out) HT.out, below_drewN hbr _⟩
          case measure => simp [intOf]; omega
        | false =>
          rw [hxy] at hq
          have HE := Lib.hid (show x ≠ y from fun e => by rw [(pairSame_iff x y).2 e] at hxy; cases hxy)
          clear hxy
          go_wp2_with fail
          go_quiet (fail)
          go_wp2_with fail
          go_ret
          exact ⟨by rw [decide_eq_false (pair_take_ne HX.out HY.out HE.out)]; rfl, below_drewN hbr _⟩
      · go_wp2_with fail
        go_ret
        have hkn : k = n := by omega
        have he : a = b := by
          have := HT.out
          rwa [List.take_of_length_le (by rw [HL.out.1, HL.out.2]; omega), List.take_of_length_le (by rw [HL.out.2]; omega)] at this
        exact ⟨by rw [decide_eq_true he]; rfl, hbr⟩
  · have hne : ((a.length : Int) != (b.length : Int)) = true := by simp; omega
    have HN := Lib.hid hl
    clear hl
    go_enter Tryz.func71, Tryz.ntmps71
    go_wp2_with fail
    go_ret
    exact ⟨by rw [decide_eq_false (fun e => HN.out (by rw [e]))]; rfl, Below.refl _ _⟩

set_option maxRecDepth 100000 in
set_option maxHeartbeats 1000000 in
theorem equalId_any (A B : Option Addr) (c d : Nat) (a b : List (Int × Int)) (w : World) (hA : SlAt w A (refs a)) (hB : SlAt w B (refs b)) (ha : a.length ≤ maxLen) (hb : b.length ≤ maxLen) :
    Calls Tryz.prog 74 #[.slice A a.length c, .slice B b.length d] w fun e w' => e = .returned (.bool (decide (a = b))) ∧ Below w.heap.size w w' := by
  unfold maxLen at ha hb
  by_cases hl : a.length = b.length
  · obtain ⟨n, hn⟩ : ∃ n, b.length = n := ⟨_, rfl⟩
    rw [hl, hn]
    rw [hl, hn] at ha
    have hni : n ≤ 9223372036854775807 := by omega
    have HL := Lib.hid (And.intro hl hn)
    clear hl hn hb ha
    go_enter Tryz.func74, Tryz.ntmps74
    go_wp2_with fail
    go_loopw [13, 5] (fun i _ wr => ∃ k : Nat, k ≤ n ∧ i = .int .i64 k ∧ a.take k = b.take k ∧ Below w.heap.size w wr) (fun i _ _ => n - (intOf i).toNat)
    case atStart => exact ⟨0, by omega, rfl, rfl, Below.refl _ _⟩
    case round =>
      obtain ⟨k, hk, rfl, ht, hbr⟩ := hrel
      have HT := Lib.hid ht; clear ht
      by_cases hlt : k < n
      · obtain ⟨b1, o1, x, rfl, hx, hcx, hcx2⟩ := (hA.below hbr).ref (k := k) (by rw [HL.out.1, HL.out.2]; exact hlt)
        obtain ⟨b2, o2, y, rfl, hy, hcy, hcy2⟩ := (hB.below hbr).ref (k := k) (by rw [HL.out.2]; exact hlt)
        have hlt2 : (k : Int) < (n : Int) := by omega
        have HX := Lib.hid hx; have HY := Lib.hid hy; clear hx hy
        have hq := fun w => run_neq_id x y w
        cases hxy : pairSame x y with
        | true =>
          rw [hxy] at hq
          have HE := Lib.hid ((pairSame_iff x y).1 hxy)
          clear hxy
          go_wp2_with fail
          go_quiet (fail)
          go_wp2_with fail
          go_roundw
          case rel => exact ⟨k + 1, by omega, by go_num, pair_take_eq HX.out (by rw [HE.out]; exact HY.out) HT.out, below_drewN hbr _⟩
          case measure => simp [intOf]; omega
        | false =>
          rw [hxy] at hq
          have HE := Lib.hid (show x ≠ y from fun e => by rw [(pairSame_iff x y).2 e] at hxy; cases hxy)
          clear hxy
          go_wp2_with fail
          go_quiet (fail)
          go_wp2_with fail
          go_ret
          exact ⟨by rw [decide_eq_false (pair_take_ne HX.out HY.out HE.out)]; rfl, below_drewN hbr _⟩
      · go_wp2_with fail
        go_ret
        have hkn : k = n := by omega
        have he : a = b := by
          have := HT.out
          rwa [List.take_of_length_le (by rw [HL.out.1, HL.out.2]; omega), List.take_of_length_le (by rw [HL.out.2]; omega)] at this
        exact ⟨by rw [decide_eq_true he]; rfl, hbr⟩
  · have hne : ((a.length : Int) != (b.length : Int)) = true := by simp; omega
    have HN := Lib.hid hl
    clear hl
    go_enter Tryz.func74, Tryz.ntmps74
    go_wp2_with fail
    go_ret
    exact ⟨by rw [decide_eq_false (fun e => HN.out (by rw [e]))]; rfl, Below.refl _ _⟩
end Go.Proofs.YteknflimfdkhoaaGreat
namespace Go.Proofs.YteknflimfdkhoaaGreat
open Go.RowKit
set_option linter.unusedVariables false
set_option linter.unusedSimpArgs false

theorem lessB_id (a b : Int × Int) : lessB a b = lessId a b := by
  unfold lessB lessId
  have h := cmpId_neg a b
  by_cases h1 : cmpId a b < 0
  · rw [decide_eq_true h1]
    rcases h.1 h1 with h2 | ⟨h2, h3⟩
    · simp [h2]
    · simp [h2, h3]
  · rw [decide_eq_false h1]
    have h2 : ¬ (a.1 < b.1 ∨ (a.1 = b.1 ∧ a.2 < b.2)) := fun e => h1 (h.2 e)
    by_cases h3 : a.1 < b.1
    · exact absurd (.inl h3) h2
    · by_cases h4 : a.1 = b.1
      · have h5 : ¬ a.2 < b.2 := fun e => h2 (.inr ⟨h4, e⟩)
        simp [h4, h5]
      · simp [h3, h4]

set_option maxRecDepth 100000 in
set_option maxHeartbeats 1000000 in
theorem ids_any (A : Option Addr) (c : Nat) (l : List (Int × Int)) (w : World) (hA : SlAt w A (refs l)) (hl : l.length ≤ maxLen) :
    Calls Tryz.prog 88 #[.slice A l.length c] w fun e w' => e = .returned (errC (idsE l)) ∧ Below w.heap.size w w' := by
  have hl' : l.length ≤ 9223372036854775807 := by unfold maxLen at hl; omega
  clear hl
  by_cases h12 : 12 < l.length
  · have d : decide (12 < (l.length : Int)) = true := decide_eq_true (by omega)
    have HE := Lib.hid (show idsE l = 4 from if_pos h12)
    go_enter Tryz.func88, Tryz.ntmps88
    go_wp2_with fail
    go_ret
    exact ⟨by rw [HE.out]; rfl, Below.refl _ _⟩
  · have d : decide (12 < (l.length : Int)) = false := decide_eq_false (by omega)
    have HE := Lib.hid (show idsE l = firstF (idsF l) from if_neg h12)
    have HA := Lib.hid hA
    clear hA
    go_enter Tryz.func88, Tryz.ntmps88
    go_wp2_with fail
    go_loopw [11, 3, 4] (fun iv _ _ wr => ∃ k : Nat, k ≤ l.length ∧ iv = .int .i64 k ∧ firstF ((idsF l).drop k) = idsE l ∧ Below w.heap.size w wr) (fun iv _ _ _ => l.length - (intOf iv).toNat)
    case atStart => exact ⟨0, Nat.zero_le _, rfl, by rw [HE.out]; rfl, Below.refl _ _⟩
    case round =>
      obtain ⟨k, hk, rfl, hf, hb⟩ := hrel
      by_cases hlt : k < l.length
      · obtain ⟨b, off, r, rfl, hr, hx, hy⟩ := (HA.out.below hb).ref hlt
        have hF : (idsF l)[k]? = some (idF l k) := range_at _ _ _ hlt
        have H := Lib.hid (And.intro hr (And.intro hf (And.intro hF hb)))
        clear hr hf hF
        have hbs := hb.size
        clear hb
        by_cases hk0 : k = 0
        · have d0 : decide ((0 : Int) < (k : Int)) = false := decide_eq_false (by omega)
          have d0n : decide (0 < k) = false := by simp; omega
          have HN := Lib.hid (show idsE l = firstF ((idsF l).drop (k + 1)) from by
            rw [← H.out.2.1]
            exact firstF_zero H.out.2.2.1 (by unfold idF; rw [if_neg (by omega)]))
          clear hk0
          go_wp2_with fail
          go_quiet (fail)
          go_wp2
          go_roundw
          case rel => exact ⟨k + 1, by omega, by go_num, HN.out.symm, (H.out.2.2.2.alloc hbs _).trans (below_drewN (Below.refl _ _) _)⟩
          case measure => simp [intOf]; omega
        · obtain ⟨m, rfl⟩ : ∃ m, k = m + 1 := ⟨k - 1, by omega⟩
          obtain ⟨b', off', r', hA', hr', hx', hy'⟩ := ((HA.out.below H.out.2.2.2)).ref (k := m) (by omega)
          injection hA' with hA'
          injection hA' with hA1 hA2 _
          subst hA1 hA2
          have d0 : decide ((0 : Int) < ((m + 1 : Nat) : Int)) = true := decide_eq_true (by omega)
          have d1 : decide ((0 : Int) < (m : Int) + 1) = true := decide_eq_true (by omega)
          have d1n : decide (0 < m + 1) = true := by simp
          have hw : IntKind.i64.wrap (((m + 1 : Nat) : Int) - 1) = (m : Int) := by rw [IntWalk.i64_in _ ⟨by omega, by omega⟩]; omega
          have hw2 : IntKind.i64.wrap ((m : Int) + 1 - 1) = (m : Int) := by rw [IntWalk.i64_in _ ⟨by omega, by omega⟩]; omega
          have hw3 : IntKind.i64.wrap (m : Int) = (m : Int) := IntWalk.i64_in _ ⟨by omega, by omega⟩
          have hm0 : 0 ≤ (m : Int) := by omega
          have hm1 : (m : Int) < l.length := by omega
          have HG := Lib.hid (show l.getD (m + 1) (0, 0) = r ∧ l.getD (m + 1 - 1) (0, 0) = r' from ⟨getD_at H.out.1, getD_at hr'⟩)
          clear hr' hk0
          obtain ⟨p, hp⟩ : ∃ p, lessB r' r = p := ⟨_, rfl⟩
          have HL := Lib.hid (fun w => less_any r' r w)
          rw [hp] at HL
          unfold idV at HL
          rw [lessB_id] at hp
          have HP := Lib.hid hp
          clear hp
          go_upto_region 6 with (fail)
          go_cut [27] from 12 to 27 (fun s27 wx => s27 = .bool (!p) ∧ Below w.heap.size w wx)
          case first =>
            obtain ⟨W0, hW0⟩ : ∃ W0, W0 = wr.alloc (.cells #[.int .i64 r.1, .int .i64 r.2] 24) := ⟨_, rfl⟩
            have hS : ∀ W, Below W0.heap.size W0 W → W.cell? ⟨b, off + m * 2, none⟩ = some (.int .i64 r'.1) ∧ W.cell? ⟨b, off + m * 2 + 1, none⟩ = some (.int .i64 r'.2) ∧ W.cell? ⟨wr.heap.size, 0, none⟩ = some (.int .i64 r.1) ∧ W.cell? ⟨wr.heap.size, 1, none⟩ = some (.int .i64 r.2) := by
              intro W hW
              have hN : Blk W0 wr.heap.size 24 #[.int .i64 r.1, .int .i64 r.2] := by rw [hW0]; exact Blk.new _ _ _
              have hN2 := hN.below hW hN.lt
              have h1 : Below wr.heap.size wr W0 := by rw [hW0]; exact (Below.refl _ wr).alloc (Nat.le_refl _) _
              exact ⟨cell_below hW (cell_below h1 hx'), cell_below hW (cell_below h1 hy'), hN2.cell 0, hN2.cell 1⟩
            have HB2 := Lib.hid (show Below w.heap.size w W0 from by rw [hW0]; exact H.out.2.2.2.alloc hbs _)
            have HKS := Lib.hid hS
            have hS0 := hS W0 (Below.refl _ _)
            rw [← hW0]
            clear hW0 hS hx hy hx' hy'
            obtain ⟨pA, pB, pC, pD⟩ := hS0
            go_region_held3 (fun w' => w'.cell? ⟨b, off + m * 2, none⟩ = some (.int .i64 r'.1) ∧ w'.cell? ⟨b, off + m * 2 + 1, none⟩ = some (.int .i64 r'.2) ∧ w'.cell? ⟨wr.heap.size, 0, none⟩ = some (.int .i64 r.1) ∧ w'.cell? ⟨wr.heap.size, 1, none⟩ = some (.int .i64 r.2)) (first | (with_reducible exact HKS.out _ hbx) | go_keep) (first
              | (go_simp; go_at_call 118; (with_reducible refine (HL.out _).mono ?_); rintro e w2 ⟨rfl, hb2⟩; have hbx : Below W0.heap.size W0 w2 := (Below.refl _ W0).drew.trans hb2))
            all_goals
              go_wp2_with fail
              go_meet
              exact ⟨rfl, HB2.out.trans (hbx.mono HB2.out.size)⟩
          case rest =>
            obtain ⟨rfl, hbc⟩ := hcut
            have HC := Lib.hid hbc
            clear hbc
            cases p with
            | false =>
              have HN := Lib.hid (show idsE l = 5 from by
                rw [← H.out.2.1]
                have e : idF l (m + 1) = 5 := by unfold idF; rw [HG.out.1, HG.out.2, HP.out, if_pos ⟨by omega, rfl⟩]
                rw [firstF_hit H.out.2.2.1 (by rw [e]; decide), e])
              go_wp2_with fail
              go_ret
              exact ⟨by rw [HN.out]; rfl, HC.out⟩
            | true =>
              have HN := Lib.hid (show idsE l = firstF ((idsF l).drop (m + 1 + 1)) from by
                rw [← H.out.2.1]
                exact firstF_zero H.out.2.2.1 (by unfold idF; rw [HG.out.1, HG.out.2, HP.out, if_neg (fun h => by cases h.2)]))
              go_wp2_with fail
              go_roundw
              case rel => exact ⟨m + 1 + 1, by omega, by go_num, HN.out.symm, HC.out⟩
              case measure => simp [intOf]; omega
      · have e : k = l.length := by omega
        subst e
        have HF := Lib.hid (show idsE l = 0 from by rw [← hf, List.drop_eq_nil_of_le (by simp [idsF])]; rfl)
        clear hf
        go_wp2_with fail
        go_ret
        exact ⟨by rw [HF.out]; rfl, hb⟩
end Go.Proofs.YteknflimfdkhoaaGreat
