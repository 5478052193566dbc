/- package id: Ref, Refs, CompareRefs: contracts. -/
import Derived.Test.YtdenaejhfgmihaaDagPlain
import Derived.Test.YtdenaejhfgmihaaIdCmp
namespace Go.Proofs.Ytdenaejhfgmihaa
open Go.RowKit
set_option linter.unusedVariables false
set_option linter.unusedSimpArgs false

set_option maxRecDepth 100000 in
set_option maxHeartbeats 800000 in
theorem compareRefs_any (a b : Int × Int) (w : World) :
    Calls Try.prog 41 #[idV a, idV b] w fun e w' => e = .returned (.int .i64 (cmpId a b)) ∧ Below w.heap.size w w' := by
  obtain ⟨a1, a2⟩ := a
  obtain ⟨b1, b2⟩ := b
  unfold idV
  simp only
  have hbel : Below w.heap.size w ((((w.alloc (.cells #[.int .i64 a1, .int .i64 a2] 34)).alloc (.cells #[.int .i64 b1, .int .i64 b2] 34)).alloc (.cells #[.int .i64 (cmpI a1 b1), .int .i64 (cmpI a2 b2)] 3)).drew) := ((((Below.refl _ _).alloc (Nat.le_refl _) _).alloc (by simp) _).alloc (by simp; omega) _).drew
  have hsl : SlAt ((((w.alloc (.cells #[.int .i64 a1, .int .i64 a2] 34)).alloc (.cells #[.int .i64 b1, .int .i64 b2] 34)).alloc (.cells #[.int .i64 (cmpI a1 b1), .int .i64 (cmpI a2 b2)] 3)).drew) (some ⟨w.heap.size + 1 + 1, 0, none⟩) (ints [cmpI a1 b1, cmpI a2 b2]) :=
    .inr ⟨_, 0, rfl, fun j u hu => by
      have hB : Blk ((((w.alloc (.cells #[.int .i64 a1, .int .i64 a2] 34)).alloc (.cells #[.int .i64 b1, .int .i64 b2] 34)).alloc (.cells #[.int .i64 (cmpI a1 b1), .int .i64 (cmpI a2 b2)] 3)).drew) (w.heap.size + 1 + 1) 3 #[.int .i64 (cmpI a1 b1), .int .i64 (cmpI a2 b2)] := Blk.newer ((w.alloc (.cells #[.int .i64 a1, .int .i64 a2] 34)).alloc (.cells #[.int .i64 b1, .int .i64 b2] 34)) _ _ (by simp)
      rw [Nat.zero_add, hB.cell]
      simpa [ints] using hu⟩
  have hor : Calls Try.prog 53 #[.slice (some ⟨w.heap.size + 1 + 1, 0, none⟩) 2 2] _ _ := or_any (some ⟨w.heap.size + 1 + 1, 0, none⟩) 2 [cmpI a1 b1, cmpI a2 b2] _ hsl (by simp)
  have HOR := Lib.hid hor
  have HB := Lib.hid hbel
  have HD := Lib.hid (show cmpId (a1, a2) (b1, b2) = firstNZ [cmpI a1 b1, cmpI a2 b2] from rfl)
  clear hbel hsl hor
  go_enter Try.func41, Try.ntmps41
  go_wp2_with fail
  go_region_held3 (fun w' => w'.cell? ⟨w.heap.size, 0, none⟩ = some (.int .i64 a1) ∧ w'.cell? ⟨w.heap.size, 1, none⟩ = some (.int .i64 a2) ∧ w'.cell? ⟨w.heap.size + 1, 0, none⟩ = some (.int .i64 b1) ∧ w'.cell? ⟨w.heap.size + 1, 1, none⟩ = some (.int .i64 b2)) (go_keep) (first
    | (go_simp; go_at_call 54; (with_reducible refine (compare_int _ _ _).mono ?_); rintro e w' ⟨rfl, rfl⟩)
    | (go_simp; go_at_call 53; (with_reducible refine HOR.out.mono ?_); rintro e w' ⟨rfl, rfl⟩))
  all_goals
    go_wp2_with fail
    go_ret
    exact ⟨by rw [HD.out]; rfl, HB.out⟩


theorem idRef_any (a s : Int) (w : World) : Calls Try.prog 28 #[.agg #[.int .i64 a, .int .i64 s]] w fun e w' => e = .returned (.bool (refOk (a, s))) ∧ Below w.heap.size w w' := by
  obtain ⟨p, hp⟩ : ∃ p, p = (decide (1 ≤ a) && decide (a ≤ 99)) := ⟨_, rfl⟩
  have HP := Lib.hid hp
  have HA := Lib.hid (fun w => actor_any a w)
  rw [← hp] at HA
  clear hp
  cases p with
  | false =>
    go_enter Try.func28, Try.ntmps28
    go_wp2_with (go_at_call 43; refine (HA.out _).mono ?_; rintro e w' ⟨rfl, rfl⟩)
    go_ret
    exact ⟨by unfold refOk; rw [← HP.out]; rfl, (Below.refl _ _).alloc (Nat.le_refl _) _⟩
  | true =>
    go_enter Try.func28, Try.ntmps28
    go_wp2_with ((first | (go_at_call 43; refine (HA.out _).mono ?_; rintro e w' ⟨rfl, rfl⟩) | (go_at_call 44; refine (num_any _ _).mono ?_; rintro e w' ⟨rfl, rfl⟩)))
    go_ret
    exact ⟨by unfold refOk; rw [← HP.out]; rfl, (Below.refl _ _).alloc (Nat.le_refl _) _⟩

theorem getD_at {l : List (Int × Int)} {k : Nat} {r : Int × Int} (h : l[k]? = some r) : l.getD k (0, 0) = r := by simp [List.getD, h]

set_option maxRecDepth 100000 in
set_option maxHeartbeats 1000000 in
theorem refsId_any (A : Option Addr) (c : Nat) (l : List (Int × Int)) (w : World) (hA : SlAt w A (refs l)) (hl : l.length ≤ maxLen) :
    Calls Try.prog 29 #[.slice A l.length c] w fun e w' => e = .returned (errC (refsE l)) ∧ Below w.heap.size w w' := by
  have hl' : l.length ≤ 9223372036854775807 := by unfold maxLen at hl; omega
  have HA := Lib.hid hA
  clear hl hA
  go_enter Try.func29, Try.ntmps29
  go_wp2_with fail
  go_loopw [7, 3, 4] (fun iv _ _ wr => ∃ k : Nat, k ≤ l.length ∧ iv = .int .i64 k ∧ firstF ((refsF l).drop k) = refsE l ∧ Below w.heap.size w wr) (fun iv _ _ _ => l.length - (intOf iv).toNat)
  case atStart => exact ⟨0, Nat.zero_le _, rfl, rfl, Below.refl _ _⟩
  case round =>
    obtain ⟨k, hk, rfl, hf, hb⟩ := hrel
    by_cases hlt : k < l.length
    · obtain ⟨b, off, r, rfl, hr, hx, hy⟩ := (HA.out.below hb).ref hlt
      have hF : (refsF l)[k]? = some (refF l k) := range_at _ _ _ hlt
      have H := Lib.hid (And.intro hr (And.intro hf (And.intro hF hb)))
      clear hr hf hF
      obtain ⟨p, hp⟩ : ∃ p, refOk r = p := ⟨_, rfl⟩
      have HR := Lib.hid (fun w => idRef_any r.1 r.2 w)
      have e1 : refOk (r.1, r.2) = p := hp
      rw [e1] at HR
      have HP := Lib.hid hp
      clear hp e1
      have hbs := hb.size
      clear hb
      cases p with
      | false =>
        go_wp2_with (go_at_call 28; refine (HR.out _).mono ?_; rintro e w1 ⟨rfl, hb1⟩)
        go_ret
        have e2 : refF l k = 1 := by unfold refF; rw [getD_at H.out.1, HP.out]; rfl
        exact ⟨by rw [← H.out.2.1, firstF_hit H.out.2.2.1 (by rw [e2]; decide), e2]; rfl, (H.out.2.2.2.alloc hbs _).trans (hb1.mono (by simp; omega))⟩
      | true =>
        go_wp2_with (go_at_call 28; refine (HR.out _).mono ?_; rintro e w1 ⟨rfl, hb1⟩)
        have H1 := Lib.hid (show Below w.heap.size w w1 from (H.out.2.2.2.alloc hbs _).trans (hb1.mono (by simp; omega)))
        have q0 : w1.cell? ⟨wr.heap.size, 0, none⟩ = some (.int .i64 r.1) := (hb1.cell (p := ⟨wr.heap.size, 0, none⟩) (by simp)).trans (by simp)
        have p0 := cell_below (((Below.refl _ wr).alloc (Nat.le_refl _) _).trans (hb1.mono (by simp))) hx
        by_cases hk0 : k = 0
        · have d0 : decide ((0 : Int) < (k : Int)) = false := by simp; omega
          have d0n : decide (0 < k) = false := by simp; omega
          have HN := Lib.hid (show refsE l = firstF ((refsF l).drop (k + 1)) from by
            rw [← H.out.2.1]
            exact firstF_zero H.out.2.2.1 (by unfold refF; rw [getD_at H.out.1, HP.out, if_neg (by decide), if_neg (by omega)]))
          clear hk0 hb1
          go_quiet (fail)
          go_wp2
          go_roundw
          case rel => exact ⟨k + 1, by omega, by go_num, HN.out.symm, H1.out.trans (below_drewN (Below.refl _ _) _)⟩
          case measure => simp [intOf]; omega
        · obtain ⟨m, rfl⟩ : ∃ m, k = m + 1 := ⟨k - 1, by omega⟩
          obtain ⟨b', off', r', hA', hr', hx', hy'⟩ := ((HA.out.below H1.out)).ref (k := m) (by omega)
          injection hA' with hA'
          injection hA' with hA1 hA2 _
          subst hA1 hA2
          have d0 : decide ((0 : Int) < ((m + 1 : Nat) : Int)) = true := decide_eq_true (by omega)
          have d1 : decide ((0 : Int) < (m : Int) + 1) = true := decide_eq_true (by omega)
          have d1n : decide (0 < m + 1) = true := by simp
          have hw : IntKind.i64.wrap (((m + 1 : Nat) : Int) - 1) = (m : Int) := by rw [IntWalk.i64_in _ ⟨by omega, by omega⟩]; omega
          have hw2 : IntKind.i64.wrap ((m : Int) + 1 - 1) = (m : Int) := by rw [IntWalk.i64_in _ ⟨by omega, by omega⟩]; omega
          have hm0 : 0 ≤ (m : Int) := by omega
          have hm1 : (m : Int) < l.length := by omega
          have HG := Lib.hid (show l.getD (m + 1) (0, 0) = r ∧ l.getD (m + 1 - 1) (0, 0) = r' from ⟨getD_at H.out.1, getD_at hr'⟩)
          clear hr' hk0 hb1
          by_cases hle : r.1 ≤ r'.1
          · have d2 : decide (r.1 ≤ r'.1) = true := decide_eq_true hle
            have HN := Lib.hid (show refsE l = 5 from by
              rw [← H.out.2.1]
              have e : refF l (m + 1) = 5 := by unfold refF; rw [HG.out.1, HG.out.2, HP.out, if_neg (by decide), if_pos ⟨by omega, hle⟩]
              rw [firstF_hit H.out.2.2.1 (by rw [e]; decide), e])
            go_quiet (fail)
            go_wp2
            go_ret
            exact ⟨by rw [HN.out]; rfl, H1.out.trans (below_drewN (Below.refl _ _) _)⟩
          · have d2 : decide (r.1 ≤ r'.1) = false := decide_eq_false hle
            have HN := Lib.hid (show refsE l = firstF ((refsF l).drop (m + 1 + 1)) from by
              rw [← H.out.2.1]
              exact firstF_zero H.out.2.2.1 (by unfold refF; rw [HG.out.1, HG.out.2, HP.out, if_neg (by decide), if_neg (fun h => hle h.2)]))
            go_quiet (fail)
            go_wp2
            go_roundw
            case rel => exact ⟨m + 1 + 1, by omega, by go_num, HN.out.symm, H1.out.trans (below_drewN (Below.refl _ _) _)⟩
            case measure => simp [intOf]; omega
    · have e : k = l.length := by omega
      subst e
      have HF := Lib.hid (show refsE l = 0 from by rw [← hf, List.drop_eq_nil_of_le (by simp [refsF])]; rfl)
      clear hf
      go_wp2_with fail
      go_ret
      exact ⟨by rw [HF.out]; rfl, hb⟩
end Go.Proofs.Ytdenaejhfgmihaa
