/- NumAdd, NumMul. -/
import Derived.Test.YtpeckpiidgkgoaaGreatDoorPg23
import Derived.BigRegion
/- commonbookbig.add: the contract. -/
namespace Go.Proofs.YtpeckpiidgkgoaaGreatDoor
open Go.RowKit
set_option linter.unusedVariables false
set_option linter.unusedSimpArgs false

theorem made_zero (n : Nat) : (madeCells #[Value.int .u32 0] n).toList = u32s (List.replicate n 0) := by
  rw [toList_madeCells_one]
  simp [u32s]
theorem u32s_set (l : List Nat) (k x : Nat) : (u32s l).set k (.int .u32 x) = u32s (l.set k x) := by simp [u32s, List.map_set]
theorem NW.len {w : World} {A : Option Addr} {n c x k : Nat} (h : NW w (.slice A n c) x) (hx : x < 4294967296 ^ k) : n ≤ k := by
  obtain ⟨A', c', l, e, h1, h2, h3, h4, h5⟩ := h
  injection e with e1 e2 e3
  rw [e2]
  exact trimW_le h3 (by rw [h4]; exact hx)

set_option maxRecDepth 100000 in
set_option maxHeartbeats 2000000 in
theorem add_gen (K : Nat) (hK : K ≤ 8000) (v1 v2 : Value) (x y : Nat) (w : World) (h1 : NW w v1 x) (h2 : NW w v2 y) (hx : x < 4294967296 ^ K) (hy : y < 4294967296 ^ K) :
    Calls Tryz.prog 31 #[v1, v2] w fun e w' => ∃ v', e = .returned v' ∧ NW w' v' (x + y) ∧ Below w.heap.size w w' := by
  obtain ⟨A1, c1, l1, rfl, a1, a2, a3, a4, a5, a6⟩ := h1
  obtain ⟨A2, c2, l2, rfl, b1, b2, b3, b4, b5, b6⟩ := h2
  obtain ⟨i0, hi, hz0, hz1, hz2⟩ := info_parts infoW
  have hn1 : l1.length ≤ 8000 := Nat.le_trans (trimW_le a3 (by rw [a4]; exact hx)) hK
  have hn2 : l2.length ≤ 8000 := Nat.le_trans (trimW_le b3 (by rw [b4]; exact hy)) hK
  obtain ⟨n1, e1⟩ : ∃ n, n = l1.length := ⟨_, rfl⟩
  obtain ⟨n2, e2⟩ : ∃ n, n = l2.length := ⟨_, rfl⟩
  have H1 := Lib.hid (And.intro e1 (And.intro a1 (And.intro a2 a4)))
  have H2 := Lib.hid (And.intro e2 (And.intro b1 (And.intro b2 b4)))
  rw [← e1] at hn1 ⊢
  rw [← e2] at hn2 ⊢
  clear e1 e2 a1 a2 a3 a4 a5 a6 b1 b2 b3 b4 b5 b6 hx hy
  by_cases hlt : n1 < n2
  · have hlti : ((n1 : Nat) : Int) < (n2 : Int) := by omega
    go_enter Tryz.func31, Tryz.ntmps31
    go_wp2_with (at_make; refine wpList_make_full _ rfl _ _ 57 rfl w.heap.size 101 i0 _ 1 Tryz.underlying57 hi hz0 hz1 _ _ _ _ (n2 + 1) rfl rfl (by omega) (by omega) (by rw [hz2]; omega) (by simp only [maxLen]; omega) (Nat.le_refl _) ?_)
    intro w1 hown1 hg1
    have hb1 : Below w.heap.size w w1 := (Below.refl _ _).grown hg1 (Nat.le_refl _) (by simp)
    rw [made_zero] at hown1
    refine wpList_at (fun w1 => w1.ownsRow w.heap.size 101 1 (.slice (some ⟨w.heap.size, 0, none⟩) (n2 + 1) (n2 + 1)) (n2 + 1) (u32s (List.replicate (n2 + 1) 0)) ∧ Below w.heap.size w w1) ⟨hown1, hb1⟩ ?_
    clear hown1 hb1 hg1
    intro w1 HW1
    replace HW1 := Lib.hid HW1
    go_wp2_with fail
    go_loopw [6, 7] (fun cv iv wr => ∃ (i c : Nat) (ws : List Nat), cv = .int .u64 c ∧ iv = .int .i64 i ∧ i ≤ n2 ∧ AddR l2 l1 i c ws ∧ wr.ownsRow w.heap.size 101 1 (.slice (some ⟨w.heap.size, 0, none⟩) (n2 + 1) (n2 + 1)) (n2 + 1) (u32s (ws ++ List.replicate (n2 + 1 - i) 0)) ∧ Below w.heap.size w wr) (fun _ iv _ => n2 - (intOf iv).toNat)
    case atStart => exact ⟨0, 0, [], rfl, rfl, by omega, AddR.start _ _, HW1.out.1, HW1.out.2⟩
    case round =>
      clear HW1
      obtain ⟨i, c, ws, rfl, rfl, hin, hR, hown, hb⟩ := hrel
      have hc1 := hR.cle
      have hcy : wr.cell? ⟨w.heap.size, i, none⟩ = some (.int .u32 0) := by
        rw [hown.cellAt i (by omega)]
        simp only [u32s, List.getElem?_map]
        rw [show n2 + 1 - i = (n2 - i) + 1 from by omega]
        have := row_at ws (n2 - i)
        rw [hR.len] at this
        rw [this]
        rfl
      have hfy := hown.frozenAt i
      by_cases hlt2 : i < n2
      · have hlt2i : ((i : Nat) : Int) < (n2 : Int) := by omega
        have hin1 : ((i : Nat) : Int) < ((n2 + 1 : Nat) : Int) := by omega
        obtain ⟨b, off, hA, hcell⟩ := (H2.out.2.1.below hb).word (k := i) (by rw [← H2.out.1]; exact hlt2)
        obtain ⟨p, hp⟩ : ∃ p, p = l2[i]'(by rw [← H2.out.1]; exact hlt2) := ⟨_, rfl⟩
        rw [← hp] at hcell
        have hpl : l2[i]? = some p := by rw [hp]; exact List.getElem?_eq_getElem _
        have hp2 : p < 4294967296 := H2.out.2.2.1 p (List.mem_of_getElem? hpl)
        subst hA
        by_cases hk : i < n1
        · have hki : ((i : Nat) : Int) < (n1 : Int) := by omega
          obtain ⟨b', off', hA', hcell'⟩ := (H1.out.2.1.below hb).word (k := i) (by rw [← H1.out.1]; exact hk)
          obtain ⟨q, hq⟩ : ∃ q, q = l1[i]'(by rw [← H1.out.1]; exact hk) := ⟨_, rfl⟩
          rw [← hq] at hcell'
          have hql : l1[i]? = some q := by rw [hq]; exact List.getElem?_eq_getElem _
          have hq2 : q < 4294967296 := H1.out.2.2.1 q (List.mem_of_getElem? hql)
          subst hA'
          have hst := hR.step hpl (y := q) (by rw [hql]; rfl) hp2 hq2 (s := c + p + q) rfl
          have HO := Lib.hid (And.intro hst (And.intro hown (And.intro hb hR.len)))
          clear hp hpl hq hql hst hown hb hR
          go_wp2_with fail
          have hs1 : ((c : Int) + (p : Int) + (q : Int)) % 4294967296 = (((c + p + q) % 4294967296 : Nat) : Int) := by omega
          have hs2 : ((c : Int) + (p : Int) + (q : Int)) / 4294967296 = (((c + p + q) / 4294967296 : Nat) : Int) := by omega
          rw [hs1, hs2]
          have hst := (HO.out.2.1.stored i (.int .u32 (((c + p + q) % 4294967296 : Nat) : Int))).1
          have hset : (ws ++ List.replicate (n2 + 1 - i) 0).set i ((c + p + q) % 4294967296) = (ws ++ [(c + p + q) % 4294967296]) ++ List.replicate (n2 + 1 - (i + 1)) 0 := by
            have := row_set ws (n2 - i) ((c + p + q) % 4294967296)
            rw [HO.out.2.2.2] at this
            rw [show n2 + 1 - i = (n2 - i) + 1 from by omega, this]
            congr 2; omega
          rw [u32s_set, hset] at hst
          have hbq := HO.out.2.2.1.setCell (p := ⟨w.heap.size, i, none⟩) (Nat.le_refl _) (.int .u32 (((c + p + q) % 4294967296 : Nat) : Int))
          go_roundw
          case rel => exact ⟨i + 1, (c + p + q) / 4294967296, _, rfl, by go_num, by omega, HO.out.1, hst, hbq⟩
          case measure => simp [intOf] <;> omega
        · have hki : ¬ ((i : Nat) : Int) < (n1 : Int) := by omega
          have hql : l1[i]? = none := List.getElem?_eq_none_iff.2 (by rw [← H1.out.1]; omega)
          have hst := hR.step hpl (y := 0) (by rw [hql]; rfl) hp2 (by omega) (s := c + p) (by omega)
          have HO := Lib.hid (And.intro hst (And.intro hown (And.intro hb hR.len)))
          clear hp hpl hql hst hown hb hR
          go_wp2_with fail
          have hs1 : ((c : Int) + (p : Int)) % 4294967296 = (((c + p) % 4294967296 : Nat) : Int) := by omega
          have hs2 : ((c : Int) + (p : Int)) / 4294967296 = (((c + p) / 4294967296 : Nat) : Int) := by omega
          rw [hs1, hs2]
          have hst := (HO.out.2.1.stored i (.int .u32 (((c + p) % 4294967296 : Nat) : Int))).1
          have hset : (ws ++ List.replicate (n2 + 1 - i) 0).set i ((c + p) % 4294967296) = (ws ++ [(c + p) % 4294967296]) ++ List.replicate (n2 + 1 - (i + 1)) 0 := by
            have := row_set ws (n2 - i) ((c + p) % 4294967296)
            rw [HO.out.2.2.2] at this
            rw [show n2 + 1 - i = (n2 - i) + 1 from by omega, this]
            congr 2; omega
          rw [u32s_set, hset] at hst
          have hbq := HO.out.2.2.1.setCell (p := ⟨w.heap.size, i, none⟩) (Nat.le_refl _) (.int .u32 (((c + p) % 4294967296 : Nat) : Int))
          go_roundw
          case rel => exact ⟨i + 1, (c + p) / 4294967296, _, rfl, by go_num, by omega, HO.out.1, hst, hbq⟩
          case measure => simp [intOf] <;> omega
      · obtain rfl : i = n2 := by omega
        have hlt2i : ¬ ((i : Nat) : Int) < (i : Int) := by omega
        have hin1 : ((i : Nat) : Int) < ((i + 1 : Nat) : Int) := by omega
        have hlen := hR.len
        have hval := hR
        rw [H2.out.1] at hval
        have hval2 := hval.done (by rw [← H2.out.1, ← H1.out.1]; omega)
        have hst := (hown.stored i (.int .u32 c)).1
        have hset : (ws ++ List.replicate (i + 1 - i) 0).set i c = ws ++ [c] := by
          rw [show i + 1 - i = 0 + 1 from by omega]
          have := row_set ws 0 c
          rw [hlen] at this
          rw [this]
          simp
        rw [u32s_set, hset] at hst
        have hb2 := hb.setCell (p := ⟨w.heap.size, i, none⟩) (Nat.le_refl _) (.int .u32 c)
        have hwl : (ws ++ [c]).length = i + 1 := by simp [hlen]
        have hwd : ∀ z ∈ ws ++ [c], z < 4294967296 := by
          intro z hz
          rcases List.mem_append.1 hz with hz | hz
          · exact hR.words z hz
          · simp at hz; omega
        have HT := Lib.hid (trim_any (some ⟨w.heap.size, 0, none⟩) (i + 1) (ws ++ [c]) _ (SlAt.of_owns hst) (by omega) (by omega))
        have hN := NW.of_trim (c := i + 1) (SlAt.of_owns hst) hwd (by omega) (by omega)
        rw [hval2, H2.out.2.2.2, H1.out.2.2.2] at hN
        rw [hwl] at HT
        have HN := Lib.hid (And.intro hN hb2)
        have hcm : ((c : Nat) : Int) % 4294967296 = (c : Int) := by omega
        clear hN hval hval2 hst hb2 hown hb hR hwl hwd hlen
        go_wp2_with (go_at_call 54; refine HT.out.mono ?_; rintro e w2 ⟨rfl, rfl⟩)
        go_ret
        exact ⟨_, rfl, by simpa [Nat.add_comm] using HN.out.1, HN.out.2⟩
  · have hlti : ¬ ((n1 : Nat) : Int) < (n2 : Int) := by omega
    go_enter Tryz.func31, Tryz.ntmps31
    go_wp2_with (at_make; refine wpList_make_full _ rfl _ _ 57 rfl w.heap.size 101 i0 _ 1 Tryz.underlying57 hi hz0 hz1 _ _ _ _ (n1 + 1) rfl rfl (by omega) (by omega) (by rw [hz2]; omega) (by simp only [maxLen]; omega) (Nat.le_refl _) ?_)
    intro w1 hown1 hg1
    have hb1 : Below w.heap.size w w1 := (Below.refl _ _).grown hg1 (Nat.le_refl _) (by simp)
    rw [made_zero] at hown1
    refine wpList_at (fun w1 => w1.ownsRow w.heap.size 101 1 (.slice (some ⟨w.heap.size, 0, none⟩) (n1 + 1) (n1 + 1)) (n1 + 1) (u32s (List.replicate (n1 + 1) 0)) ∧ Below w.heap.size w w1) ⟨hown1, hb1⟩ ?_
    clear hown1 hb1 hg1
    intro w1 HW1
    replace HW1 := Lib.hid HW1
    go_wp2_with fail
    go_loopw [6, 7] (fun cv iv wr => ∃ (i c : Nat) (ws : List Nat), cv = .int .u64 c ∧ iv = .int .i64 i ∧ i ≤ n1 ∧ AddR l1 l2 i c ws ∧ wr.ownsRow w.heap.size 101 1 (.slice (some ⟨w.heap.size, 0, none⟩) (n1 + 1) (n1 + 1)) (n1 + 1) (u32s (ws ++ List.replicate (n1 + 1 - i) 0)) ∧ Below w.heap.size w wr) (fun _ iv _ => n1 - (intOf iv).toNat)
    case atStart => exact ⟨0, 0, [], rfl, rfl, by omega, AddR.start _ _, HW1.out.1, HW1.out.2⟩
    case round =>
      clear HW1
      obtain ⟨i, c, ws, rfl, rfl, hin, hR, hown, hb⟩ := hrel
      have hc1 := hR.cle
      have hcy : wr.cell? ⟨w.heap.size, i, none⟩ = some (.int .u32 0) := by
        rw [hown.cellAt i (by omega)]
        simp only [u32s, List.getElem?_map]
        rw [show n1 + 1 - i = (n1 - i) + 1 from by omega]
        have := row_at ws (n1 - i)
        rw [hR.len] at this
        rw [this]
        rfl
      have hfy := hown.frozenAt i
      by_cases hlt2 : i < n1
      · have hlt2i : ((i : Nat) : Int) < (n1 : Int) := by omega
        have hin1 : ((i : Nat) : Int) < ((n1 + 1 : Nat) : Int) := by omega
        obtain ⟨b, off, hA, hcell⟩ := (H1.out.2.1.below hb).word (k := i) (by rw [← H1.out.1]; exact hlt2)
        obtain ⟨p, hp⟩ : ∃ p, p = l1[i]'(by rw [← H1.out.1]; exact hlt2) := ⟨_, rfl⟩
        rw [← hp] at hcell
        have hpl : l1[i]? = some p := by rw [hp]; exact List.getElem?_eq_getElem _
        have hp2 : p < 4294967296 := H1.out.2.2.1 p (List.mem_of_getElem? hpl)
        subst hA
        by_cases hk : i < n2
        · have hki : ((i : Nat) : Int) < (n2 : Int) := by omega
          obtain ⟨b', off', hA', hcell'⟩ := (H2.out.2.1.below hb).word (k := i) (by rw [← H2.out.1]; exact hk)
          obtain ⟨q, hq⟩ : ∃ q, q = l2[i]'(by rw [← H2.out.1]; exact hk) := ⟨_, rfl⟩
          rw [← hq] at hcell'
          have hql : l2[i]? = some q := by rw [hq]; exact List.getElem?_eq_getElem _
          have hq2 : q < 4294967296 := H2.out.2.2.1 q (List.mem_of_getElem? hql)
          subst hA'
          have hst := hR.step hpl (y := q) (by rw [hql]; rfl) hp2 hq2 (s := c + p + q) rfl
          have HO := Lib.hid (And.intro hst (And.intro hown (And.intro hb hR.len)))
          clear hp hpl hq hql hst hown hb hR
          go_wp2_with fail
          have hs1 : ((c : Int) + (p : Int) + (q : Int)) % 4294967296 = (((c + p + q) % 4294967296 : Nat) : Int) := by omega
          have hs2 : ((c : Int) + (p : Int) + (q : Int)) / 4294967296 = (((c + p + q) / 4294967296 : Nat) : Int) := by omega
          rw [hs1, hs2]
          have hst := (HO.out.2.1.stored i (.int .u32 (((c + p + q) % 4294967296 : Nat) : Int))).1
          have hset : (ws ++ List.replicate (n1 + 1 - i) 0).set i ((c + p + q) % 4294967296) = (ws ++ [(c + p + q) % 4294967296]) ++ List.replicate (n1 + 1 - (i + 1)) 0 := by
            have := row_set ws (n1 - i) ((c + p + q) % 4294967296)
            rw [HO.out.2.2.2] at this
            rw [show n1 + 1 - i = (n1 - i) + 1 from by omega, this]
            congr 2; omega
          rw [u32s_set, hset] at hst
          have hbq := HO.out.2.2.1.setCell (p := ⟨w.heap.size, i, none⟩) (Nat.le_refl _) (.int .u32 (((c + p + q) % 4294967296 : Nat) : Int))
          go_roundw
          case rel => exact ⟨i + 1, (c + p + q) / 4294967296, _, rfl, by go_num, by omega, HO.out.1, hst, hbq⟩
          case measure => simp [intOf] <;> omega
        · have hki : ¬ ((i : Nat) : Int) < (n2 : Int) := by omega
          have hql : l2[i]? = none := List.getElem?_eq_none_iff.2 (by rw [← H2.out.1]; omega)
          have hst := hR.step hpl (y := 0) (by rw [hql]; rfl) hp2 (by omega) (s := c + p) (by omega)
          have HO := Lib.hid (And.intro hst (And.intro hown (And.intro hb hR.len)))
          clear hp hpl hql hst hown hb hR
          go_wp2_with fail
          have hs1 : ((c : Int) + (p : Int)) % 4294967296 = (((c + p) % 4294967296 : Nat) : Int) := by omega
          have hs2 : ((c : Int) + (p : Int)) / 4294967296 = (((c + p) / 4294967296 : Nat) : Int) := by omega
          rw [hs1, hs2]
          have hst := (HO.out.2.1.stored i (.int .u32 (((c + p) % 4294967296 : Nat) : Int))).1
          have hset : (ws ++ List.replicate (n1 + 1 - i) 0).set i ((c + p) % 4294967296) = (ws ++ [(c + p) % 4294967296]) ++ List.replicate (n1 + 1 - (i + 1)) 0 := by
            have := row_set ws (n1 - i) ((c + p) % 4294967296)
            rw [HO.out.2.2.2] at this
            rw [show n1 + 1 - i = (n1 - i) + 1 from by omega, this]
            congr 2; omega
          rw [u32s_set, hset] at hst
          have hbq := HO.out.2.2.1.setCell (p := ⟨w.heap.size, i, none⟩) (Nat.le_refl _) (.int .u32 (((c + p) % 4294967296 : Nat) : Int))
          go_roundw
          case rel => exact ⟨i + 1, (c + p) / 4294967296, _, rfl, by go_num, by omega, HO.out.1, hst, hbq⟩
          case measure => simp [intOf] <;> omega
      · obtain rfl : i = n1 := by omega
        have hlt2i : ¬ ((i : Nat) : Int) < (i : Int) := by omega
        have hin1 : ((i : Nat) : Int) < ((i + 1 : Nat) : Int) := by omega
        have hlen := hR.len
        have hval := hR
        rw [H1.out.1] at hval
        have hval2 := hval.done (by rw [← H1.out.1, ← H2.out.1]; omega)
        have hst := (hown.stored i (.int .u32 c)).1
        have hset : (ws ++ List.replicate (i + 1 - i) 0).set i c = ws ++ [c] := by
          rw [show i + 1 - i = 0 + 1 from by omega]
          have := row_set ws 0 c
          rw [hlen] at this
          rw [this]
          simp
        rw [u32s_set, hset] at hst
        have hb2 := hb.setCell (p := ⟨w.heap.size, i, none⟩) (Nat.le_refl _) (.int .u32 c)
        have hwl : (ws ++ [c]).length = i + 1 := by simp [hlen]
        have hwd : ∀ z ∈ ws ++ [c], z < 4294967296 := by
          intro z hz
          rcases List.mem_append.1 hz with hz | hz
          · exact hR.words z hz
          · simp at hz; omega
        have HT := Lib.hid (trim_any (some ⟨w.heap.size, 0, none⟩) (i + 1) (ws ++ [c]) _ (SlAt.of_owns hst) (by omega) (by omega))
        have hN := NW.of_trim (c := i + 1) (SlAt.of_owns hst) hwd (by omega) (by omega)
        rw [hval2, H1.out.2.2.2, H2.out.2.2.2] at hN
        rw [hwl] at HT
        have HN := Lib.hid (And.intro hN hb2)
        have hcm : ((c : Nat) : Int) % 4294967296 = (c : Int) := by omega
        clear hN hval hval2 hst hb2 hown hb hR hwl hwd hlen
        go_wp2_with (go_at_call 54; refine HT.out.mono ?_; rintro e w2 ⟨rfl, rfl⟩)
        go_ret
        exact ⟨_, rfl, by simpa [Nat.add_comm] using HN.out.1, HN.out.2⟩
theorem add_any (v1 v2 : Value) (x y : Nat) (w : World) (h1 : NW w v1 x) (h2 : NW w v2 y) (hx : x < 4294967296 ^ 8) (hy : y < 4294967296 ^ 8) :
    Calls Tryz.prog 31 #[v1, v2] w fun e w' => ∃ v', e = .returned v' ∧ NW w' v' (x + y) ∧ Below w.heap.size w w' := add_gen 8 (by decide) v1 v2 x y w h1 h2 hx hy
end Go.Proofs.YtpeckpiidgkgoaaGreatDoor
/- commonbookbig.mul: the contract. -/
namespace Go.Proofs.YtpeckpiidgkgoaaGreatDoor
open Go.RowKit
set_option linter.unusedVariables false
set_option linter.unusedSimpArgs false

theorem NW.zero {w : World} : NW w (.slice none 0 0) 0 := ⟨none, 0, [], rfl, .inl rfl, by simp, rfl, rfl, by simp, by simp⟩
theorem SlAt.word_at {w : World} {A : Option Addr} {l : List Nat} (h : SlAt w A (u32s l)) {k x : Nat} (hk : l[k]? = some x) : ∃ b off, A = some ⟨b, off, none⟩ ∧ w.cell? ⟨b, off + k, none⟩ = some (.int .u32 x) := by
  have hlt := (List.getElem?_eq_some_iff.1 hk).1
  have := h.word hlt
  rw [(List.getElem?_eq_some_iff.1 hk).2] at this
  exact this

set_option maxRecDepth 100000 in
set_option maxHeartbeats 2000000 in
theorem mul_gen (K : Nat) (hK : K ≤ 8000) (v1 v2 : Value) (x y : Nat) (w : World) (h1 : NW w v1 x) (h2 : NW w v2 y) (hx : x < 4294967296 ^ K) (hy : y < 4294967296 ^ K) :
    Calls Tryz.prog 32 #[v1, v2] w fun e w' => ∃ v', e = .returned v' ∧ NW w' v' (x * y) ∧ Below w.heap.size w w' := by
  obtain ⟨A1, c1, l1, rfl, a1, a2, a3, a4, a5, a6⟩ := h1
  obtain ⟨A2, c2, l2, rfl, b1, b2, b3, b4, b5, b6⟩ := h2
  obtain ⟨i0, hi, hz0, hz1, hz2⟩ := info_parts infoW
  have hn1 : l1.length ≤ 8000 := Nat.le_trans (trimW_le a3 (by rw [a4]; exact hx)) hK
  have hn2 : l2.length ≤ 8000 := Nat.le_trans (trimW_le b3 (by rw [b4]; exact hy)) hK
  obtain ⟨n, e1⟩ : ∃ n, n = l1.length := ⟨_, rfl⟩
  obtain ⟨m, e2⟩ : ∃ n, n = l2.length := ⟨_, rfl⟩
  have H1 := Lib.hid (And.intro e1 (And.intro a1 (And.intro a2 a4)))
  have H2 := Lib.hid (And.intro e2 (And.intro b1 (And.intro b2 b4)))
  rw [← e1] at hn1 ⊢
  rw [← e2] at hn2 ⊢
  clear e1 e2 a1 a2 a3 a4 a5 a6 b1 b2 b3 b4 b5 b6 hx hy
  by_cases hn0 : n = 0
  · have hx0 : x = 0 := by
      have h := H1.out.1
      rw [hn0] at h
      rw [← H1.out.2.2.2, List.eq_nil_of_length_eq_zero h.symm]
      rfl
    have HX := Lib.hid hx0
    subst hn0
    clear hx0
    go_enter Tryz.func32, Tryz.ntmps32
    go_wp2_with fail
    go_ret
    exact ⟨_, rfl, by rw [HX.out, Nat.zero_mul]; exact NW.zero, Below.refl _ _⟩
  by_cases hm0 : m = 0
  · have hy0 : y = 0 := by
      have h := H2.out.1
      rw [hm0] at h
      rw [← H2.out.2.2.2, List.eq_nil_of_length_eq_zero h.symm]
      rfl
    have HX := Lib.hid hy0
    subst hm0
    have hnb : (((n : Nat) : Int) == 0) = false := by simpa using hn0
    clear hy0
    go_enter Tryz.func32, Tryz.ntmps32
    go_wp2_with fail
    go_ret
    exact ⟨_, rfl, by rw [HX.out, Nat.mul_zero]; exact NW.zero, Below.refl _ _⟩
  have hnb : (((n : Nat) : Int) == 0) = false := by simpa using hn0
  have hmb : (((m : Nat) : Int) == 0) = false := by simpa using hm0
  have hn0' : ¬ ((n : Nat) : Int) = 0 := by omega
  have hm0' : ¬ ((m : Nat) : Int) = 0 := by omega
  obtain ⟨N, hN⟩ : ∃ N, N = n + m := ⟨_, rfl⟩
  have hNi : ((n : Nat) : Int) + (m : Int) = (N : Int) := by omega
  have HNN := Lib.hid hN
  have hN16 : N ≤ 16000 := by omega
  clear hN
  go_enter Tryz.func32, Tryz.ntmps32
  go_wp2_with (at_make; refine wpList_make_full _ rfl _ _ 57 rfl w.heap.size 101 i0 _ 1 Tryz.underlying57 hi hz0 hz1 _ _ _ _ N rfl rfl (by omega) (by omega) (by rw [hz2]; omega) (by simp only [maxLen]; omega) (Nat.le_refl _) ?_)
  intro w1 hown1 hg1
  have hb1 : Below w.heap.size w w1 := (Below.refl _ _).grown hg1 (Nat.le_refl _) (by simp)
  rw [made_zero] at hown1
  refine wpList_at (fun w1 => w1.ownsRow w.heap.size 101 1 (.slice (some ⟨w.heap.size, 0, none⟩) N N) N (u32s (List.replicate N 0)) ∧ Below w.heap.size w w1) ⟨hown1, hb1⟩ ?_
  clear hown1 hb1 hg1
  intro w1 HW1
  replace HW1 := Lib.hid HW1
  go_wp2_with fail
  go_loopw [6] (fun iv wr => ∃ (i : Nat) (R : List Nat), iv = .int .i64 i ∧ i ≤ n ∧ MulO l1 l2 i R ∧ wr.ownsRow w.heap.size 101 1 (.slice (some ⟨w.heap.size, 0, none⟩) N N) N (u32s R) ∧ Below w.heap.size w wr) (fun iv _ => n - (intOf iv).toNat)
  case atStart => exact ⟨0, _, rfl, by omega, (by have := MulO.start l1 l2; rw [← H1.out.1, ← H2.out.1, ← HNN.out] at this; exact this), HW1.out.1, HW1.out.2⟩
  case round =>
    clear HW1
    obtain ⟨i, R, rfl, hin, hR, hown, hb⟩ := hrel
    by_cases hlt : i < n
    · have hlti : ((i : Nat) : Int) < (n : Int) := by omega
      obtain ⟨a, ha⟩ : ∃ a, l1[i]? = some a := ⟨_, List.getElem?_eq_getElem (by rw [← H1.out.1]; exact hlt)⟩
      have ha2 : a < 4294967296 := H1.out.2.2.1 a (List.mem_of_getElem? ha)
      have HR := Lib.hid (And.intro hR (And.intro hown (And.intro hb ha)))
      clear hR hown hb ha
      go_wp2_with fail
      go_loopw [7, 8] (fun cv jv wr => ∃ (j c : Nat) (R' : List Nat), cv = .int .u64 c ∧ jv = .int .i64 j ∧ j ≤ m ∧ MulI l1 l2 i a R j c R' ∧ wr.ownsRow w.heap.size 101 1 (.slice (some ⟨w.heap.size, 0, none⟩) N N) N (u32s R') ∧ Below w.heap.size w wr) (fun _ jv _ => m - (intOf jv).toNat)
      case atStart => exact ⟨0, 0, R, rfl, rfl, by omega, MulI.start HR.out.1 a, HR.out.2.1, HR.out.2.2.1⟩
      case round =>
        obtain ⟨j, c, R', rfl, rfl, hjm, hI, hown, hb⟩ := hrel
        have hc1 := hI.cle
        have hRl : R'.length = N := by rw [hI.len, ← H1.out.1, ← H2.out.1, HNN.out]
        have hNN := HNN.out
        by_cases hlt2 : j < m
        · have hlt2i : ((j : Nat) : Int) < (m : Int) := by omega
          obtain ⟨b, off, hA, hcell⟩ := (H1.out.2.1.below hb).word_at HR.out.2.2.2
          obtain ⟨q, hq⟩ : ∃ q, l2[j]? = some q := ⟨_, List.getElem?_eq_getElem (by rw [← H2.out.1]; exact hlt2)⟩
          have hq2 : q < 4294967296 := H2.out.2.2.1 q (List.mem_of_getElem? hq)
          obtain ⟨b', off', hA', hcell'⟩ := (H2.out.2.1.below hb).word_at hq
          obtain ⟨r, hr⟩ : ∃ r, R'[i + j]? = some r := ⟨_, List.getElem?_eq_getElem (by omega)⟩
          have hr2 : r < 4294967296 := hI.words r (List.mem_of_getElem? hr)
          have hcr : wr.cell? ⟨w.heap.size, i + j, none⟩ = some (.int .u32 r) := by
            rw [hown.cellAt (i + j) (by omega)]
            simp [u32s, hr]
          have hfr := hown.frozenAt (i + j)
          have hst := hI.step ha2 hq hq2 hr (s := c + (a * q + r)) rfl
          obtain ⟨f1, f2, f3⟩ := mul_fits ha2 hq2 hc1 hr2
          subst hA
          subst hA'
          have HO := Lib.hid (And.intro hst (And.intro hown hb))
          obtain ⟨aq, haq⟩ : ∃ aq, aq = a * q := ⟨_, rfl⟩
          rw [← haq] at HO f1 f2 f3
          have hmq : ((a : Nat) : Int) * (q : Int) = (aq : Int) := by rw [haq]; exact (Int.natCast_mul a q).symm
          obtain ⟨k, hk⟩ : ∃ k, k = i + j := ⟨_, rfl⟩
          rw [← hk] at HO hcr hfr
          have hij : ((i : Nat) : Int) + (j : Int) = (k : Int) := by omega
          have hijn : ((k : Nat) : Int) < (N : Int) := by omega
          obtain ⟨s, hs⟩ : ∃ s, s = c + (aq + r) := ⟨_, rfl⟩
          rw [← hs] at HO f2 f3
          have hsi : ((c : Nat) : Int) + (((aq : Nat) : Int) + ((r : Nat) : Int)) = (s : Int) := by omega
          obtain ⟨lo, hlo⟩ : ∃ lo, lo = s % 4294967296 := ⟨_, rfl⟩
          obtain ⟨up, hup⟩ : ∃ up, up = s / 4294967296 := ⟨_, rfl⟩
          rw [← hlo, ← hup] at HO
          have hs1 : ((s : Nat) : Int) % 4294967296 = (lo : Int) := by omega
          have hs2 : ((s : Nat) : Int) / 4294967296 = (up : Int) := by omega
          have hst2 := (HO.out.2.1.drew.stored k (.int .u32 lo)).1
          rw [u32s_set] at hst2
          have hb2 := HO.out.2.2.drew.setCell (p := ⟨w.heap.size, k, none⟩) (Nat.le_refl _) (.int .u32 lo)
          have HN := Lib.hid (And.intro HO.out.1 (And.intro hst2 hb2))
          clear haq hst hown hb hI hq hr hRl hk hNN hs hlo hup hst2 hb2 HO
          go_wp2_with fail
          go_region
          go_wp2_with fail
          go_roundw
          case rel => exact ⟨j + 1, up, _, by go_num, by go_num, by omega, HN.out.1, HN.out.2.1, HN.out.2.2⟩
          case measure => simp [intOf] <;> omega
        · obtain rfl : j = m := by omega
          have hlt2i : ¬ ((j : Nat) : Int) < (j : Int) := by omega
          have hdone := MulI.done HR.out.1 (by rw [H2.out.1] at hI; exact hI) HR.out.2.2.2
          rw [← H2.out.1] at hdone
          obtain ⟨k, hk⟩ : ∃ k, k = i + j := ⟨_, rfl⟩
          have hij : ((i : Nat) : Int) + (j : Int) = (k : Int) := by omega
          have hijn : ((k : Nat) : Int) < (N : Int) := by omega
          have hcr : wr.cell? ⟨w.heap.size, k, none⟩ = some (.int .u32 0) := by
            rw [hown.cellAt k (by omega)]
            have := hI.zero k (by rw [← H2.out.1]; omega) (by omega)
            simp [u32s, this]
          have hfr := hown.frozenAt k
          have hst2 := (hown.stored k (.int .u32 c)).1
          rw [u32s_set] at hst2
          have hb2 := hb.setCell (p := ⟨w.heap.size, k, none⟩) (Nat.le_refl _) (.int .u32 c)
          rw [← hk] at hdone
          have HN := Lib.hid (And.intro hdone (And.intro hst2 hb2))
          have hcm : ((c : Nat) : Int) % 4294967296 = (c : Int) := by omega
          clear hdone hst2 hb2 hk hNN hown hb hI hRl
          go_wp2_with fail
          go_roundw
          case rel => exact ⟨i + 1, _, by go_num, by omega, HN.out.1, HN.out.2.1, HN.out.2.2⟩
          case measure => simp [intOf] <;> omega
    · obtain rfl : i = n := by omega
      have hlti : ¬ ((i : Nat) : Int) < (i : Int) := by omega
      have hval := MulO.done (by rw [H1.out.1] at hR; exact hR)
      have hRl : R.length = N := by rw [hR.len, ← H1.out.1, ← H2.out.1, HNN.out]
      have HT := Lib.hid (trim_any (some ⟨w.heap.size, 0, none⟩) N R _ (SlAt.of_owns hown) (by omega) (by omega))
      have hN := NW.of_trim (c := N) (SlAt.of_owns hown) hR.words (by omega) (by omega)
      rw [hval, H1.out.2.2.2, H2.out.2.2.2] at hN
      rw [hRl] at HT
      have HN := Lib.hid (And.intro hN hb)
      clear hN hval hown hb hR hRl
      go_wp2_with (go_at_call 54; refine HT.out.mono ?_; rintro e w2 ⟨rfl, rfl⟩)
      go_ret
      exact ⟨_, rfl, HN.out.1, HN.out.2⟩
theorem mul_any (v1 v2 : Value) (x y : Nat) (w : World) (h1 : NW w v1 x) (h2 : NW w v2 y) (hx : x < 4294967296 ^ 8) (hy : y < 4294967296 ^ 8) :
    Calls Tryz.prog 32 #[v1, v2] w fun e w' => ∃ v', e = .returned v' ∧ NW w' v' (x * y) ∧ Below w.heap.size w w' := mul_gen 8 (by decide) v1 v2 x y w h1 h2 hx hy
end Go.Proofs.YtpeckpiidgkgoaaGreatDoor
