/- commonbookbig.add: the contract. -/
import Derived.Test.YtfnigdbnkdofiaaDoorNumInt
import Derived.Test.YtfnigdbnkdofiaaDoorNumPlain2
namespace Go.Proofs.YtfnigdbnkdofiaaDoor
open Go.RowKit
set_option linter.unusedVariables false
set_option linter.unusedSimpArgs false

theorem made_zero (n : Nat) : (madeCells #[Value.int .u32 0] n).toList = u32s (List.replicate n 0) := by
  rw [toList_madeCells_one]
  simp [u32s]
theorem u32s_set (l : List Nat) (k x : Nat) : (u32s l).set k (.int .u32 x) = u32s (l.set k x) := by simp [u32s, List.map_set]
theorem NW.len {w : World} {A : Option Addr} {n c x k : Nat} (h : NW w (.slice A n c) x) (hx : x < 4294967296 ^ k) : n ≤ k := by
  obtain ⟨A', c', l, e, h1, h2, h3, h4, h5⟩ := h
  injection e with e1 e2 e3
  rw [e2]
  exact trimW_le h3 (by rw [h4]; exact hx)

set_option maxRecDepth 100000 in
set_option maxHeartbeats 2000000 in
theorem add_any (v1 v2 : Value) (x y : Nat) (w : World) (h1 : NW w v1 x) (h2 : NW w v2 y) (hx : x < 4294967296 ^ 8) (hy : y < 4294967296 ^ 8) :
    Calls Tryd.prog 55 #[v1, v2] w fun e w' => ∃ v', e = .returned v' ∧ NW w' v' (x + y) ∧ Below w.heap.size w w' := by
  obtain ⟨A1, c1, l1, rfl, a1, a2, a3, a4, a5, a6⟩ := h1
  obtain ⟨A2, c2, l2, rfl, b1, b2, b3, b4, b5, b6⟩ := h2
  obtain ⟨i0, hi, hz0, hz1, hz2⟩ := info_parts infoW
  have hn1 : l1.length ≤ 8 := trimW_le a3 (by rw [a4]; exact hx)
  have hn2 : l2.length ≤ 8 := trimW_le b3 (by rw [b4]; exact hy)
  obtain ⟨n1, e1⟩ : ∃ n, n = l1.length := ⟨_, rfl⟩
  obtain ⟨n2, e2⟩ : ∃ n, n = l2.length := ⟨_, rfl⟩
  have H1 := Lib.hid (And.intro e1 (And.intro a1 (And.intro a2 a4)))
  have H2 := Lib.hid (And.intro e2 (And.intro b1 (And.intro b2 b4)))
  rw [← e1] at hn1 ⊢
  rw [← e2] at hn2 ⊢
  clear e1 e2 a1 a2 a3 a4 a5 a6 b1 b2 b3 b4 b5 b6 hx hy
  by_cases hlt : n1 < n2
  · have hlti : ((n1 : Nat) : Int) < (n2 : Int) := by omega
    go_enter Tryd.func55, Tryd.ntmps55
    go_wp2_with (at_make; refine wpList_make_full _ rfl _ _ 67 rfl w.heap.size 98 i0 _ 1 Tryd.underlying67 hi hz0 hz1 _ _ _ _ (n2 + 1) rfl rfl (by omega) (by omega) (by rw [hz2]; omega) (by simp only [maxLen]; omega) (Nat.le_refl _) ?_)
    intro w1 hown1 hg1
    have hb1 : Below w.heap.size w w1 := (Below.refl _ _).grown hg1 (Nat.le_refl _) (by simp)
    rw [made_zero] at hown1
    refine wpList_at (fun w1 => w1.ownsRow w.heap.size 98 1 (.slice (some ⟨w.heap.size, 0, none⟩) (n2 + 1) (n2 + 1)) (n2 + 1) (u32s (List.replicate (n2 + 1) 0)) ∧ Below w.heap.size w w1) ⟨hown1, hb1⟩ ?_
    clear hown1 hb1 hg1
    intro w1 HW1
    replace HW1 := Lib.hid HW1
    go_wp2_with fail
    go_loopw [6, 7] (fun cv iv wr => ∃ (i c : Nat) (ws : List Nat), cv = .int .u64 c ∧ iv = .int .i64 i ∧ i ≤ n2 ∧ AddR l2 l1 i c ws ∧ wr.ownsRow w.heap.size 98 1 (.slice (some ⟨w.heap.size, 0, none⟩) (n2 + 1) (n2 + 1)) (n2 + 1) (u32s (ws ++ List.replicate (n2 + 1 - i) 0)) ∧ Below w.heap.size w wr) (fun _ iv _ => n2 - (intOf iv).toNat)
    case atStart => exact ⟨0, 0, [], rfl, rfl, by omega, AddR.start _ _, HW1.out.1, HW1.out.2⟩
    case round =>
      clear HW1
      obtain ⟨i, c, ws, rfl, rfl, hin, hR, hown, hb⟩ := hrel
      have hc1 := hR.cle
      have hcy : wr.cell? ⟨w.heap.size, i, none⟩ = some (.int .u32 0) := by
        rw [hown.cellAt i (by omega)]
        simp only [u32s, List.getElem?_map]
        rw [show n2 + 1 - i = (n2 - i) + 1 from by omega]
        have := row_at ws (n2 - i)
        rw [hR.len] at this
        rw [this]
        rfl
      have hfy := hown.frozenAt i
      by_cases hlt2 : i < n2
      · have hlt2i : ((i : Nat) : Int) < (n2 : Int) := by omega
        have hin1 : ((i : Nat) : Int) < ((n2 + 1 : Nat) : Int) := by omega
        obtain ⟨b, off, hA, hcell⟩ := (H2.out.2.1.below hb).word (k := i) (by rw [← H2.out.1]; exact hlt2)
        obtain ⟨p, hp⟩ : ∃ p, p = l2[i]'(by rw [← H2.out.1]; exact hlt2) := ⟨_, rfl⟩
        rw [← hp] at hcell
        have hpl : l2[i]? = some p := by rw [hp]; exact List.getElem?_eq_getElem _
        have hp2 : p < 4294967296 := H2.out.2.2.1 p (List.mem_of_getElem? hpl)
        subst hA
        by_cases hk : i < n1
        · have hki : ((i : Nat) : Int) < (n1 : Int) := by omega
          obtain ⟨b', off', hA', hcell'⟩ := (H1.out.2.1.below hb).word (k := i) (by rw [← H1.out.1]; exact hk)
          obtain ⟨q, hq⟩ : ∃ q, q = l1[i]'(by rw [← H1.out.1]; exact hk) := ⟨_, rfl⟩
          rw [← hq] at hcell'
          have hql : l1[i]? = some q := by rw [hq]; exact List.getElem?_eq_getElem _
          have hq2 : q < 4294967296 := H1.out.2.2.1 q (List.mem_of_getElem? hql)
          subst hA'
          have hst := hR.step hpl (y := q) (by rw [hql]; rfl) hp2 hq2 (s := c + p + q) rfl
          have HO := Lib.hid (And.intro hst (And.intro hown (And.intro hb hR.len)))
          clear hp hpl hq hql hst hown hb hR
          go_wp2_with fail
          have hs1 : ((c : Int) + (p : Int) + (q : Int)) % 4294967296 = (((c + p + q) % 4294967296 : Nat) : Int) := by omega
          have hs2 : ((c : Int) + (p : Int) + (q : Int)) / 4294967296 = (((c + p + q) / 4294967296 : Nat) : Int) := by omega
          rw [hs1, hs2]
          have hst := (HO.out.2.1.stored i (.int .u32 (((c + p + q) % 4294967296 : Nat) : Int))).1
          have hset : (ws ++ List.replicate (n2 + 1 - i) 0).set i ((c + p + q) % 4294967296) = (ws ++ [(c + p + q) % 4294967296]) ++ List.replicate (n2 + 1 - (i + 1)) 0 := by
            have := row_set ws (n2 - i) ((c + p + q) % 4294967296)
            rw [HO.out.2.2.2] at this
            rw [show n2 + 1 - i = (n2 - i) + 1 from by omega, this]
            congr 2; omega
          rw [u32s_set, hset] at hst
          have hbq := HO.out.2.2.1.setCell (p := ⟨w.heap.size, i, none⟩) (Nat.le_refl _) (.int .u32 (((c + p + q) % 4294967296 : Nat) : Int))
          go_roundw
          case rel => exact ⟨i + 1, (c + p + q) / 4294967296, _, rfl, by go_num, by omega, HO.out.1, hst, hbq⟩
          case measure => simp [intOf] <;> omega
        · have hki : ¬ ((i : Nat) : Int) < (n1 : Int) := by omega
          have hql : l1[i]? = none := List.getElem?_eq_none_iff.2 (by rw [← H1.out.1]; omega)
          have hst := hR.step hpl (y := 0) (by rw [hql]; rfl) hp2 (by omega) (s := c + p) (by omega)
          have HO := Lib.hid (And.intro hst (And.intro hown (And.intro hb hR.len)))
          clear hp hpl hql hst hown hb hR
          go_wp2_with fail
          have hs1 : ((c : Int) + (p : Int)) % 4294967296 = (((c + p) % 4294967296 : Nat) : Int) := by omega
          have hs2 : ((c : Int) + (p : Int)) / 4294967296 = (((c + p) / 4294967296 : Nat) : Int) := by omega
          rw [hs1, hs2]
          have hst := (HO.out.2.1.stored i (.int .u32 (((c + p) % 4294967296 : Nat) : Int))).1
          have hset : (ws ++ List.replicate (n2 + 1 - i) 0).set i ((c + p) % 4294967296) = (ws ++ [(c + p) % 4294967296]) ++ List.replicate (n2 + 1 - (i + 1)) 0 := by
            have := row_set ws (n2 - i) ((c + p) % 4294967296)
            rw [HO.out.2.2.2] at this
            rw [show n2 + 1 - i = (n2 - i) + 1 from by omega, this]
            congr 2; omega
          rw [u32s_set, hset] at hst
          have hbq := HO.out.2.2.1.setCell (p := ⟨w.heap.size, i, none⟩) (Nat.le_refl _) (.int .u32 (((c + p) % 4294967296 : Nat) : Int))
          go_roundw
          case rel => exact ⟨i + 1, (c + p) / 4294967296, _, rfl, by go_num, by omega, HO.out.1, hst, hbq⟩
          case measure => simp [intOf] <;> omega
      · obtain rfl : i = n2 := by omega
        have hlt2i : ¬ ((i : Nat) : Int) < (i : Int) := by omega
        have hin1 : ((i : Nat) : Int) < ((i + 1 : Nat) : Int) := by omega
        have hlen := hR.len
        have hval := hR
        rw [H2.out.1] at hval
        have hval2 := hval.done (by rw [← H2.out.1, ← H1.out.1]; omega)
        have hst := (hown.stored i (.int .u32 c)).1
        have hset : (ws ++ List.replicate (i + 1 - i) 0).set i c = ws ++ [c] := by
          rw [show i + 1 - i = 0 + 1 from by omega]
          have := row_set ws 0 c
          rw [hlen] at this
          rw [this]
          simp
        rw [u32s_set, hset] at hst
        have hb2 := hb.setCell (p := ⟨w.heap.size, i, none⟩) (Nat.le_refl _) (.int .u32 c)
        have hwl : (ws ++ [c]).length = i + 1 := by simp [hlen]
        have hwd : ∀ z ∈ ws ++ [c], z < 4294967296 := by
          intro z hz
          rcases List.mem_append.1 hz with hz | hz
          · exact hR.words z hz
          · simp at hz; omega
        have HT := Lib.hid (trim_any (some ⟨w.heap.size, 0, none⟩) (i + 1) (ws ++ [c]) _ (SlAt.of_owns hst) (by omega) (by omega))
        have hN := NW.of_trim (c := i + 1) (SlAt.of_owns hst) hwd (by omega) (by omega)
        rw [hval2, H2.out.2.2.2, H1.out.2.2.2] at hN
        rw [hwl] at HT
        have HN := Lib.hid (And.intro hN hb2)
        have hcm : ((c : Nat) : Int) % 4294967296 = (c : Int) := by omega
        clear hN hval hval2 hst hb2 hown hb hR hwl hwd hlen
        go_wp2_with (go_at_call 74; refine HT.out.mono ?_; rintro e w2 ⟨rfl, rfl⟩)
        go_ret
        exact ⟨_, rfl, by simpa [Nat.add_comm] using HN.out.1, HN.out.2⟩
  · have hlti : ¬ ((n1 : Nat) : Int) < (n2 : Int) := by omega
    go_enter Tryd.func55, Tryd.ntmps55
    go_wp2_with (at_make; refine wpList_make_full _ rfl _ _ 67 rfl w.heap.size 98 i0 _ 1 Tryd.underlying67 hi hz0 hz1 _ _ _ _ (n1 + 1) rfl rfl (by omega) (by omega) (by rw [hz2]; omega) (by simp only [maxLen]; omega) (Nat.le_refl _) ?_)
    intro w1 hown1 hg1
    have hb1 : Below w.heap.size w w1 := (Below.refl _ _).grown hg1 (Nat.le_refl _) (by simp)
    rw [made_zero] at hown1
    refine wpList_at (fun w1 => w1.ownsRow w.heap.size 98 1 (.slice (some ⟨w.heap.size, 0, none⟩) (n1 + 1) (n1 + 1)) (n1 + 1) (u32s (List.replicate (n1 + 1) 0)) ∧ Below w.heap.size w w1) ⟨hown1, hb1⟩ ?_
    clear hown1 hb1 hg1
    intro w1 HW1
    replace HW1 := Lib.hid HW1
    go_wp2_with fail
    go_loopw [6, 7] (fun cv iv wr => ∃ (i c : Nat) (ws : List Nat), cv = .int .u64 c ∧ iv = .int .i64 i ∧ i ≤ n1 ∧ AddR l1 l2 i c ws ∧ wr.ownsRow w.heap.size 98 1 (.slice (some ⟨w.heap.size, 0, none⟩) (n1 + 1) (n1 + 1)) (n1 + 1) (u32s (ws ++ List.replicate (n1 + 1 - i) 0)) ∧ Below w.heap.size w wr) (fun _ iv _ => n1 - (intOf iv).toNat)
    case atStart => exact ⟨0, 0, [], rfl, rfl, by omega, AddR.start _ _, HW1.out.1, HW1.out.2⟩
    case round =>
      clear HW1
      obtain ⟨i, c, ws, rfl, rfl, hin, hR, hown, hb⟩ := hrel
      have hc1 := hR.cle
      have hcy : wr.cell? ⟨w.heap.size, i, none⟩ = some (.int .u32 0) := by
        rw [hown.cellAt i (by omega)]
        simp only [u32s, List.getElem?_map]
        rw [show n1 + 1 - i = (n1 - i) + 1 from by omega]
        have := row_at ws (n1 - i)
        rw [hR.len] at this
        rw [this]
        rfl
      have hfy := hown.frozenAt i
      by_cases hlt2 : i < n1
      · have hlt2i : ((i : Nat) : Int) < (n1 : Int) := by omega
        have hin1 : ((i : Nat) : Int) < ((n1 + 1 : Nat) : Int) := by omega
        obtain ⟨b, off, hA, hcell⟩ := (H1.out.2.1.below hb).word (k := i) (by rw [← H1.out.1]; exact hlt2)
        obtain ⟨p, hp⟩ : ∃ p, p = l1[i]'(by rw [← H1.out.1]; exact hlt2) := ⟨_, rfl⟩
        rw [← hp] at hcell
        have hpl : l1[i]? = some p := by rw [hp]; exact List.getElem?_eq_getElem _
        have hp2 : p < 4294967296 := H1.out.2.2.1 p (List.mem_of_getElem? hpl)
        subst hA
        by_cases hk : i < n2
        · have hki : ((i : Nat) : Int) < (n2 : Int) := by omega
          obtain ⟨b', off', hA', hcell'⟩ := (H2.out.2.1.below hb).word (k := i) (by rw [← H2.out.1]; exact hk)
          obtain ⟨q, hq⟩ : ∃ q, q = l2[i]'(by rw [← H2.out.1]; exact hk) := ⟨_, rfl⟩
          rw [← hq] at hcell'
          have hql : l2[i]? = some q := by rw [hq]; exact List.getElem?_eq_getElem _
          have hq2 : q < 4294967296 := H2.out.2.2.1 q (List.mem_of_getElem? hql)
          subst hA'
          have hst := hR.step hpl (y := q) (by rw [hql]; rfl) hp2 hq2 (s := c + p + q) rfl
          have HO := Lib.hid (And.intro hst (And.intro hown (And.intro hb hR.len)))
          clear hp hpl hq hql hst hown hb hR
          go_wp2_with fail
          have hs1 : ((c : Int) + (p : Int) + (q : Int)) % 4294967296 = (((c + p + q) % 4294967296 : Nat) : Int) := by omega
          have hs2 : ((c : Int) + (p : Int) + (q : Int)) / 4294967296 = (((c + p + q) / 4294967296 : Nat) : Int) := by omega
          rw [hs1, hs2]
          have hst := (HO.out.2.1.stored i (.int .u32 (((c + p + q) % 4294967296 : Nat) : Int))).1
          have hset : (ws ++ List.replicate (n1 + 1 - i) 0).set i ((c + p + q) % 4294967296) = (ws ++ [(c + p + q) % 4294967296]) ++ List.replicate (n1 + 1 - (i + 1)) 0 := by
            have := row_set ws (n1 - i) ((c + p + q) % 4294967296)
            rw [HO.out.2.2.2] at this
            rw [show n1 + 1 - i = (n1 - i) + 1 from by omega, this]
            congr 2; omega
          rw [u32s_set, hset] at hst
          have hbq := HO.out.2.2.1.setCell (p := ⟨w.heap.size, i, none⟩) (Nat.le_refl _) (.int .u32 (((c + p + q) % 4294967296 : Nat) : Int))
          go_roundw
          case rel => exact ⟨i + 1, (c + p + q) / 4294967296, _, rfl, by go_num, by omega, HO.out.1, hst, hbq⟩
          case measure => simp [intOf] <;> omega
        · have hki : ¬ ((i : Nat) : Int) < (n2 : Int) := by omega
          have hql : l2[i]? = none := List.getElem?_eq_none_iff.2 (by rw [← H2.out.1]; omega)
          have hst := hR.step hpl (y := 0) (by rw [hql]; rfl) hp2 (by omega) (s := c + p) (by omega)
          have HO := Lib.hid (And.intro hst (And.intro hown (And.intro hb hR.len)))
          clear hp hpl hql hst hown hb hR
          go_wp2_with fail
          have hs1 : ((c : Int) + (p : Int)) % 4294967296 = (((c + p) % 4294967296 : Nat) : Int) := by omega
          have hs2 : ((c : Int) + (p : Int)) / 4294967296 = (((c + p) / 4294967296 : Nat) : Int) := by omega
          rw [hs1, hs2]
          have hst := (HO.out.2.1.stored i (.int .u32 (((c + p) % 4294967296 : Nat) : Int))).1
          have hset : (ws ++ List.replicate (n1 + 1 - i) 0).set i ((c + p) % 4294967296) = (ws ++ [(c + p) % 4294967296]) ++ List.replicate (n1 + 1 - (i + 1)) 0 := by
            have := row_set ws (n1 - i) ((c + p) % 4294967296)
            rw [HO.out.2.2.2] at this
            rw [show n1 + 1 - i = (n1 - i) + 1 from by omega, this]
            congr 2; omega
          rw [u32s_set, hset] at hst
          have hbq := HO.out.2.2.1.setCell (p := ⟨w.heap.size, i, none⟩) (Nat.le_refl _) (.int .u32 (((c + p) % 4294967296 : Nat) : Int))
          go_roundw
          case rel => exact ⟨i + 1, (c + p) / 4294967296, _, rfl, by go_num, by omega, HO.out.1, hst, hbq⟩
          case measure => simp [intOf] <;> omega
      · obtain rfl : i = n1 := by omega
        have hlt2i : ¬ ((i : Nat) : Int) < (i : Int) := by omega
        have hin1 : ((i : Nat) : Int) < ((i + 1 : Nat) : Int) := by omega
        have hlen := hR.len
        have hval := hR
        rw [H1.out.1] at hval
        have hval2 := hval.done (by rw [← H1.out.1, ← H2.out.1]; omega)
        have hst := (hown.stored i (.int .u32 c)).1
        have hset : (ws ++ List.replicate (i + 1 - i) 0).set i c = ws ++ [c] := by
          rw [show i + 1 - i = 0 + 1 from by omega]
          have := row_set ws 0 c
          rw [hlen] at this
          rw [this]
          simp
        rw [u32s_set, hset] at hst
        have hb2 := hb.setCell (p := ⟨w.heap.size, i, none⟩) (Nat.le_refl _) (.int .u32 c)
        have hwl : (ws ++ [c]).length = i + 1 := by simp [hlen]
        have hwd : ∀ z ∈ ws ++ [c], z < 4294967296 := by
          intro z hz
          rcases List.mem_append.1 hz with hz | hz
          · exact hR.words z hz
          · simp at hz; omega
        have HT := Lib.hid (trim_any (some ⟨w.heap.size, 0, none⟩) (i + 1) (ws ++ [c]) _ (SlAt.of_owns hst) (by omega) (by omega))
        have hN := NW.of_trim (c := i + 1) (SlAt.of_owns hst) hwd (by omega) (by omega)
        rw [hval2, H1.out.2.2.2, H2.out.2.2.2] at hN
        rw [hwl] at HT
        have HN := Lib.hid (And.intro hN hb2)
        have hcm : ((c : Nat) : Int) % 4294967296 = (c : Int) := by omega
        clear hN hval hval2 hst hb2 hown hb hR hwl hwd hlen
        go_wp2_with (go_at_call 74; refine HT.out.mono ?_; rintro e w2 ⟨rfl, rfl⟩)
        go_ret
        exact ⟨_, rfl, by simpa [Nat.add_comm] using HN.out.1, HN.out.2⟩
end Go.Proofs.YtfnigdbnkdofiaaDoor
