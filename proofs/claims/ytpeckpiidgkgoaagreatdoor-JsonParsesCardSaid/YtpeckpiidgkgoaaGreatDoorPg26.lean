/- NumTextI, NumFits. -/
import Derived.Test.YtpeckpiidgkgoaaGreatDoorPg23
import Derived.Test.YtpeckpiidgkgoaaGreatDoorPg25
import Derived.Outline
import Derived.Laws.BitsAllLaws
/- commonbookbig.Text in base ten, String, bookref1.Digits: contracts. -/
namespace Go.Proofs.YtpeckpiidgkgoaaGreatDoor
open Go.RowKit
set_option linter.unusedVariables false
set_option linter.unusedSimpArgs false

/-- A row of which i bytes of either end stand turned round. -/
def revTo (D : List UInt8) (i : Nat) : List UInt8 := (List.range D.length).map fun k => if k < i ∨ D.length ≤ k + i then D.getD (D.length - 1 - k) 0 else D.getD k 0
theorem revTo_len (D : List UInt8) (i : Nat) : (revTo D i).length = D.length := by simp [revTo]
theorem revTo_at (D : List UInt8) (i : Nat) {k : Nat} (h : k < D.length) : (revTo D i)[k]? = some (if k < i ∨ D.length ≤ k + i then D.getD (D.length - 1 - k) 0 else D.getD k 0) := by
  simp [revTo, h]
theorem revTo_zero (D : List UInt8) : revTo D 0 = D := by
  apply List.ext_getElem?
  intro k
  by_cases h : k < D.length
  · rw [revTo_at D 0 h, if_neg (by omega)]
    simp [List.getD, List.getElem?_eq_getElem h]
  · rw [List.getElem?_eq_none (by rw [revTo_len]; omega), List.getElem?_eq_none (by omega)]
theorem revTo_step (D : List UInt8) (i : Nat) (h : 2 * i + 1 < D.length) : ((revTo D i).set i (D.getD (D.length - 1 - i) 0)).set (D.length - 1 - i) (D.getD i 0) = revTo D (i + 1) := by
  apply List.ext_getElem?
  intro k
  by_cases hk : k < D.length
  · rw [revTo_at D (i + 1) hk]
    by_cases h1 : k = D.length - 1 - i
    · subst h1
      rw [List.getElem?_set_self (by simp [revTo_len]; omega), if_pos (by omega)]
      congr 2
      omega
    · rw [List.getElem?_set_ne (by omega)]
      by_cases h2 : k = i
      · subst h2
        rw [List.getElem?_set_self (by rw [revTo_len]; omega), if_pos (by omega)]
      · rw [List.getElem?_set_ne (by omega), revTo_at D i hk]
        by_cases h3 : k < i ∨ D.length ≤ k + i
        · rw [if_pos h3, if_pos (by omega)]
        · rw [if_neg h3, if_neg (by omega)]
  · rw [List.getElem?_eq_none (by simp [revTo_len]; omega), List.getElem?_eq_none (by rw [revTo_len]; omega)]
theorem revTo_end (D : List UInt8) (i : Nat) (h : D.length ≤ 2 * i + 1) : revTo D i = D.reverse := by
  apply List.ext_getElem?
  intro k
  by_cases hk : k < D.length
  · rw [revTo_at D i hk, List.getElem?_reverse hk]
    by_cases h3 : k < i ∨ D.length ≤ k + i
    · rw [if_pos h3]
      simp [List.getD, List.getElem?_eq_getElem (show D.length - 1 - k < D.length by omega)]
    · rw [if_neg h3, show D.length - 1 - k = k from by omega]
      simp [List.getD, List.getElem?_eq_getElem hk]
  · rw [List.getElem?_eq_none (by rw [revTo_len]; omega), List.getElem?_eq_none (by simp; omega)]
theorem owns_at {w : World} {base : Nat} {e : TypeId} {size n c : Nat} {A : Option Addr} {xs : List Value} (h : w.ownsRow base e size (.slice A n c) n xs) (hn : 0 < n) : ∃ q, A = some ⟨q, 0, none⟩ := by
  rcases h.2 with ⟨_, h0⟩ | ⟨g, cap, cur, hv, _⟩
  · omega
  · injection hv with hA _ _
    exact ⟨g, hA⟩
def slLen (v : Value) : Nat := match v with | .slice _ n _ => n | _ => 0
theorem restD_len (m : Nat) (h : m < 18446744073709551616) : (restD m).length ≤ 20 := by
  unfold restD
  split
  · simp
  · rw [List.length_reverse]
    exact dd_len 19 m (by omega)

set_option maxRecDepth 100000 in
set_option maxHeartbeats 4000000 in
theorem text_any (g : Nat) (x : Int) (w : World) (h : IsI w g x) (hx1 : -18446744073709551616 < x) (hx2 : x < 18446744073709551616) :
    Calls Tryz.prog 37 #[.pointer (some ⟨g, 0, none⟩), .int .i64 10] w fun e w' => e = .returned (.string ⟨(Lib.itoa x).toArray⟩) ∧ Below w.heap.size w w' := by
  have hglt := h.lt
  obtain ⟨neg, v, m, hB, hN, hx, hne⟩ := h
  have hm : m < 18446744073709551616 := by
    rw [hx] at hx1 hx2
    split at hx1 <;> simp_all <;> omega
  have HB := Lib.hid hB
  have HN := Lib.hid hN
  have c0 : w.cell? ⟨g, 0, none⟩ = some (.bool neg) := hB.cell 0
  have c1 : w.cell? ⟨g, 1, none⟩ = some v := hB.cell 1
  obtain ⟨A, c, l, rfl, h1, h2, h3, h4, h5, h6⟩ := hN
  by_cases hm0 : m = 0
  · have hl : l = [] := trimW_zero h3 (by rw [h4]; exact hm0)
    subst hl
    have hn0 : neg = false := by cases neg with | false => rfl | true => exact absurd hm0 (hne rfl)
    have hxx : x = 0 := by rw [hx, hn0, hm0]; rfl
    have HX := Lib.hid hxx
    clear h1 h2 h3 h4 h5 h6 hB hx hne hx1 hx2 hxx
    go_enter Tryz.func37, Tryz.ntmps37
    go_wp2_with fail
    go_ret
    refine ⟨?_, Below.refl _ _⟩
    rw [HX.out, show Lib.itoa 0 = [48] from by rw [Lib.itoa, if_neg (by decide)]; exact dd_small (u := 0) (by omega)]
    rfl
  · have hl0 : l.length ≠ 0 := by
      intro e
      rw [List.eq_nil_of_length_eq_zero e] at h4
      exact hm0 h4.symm
    have hl1 : (((l.length : Nat) : Int) == 0) = false := by rw [beq_eq_false_iff_ne]; omega
    have HX := Lib.hid (And.intro hx hne)
    obtain ⟨v, hv⟩ : ∃ v, v = Value.slice A l.length c := ⟨_, rfl⟩
    have HT := Lib.hid (twin_any _ m w HN.out)
    clear h1 h2 h3 h4 h5 h6 hB hx hne hx1 hx2 hl0 hv
    go_enter Tryz.func37, Tryz.ntmps37
    go_wp2_with (go_at_call 56; refine HT.out.mono ?_; rintro e w1 ⟨v1, rfl, hw1, hb1⟩; have HW1 := Lib.hid (And.intro hw1 hb1); clear hw1 hb1)
    go_loopw [5, 6] (fun b a wr => ∃ (ds : List UInt8) (Ab : Option Addr) (cb y : Nat), b = .slice Ab ds.length cb ∧ NW wr a y ∧ wr.ownsRow w.heap.size 5 1 (.slice Ab ds.length cb) ds.length (Lib.byteCells ds) ∧ Below w.heap.size w wr ∧ ds ++ restD y = restD m)
      (fun b _ _ => 30 - slLen b)
    case atStart => exact ⟨[], none, 0, m, rfl, HW1.out.1, World.ownsRow_nil _ _ _ _, HW1.out.2, rfl⟩
    case round =>
      clear HW1 HT
      obtain ⟨ds, Ab, cb, y, rfl, hN, hown, hb, hd⟩ := hrel
      have hdl := restD_len m hm
      rw [← hd, List.length_append] at hdl
      have hbs := hb.size
      have HNY := Lib.hid hN
      obtain ⟨A2, c2, l2, rfl, k1, k2, k3, k4, k5, k6⟩ := hN
      by_cases hy : y = 0
      · have hl2 : l2 = [] := trimW_zero k3 (by rw [k4]; exact hy)
        subst hl2
        rw [hy, restD_zero, List.append_nil] at hd
        have g0 : wr.cell? ⟨g, 0, none⟩ = some (.bool neg) := (HB.out.below hb hglt).cell 0
        have hds0 : ds ≠ [] := by
          intro e
          rw [e] at hd
          unfold restD at hd
          rw [if_neg hm0] at hd
          have := dd_ne m
          simp at hd
          exact this hd
        cases neg with
        | false =>
          obtain ⟨q, rfl⟩ : ∃ q, Ab = some ⟨q, 0, none⟩ := owns_at hown (List.length_pos_iff.2 hds0)
          obtain ⟨N, hN⟩ : ∃ N, N = ds.length := ⟨_, rfl⟩
          have hN1 : 1 ≤ N := by rw [hN]; exact List.length_pos_iff.2 hds0
          have hN2 : N ≤ 30 := by omega
          have hrow : wr.ownsRow w.heap.size 5 1 (.slice (some ⟨q, 0, none⟩) N cb) N (Lib.byteCells (revTo ds 0)) := by rw [revTo_zero, hN]; exact hown
          have hfin : ds.reverse = Lib.itoa x := by
            rw [HX.out.1, hd]
            unfold restD
            rw [if_neg hm0, List.reverse_reverse]
            simp [Lib.itoa_nonneg]
          have HD := Lib.hid (And.intro hrow (And.intro hb (And.intro hfin hN)))
          rw [← hN]
          clear hrow hb hfin hN hown hd hds0 hdl HB HN HX HNY
          go_wp2_with fail
          go_loopw [8, 9] (fun a b wi => ∃ k j : Nat, a = .int .i64 k ∧ b = .int .i64 j ∧ k + j + 1 = N ∧ wi.ownsRow w.heap.size 5 1 (.slice (some ⟨q, 0, none⟩) N cb) N (Lib.byteCells (revTo ds k)) ∧ Below w.heap.size w wi) (fun _ b _ => (intOf b).toNat)
          case atStart => exact ⟨0, N - 1, rfl, by go_num, by omega, HD.out.1, HD.out.2.1⟩
          case round =>
            obtain ⟨k, j, rfl, rfl, hkj, hown, hb⟩ := hrel
            have HND := Lib.hid HD.out.2.2
            clear HD
            by_cases hlt : k < j
            · obtain ⟨i, rfl⟩ : ∃ i, j = i + 1 := ⟨j - 1, by omega⟩
              have f0 := hown.frozenAt k
              have f1 := hown.frozenAt (i + 1)
              obtain ⟨xa, hxa⟩ : ∃ xa, xa = (ds).getD k 0 := ⟨_, rfl⟩
              obtain ⟨xb, hxb⟩ : ∃ xb, xb = (ds).getD (i + 1) 0 := ⟨_, rfl⟩
              have d0 : wr.cell? ⟨q, k, none⟩ = some (.int .u8 xa.toNat) := by
                rw [hown.cellAt k (by omega), Lib.byteCells, List.getElem?_map, revTo_at _ _ (by rw [← HND.out.2]; omega), if_neg (by rw [← HND.out.2]; omega), hxa]
                rfl
              have d1 : wr.cell? ⟨q, i + 1, none⟩ = some (.int .u8 xb.toNat) := by
                rw [hown.cellAt (i + 1) (by omega), Lib.byteCells, List.getElem?_map, revTo_at _ _ (by rw [← HND.out.2]; omega), if_neg (by rw [← HND.out.2]; omega), hxb]
                rfl
              have hst := ((hown.stored k (.int .u8 xb.toNat)).1.stored (i + 1) (.int .u8 xa.toNat)).1
              have hrv := revTo_step ds k (by rw [← HND.out.2]; omega)
              rw [← HND.out.2, show N - 1 - k = i + 1 from by omega, ← hxa, ← hxb] at hrv
              rw [show ((Lib.byteCells (revTo ds k)).set k (.int .u8 xb.toNat)).set (i + 1) (.int .u8 xa.toNat) = Lib.byteCells (revTo ds (k + 1)) from by rw [← hrv]; simp [Lib.byteCells, List.map_set]] at hst
              have hb2 := (hb.setCell (p := ⟨q, k, none⟩) (hown.lt q rfl).1 (.int .u8 xb.toNat)).setCell (p := ⟨q, i + 1, none⟩) (hown.lt q rfl).1 (.int .u8 xa.toNat)
              have HST := Lib.hid (And.intro hst hb2)
              clear hst hb2 hrv hxa hxb hown hb
              have hj1 : ((i + 1 : Nat) : Int) - 1 = (i : Int) := by omega
              have hki : ((k : Nat) : Int) < ((i + 1 : Nat) : Int) := by omega
              have hkN : ((k : Nat) : Int) < (N : Int) := by omega
              have hiN : ((i + 1 : Nat) : Int) < (N : Int) := by omega
              have hne : ¬ k = i + 1 := by omega
              have hne2 : ¬ i + 1 = k := by omega
              go_wp2_with fail
              exact ⟨⟨k + 1, i, by go_num, rfl, by omega, HST.out.1, HST.out.2⟩, by simp [intOf]⟩
            · have hlt2 : ¬ ((k : Nat) : Int) < ((j : Nat) : Int) := by omega
              have hre := revTo_end ds k (by rw [← HND.out.2]; omega)
              rw [hre] at hown
              have hrl : (ds).reverse.length = N := by rw [List.length_reverse, ← HND.out.2]
              have hcv := conv_row (P := Tryz.prog) (l := (ds).reverse) (by rw [hrl]; exact hown) Tryz.underlying99 Tryz.underlying5 Tryz.underlying9
              rw [hrl, HND.out.1] at hcv
              have HBE := Lib.hid hb
              clear hre hrl hown hb HND
              go_wp2_with fail
              go_ret
              exact ⟨rfl, HBE.out⟩
        | true =>
          have HO := Lib.hid (And.intro hown (And.intro hb hd))
          clear hown hb hd hds0 HNY
          go_wp2_with (at_builtin; refine wpList_pushN _ rfl (.tmp 53) (.tmp 54) _ rfl w.heap.size 5 Tryz.underlying99 infoB rfl (by decide) (by decide) _ _ (Lib.byteCells ds) rfl HO.out.1 1 (by omega) _ rfl rfl ?_ (by omega) (by omega) ?_)
          · rfl
          intro A3 c3 w3 hown3 hg3
          have hb3 : Below w.heap.size w w3 := HO.out.2.1.grown hg3 (by omega) (ownBlock_ge HO.out.1)
          have hown4 : w3.ownsRow w.heap.size 5 1 (.slice A3 (ds.length + 1) c3) (ds.length + 1) (Lib.byteCells (ds ++ [45])) := by
            rw [Lib.byteCells_append]; exact hown3
          obtain ⟨q, rfl⟩ : ∃ q, A3 = some ⟨q, 0, none⟩ := owns_at hown4 (by omega)
          obtain ⟨N, hN⟩ : ∃ N, N = ds.length + 1 := ⟨_, rfl⟩
          have hN1 : 1 ≤ N := by omega
          have hN2 : N ≤ 30 := by omega
          have hND : N = (ds ++ [45]).length := by rw [hN]; simp
          have hrow : w3.ownsRow w.heap.size 5 1 (.slice (some ⟨q, 0, none⟩) N c3) N (Lib.byteCells (revTo (ds ++ [45]) 0)) := by rw [revTo_zero, hN]; exact hown4
          have hfin : (ds ++ [45]).reverse = Lib.itoa x := by
            rw [HX.out.1, HO.out.2.2]
            unfold restD
            rw [if_neg hm0, List.reverse_append, List.reverse_reverse]
            simp only [Lib.itoa, if_true]
            rw [if_pos (by omega)]
            simp
          have HD0 := And.intro hrow (And.intro hb3 (And.intro hfin hND))
          refine wpList_at (fun w1 => w1.ownsRow w.heap.size 5 1 (.slice (some ⟨q, 0, none⟩) N c3) N (Lib.byteCells (revTo (ds ++ [45]) 0)) ∧ Below w.heap.size w w1 ∧ (ds ++ [45]).reverse = Lib.itoa x ∧ N = (ds ++ [45]).length) HD0 ?_
          rw [← hN]
          clear hrow hb3 hfin hND hown3 hown4 hg3 HO HD0 hN hdl HB HN HX
          intro w4 H4
          have HD := Lib.hid H4
          clear H4
          go_wp2_with fail
          go_loopw [8, 9] (fun a b wi => ∃ k j : Nat, a = .int .i64 k ∧ b = .int .i64 j ∧ k + j + 1 = N ∧ wi.ownsRow w.heap.size 5 1 (.slice (some ⟨q, 0, none⟩) N c3) N (Lib.byteCells (revTo (ds ++ [45]) k)) ∧ Below w.heap.size w wi) (fun _ b _ => (intOf b).toNat)
          case atStart => exact ⟨0, N - 1, rfl, by go_num, by omega, HD.out.1, HD.out.2.1⟩
          case round =>
            obtain ⟨k, j, rfl, rfl, hkj, hown, hb⟩ := hrel
            have HND := Lib.hid HD.out.2.2
            clear HD
            by_cases hlt : k < j
            · obtain ⟨i, rfl⟩ : ∃ i, j = i + 1 := ⟨j - 1, by omega⟩
              have f0 := hown.frozenAt k
              have f1 := hown.frozenAt (i + 1)
              obtain ⟨xa, hxa⟩ : ∃ xa, xa = ((ds ++ [45])).getD k 0 := ⟨_, rfl⟩
              obtain ⟨xb, hxb⟩ : ∃ xb, xb = ((ds ++ [45])).getD (i + 1) 0 := ⟨_, rfl⟩
              have d0 : wr.cell? ⟨q, k, none⟩ = some (.int .u8 xa.toNat) := by
                rw [hown.cellAt k (by omega), Lib.byteCells, List.getElem?_map, revTo_at _ _ (by rw [← HND.out.2]; omega), if_neg (by rw [← HND.out.2]; omega), hxa]
                rfl
              have d1 : wr.cell? ⟨q, i + 1, none⟩ = some (.int .u8 xb.toNat) := by
                rw [hown.cellAt (i + 1) (by omega), Lib.byteCells, List.getElem?_map, revTo_at _ _ (by rw [← HND.out.2]; omega), if_neg (by rw [← HND.out.2]; omega), hxb]
                rfl
              have hst := ((hown.stored k (.int .u8 xb.toNat)).1.stored (i + 1) (.int .u8 xa.toNat)).1
              have hrv := revTo_step (ds ++ [45]) k (by rw [← HND.out.2]; omega)
              rw [← HND.out.2, show N - 1 - k = i + 1 from by omega, ← hxa, ← hxb] at hrv
              rw [show ((Lib.byteCells (revTo (ds ++ [45]) k)).set k (.int .u8 xb.toNat)).set (i + 1) (.int .u8 xa.toNat) = Lib.byteCells (revTo (ds ++ [45]) (k + 1)) from by rw [← hrv]; simp [Lib.byteCells, List.map_set]] at hst
              have hb2 := (hb.setCell (p := ⟨q, k, none⟩) (hown.lt q rfl).1 (.int .u8 xb.toNat)).setCell (p := ⟨q, i + 1, none⟩) (hown.lt q rfl).1 (.int .u8 xa.toNat)
              have HST := Lib.hid (And.intro hst hb2)
              clear hst hb2 hrv hxa hxb hown hb
              have hj1 : ((i + 1 : Nat) : Int) - 1 = (i : Int) := by omega
              have hki : ((k : Nat) : Int) < ((i + 1 : Nat) : Int) := by omega
              have hkN : ((k : Nat) : Int) < (N : Int) := by omega
              have hiN : ((i + 1 : Nat) : Int) < (N : Int) := by omega
              have hne : ¬ k = i + 1 := by omega
              have hne2 : ¬ i + 1 = k := by omega
              go_wp2_with fail
              exact ⟨⟨k + 1, i, by go_num, rfl, by omega, HST.out.1, HST.out.2⟩, by simp [intOf]⟩
            · have hlt2 : ¬ ((k : Nat) : Int) < ((j : Nat) : Int) := by omega
              have hre := revTo_end (ds ++ [45]) k (by rw [← HND.out.2]; omega)
              rw [hre] at hown
              have hrl : ((ds ++ [45])).reverse.length = N := by rw [List.length_reverse, ← HND.out.2]
              have hcv := conv_row (P := Tryz.prog) (l := ((ds ++ [45])).reverse) (by rw [hrl]; exact hown) Tryz.underlying99 Tryz.underlying5 Tryz.underlying9
              rw [hrl, HND.out.1] at hcv
              have HBE := Lib.hid hb
              clear hre hrl hown hb HND
              go_wp2_with fail
              go_ret
              exact ⟨rfl, HBE.out⟩
      · have hl20 : 0 < l2.length := by
          rcases Nat.eq_zero_or_pos l2.length with e | e
          · rw [List.eq_nil_of_length_eq_zero e] at k4
            exact absurd k4.symm hy
          · exact e
        have hl21 : (0 : Int) < ((l2.length : Nat) : Int) := by omega
        have hstep := restD_step hy
        rw [hstep] at hd hdl
        simp only [List.length_cons] at hdl
        obtain ⟨v2, hv2⟩ : ∃ v2, v2 = Value.slice A2 l2.length c2 := ⟨_, rfl⟩
        have HS := Lib.hid (small_any _ y 10 wr HNY.out (by decide) (by decide))
        obtain ⟨t, ht⟩ : ∃ t, t = y % 10 := ⟨_, rfl⟩
        rw [← ht] at hd
        have ht10 : t < 10 := by omega
        have HO := Lib.hid (And.intro hown (And.intro hb hd))
        have HS := Lib.hid (show Calls Tryz.prog 57 #[.slice A2 l2.length c2, .int .u32 10] wr (fun e w' => ∃ v', e = .returned (.tuple #[v', .int .u32 (t : Int)]) ∧ NW w' v' (y / 10) ∧ Below wr.heap.size wr w' ∧ v'.ownBlock = some wr.heap.size) from by rw [ht]; exact HS.out)
        have ht11 : ((t : Nat) : Int) < 10 := by omega
        clear k1 k2 k3 k4 k5 k6 hstep hown hb hd hv2 ht HNY
        go_wp2_with (go_at_call 57; refine HS.out.mono ?_)
        first | (rintro e w2 v3 rfl hn2 hb2 hf2) | (rintro e w2 ⟨v3, rfl, hn2, hb2, hf2⟩)
        have hown2 := owns_below HO.out.1 hb2
        have HN2 := Lib.hid (And.intro hn2 (And.intro hb2 hown2))
        have HF2 := Lib.hid hf2
        clear hf2
        have hbs2 := hb2.size
        clear hn2 hb2 hown2 HS
        go_wp2_with (at_builtin; refine wpList_pushN _ rfl (.tmp 36) (.tmp 40) _ rfl w.heap.size 5 Tryz.underlying99 infoB rfl (by decide) (by decide) _ _ (Lib.byteCells ds) rfl HN2.out.2.2 1 (by omega) _ rfl rfl ?_ (by omega) (by omega) ?_)
        · rfl
        intro A3 c3 w3 hown3 hg3
        have hown4 : w3.ownsRow w.heap.size 5 1 (.slice A3 (ds.length + 1) c3) (ds.length + 1) (Lib.byteCells (ds ++ [UInt8.ofNat (48 + t)])) := by
          rw [Lib.byteCells_append]
          have e : (Lib.byteCells [UInt8.ofNat (48 + t)]) = [Value.int .u8 (48 + (t : Int))] := by
            simp [Lib.byteCells, UInt8.toNat_ofNat]
            omega
          rw [e]
          exact hown3
        have hb3 : Below w.heap.size w w3 := (HO.out.2.1.trans (HN2.out.2.1.mono hbs)).grown hg3 (by omega) (ownBlock_ge HN2.out.2.2)
        have hn3 : NW w3 v3 (y / 10) := HN2.out.1.grown hg3 (fun k hk e => by
          rw [HF2.out] at hk
          injection hk with hk
          subst hk
          have := (HO.out.1.lt _ e).2
          omega)
        have hd3 : (ds ++ [UInt8.ofNat (48 + t)]) ++ restD (y / 10) = restD m := by rw [← HO.out.2.2]; simp
        have HX3 := Lib.hid (And.intro hown4 (And.intro hb3 (And.intro hn3 hd3)))
        refine wpList_at (fun w1 => w1.ownsRow w.heap.size 5 1 (.slice A3 (ds.length + 1) c3) (ds.length + 1) (Lib.byteCells (ds ++ [UInt8.ofNat (48 + t)])) ∧ Below w.heap.size w w1 ∧ NW w1 v3 (y / 10) ∧ (ds ++ [UInt8.ofNat (48 + t)]) ++ restD (y / 10) = restD m) HX3.out ?_
        clear hown3 hown4 hb3 hn3 hd3 HX3 hg3 HN2 HF2 HO
        intro w4 H4
        replace H4 := Lib.hid H4
        go_wp2_with fail
        go_roundw
        case rel => exact ⟨ds ++ [UInt8.ofNat (48 + t)], A3, c3, y / 10, by simp, H4.out.2.2.1, by simpa using H4.out.1, H4.out.2.1, H4.out.2.2.2⟩
        case measure => simp [slLen]; omega
end Go.Proofs.YtpeckpiidgkgoaaGreatDoor
/- commonbookbig: length, bit, TrailingZeroBits, IsInt64, Uint64, Int64, String: contracts. -/
namespace Go.Proofs.YtpeckpiidgkgoaaGreatDoor
open Go.RowKit
set_option linter.unusedVariables false
set_option linter.unusedSimpArgs false

/-- How many bits a number has. -/
def nb (t : Nat) : Nat := if t = 0 then 0 else Nat.log2 t + 1
theorem nb_zero : nb 0 = 0 := rfl
theorem nb_step {t : Nat} (h : t ≠ 0) : nb t = nb (t / 2) + 1 := by
  unfold nb
  rw [if_neg h]
  by_cases h2 : t / 2 = 0
  · rw [if_pos h2]
    have : t = 1 := by omega
    subst this
    decide
  · rw [if_neg h2]
    conv => lhs; rw [Nat.log2_def]
    rw [if_pos (by omega)]
theorem nb_lt {t k : Nat} : nb t ≤ k ↔ t < 2 ^ k := by
  unfold nb
  by_cases h : t = 0
  · rw [if_pos h, h]
    exact ⟨fun _ => Nat.two_pow_pos k, fun _ => Nat.zero_le _⟩
  · rw [if_neg h]
    rw [← Nat.log2_lt h]
    omega
/-- How many bits a row of words has. -/
def lenW (l : List Nat) : Nat := match l.getLast? with
  | none => 0
  | some y => (l.length - 1) * 32 + nb y
theorem lenW_nil : lenW [] = 0 := rfl
theorem lenW_snoc (l : List Nat) (y : Nat) : lenW (l ++ [y]) = l.length * 32 + nb y := by simp [lenW]
theorem length_cases (l : List Nat) (ht : trimW l = l) (hl : ∀ y ∈ l, y < 4294967296) : (lenW l < 64 ↔ valW l < 9223372036854775808) ∧ (lenW l = 64 → ∃ a b, l = [a, b] ∧ 2147483648 ≤ b) ∧ (lenW l ≤ 64 ∨ 18446744073709551616 ≤ valW l) := by
  rcases snoc_cases l with rfl | ⟨m, y, rfl⟩
  · exact ⟨by simp [lenW_nil, valW], fun h => by simp [lenW_nil] at h, .inl (by simp [lenW_nil])⟩
  · rw [lenW_snoc]
    have hy0 : y ≠ 0 := by
      intro e
      rw [trimW_snoc, if_pos e] at ht
      have h1 := trimW_len m
      rw [ht, List.length_append, List.length_singleton] at h1
      omega
    have hy1 : y < 4294967296 := hl y (by simp)
    have h1 : 1 ≤ nb y := by rw [nb_step hy0]; omega
    have h31 : nb y ≤ 31 ↔ y < 2147483648 := nb_lt (k := 31)
    have h32 : nb y ≤ 32 := (nb_lt (k := 32)).2 hy1
    match m, hl with
    | [], _ =>
      simp only [List.nil_append, valW, List.length_nil]
      exact ⟨by omega, (by intro h; omega), .inl (by omega)⟩
    | [a], hl =>
      have ha : a < 4294967296 := hl a (by simp)
      simp only [List.cons_append, List.nil_append, valW, List.length_cons, List.length_nil]
      exact ⟨by omega, fun h => ⟨a, y, rfl, by omega⟩, .inl (by omega)⟩
    | a :: b :: r, hl =>
      have hv : 18446744073709551616 ≤ valW ((a :: b :: r) ++ [y]) := by
        rw [valW_append]
        have hp : 0 < 4294967296 ^ r.length := Nat.pow_pos (by omega)
        have : 4294967296 ^ (a :: b :: r).length = 18446744073709551616 * 4294967296 ^ r.length := by
          simp only [List.length_cons, Nat.pow_succ]
          omega
        rw [this]
        simp only [valW]
        have h2 : 18446744073709551616 * 1 ≤ 18446744073709551616 * 4294967296 ^ r.length * (y + 4294967296 * 0) := by
          rw [Nat.mul_assoc]
          exact Nat.mul_le_mul_left _ (Nat.one_le_iff_ne_zero.2 (Nat.mul_ne_zero (by omega) (by omega)))
        omega
      simp only [List.length_cons]
      exact ⟨by omega, (by intro h; omega), .inr hv⟩

set_option maxRecDepth 100000 in
set_option maxHeartbeats 2000000 in
theorem length_any (A : Option Addr) (c : Nat) (l : List Nat) (w : World) (h1 : SlAt w A (u32s l)) (h2 : ∀ y ∈ l, y < 4294967296) (h3 : l.length ≤ 20000) :
    Calls Tryz.prog 35 #[.slice A l.length c] w fun e w' => e = .returned (.int .i64 (lenW l : Nat)) ∧ w' = w := by
  rcases snoc_cases l with rfl | ⟨m, y, rfl⟩
  · clear h1 h2 h3
    go_enter Tryz.func35, Tryz.ntmps35
    go_wp2_with fail
    go_ret
    exact ⟨rfl, rfl⟩
  · obtain ⟨b, off, rfl, hcell⟩ := h1.word_at (k := m.length) (x := y) (by simp)
    have hy1 : y < 4294967296 := h2 y (by simp)
    rw [lenW_snoc]
    have e : (m ++ [y]).length = m.length + 1 := by simp
    rw [e] at h3 ⊢
    obtain ⟨n, hn⟩ : ∃ n, n = m.length := ⟨_, rfl⟩
    rw [← hn] at hcell h3 ⊢
    have h32 : nb y ≤ 32 := (nb_lt (k := 32)).2 hy1
    have e1 : (((n + 1 : Nat) : Int) == 0) = false := by rw [beq_eq_false_iff_ne]; omega
    have e2 : ((n + 1 : Nat) : Int) - 1 = (n : Int) := by omega
    have e3 : ((n : Nat) : Int) < ((n + 1 : Nat) : Int) := by omega
    clear h1 h2 e hn
    go_enter Tryz.func35, Tryz.ntmps35
    go_wp2_with fail
    go_loopw [3, 4] (fun nv tv wr => ∃ k t : Nat, nv = .int .i64 k ∧ tv = .int .u32 t ∧ k + nb t = nb y ∧ t < 4294967296 ∧ wr = w) (fun _ tv _ => (intOf tv).toNat)
    case atStart => exact ⟨0, y, rfl, rfl, by omega, hy1, rfl⟩
    case round =>
      obtain ⟨k, t, rfl, rfl, hk, ht, rfl⟩ := hrel
      by_cases ht0 : t = 0
      · subst ht0
        rw [nb_zero] at hk
        have hk2 : k = nb y := by omega
        have HK := Lib.hid hk2
        have hk4 : k ≤ 32 := by omega
        clear hk hk2
        go_wp2_with fail
        go_ret
        exact ⟨by rw [show ((n * 32 + nb y : Nat) : Int) = (n : Int) * 32 + (k : Int) from by rw [← HK.out]; omega]; rfl, rfl⟩
      · have hst := nb_step ht0
        have hk3 : (k + 1) + nb (t / 2) = nb y := by omega
        have HK := Lib.hid hk3
        have hk4 : k ≤ 32 := by omega
        have ht1 : (((t : Nat) : Int) == 0) = false := by rw [beq_eq_false_iff_ne]; omega
        clear hk hst hk3
        go_wp2_with fail
        go_roundw
        case rel => exact ⟨k + 1, t / 2, by go_num, by go_num, HK.out, by omega, trivial⟩
        case measure => simp only [intOf]; omega
theorem and_one64 (z : Nat) (h : z < 18446744073709551616) : bits .and .u64 (z : Int) 1 = ((z % 2 : Nat) : Int) := by
  have := u64_and_nat z 1 h (by omega)
  rw [Nat.and_one_is_mod] at this
  exact this
set_option maxRecDepth 100000 in
set_option maxHeartbeats 2000000 in
theorem bit_any (A : Option Addr) (c : Nat) (l : List Nat) (k y : Nat) (w : World) (h1 : SlAt w A (u32s l)) (h3 : l.length ≤ 20000) (hk : k < 1000000) (hy : l[k / 32]? = some y) (hy1 : y < 4294967296) :
    Calls Tryz.prog 55 #[.slice A l.length c, .int .i64 k] w fun e w' => e = .returned (.int .u64 ((y / 2 ^ (k % 32) % 2 : Nat) : Int)) ∧ w' = w := by
  obtain ⟨b, off, rfl, hcell⟩ := h1.word_at hy
  have hkl := (List.getElem?_eq_some_iff.1 hy).1
  obtain ⟨q, hq⟩ : ∃ q, k / 32 = q := ⟨_, rfl⟩
  obtain ⟨n, hn⟩ : ∃ n, n = l.length := ⟨_, rfl⟩
  rw [hq] at hcell hkl
  rw [← hn] at hkl h3 ⊢
  have e1 : ((k : Nat) : Int) / 32 = (q : Int) := by omega
  have e1' : ((k : Nat) : Int).tdiv 32 = (q : Int) := by rw [Int.tdiv_eq_ediv_of_nonneg (by omega)]; exact e1
  have e2 : ((q : Nat) : Int) < (n : Int) := by omega
  have e3 : (0 : Int) ≤ (k : Int) := by omega
  have e4 : ¬ ((n : Nat) : Int) ≤ (q : Int) := by omega
  have e4' : ¬ n ≤ q := by omega
  obtain ⟨z, hz⟩ : ∃ z, y / 2 ^ (k % 32) = z := ⟨_, rfl⟩
  have hz2 : z < 18446744073709551616 := by
    have := Nat.div_le_self y (2 ^ (k % 32))
    omega
  have e5 : ((y : Nat) : Int) / 2 ^ (k % 32) = (z : Int) := by
    rw [← hz]
    simp
  have e6 := wrap_u64 z hz2
  have e7 := and_one64 z hz2
  rw [hz]
  clear h1 hq hn hy hz hz2
  go_enter Tryz.func55, Tryz.ntmps55
  go_wp2_with fail
  go_ret
  exact ⟨rfl, rfl⟩
/-- What TrailingZeroBits answers, of two words of which the greater one is great. -/
def TzQ (M : Nat) (w : World) (e : Ending) (w' : World) : Prop := ∃ t : Nat, e = .returned (.int .u64 t) ∧ (t = 63 ↔ M = 9223372036854775808) ∧ w' = w
theorem two_bit {a b k y : Nat} (ha : a < 4294967296) (hk : k ≤ 63) (hy : [a, b][k / 32]? = some y) : y / 2 ^ (k % 32) % 2 = (a + 4294967296 * b) / 2 ^ k % 2 := by
  by_cases h : k < 32
  · rw [show k / 32 = 0 from by omega] at hy
    simp at hy
    subst hy
    rw [show k % 32 = k from by omega]
    have e : 4294967296 * b = 2 ^ k * (2 * (2 ^ (31 - k) * b)) := by
      have : 2 ^ k * (2 * 2 ^ (31 - k)) = 4294967296 := by
        rw [← Nat.pow_succ', ← Nat.pow_add, show k + (31 - k + 1) = 32 from by omega]
      rw [← this]
      simp only [Nat.mul_assoc]
    rw [e, Nat.add_mul_div_left _ _ (Nat.two_pow_pos k)]
    omega
  · rw [show k / 32 = 1 from by omega] at hy
    simp at hy
    subst hy
    have e : 2 ^ k = 4294967296 * 2 ^ (k % 32) := by
      rw [show (4294967296 : Nat) = 2 ^ 32 from rfl, ← Nat.pow_add]
      congr 1
      omega
    rw [e, ← Nat.div_div_eq_div_mul, show (a + 4294967296 * b) / 4294967296 = b from by omega]
theorem tz_end {M k : Nat} (h0 : 9223372036854775808 ≤ M) (h1 : M < 18446744073709551616) (hk : k ≤ 63) (hm : M % 2 ^ k = 0) (hb : M / 2 ^ k % 2 = 1) : k = 63 ↔ M = 9223372036854775808 := by
  constructor
  · intro h
    subst h
    rw [show (2 : Nat) ^ 63 = 9223372036854775808 from rfl] at hm
    omega
  · intro h
    refine Classical.byContradiction fun hk2 => ?_
    have e : M = 2 ^ k * (2 * 2 ^ (62 - k)) := by
      rw [h, ← Nat.pow_succ', ← Nat.pow_add, show k + (62 - k + 1) = 63 from by omega]
    rw [e, Nat.mul_div_cancel_left _ (Nat.two_pow_pos k)] at hb
    omega
theorem tz_step {M k : Nat} (h0 : 9223372036854775808 ≤ M) (h1 : M < 18446744073709551616) (hk : k ≤ 63) (hm : M % 2 ^ k = 0) (hb : M / 2 ^ k % 2 = 0) : k + 1 ≤ 63 ∧ M % 2 ^ (k + 1) = 0 := by
  constructor
  · refine Classical.byContradiction fun hk2 => ?_
    have : k = 63 := by omega
    subst this
    rw [show (2 : Nat) ^ 63 = 9223372036854775808 from rfl] at hb
    omega
  · rw [Nat.mod_pow_succ, hm, hb]
    rfl
set_option maxRecDepth 100000 in
set_option maxHeartbeats 2000000 in
theorem tz_any (g : Nat) (neg : Bool) (A : Option Addr) (c a b : Nat) (w : World) (hB : Blk w g 59 #[.bool neg, .slice A 2 c]) (h1 : SlAt w A (u32s [a, b])) (ha : a < 4294967296) (hb : b < 4294967296) (hb2 : 2147483648 ≤ b) :
    Calls Tryz.prog 36 #[.pointer (some ⟨g, 0, none⟩)] w (TzQ (a + 4294967296 * b) w) := by
  have c0 : w.cell? ⟨g, 0, none⟩ = some (.bool neg) := hB.cell 0
  have c1 : w.cell? ⟨g, 1, none⟩ = some (.slice A 2 c) := hB.cell 1
  have hM0 : 9223372036854775808 ≤ a + 4294967296 * b := by omega
  have hM1 : a + 4294967296 * b < 18446744073709551616 := by omega
  have H := Lib.hid (And.intro h1 (And.intro ha (And.intro hb (And.intro hM0 hM1))))
  clear hB h1 ha hb hb2 hM0 hM1
  go_enter Tryz.func36, Tryz.ntmps36
  go_wp2_with fail
  go_loopw [3] (fun nv wr => ∃ k : Nat, nv = .int .u64 k ∧ k ≤ 63 ∧ (a + 4294967296 * b) % 2 ^ k = 0 ∧ wr = w) (fun nv _ => 64 - (intOf nv).toNat)
  case atStart => exact ⟨0, rfl, by omega, Nat.mod_one _, rfl⟩
  case round =>
    obtain ⟨k, rfl, hk, hm, rfl⟩ := hrel
    obtain ⟨y, hy⟩ : ∃ y, [a, b][k / 32]? = some y := by
      refine ⟨[a, b][k / 32]'?_, List.getElem?_eq_getElem _⟩
      show k / 32 < 2
      omega
    have hy1 : y < 4294967296 := by
      have := List.mem_of_getElem? hy
      simp only [List.mem_cons, List.not_mem_nil, or_false] at this
      rcases this with rfl | rfl
      · exact H.out.2.1
      · exact H.out.2.2.1
    have hbit := two_bit H.out.2.1 hk hy
    have HT := Lib.hid (bit_any A c [a, b] k y wr H.out.1 (by simp) (by omega) hy hy1)
    by_cases hz : (a + 4294967296 * b) / 2 ^ k % 2 = 0
    · have hs := tz_step H.out.2.2.2.1 H.out.2.2.2.2 hk hm hz
      have HS := Lib.hid hs
      have HT := Lib.hid (show Calls Tryz.prog 55 #[.slice A 2 c, .int .i64 k] wr (fun e w' => e = .returned (.int .u64 0) ∧ w' = wr) from by
        have := HT.out
        rw [hbit, hz] at this
        exact this)
      clear hs hz hbit hm hy hy1
      go_wp2_with (go_at_call 55; (with_reducible refine HT.out.mono ?_); rintro e w2 ⟨rfl, rfl⟩)
      go_roundw
      case rel => exact ⟨k + 1, by go_num, HS.out.1, HS.out.2, trivial⟩
      case measure => simp only [intOf]; omega
    · have hz1 : (a + 4294967296 * b) / 2 ^ k % 2 = 1 := by omega
      have HE := Lib.hid (tz_end H.out.2.2.2.1 H.out.2.2.2.2 hk hm hz1)
      have HT := Lib.hid (show Calls Tryz.prog 55 #[.slice A 2 c, .int .i64 k] wr (fun e w' => e = .returned (.int .u64 1) ∧ w' = wr) from by
        have := HT.out
        rw [hbit, hz1] at this
        exact this)
      clear hz hz1 hbit hm hy hy1
      go_wp2_with (go_at_call 55; (with_reducible refine HT.out.mono ?_); rintro e w2 ⟨rfl, rfl⟩)
      go_ret
      exact ⟨k, rfl, HE.out, rfl⟩
/-- Does it fit? -/
def fitsB (x : Int) : Bool := decide (-9223372036854775808 ≤ x) && decide (x ≤ 9223372036854775807)
theorem fitsB_iff (x : Int) : fitsB x = true ↔ I64 x := by
  unfold fitsB I64
  simp only [Bool.and_eq_true, decide_eq_true_eq]
set_option maxRecDepth 100000 in
set_option maxHeartbeats 2000000 in
theorem isint64_any (g : Nat) (x : Int) (w : World) (h : IsI w g x) :
    Calls Tryz.prog 18 #[.pointer (some ⟨g, 0, none⟩)] w fun e w' => e = .returned (.bool (fitsB x)) ∧ w' = w := by
  obtain ⟨neg, v, m, hB, hN, hx, hne⟩ := h
  have c0 : w.cell? ⟨g, 0, none⟩ = some (.bool neg) := hB.cell 0
  have c1 : w.cell? ⟨g, 1, none⟩ = some v := hB.cell 1
  obtain ⟨A, c, l, rfl, h1, h2, h3, h4, h5, h6⟩ := hN
  obtain ⟨q1, q2, q3⟩ := length_cases l h3 h2
  rw [h4] at q1 q3
  have HL := Lib.hid (length_any A c l w h1 h2 h6)
  obtain ⟨n, hn⟩ : ∃ n, n = lenW l := ⟨_, rfl⟩
  rw [← hn] at HL q1 q2 q3
  by_cases k1 : n < 64
  · have hm := q1.1 k1
    have hf : fitsB x = true := by
      rw [fitsB_iff, hx]
      unfold I64
      split <;> omega
    have HF := Lib.hid hf
    have k1i : (n : Int) < 64 := by omega
    clear q1 q2 q3 hf hx hne hn hm h1 h2 h3 h4 h5 h6 hB
    rw [HF.out]
    go_enter Tryz.func18, Tryz.ntmps18
    go_wp2_with (go_at_call 35; (with_reducible refine HL.out.mono ?_); rintro e w2 ⟨rfl, rfl⟩)
    go_ret
    exact ⟨rfl, rfl⟩
  have hm : ¬ m < 9223372036854775808 := fun h => k1 (q1.2 h)
  have k1i : ¬ (n : Int) < 64 := by omega
  by_cases k2 : n = 64
  · obtain ⟨a, b, rfl, hb2⟩ := q2 k2
    have k2i : ((n : Int) == 64) = true := by rw [beq_iff_eq]; omega
    have ha := h2 a (by simp)
    have hb := h2 b (by simp)
    have hm2 : m = a + 4294967296 * b := by rw [← h4]; simp [valW]
    replace HL := Lib.hid (show Calls Tryz.prog 35 #[.slice A 2 c] w (fun e w' => e = .returned (.int .i64 64) ∧ w' = w) from by
      have := HL.out
      rw [k2] at this
      exact this)
    replace c1 : w.cell? ⟨g, 1, none⟩ = some (.slice A 2 c) := c1
    have HT := Lib.hid (tz_any g neg A c a b w hB h1 ha hb hb2)
    rw [← hm2] at HT
    have HM := Lib.hid hm
    clear q1 q2 q3 hn h1 h2 h3 h4 h5 h6 hB k1 k1i k2i ha hb hb2 hm2 hm k2 n
    cases neg with
    | false =>
      have hf : fitsB x = false := by
        cases hc : fitsB x with
        | false => rfl
        | true =>
          rw [fitsB_iff, hx] at hc
          have := HM.out
          unfold I64 at hc
          simp at hc
          omega
      have HF := Lib.hid hf
      clear hf hx hne
      rw [HF.out]
      go_enter Tryz.func18, Tryz.ntmps18
      go_wp2_with (go_at_call 35; (with_reducible refine HL.out.mono ?_); rintro e w2 ⟨rfl, rfl⟩)
      go_ret
      exact ⟨rfl, rfl⟩
    | true =>
      have hf : fitsB x = decide (m = 9223372036854775808) := by
        rw [Bool.eq_iff_iff, fitsB_iff, hx, decide_eq_true_eq]
        have := HM.out
        unfold I64
        simp
        omega
      have HF := Lib.hid hf
      clear hf hx hne
      rw [HF.out]
      go_enter Tryz.func18, Tryz.ntmps18
      go_wp2_with (first
        | (go_at_call 35; (with_reducible refine HL.out.mono ?_); rintro e w2 ⟨rfl, rfl⟩)
        | (go_at_call 36; (with_reducible refine HT.out.mono ?_); rintro e w2 ⟨t, rfl, ht, rfl⟩; have HTT := Lib.hid ht; clear ht))
      go_ret
      refine ⟨?_, rfl⟩
      have e : ((t : Int) == 63) = decide (m = 9223372036854775808) := by
        rw [Bool.eq_iff_iff, decide_eq_true_eq, ← HTT.out, beq_iff_eq]
        omega
      rw [← e]
      rfl
  · have hf : fitsB x = false := by
      cases hc : fitsB x with
      | false => rfl
      | true =>
        exfalso
        rw [fitsB_iff, hx] at hc
        unfold I64 at hc
        split at hc <;> omega
    have k2i : ((n : Int) == 64) = false := by rw [beq_eq_false_iff_ne]; omega
    have k3i : decide ((n : Int) < 64) = false := decide_eq_false k1i
    have HF := Lib.hid hf
    clear q1 q2 q3 hf hx hne hn hm h1 h2 h3 h4 h5 h6 hB k1 k2
    rw [HF.out]
    go_enter Tryz.func18, Tryz.ntmps18
    go_wp2_with (go_at_call 35; (with_reducible refine HL.out.mono ?_); rintro e w2 ⟨rfl, rfl⟩)
    go_ret
    exact ⟨rfl, rfl⟩
set_option maxRecDepth 100000 in
set_option maxHeartbeats 2000000 in
theorem uint64_any (g : Nat) (neg : Bool) (v : Value) (m : Nat) (w : World) (hB : Blk w g 59 #[.bool neg, v]) (hN : NW w v m) (hm : m < 18446744073709551616) :
    Calls Tryz.prog 38 #[.pointer (some ⟨g, 0, none⟩)] w fun e w' => e = .returned (.int .u64 (m : Nat)) ∧ w' = w := by
  have c0 : w.cell? ⟨g, 0, none⟩ = some (.bool neg) := hB.cell 0
  have c1 : w.cell? ⟨g, 1, none⟩ = some v := hB.cell 1
  obtain ⟨A, c, l, rfl, h1, h2, h3, h4, h5, h6⟩ := hN
  have hl : l.length ≤ 2 := trimW_le h3 (k := 2) (by rw [h4]; exact hm)
  match l, hl with
  | [], _ =>
    simp only [valW] at h4
    subst h4
    clear h1 h2 h3 h5 h6 hB
    go_enter Tryz.func38, Tryz.ntmps38
    go_wp2_with fail
    go_ret
    exact ⟨rfl, rfl⟩
  | [a], _ =>
    obtain ⟨b, off, rfl, hcell⟩ := h1.word_at (k := 0) (x := a) rfl
    rw [Nat.add_zero] at hcell
    replace c1 : w.cell? ⟨g, 1, none⟩ = some (.slice (some ⟨b, off, none⟩) 1 c) := c1
    have ha := h2 a (by simp)
    have h4' : a = m := by simpa [valW] using h4
    subst h4'
    clear h1 h2 h3 h4 h5 h6 hB
    go_enter Tryz.func38, Tryz.ntmps38
    go_wp2_with fail
    go_ret
    exact ⟨rfl, rfl⟩
  | [a, d], _ =>
    obtain ⟨b, off, rfl, hcell⟩ := h1.word_at (k := 0) (x := a) rfl
    have hcell1 : w.cell? ⟨b, off + 1, none⟩ = some (.int .u32 d) := by
      obtain ⟨b', off', hA', hc'⟩ := h1.word_at (k := 1) (x := d) rfl
      injection hA' with hA'
      injection hA' with e1 e2
      subst e1 e2
      exact hc'
    rw [Nat.add_zero] at hcell
    replace c1 : w.cell? ⟨g, 1, none⟩ = some (.slice (some ⟨b, off, none⟩) 2 c) := c1
    have ha := h2 a (by simp)
    have hd := h2 d (by simp)
    have h4' : d * 4294967296 + a = m := by
      rw [← h4]
      simp only [valW]
      omega
    have hor : bits .or .u64 (a : Int) ((d : Int) * 4294967296) = (m : Int) := by
      have e1 := or_word d a hd ha
      rw [h4'] at e1
      rw [← e1, show ((d : Int) * 4294967296) = ((d * 4294967296 : Nat) : Int) from by omega, u64_or_nat _ _ (by omega) (by omega), u64_or_nat _ _ (by omega) (by omega), Nat.or_comm]
    clear h1 h2 h3 h4 h5 h6 hB h4'
    go_enter Tryz.func38, Tryz.ntmps38
    go_wp2_with fail
    go_ret
    exact ⟨rfl, rfl⟩
set_option maxRecDepth 100000 in
set_option maxHeartbeats 2000000 in
theorem int64_any (g : Nat) (x : Int) (w : World) (h : IsI w g x) (hx : I64 x) :
    Calls Tryz.prog 20 #[.pointer (some ⟨g, 0, none⟩)] w fun e w' => e = .returned (.int .i64 x) ∧ w' = w := by
  obtain ⟨neg, v, m, hB, hN, hxx, hne⟩ := h
  have hm : m ≤ 9223372036854775808 := by
    unfold I64 at hx
    rw [hxx] at hx
    split at hx <;> omega
  have HU := Lib.hid (uint64_any g neg v m w hB hN (by omega))
  have c0 : w.cell? ⟨g, 0, none⟩ = some (.bool neg) := hB.cell 0
  have c1 : w.cell? ⟨g, 1, none⟩ = some v := hB.cell 1
  have HX := Lib.hid (And.intro hxx hx)
  clear hB hN hxx hne hx
  cases neg with
  | false =>
    go_enter Tryz.func20, Tryz.ntmps20
    go_wp2_with (go_at_call 38; (with_reducible refine HU.out.mono ?_); rintro e w2 ⟨rfl, rfl⟩)
    go_ret
    refine ⟨?_, rfl⟩
    have h1 := HX.out.1
    have h2 := HX.out.2
    rw [if_neg (by simp)] at h1
    unfold I64 at h2
    have e : wrap64 (m : Int) = x := by
      rw [h1]
      simp [wrap64]
      omega
    rw [← e]
    rfl
  | true =>
    go_enter Tryz.func20, Tryz.ntmps20
    go_wp2_with (go_at_call 38; (with_reducible refine HU.out.mono ?_); rintro e w2 ⟨rfl, rfl⟩)
    go_ret
    refine ⟨?_, rfl⟩
    have h1 := HX.out.1
    have h2 := HX.out.2
    rw [if_pos trivial] at h1
    unfold I64 at h2
    have e : wrap64 (-wrap64 (m : Int)) = x := by
      rw [h1]
      simp [wrap64]
      omega
    rw [← e]
    rfl
set_option maxRecDepth 100000 in
set_option maxHeartbeats 2000000 in
theorem string_any (g : Nat) (x : Int) (w : World) (h : IsI w g x) (hx1 : -18446744073709551616 < x) (hx2 : x < 18446744073709551616) :
    Calls Tryz.prog 19 #[.pointer (some ⟨g, 0, none⟩)] w fun e w' => e = .returned (.string ⟨(Lib.itoa x).toArray⟩) ∧ Below w.heap.size w w' := by
  have HT := Lib.hid (text_any g x w h hx1 hx2)
  clear h hx1 hx2
  go_enter Tryz.func19, Tryz.ntmps19
  go_wp2_with (go_at_call 37; (with_reducible refine HT.out.mono ?_); rintro e w2 ⟨rfl, hb⟩; have HB := Lib.hid hb; clear hb)
  go_ret
  exact ⟨rfl, HB.out⟩
end Go.Proofs.YtpeckpiidgkgoaaGreatDoor
