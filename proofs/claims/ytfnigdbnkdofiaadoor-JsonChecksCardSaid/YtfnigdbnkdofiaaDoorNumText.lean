/- commonbookbig.Text in base ten, String, bookref1.Digits: contracts. -/
import Derived.Test.YtfnigdbnkdofiaaDoorNumInt
import Derived.Test.YtfnigdbnkdofiaaDoorIdPlain
import Derived.Outline
namespace Go.Proofs.YtfnigdbnkdofiaaDoor
open Go.RowKit
set_option linter.unusedVariables false
set_option linter.unusedSimpArgs false

/-- A row of which i bytes of either end stand turned round. -/
def revTo (D : List UInt8) (i : Nat) : List UInt8 := (List.range D.length).map fun k => if k < i ∨ D.length ≤ k + i then D.getD (D.length - 1 - k) 0 else D.getD k 0
theorem revTo_len (D : List UInt8) (i : Nat) : (revTo D i).length = D.length := by simp [revTo]
theorem revTo_at (D : List UInt8) (i : Nat) {k : Nat} (h : k < D.length) : (revTo D i)[k]? = some (if k < i ∨ D.length ≤ k + i then D.getD (D.length - 1 - k) 0 else D.getD k 0) := by
  simp [revTo, h]
theorem revTo_zero (D : List UInt8) : revTo D 0 = D := by
  apply List.ext_getElem?
  intro k
  by_cases h : k < D.length
  · rw [revTo_at D 0 h, if_neg (by omega)]
    simp [List.getD, List.getElem?_eq_getElem h]
  · rw [List.getElem?_eq_none (by rw [revTo_len]; omega), List.getElem?_eq_none (by omega)]
theorem revTo_step (D : List UInt8) (i : Nat) (h : 2 * i + 1 < D.length) : ((revTo D i).set i (D.getD (D.length - 1 - i) 0)).set (D.length - 1 - i) (D.getD i 0) = revTo D (i + 1) := by
  apply List.ext_getElem?
  intro k
  by_cases hk : k < D.length
  · rw [revTo_at D (i + 1) hk]
    by_cases h1 : k = D.length - 1 - i
    · subst h1
      rw [List.getElem?_set_self (by simp [revTo_len]; omega), if_pos (by omega)]
      congr 2
      omega
    · rw [List.getElem?_set_ne (by omega)]
      by_cases h2 : k = i
      · subst h2
        rw [List.getElem?_set_self (by rw [revTo_len]; omega), if_pos (by omega)]
      · rw [List.getElem?_set_ne (by omega), revTo_at D i hk]
        by_cases h3 : k < i ∨ D.length ≤ k + i
        · rw [if_pos h3, if_pos (by omega)]
        · rw [if_neg h3, if_neg (by omega)]
  · rw [List.getElem?_eq_none (by simp [revTo_len]; omega), List.getElem?_eq_none (by rw [revTo_len]; omega)]
theorem revTo_end (D : List UInt8) (i : Nat) (h : D.length ≤ 2 * i + 1) : revTo D i = D.reverse := by
  apply List.ext_getElem?
  intro k
  by_cases hk : k < D.length
  · rw [revTo_at D i hk, List.getElem?_reverse hk]
    by_cases h3 : k < i ∨ D.length ≤ k + i
    · rw [if_pos h3]
      simp [List.getD, List.getElem?_eq_getElem (show D.length - 1 - k < D.length by omega)]
    · rw [if_neg h3, show D.length - 1 - k = k from by omega]
      simp [List.getD, List.getElem?_eq_getElem hk]
  · rw [List.getElem?_eq_none (by rw [revTo_len]; omega), List.getElem?_eq_none (by simp; omega)]
theorem owns_at {w : World} {base : Nat} {e : TypeId} {size n c : Nat} {A : Option Addr} {xs : List Value} (h : w.ownsRow base e size (.slice A n c) n xs) (hn : 0 < n) : ∃ q, A = some ⟨q, 0, none⟩ := by
  rcases h.2 with ⟨_, h0⟩ | ⟨g, cap, cur, hv, _⟩
  · omega
  · injection hv with hA _ _
    exact ⟨g, hA⟩
def slLen (v : Value) : Nat := match v with | .slice _ n _ => n | _ => 0
theorem restD_len (m : Nat) (h : m < 18446744073709551616) : (restD m).length ≤ 20 := by
  unfold restD
  split
  · simp
  · rw [List.length_reverse]
    exact dd_len 19 m (by omega)

set_option maxRecDepth 100000 in
set_option maxHeartbeats 4000000 in
theorem text_any (g : Nat) (x : Int) (w : World) (h : IsI w g x) (hx1 : -18446744073709551616 < x) (hx2 : x < 18446744073709551616) :
    Calls Tryd.prog 85 #[.pointer (some ⟨g, 0, none⟩), .int .i64 10] w fun e w' => e = .returned (.string ⟨(Lib.itoa x).toArray⟩) ∧ Below w.heap.size w w' := by
  have hglt := h.lt
  obtain ⟨neg, v, m, hB, hN, hx, hne⟩ := h
  have hm : m < 18446744073709551616 := by
    rw [hx] at hx1 hx2
    split at hx1 <;> simp_all <;> omega
  have HB := Lib.hid hB
  have HN := Lib.hid hN
  have c0 : w.cell? ⟨g, 0, none⟩ = some (.bool neg) := hB.cell 0
  have c1 : w.cell? ⟨g, 1, none⟩ = some v := hB.cell 1
  obtain ⟨A, c, l, rfl, h1, h2, h3, h4, h5, h6⟩ := hN
  by_cases hm0 : m = 0
  · have hl : l = [] := trimW_zero h3 (by rw [h4]; exact hm0)
    subst hl
    have hn0 : neg = false := by cases neg with | false => rfl | true => exact absurd hm0 (hne rfl)
    have hxx : x = 0 := by rw [hx, hn0, hm0]; rfl
    have HX := Lib.hid hxx
    clear h1 h2 h3 h4 h5 h6 hB hx hne hx1 hx2 hxx
    go_enter Tryd.func85, Tryd.ntmps85
    go_wp2_with fail
    go_ret
    refine ⟨?_, Below.refl _ _⟩
    rw [HX.out, show Lib.itoa 0 = [48] from by rw [Lib.itoa, if_neg (by decide)]; exact dd_small (u := 0) (by omega)]
    rfl
  · have hl0 : l.length ≠ 0 := by
      intro e
      rw [List.eq_nil_of_length_eq_zero e] at h4
      exact hm0 h4.symm
    have hl1 : (((l.length : Nat) : Int) == 0) = false := by rw [beq_eq_false_iff_ne]; omega
    have HX := Lib.hid (And.intro hx hne)
    obtain ⟨v, hv⟩ : ∃ v, v = Value.slice A l.length c := ⟨_, rfl⟩
    have HT := Lib.hid (twin_any _ m w HN.out)
    clear h1 h2 h3 h4 h5 h6 hB hx hne hx1 hx2 hl0 hv
    go_enter Tryd.func85, Tryd.ntmps85
    go_wp2_with (go_at_call 89; refine HT.out.mono ?_; rintro e w1 ⟨v1, rfl, hw1, hb1⟩; have HW1 := Lib.hid (And.intro hw1 hb1); clear hw1 hb1)
    go_loopw [5, 6] (fun b a wr => ∃ (ds : List UInt8) (Ab : Option Addr) (cb y : Nat), b = .slice Ab ds.length cb ∧ NW wr a y ∧ wr.ownsRow w.heap.size 5 1 (.slice Ab ds.length cb) ds.length (Lib.byteCells ds) ∧ Below w.heap.size w wr ∧ ds ++ restD y = restD m)
      (fun b _ _ => 30 - slLen b)
    case atStart => exact ⟨[], none, 0, m, rfl, HW1.out.1, World.ownsRow_nil _ _ _ _, HW1.out.2, rfl⟩
    case round =>
      clear HW1 HT
      obtain ⟨ds, Ab, cb, y, rfl, hN, hown, hb, hd⟩ := hrel
      have hdl := restD_len m hm
      rw [← hd, List.length_append] at hdl
      have hbs := hb.size
      have HNY := Lib.hid hN
      obtain ⟨A2, c2, l2, rfl, k1, k2, k3, k4, k5, k6⟩ := hN
      by_cases hy : y = 0
      · have hl2 : l2 = [] := trimW_zero k3 (by rw [k4]; exact hy)
        subst hl2
        rw [hy, restD_zero, List.append_nil] at hd
        have g0 : wr.cell? ⟨g, 0, none⟩ = some (.bool neg) := (HB.out.below hb hglt).cell 0
        have hds0 : ds ≠ [] := by
          intro e
          rw [e] at hd
          unfold restD at hd
          rw [if_neg hm0] at hd
          have := dd_ne m
          simp at hd
          exact this hd
        cases neg with
        | false =>
          obtain ⟨q, rfl⟩ : ∃ q, Ab = some ⟨q, 0, none⟩ := owns_at hown (List.length_pos_iff.2 hds0)
          obtain ⟨N, hN⟩ : ∃ N, N = ds.length := ⟨_, rfl⟩
          have hN1 : 1 ≤ N := by rw [hN]; exact List.length_pos_iff.2 hds0
          have hN2 : N ≤ 30 := by omega
          have hrow : wr.ownsRow w.heap.size 5 1 (.slice (some ⟨q, 0, none⟩) N cb) N (Lib.byteCells (revTo ds 0)) := by rw [revTo_zero, hN]; exact hown
          have hfin : ds.reverse = Lib.itoa x := by
            rw [HX.out.1, hd]
            unfold restD
            rw [if_neg hm0, List.reverse_reverse]
            simp [Lib.itoa_nonneg]
          have HD := Lib.hid (And.intro hrow (And.intro hb (And.intro hfin hN)))
          rw [← hN]
          clear hrow hb hfin hN hown hd hds0 hdl HB HN HX HNY
          go_wp2_with fail
          go_loopw [8, 9] (fun a b wi => ∃ k j : Nat, a = .int .i64 k ∧ b = .int .i64 j ∧ k + j + 1 = N ∧ wi.ownsRow w.heap.size 5 1 (.slice (some ⟨q, 0, none⟩) N cb) N (Lib.byteCells (revTo ds k)) ∧ Below w.heap.size w wi) (fun _ b _ => (intOf b).toNat)
          case atStart => exact ⟨0, N - 1, rfl, by go_num, by omega, HD.out.1, HD.out.2.1⟩
          case round =>
            obtain ⟨k, j, rfl, rfl, hkj, hown, hb⟩ := hrel
            have HND := Lib.hid HD.out.2.2
            clear HD
            by_cases hlt : k < j
            · obtain ⟨i, rfl⟩ : ∃ i, j = i + 1 := ⟨j - 1, by omega⟩
              have f0 := hown.frozenAt k
              have f1 := hown.frozenAt (i + 1)
              obtain ⟨xa, hxa⟩ : ∃ xa, xa = (ds).getD k 0 := ⟨_, rfl⟩
              obtain ⟨xb, hxb⟩ : ∃ xb, xb = (ds).getD (i + 1) 0 := ⟨_, rfl⟩
              have d0 : wr.cell? ⟨q, k, none⟩ = some (.int .u8 xa.toNat) := by
                rw [hown.cellAt k (by omega), Lib.byteCells, List.getElem?_map, revTo_at _ _ (by rw [← HND.out.2]; omega), if_neg (by rw [← HND.out.2]; omega), hxa]
                rfl
              have d1 : wr.cell? ⟨q, i + 1, none⟩ = some (.int .u8 xb.toNat) := by
                rw [hown.cellAt (i + 1) (by omega), Lib.byteCells, List.getElem?_map, revTo_at _ _ (by rw [← HND.out.2]; omega), if_neg (by rw [← HND.out.2]; omega), hxb]
                rfl
              have hst := ((hown.stored k (.int .u8 xb.toNat)).1.stored (i + 1) (.int .u8 xa.toNat)).1
              have hrv := revTo_step ds k (by rw [← HND.out.2]; omega)
              rw [← HND.out.2, show N - 1 - k = i + 1 from by omega, ← hxa, ← hxb] at hrv
              rw [show ((Lib.byteCells (revTo ds k)).set k (.int .u8 xb.toNat)).set (i + 1) (.int .u8 xa.toNat) = Lib.byteCells (revTo ds (k + 1)) from by rw [← hrv]; simp [Lib.byteCells, List.map_set]] at hst
              have hb2 := (hb.setCell (p := ⟨q, k, none⟩) (hown.lt q rfl).1 (.int .u8 xb.toNat)).setCell (p := ⟨q, i + 1, none⟩) (hown.lt q rfl).1 (.int .u8 xa.toNat)
              have HST := Lib.hid (And.intro hst hb2)
              clear hst hb2 hrv hxa hxb hown hb
              have hj1 : ((i + 1 : Nat) : Int) - 1 = (i : Int) := by omega
              have hki : ((k : Nat) : Int) < ((i + 1 : Nat) : Int) := by omega
              have hkN : ((k : Nat) : Int) < (N : Int) := by omega
              have hiN : ((i + 1 : Nat) : Int) < (N : Int) := by omega
              have hne : ¬ k = i + 1 := by omega
              have hne2 : ¬ i + 1 = k := by omega
              go_wp2_with fail
              exact ⟨⟨k + 1, i, by go_num, rfl, by omega, HST.out.1, HST.out.2⟩, by simp [intOf]⟩
            · have hlt2 : ¬ ((k : Nat) : Int) < ((j : Nat) : Int) := by omega
              have hre := revTo_end ds k (by rw [← HND.out.2]; omega)
              rw [hre] at hown
              have hrl : (ds).reverse.length = N := by rw [List.length_reverse, ← HND.out.2]
              have hcv := conv_row (P := Tryd.prog) (l := (ds).reverse) (by rw [hrl]; exact hown) Tryd.underlying40 Tryd.underlying5 Tryd.underlying9
              rw [hrl, HND.out.1] at hcv
              have HBE := Lib.hid hb
              clear hre hrl hown hb HND
              go_wp2_with fail
              go_ret
              exact ⟨rfl, HBE.out⟩
        | true =>
          have HO := Lib.hid (And.intro hown (And.intro hb hd))
          clear hown hb hd hds0 HNY
          go_wp2_with (at_builtin; refine wpList_pushN _ rfl (.tmp 53) (.tmp 54) _ rfl w.heap.size 5 Tryd.underlying40 infoB rfl (by decide) (by decide) _ _ (Lib.byteCells ds) rfl HO.out.1 1 (by omega) _ rfl rfl ?_ (by omega) (by omega) ?_)
          · rfl
          intro A3 c3 w3 hown3 hg3
          have hb3 : Below w.heap.size w w3 := HO.out.2.1.grown hg3 (by omega) (ownBlock_ge HO.out.1)
          have hown4 : w3.ownsRow w.heap.size 5 1 (.slice A3 (ds.length + 1) c3) (ds.length + 1) (Lib.byteCells (ds ++ [45])) := by
            rw [Lib.byteCells_append]; exact hown3
          obtain ⟨q, rfl⟩ : ∃ q, A3 = some ⟨q, 0, none⟩ := owns_at hown4 (by omega)
          obtain ⟨N, hN⟩ : ∃ N, N = ds.length + 1 := ⟨_, rfl⟩
          have hN1 : 1 ≤ N := by omega
          have hN2 : N ≤ 30 := by omega
          have hND : N = (ds ++ [45]).length := by rw [hN]; simp
          have hrow : w3.ownsRow w.heap.size 5 1 (.slice (some ⟨q, 0, none⟩) N c3) N (Lib.byteCells (revTo (ds ++ [45]) 0)) := by rw [revTo_zero, hN]; exact hown4
          have hfin : (ds ++ [45]).reverse = Lib.itoa x := by
            rw [HX.out.1, HO.out.2.2]
            unfold restD
            rw [if_neg hm0, List.reverse_append, List.reverse_reverse]
            simp only [Lib.itoa, if_true]
            rw [if_pos (by omega)]
            simp
          have HD0 := And.intro hrow (And.intro hb3 (And.intro hfin hND))
          refine wpList_at (fun w1 => w1.ownsRow w.heap.size 5 1 (.slice (some ⟨q, 0, none⟩) N c3) N (Lib.byteCells (revTo (ds ++ [45]) 0)) ∧ Below w.heap.size w w1 ∧ (ds ++ [45]).reverse = Lib.itoa x ∧ N = (ds ++ [45]).length) HD0 ?_
          rw [← hN]
          clear hrow hb3 hfin hND hown3 hown4 hg3 HO HD0 hN hdl HB HN HX
          intro w4 H4
          have HD := Lib.hid H4
          clear H4
          go_wp2_with fail
          go_loopw [8, 9] (fun a b wi => ∃ k j : Nat, a = .int .i64 k ∧ b = .int .i64 j ∧ k + j + 1 = N ∧ wi.ownsRow w.heap.size 5 1 (.slice (some ⟨q, 0, none⟩) N c3) N (Lib.byteCells (revTo (ds ++ [45]) k)) ∧ Below w.heap.size w wi) (fun _ b _ => (intOf b).toNat)
          case atStart => exact ⟨0, N - 1, rfl, by go_num, by omega, HD.out.1, HD.out.2.1⟩
          case round =>
            obtain ⟨k, j, rfl, rfl, hkj, hown, hb⟩ := hrel
            have HND := Lib.hid HD.out.2.2
            clear HD
            by_cases hlt : k < j
            · obtain ⟨i, rfl⟩ : ∃ i, j = i + 1 := ⟨j - 1, by omega⟩
              have f0 := hown.frozenAt k
              have f1 := hown.frozenAt (i + 1)
              obtain ⟨xa, hxa⟩ : ∃ xa, xa = ((ds ++ [45])).getD k 0 := ⟨_, rfl⟩
              obtain ⟨xb, hxb⟩ : ∃ xb, xb = ((ds ++ [45])).getD (i + 1) 0 := ⟨_, rfl⟩
              have d0 : wr.cell? ⟨q, k, none⟩ = some (.int .u8 xa.toNat) := by
                rw [hown.cellAt k (by omega), Lib.byteCells, List.getElem?_map, revTo_at _ _ (by rw [← HND.out.2]; omega), if_neg (by rw [← HND.out.2]; omega), hxa]
                rfl
              have d1 : wr.cell? ⟨q, i + 1, none⟩ = some (.int .u8 xb.toNat) := by
                rw [hown.cellAt (i + 1) (by omega), Lib.byteCells, List.getElem?_map, revTo_at _ _ (by rw [← HND.out.2]; omega), if_neg (by rw [← HND.out.2]; omega), hxb]
                rfl
              have hst := ((hown.stored k (.int .u8 xb.toNat)).1.stored (i + 1) (.int .u8 xa.toNat)).1
              have hrv := revTo_step (ds ++ [45]) k (by rw [← HND.out.2]; omega)
              rw [← HND.out.2, show N - 1 - k = i + 1 from by omega, ← hxa, ← hxb] at hrv
              rw [show ((Lib.byteCells (revTo (ds ++ [45]) k)).set k (.int .u8 xb.toNat)).set (i + 1) (.int .u8 xa.toNat) = Lib.byteCells (revTo (ds ++ [45]) (k + 1)) from by rw [← hrv]; simp [Lib.byteCells, List.map_set]] at hst
              have hb2 := (hb.setCell (p := ⟨q, k, none⟩) (hown.lt q rfl).1 (.int .u8 xb.toNat)).setCell (p := ⟨q, i + 1, none⟩) (hown.lt q rfl).1 (.int .u8 xa.toNat)
              have HST := Lib.hid (And.intro hst hb2)
              clear hst hb2 hrv hxa hxb hown hb
              have hj1 : ((i + 1 : Nat) : Int) - 1 = (i : Int) := by omega
              have hki : ((k : Nat) : Int) < ((i + 1 : Nat) : Int) := by omega
              have hkN : ((k : Nat) : Int) < (N : Int) := by omega
              have hiN : ((i + 1 : Nat) : Int) < (N : Int) := by omega
              have hne : ¬ k = i + 1 := by omega
              have hne2 : ¬ i + 1 = k := by omega
              go_wp2_with fail
              exact ⟨⟨k + 1, i, by go_num, rfl, by omega, HST.out.1, HST.out.2⟩, by simp [intOf]⟩
            · have hlt2 : ¬ ((k : Nat) : Int) < ((j : Nat) : Int) := by omega
              have hre := revTo_end (ds ++ [45]) k (by rw [← HND.out.2]; omega)
              rw [hre] at hown
              have hrl : ((ds ++ [45])).reverse.length = N := by rw [List.length_reverse, ← HND.out.2]
              have hcv := conv_row (P := Tryd.prog) (l := ((ds ++ [45])).reverse) (by rw [hrl]; exact hown) Tryd.underlying40 Tryd.underlying5 Tryd.underlying9
              rw [hrl, HND.out.1] at hcv
              have HBE := Lib.hid hb
              clear hre hrl hown hb HND
              go_wp2_with fail
              go_ret
              exact ⟨rfl, HBE.out⟩
      · have hl20 : 0 < l2.length := by
          rcases Nat.eq_zero_or_pos l2.length with e | e
          · rw [List.eq_nil_of_length_eq_zero e] at k4
            exact absurd k4.symm hy
          · exact e
        have hl21 : (0 : Int) < ((l2.length : Nat) : Int) := by omega
        have hstep := restD_step hy
        rw [hstep] at hd hdl
        simp only [List.length_cons] at hdl
        obtain ⟨v2, hv2⟩ : ∃ v2, v2 = Value.slice A2 l2.length c2 := ⟨_, rfl⟩
        have HS := Lib.hid (small_any _ y 10 wr HNY.out (by decide) (by decide))
        obtain ⟨t, ht⟩ : ∃ t, t = y % 10 := ⟨_, rfl⟩
        rw [← ht] at hd
        have ht10 : t < 10 := by omega
        have HO := Lib.hid (And.intro hown (And.intro hb hd))
        have HS := Lib.hid (show Calls Tryd.prog 91 #[.slice A2 l2.length c2, .int .u32 10] wr (fun e w' => ∃ v', e = .returned (.tuple #[v', .int .u32 (t : Int)]) ∧ NW w' v' (y / 10) ∧ Below wr.heap.size wr w' ∧ v'.ownBlock = some wr.heap.size) from by rw [ht]; exact HS.out)
        have ht11 : ((t : Nat) : Int) < 10 := by omega
        clear k1 k2 k3 k4 k5 k6 hstep hown hb hd hv2 ht HNY
        go_wp2_with (go_at_call 91; refine HS.out.mono ?_)
        first | (rintro e w2 v3 rfl hn2 hb2 hf2) | (rintro e w2 ⟨v3, rfl, hn2, hb2, hf2⟩)
        have hown2 := owns_below HO.out.1 hb2
        have HN2 := Lib.hid (And.intro hn2 (And.intro hb2 hown2))
        have HF2 := Lib.hid hf2
        clear hf2
        have hbs2 := hb2.size
        clear hn2 hb2 hown2 HS
        go_wp2_with (at_builtin; refine wpList_pushN _ rfl (.tmp 36) (.tmp 40) _ rfl w.heap.size 5 Tryd.underlying40 infoB rfl (by decide) (by decide) _ _ (Lib.byteCells ds) rfl HN2.out.2.2 1 (by omega) _ rfl rfl ?_ (by omega) (by omega) ?_)
        · rfl
        intro A3 c3 w3 hown3 hg3
        have hown4 : w3.ownsRow w.heap.size 5 1 (.slice A3 (ds.length + 1) c3) (ds.length + 1) (Lib.byteCells (ds ++ [UInt8.ofNat (48 + t)])) := by
          rw [Lib.byteCells_append]
          have e : (Lib.byteCells [UInt8.ofNat (48 + t)]) = [Value.int .u8 (48 + (t : Int))] := by
            simp [Lib.byteCells, UInt8.toNat_ofNat]
            omega
          rw [e]
          exact hown3
        have hb3 : Below w.heap.size w w3 := (HO.out.2.1.trans (HN2.out.2.1.mono hbs)).grown hg3 (by omega) (ownBlock_ge HN2.out.2.2)
        have hn3 : NW w3 v3 (y / 10) := HN2.out.1.grown hg3 (fun k hk e => by
          rw [HF2.out] at hk
          injection hk with hk
          subst hk
          have := (HO.out.1.lt _ e).2
          omega)
        have hd3 : (ds ++ [UInt8.ofNat (48 + t)]) ++ restD (y / 10) = restD m := by rw [← HO.out.2.2]; simp
        have HX3 := Lib.hid (And.intro hown4 (And.intro hb3 (And.intro hn3 hd3)))
        refine wpList_at (fun w1 => w1.ownsRow w.heap.size 5 1 (.slice A3 (ds.length + 1) c3) (ds.length + 1) (Lib.byteCells (ds ++ [UInt8.ofNat (48 + t)])) ∧ Below w.heap.size w w1 ∧ NW w1 v3 (y / 10) ∧ (ds ++ [UInt8.ofNat (48 + t)]) ++ restD (y / 10) = restD m) HX3.out ?_
        clear hown3 hown4 hb3 hn3 hd3 HX3 hg3 HN2 HF2 HO
        intro w4 H4
        replace H4 := Lib.hid H4
        go_wp2_with fail
        go_roundw
        case rel => exact ⟨ds ++ [UInt8.ofNat (48 + t)], A3, c3, y / 10, by simp, H4.out.2.2.1, by simpa using H4.out.1, H4.out.2.1, H4.out.2.2.2⟩
        case measure => simp [slLen]; omega

set_option maxRecDepth 100000 in
set_option maxHeartbeats 400000 in
theorem digits_any (n : Int) (h0 : -9223372036854775808 ≤ n) (h1 : n ≤ 9223372036854775807) (w : World) :
    Calls Tryd.prog 42 #[.int .i64 n] w fun e w' => e = .returned (.string ⟨(Lib.itoa n).toArray⟩) ∧ Below w.heap.size w w' := by
  have HI := Lib.hid (newint_any n h0 h1 w)
  have HT := Lib.hid (fun g w (h : IsI w g n) => text_any g n w h (by omega) (by omega))
  obtain ⟨t, ht⟩ : ∃ t, t = (⟨(Lib.itoa n).toArray⟩ : ByteArray) := ⟨_, rfl⟩
  rw [← ht] at HT ⊢
  clear ht
  go_enter Tryd.func42, Tryd.ntmps42
  go_wp2_with (first
    | (go_at_call 26; refine HI.out.mono ?_; rintro e w1 ⟨g, rfl, hg, hi, hb⟩; have H1 := Lib.hid (And.intro hi hb); clear hi hb)
    | (go_at_call 85; refine (HT.out g _ H1.out.1).mono ?_; rintro e w2 ⟨rfl, hb2⟩; have H2 := Lib.hid hb2; clear hb2)
    | (go_at_call 68; go_in))
  go_ret
  exact ⟨rfl, H1.out.2.trans (H2.out.mono H1.out.2.size)⟩
end Go.Proofs.YtfnigdbnkdofiaaDoor
