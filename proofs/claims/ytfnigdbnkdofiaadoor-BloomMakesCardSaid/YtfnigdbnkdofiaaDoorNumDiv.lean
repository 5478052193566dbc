/- commonbookbig.div by 2^64: the contract. -/
import Derived.Test.YtfnigdbnkdofiaaDoorNumDivP
import Derived.Laws.CopyRow
import Derived.Deep.DeepCutAuto
namespace Go.Proofs.YtfnigdbnkdofiaaDoor
open Go.RowKit
set_option linter.unusedVariables false
set_option linter.unusedSimpArgs false

theorem wpList_copyB {P : Program} (w : World) {ops : Array Oper} {rest : List Oper} {o : Oper} {a : Act} {Q : Exit → Act → World → Prop} (hgd : o.guard = none) (d s : Operand) (t t' : TypeId)
    (ho : o.op = .call { callee := .builtin .copy, args := #[d, s], argTypes := #[t, t'] }) {v u : Value} (hd : a.eval d = v) (hs : a.eval s = u) {v' : Value} {w' : World}
    (hr : (Builtin.copy_ #[t, t'] o.type #[v, u]).run P w = .ok v' w') (h : wpList P ops Q rest (a.put o.dst v') w') : wpList P ops Q (o :: rest) a w := by
  refine wpList_plain hgd fun K hK => ?_
  unfold Oper.wp execOp
  simp only [ho, resolve, invoke, builtin, Sem.run_bind, Sem.run_pure, Result.andThen_ok, List.map_toArray, List.map_cons, List.map_nil, hd, hs, hr]
  exact hK _ _ h
theorem NW.words {w : World} {v : Value} {x t : Nat} (h : NW w v x) (hx : x = 18446744073709551616 * t) (ht : 0 < t) (ht2 : t < 4294967296) : ∃ b o c, v = .slice (some ⟨b, o, none⟩) 3 c ∧ SlAt w (some ⟨b, o, none⟩) (u32s [0, 0, t]) := by
  obtain ⟨A, c, l, rfl, h1, h2, h3, h4, h5⟩ := h
  have := row_three h3 (h4.trans hx) ht ht2 h2
  subst this
  obtain ⟨b, o, rfl, _⟩ := h1.word_at (k := 0) (x := 0) rfl
  exact ⟨b, o, c, rfl, h1⟩

theorem set_self {l : List Nat} {i x : Nat} (h : l[i]? = some x) : l.set i x = l := by
  apply List.ext_getElem?
  intro k
  rw [List.getElem?_set]
  split
  · rename_i e
    subst e
    rw [h]
    simp [(List.getElem?_eq_some_iff.1 h).1]
  · rfl

set_option maxRecDepth 100000 in
set_option maxHeartbeats 1000000 in
/-- twin gives a row of its own. -/
theorem twin_own (v : Value) (x : Nat) (w : World) (h : NW w v x) :
    Calls Tryd.prog 89 #[v] w fun e w' => ∃ v', e = .returned v' ∧ NW w' v' x ∧ Below w.heap.size w w' ∧ ∀ k, v'.ownBlock = some k → w.heap.size ≤ k := by
  obtain ⟨A, c, l, rfl, h1, h2, h3, h4, h5, h6⟩ := h
  obtain ⟨A', c', w', r1, r2, r3, r4⟩ := run_append_sl (P := Tryd.prog) w 67 67 98 Tryd.underlying67 infoW rfl (by decide) none 0 0 [] (World.ownsRow_nil _ _ _ _) A l.length c (u32s l) (by rw [u32s_length]; omega) h1 (u32s_one l) (by simp only [maxLen]; omega) (by omega)
  rw [Nat.zero_add] at r1 r2
  have hb : Below w.heap.size w w' := grown_below r3 (Nat.le_refl _) (by intro k hk; simp [Value.ownBlock] at hk)
  have hn : NW w' (.slice A' l.length c') x := by
    refine ⟨A', c', l, rfl, SlAt.of_owns r2, h2, h3, h4, ?_, h6⟩
    rcases r2.2 with ⟨hv, hz⟩ | ⟨g, cap, cur, hv, _, _, hnc, _⟩
    · omega
    · injection hv with _ _ hv; omega
  have hf : ∀ k, (Value.slice A' l.length c').ownBlock = some k → w.heap.size ≤ k := by
    intro k hk
    rcases r4 with ⟨e, _⟩ | e
    · rw [e] at hk
      simp [Value.ownBlock] at hk
    · rw [e] at hk
      simp [Value.ownBlock] at hk
      omega
  have HN := Lib.hid (And.intro hn (And.intro hb hf))
  clear hf
  clear r2 r3 r4 hn hb h1 h2 h3 h4 h5
  go_enter Tryd.func89, Tryd.ntmps89
  go_wp2_with (at_builtin; refine wpList_append_run rfl _ _ _ _ rfl rfl rfl r1 ?_)
  go_wp2_with fail
  go_ret
  exact ⟨_, rfl, HN.out.1, HN.out.2.1, HN.out.2.2⟩

set_option maxRecDepth 100000 in
set_option maxHeartbeats 4000000 in
theorem div64 (v1 v2 : Value) (x : Nat) (w : World) (h1 : NW w v1 x) (h2 : NW w v2 18446744073709551616) (hx : x < 4294967296 ^ 4) :
    Calls Tryd.prog 90 #[v1, v2] w fun e w' => ∃ A n c v', e = .returned (.tuple #[.slice A n c, v']) ∧ NW w' v' (x % 18446744073709551616) ∧ Below w.heap.size w w' ∧ ∀ k, v'.ownBlock = some k → w.heap.size ≤ k := by
  have HC := Lib.hid (cmp_any v1 v2 x 18446744073709551616 w h1 h2)
  have H1 := Lib.hid h1
  have H2 := Lib.hid h2
  obtain ⟨i0, hi, hz0, hz1, hz2⟩ := info_parts infoW
  obtain ⟨A1, c1, l1, rfl, a1, a2, a3, a4, a5, a6⟩ := h1
  obtain ⟨b2, o2, c2, rfl, hv2⟩ := h2.words (t := 1) (by decide) (by decide) (by decide)
  have HV2 := Lib.hid hv2
  clear hv2 h2
  have hn1 : l1.length ≤ 4 := trimW_le a3 (by rw [a4]; exact hx)
  by_cases hlt : x < 18446744073709551616
  · have hc : cmpN x 18446744073709551616 = -1 := by unfold cmpN; rw [if_pos hlt]
    rw [hc] at HC
    have HXY := Lib.hid (show x % 18446744073709551616 = x from Nat.mod_eq_of_lt hlt)
    clear hc hlt hx a1 a2 a3 a4 a5 a6 hn1
    go_enter Tryd.func90, Tryd.ntmps90
    go_wp2_with (go_at_call 76; refine HC.out.mono ?_)
    first | (rintro e w1 rfl hb1) | (rintro e w1 ⟨rfl, hb1⟩)
    have HT := Lib.hid (twin_own _ x w1 (H1.out.below hb1))
    have HB := Lib.hid hb1
    clear hb1 HC
    go_wp2_with (go_at_call 89; refine HT.out.mono ?_; rintro e w2 ⟨v', rfl, hn, hb2, hfr⟩; have HN := Lib.hid (And.intro hn (And.intro (HB.out.trans (hb2.mono HB.out.size)) (fun k hk => Nat.le_trans HB.out.size (hfr k hk)))); clear hn hb2 hfr)
    go_ret2
    exact ⟨none, 0, 0, v', rfl, by rw [HXY.out]; exact HN.out.1, HN.out.2.1, HN.out.2.2⟩
  · have hn3 : 3 ≤ l1.length := by
      rcases Nat.lt_or_ge l1.length 3 with h | h
      · have h5 := valW_lt a2
        rw [a4] at h5
        have h6 : 4294967296 ^ l1.length ≤ 4294967296 ^ 2 := Nat.pow_le_pow_right (by decide) (by omega)
        omega
      · exact h
    obtain ⟨cc, hcc⟩ : ∃ cc : Int, cc = cmpN x 18446744073709551616 := ⟨_, rfl⟩
    have hc0 : 0 ≤ cc := by rw [hcc]; unfold cmpN; rw [if_neg hlt]; split <;> omega
    rw [← hcc] at HC
    have hc1 : ¬ cc < 0 := by omega
    obtain ⟨L, eL⟩ : ∃ n, n = l1.length := ⟨_, rfl⟩
    rw [← eL] at hn1 hn3 HC H1 ⊢
    have hxL : x < 4294967296 ^ L := by rw [← a4, eL]; exact valW_lt a2
    have hx0 : 0 < x := by omega
    have HX := Lib.hid (And.intro hx0 (And.intro hx hxL))
    obtain ⟨N, hN⟩ : ∃ N, N = L + 2 := ⟨_, rfl⟩
    have hNi : ((L : Nat) : Int) + 2 = (N : Int) := by omega
    have hLi : ¬ ((L : Nat) : Int) ≤ 2 := by omega
    have hN6 : N ≤ 6 := by omega
    have hN5 : 5 ≤ N := by omega
    have HNL := Lib.hid hN
    clear hcc hlt hx a1 a2 a3 a4 a5 a6 eL hN hxL hx0
    go_enter Tryd.func90, Tryd.ntmps90
    go_wp2_with (go_at_call 76; refine HC.out.mono ?_)
    first | (rintro e w1 rfl hb1) | (rintro e w1 ⟨rfl, hb1⟩)
    have HL65 := Lib.hid (length65 _ c2 w1 (HV2.out.below hb1))
    have HSH := Lib.hid (left31 _ _ w1 (H2.out.below hb1) (by decide))
    have HB := Lib.hid hb1
    clear hb1 HC
    go_wp2_with (go_at_call 94; refine HL65.out.mono ?_; rintro e w2 ⟨rfl, rfl⟩)
    go_wp2_with (go_at_call 50; refine HSH.out.mono ?_)
    first | (rintro e w3 v3 rfl hn3v hb3 hf3) | (rintro e w3 ⟨v3, rfl, hn3v, hb3, hf3⟩)
    obtain ⟨gv, ov, cv, rfl, hsv⟩ := hn3v.words (t := 2147483648) (by decide) (by decide) (by decide)
    have hgv2 : gv < w3.heap.size := by
      obtain ⟨b, o, hA, h0⟩ := hsv.word_at (k := 0) (x := 0) rfl
      injection hA with hA; injection hA with e1 e2; subst e1 e2
      exact cell_lt h0
    have H3 := Lib.hid (And.intro hsv (And.intro hgv2 (HB.out.trans (hb3.mono HB.out.size))))
    clear hn3v hb3 hf3 hsv hgv2 HSH HL65
    go_wp2_with (at_make; refine wpList_make_full _ rfl _ _ 67 rfl 0 98 i0 _ 1 Tryd.underlying67 hi hz0 hz1 _ _ _ _ N rfl rfl (by omega) (by omega) (by rw [hz2]; omega) (by simp only [maxLen]; omega) (Nat.zero_le _) ?_)
    intro w4 hown4 hg4
    have hb4 : Below w3.heap.size w3 w4 := (Below.refl _ _).grown hg4 (Nat.le_refl _) (by simp)
    rw [made_zero] at hown4
    have hblk4 := own_blk hown4 (by omega)
    have H4 := Lib.hid (And.intro hblk4 hb4)
    have HSH2 := Lib.hid (left31 _ x w4 (H1.out.below (H3.out.2.2.trans (hb4.mono H3.out.2.2.size))) (Nat.lt_of_lt_of_le HX.out.2.1 (by decide)))
    refine wpList_at (fun W => W = w4) rfl ?_
    clear hown4 hg4 hb4 hblk4
    rintro w4' rfl
    obtain ⟨gu, hgu⟩ : ∃ gu, gu = w3.heap.size := ⟨_, rfl⟩
    rw [← hgu]
    have HGU := Lib.hid hgu
    clear hgu
    go_wp2_with (go_at_call 50; refine HSH2.out.mono ?_)
    first | (rintro e w5 va rfl hn5 hb5 hf5) | (rintro e w5 ⟨va, rfl, hn5, hb5, hf5⟩)
    obtain ⟨A5, c5, l5, rfl, k1, k2, k3, k4, k5, k6⟩ := hn5
    have hl5 : l5.length ≤ L + 1 := trimW_le k3 (by
      rw [k4, Nat.pow_succ]
      exact Nat.mul_lt_mul_of_lt_of_le HX.out.2.2 (by decide) (by decide))
    have hl50 : l5 ≠ [] := by
      rintro rfl
      have := HX.out.1
      simp [valW] at k4
      omega
    obtain ⟨p5, t5, rfl⟩ : ∃ p t, l5 = p :: t := by
      cases l5 with
      | nil => exact absurd rfl hl50
      | cons p t => exact ⟨p, t, rfl⟩
    obtain ⟨b5, o5, rfl, _⟩ := k1.word_at (k := 0) (x := p5) rfl
    obtain ⟨l5, hl5e⟩ : ∃ l, l = p5 :: t5 := ⟨_, rfl⟩
    rw [← hl5e] at k1 k2 k3 k4 k5 k6 hl5 ⊢
    clear hl5e hl50
    have hblk5 : Blk w5 gu 98 (u32s (List.replicate N 0)).toArray := by
      rw [HGU.out]
      exact H4.out.1.below hb5 H4.out.1.lt
    have hNL := HNL.out
    have hcopy := run_copy_row (P := Tryd.prog) w5 67 67 3 98 gu 0 N N ⟨b5, o5, none⟩ l5.length c5 (u32s (List.replicate N 0)).toArray 98 (u32s l5) Tryd.underlying67 (by kernel_rfl) hblk5
      (by rw [u32s_length]; show l5.length = min l5.length N; omega)
      (fun j u hj => by
        rcases k1 with h | ⟨b, o, hA, hc⟩
        · rw [h] at hj; simp at hj
        · injection hA with hA; injection hA with e1 e2; subst e1 e2
          have hadd : (⟨b5, o5, none⟩ : Addr).add j = ⟨b5, o5 + j, none⟩ := by unfold Addr.add; split <;> simp_all
          rw [hadd]
          exact hc j u hj)
      (by simp [u32s]; omega) (u32s_one l5)
    have hlist : ((u32s (List.replicate N 0)).toArray.toList.take 0 ++ u32s l5 ++ (u32s (List.replicate N 0)).toArray.toList.drop (0 + (u32s l5).length)).toArray = (u32s (l5 ++ List.replicate (N - l5.length) 0)).toArray := by
      rw [u32s_append, u32s_length]
      congr 1
      simp [u32s, List.drop_replicate]
    rw [hlist] at hcopy
    obtain ⟨U0, hU0⟩ : ∃ U, U = l5 ++ List.replicate (N - l5.length) 0 := ⟨_, rfl⟩
    rw [← hU0] at hcopy
    have hU0l : U0.length = N := by rw [hU0]; simp; omega
    have hU0v : valW U0 = x * 2147483648 := by rw [hU0, valW_pad, k4]
    have hU0w : ∀ z ∈ U0, z < 4294967296 := by
      intro z hz
      rw [hU0] at hz
      rcases List.mem_append.1 hz with hz | hz
      · exact k2 z hz
      · have := (List.mem_replicate.1 hz).2; omega
    have hU0t : U0.getD (N - 1) 0 = 0 := by
      rw [hU0, List.getD, List.getElem?_append_right (by omega), List.getElem?_replicate]
      split <;> rfl
    have hw6 : Blk (w5.setRow gu (u32s U0).toArray) gu 98 (u32s U0).toArray := setRow_heap w5 gu _ _ _ (0, 0) hblk5
    have hb35 : Below w3.heap.size w3 w5 := H4.out.2.trans (hb5.mono H4.out.2.size)
    have hb6 : Below w3.heap.size w3 (w5.setRow gu (u32s U0).toArray) := by
      refine hb35.trans ⟨rfl, rfl, rfl, by simp, fun k hk => ?_⟩
      exact setRow_other w5 gu k _ (by have := HGU.out; omega)
    have H6 := Lib.hid (And.intro hw6 (And.intro hb6 (And.intro hU0l (And.intro hU0v (And.intro hU0w hU0t)))))
    have hl6 : l5.length ≤ 10 := by omega
    clear hlist hU0 hU0l hU0v hU0w hU0t hw6 hb35 hb6 hblk5 k1 k2 k3 k4 k5 k6 hb5 hf5 hNL hl5
    have H7 := Lib.hid (And.intro H6.out.1 H6.out.2.1)
    obtain ⟨w6, hw6⟩ : ∃ w6, w6 = w5.setRow gu (u32s U0).toArray := ⟨_, rfl⟩
    rw [← hw6] at hcopy H7
    clear hw6
    obtain ⟨M, hM⟩ : ∃ M, N = M + 3 := ⟨N - 3, by omega⟩
    have hMi : ((N : Nat) : Int) - 3 - 1 = (M : Int) - 1 := by omega
    have HM := Lib.hid hM
    have hM2 : 2 ≤ M := by omega
    have hM3 : M ≤ 3 := by omega
    clear hM
    go_wp2_with (first
      | (at_builtin; refine wpList_copyB _ rfl _ _ _ _ rfl rfl rfl hcopy ?_; clear hcopy)
      | (at_make; refine wpList_make_full _ rfl _ _ 67 rfl 0 98 i0 _ 1 Tryd.underlying67 hi hz0 hz1 _ _ _ _ M rfl rfl (by omega) (by omega) (by rw [hz2]; omega) (by simp only [maxLen]; omega) (Nat.zero_le _) ?_))
    intro w7 hown7 hg7
    have hb7 : Below w6.heap.size w6 w7 := (Below.refl _ _).grown hg7 (Nat.le_refl _) (by simp)
    rw [made_zero] at hown7
    have hblk7 := own_blk hown7 (by omega)
    have hD : DV w gu w6.heap.size gv ov U0 (List.replicate M 0) w7 := by
      have h0 := HGU.out
      have h1 := H7.out.1.lt
      have h2 := H3.out.2.1
      have h3 := H7.out.2.size
      have h4 := H3.out.2.2.size
      refine ⟨H7.out.1.below hb7 h1, hblk7, (H3.out.1.below (H7.out.2.trans (hb7.mono h3))), H3.out.2.2.trans ((H7.out.2.trans (hb7.mono h3)).mono h4), by omega, by omega, by omega, by omega, by omega⟩
    obtain ⟨gq, hgq⟩ : ∃ g, g = w6.heap.size := ⟨_, rfl⟩
    rw [← hgq] at hD ⊢
    refine wpList_at (DV w gu gq gv ov U0 (List.replicate M 0)) hD ?_
    clear hown7 hg7 hb7 hblk7 hD hgq
    intro w7 HD
    have cv := HD.cv
    obtain ⟨cv0, cv1, cv2⟩ := cv
    replace HD := Lib.hid HD
    go_wp2_with fail
    go_region
    go_wp2_with fail
    clear cv0 cv1 cv2 HB H3 H4 HSH2 H7 H2 HV2
    go_loopw [18] (fun jv wr => ∃ (k : Nat) (Q : List Nat), jv = .int .i64 ((k : Int) - 1) ∧ k ≤ M ∧ Q.length = M ∧ DV w gu gq gv ov (divU U0 k) Q wr) (fun jv _ => (intOf jv + 1).toNat)
    case atStart =>
      refine ⟨M, List.replicate M 0, by go_num, Nat.le_refl _, by simp, ?_⟩
      have h0 := HM.out
      have h1 := divU_start (U0 := U0) (k := M) (by rw [H6.out.2.2.1]; omega) (by rw [show M + 2 = N - 1 from by omega]; exact H6.out.2.2.2.2.2)
      rw [← h1]
      exact HD.out.drew
    case round =>
      clear HD
      obtain ⟨k, Q, rfl, hkM, hQl, hD⟩ := hrel
      have hNM := HM.out
      have hUl := H6.out.2.2.1
      rcases Nat.eq_zero_or_pos k with hk0 | hk0
      · subst hk0
        have hval := divU_done (U0 := U0) (by omega) H6.out.2.2.2.2.1
        rw [H6.out.2.2.2.1] at hval
        have hlen := divU_len (U0 := U0) (k := 0) (by omega)
        have hT1 := trim_any (some ⟨gq, 0, none⟩) M Q wr (SlAt.blk hD.q) (by omega) (by omega)
        have hT2 := trim_any (some ⟨gu, 0, none⟩) N (divU U0 0) wr (SlAt.blk hD.u) (by omega) (by omega)
        have hNt := NW.of_trim (c := N) (SlAt.blk hD.u) (divU_words H6.out.2.2.2.2.1 0) (by omega) (by omega)
        rw [hval] at hNt
        rw [hlen, hUl] at hT2
        rw [hQl] at hT1
        have hR31 := right31f _ _ wr hNt (Nat.lt_of_lt_of_le (Nat.mod_lt _ (by decide)) (by decide))
        have hxm : x * 2147483648 % 39614081257132168796771975168 / 2147483648 = x % 18446744073709551616 := by omega
        rw [hxm] at hR31
        have HT1 := Lib.hid hT1
        have HT2 := Lib.hid hT2
        have HR := Lib.hid (And.intro hR31 hD.bel)
        clear hval hlen hT1 hT2 hNt hR31 hxm hD hNM hUl hQl hcopy
        go_wp2_with (first
          | (go_at_call_of 74 (Value.slice (some ⟨gq, 0, none⟩) M M); refine HT1.out.mono ?_; rintro e w8 ⟨rfl, rfl⟩)
          | (go_at_call_of 74 (Value.slice (some ⟨gu, 0, none⟩) N N); refine HT2.out.mono ?_; rintro e w9 ⟨rfl, rfl⟩)
          | (go_at_call 56; refine HR.out.1.mono ?_; rintro e w10 ⟨v10, rfl, hn10, hb10, hf10⟩; have H10 := Lib.hid (And.intro hn10 (And.intro (HR.out.2.trans (hb10.mono HR.out.2.size)) (fun k hk => Nat.le_trans HR.out.2.size (hf10 k hk)))); clear hn10 hb10 hf10))
        go_ret2
        exact ⟨_, _, _, v10, rfl, H10.out.1, H10.out.2.1, H10.out.2.2⟩
      · obtain ⟨j, rfl⟩ : ∃ j, k = j + 1 := ⟨k - 1, by omega⟩
        obtain ⟨i1, hi1⟩ : ∃ i, i = j + 1 := ⟨_, rfl⟩
        obtain ⟨i2, hi2⟩ : ∃ i, i = j + 2 := ⟨_, rfl⟩
        obtain ⟨i3, hi3⟩ : ∃ i, i = j + 3 := ⟨_, rfl⟩
        obtain ⟨h, hh⟩ : ∃ h, h = U0.getD i3 0 % 2147483648 := ⟨_, rfl⟩
        obtain ⟨e, he⟩ : ∃ e, e = U0.getD i2 0 := ⟨_, rfl⟩
        obtain ⟨z, hz⟩ : ∃ z, z = U0.getD i1 0 := ⟨_, rfl⟩
        obtain ⟨y, hy⟩ : ∃ y, y = U0.getD j 0 := ⟨_, rfl⟩
        have hwd : ∀ i, U0.getD i 0 < 4294967296 := by
          intro i
          rw [List.getD]
          cases hc : U0[i]? with
          | none => simp
          | some q => simpa using H6.out.2.2.2.2.1 q (List.mem_of_getElem? hc)
        have he2 : e < 4294967296 := by rw [he]; exact hwd _
        have hz2 : z < 4294967296 := by rw [hz]; exact hwd _
        have hy2 : y < 4294967296 := by rw [hy]; exact hwd _
        have hh2 : h < 2147483648 := by rw [hh]; omega
        have u3 : (divU U0 (j + 1))[i3]? = some h := by rw [hi3, hh, hi3]; exact divU_hi (by omega)
        have u2 : (divU U0 (j + 1))[i2]? = some e := by rw [hi2, he, hi2]; exact divU_lo (by omega) (by omega)
        have u1 : (divU U0 (j + 1))[i1]? = some z := by rw [hi1, hz, hi1]; exact divU_lo (by omega) (by omega)
        have u0 : (divU U0 (j + 1))[j]? = some y := by rw [hy]; exact divU_lo (by omega) (by omega)
        have hlen := divU_len (U0 := U0) (k := j + 1) (by omega)
        have hstep := divU_step (U0 := U0) (j := j) (by omega)
        rw [← hi2, ← hi3, ← he] at hstep
        obtain ⟨f, hf⟩ : ∃ f, f = e % 2147483648 := ⟨_, rfl⟩
        rw [← hf] at hstep
        obtain ⟨U, hU⟩ : ∃ U, U = divU U0 (j + 1) := ⟨_, rfl⟩
        rw [← hU] at hD u3 u2 u1 u0 hlen hstep
        obtain ⟨H, hH⟩ : ∃ H, H = h * 4294967296 + e := ⟨_, rfl⟩
        obtain ⟨g1, g2, g3, g4⟩ := div_words hh2 he2 hH
        have hor1 := or_word h e (by omega) he2
        rw [← hH] at hor1
        obtain ⟨g, hg⟩ : ∃ g, g = H / 2147483648 := ⟨_, rfl⟩
        obtain ⟨r, hr⟩ : ∃ r, r = H % 2147483648 := ⟨_, rfl⟩
        rw [← hg] at g1 g2 g3
        have hr2 : r < 2147483648 := by omega
        have hor2 := or_word r z (by omega) hz2
        obtain ⟨s, hs⟩ : ∃ s, s = r * 4294967296 + z := ⟨_, rfl⟩
        rw [← hs] at hor2
        obtain ⟨lo, hlo⟩ : ∃ lo, lo = g * 2147483648 % 4294967296 := ⟨_, rfl⟩
        have hloe : ((e : Nat) : Int) - (lo : Int) = (f : Int) := by omega
        have hlo1 : (((g : Nat) : Int) * 2147483648) % 4294967296 = (lo : Int) := by omega
        have hlo2 : (((g : Nat) : Int) * 2147483648) / 4294967296 = (h : Int) := by omega
        have hgm : ((g : Nat) : Int) * 2147483648 < 18446744073709551616 := by omega
        have hHg : ((H : Nat) : Int) / 2147483648 = (g : Int) := by omega
        have hHr : ((H : Nat) : Int) % 2147483648 = (r : Int) := by omega
        have hf2 : f < 2147483648 := by omega
        have hHm : ((h : Nat) : Int) * 4294967296 < 18446744073709551616 := by omega
        have hrm : ((r : Nat) : Int) * 4294967296 < 18446744073709551616 := by omega
        have hj0 : ((j + 1 : Nat) : Int) - 1 = (j : Int) := by omega
        have hj3 : ((j : Nat) : Int) + 3 = (i3 : Int) := by omega
        have hj2 : ((i3 : Nat) : Int) - 1 = (i2 : Int) := by omega
        have hj1 : ((i3 : Nat) : Int) - 2 = (i1 : Int) := by omega
        have hb1 : (1 : Int) + ((j : Nat) : Int) = (i1 : Int) := by omega
        have hb2 : (2 : Int) + ((j : Nat) : Int) = (i2 : Int) := by omega
        have hn3 : ((i3 : Nat) : Int) < (N : Int) := by omega
        have hn2 : ((i2 : Nat) : Int) < (N : Int) := by omega
        have hn1 : ((i1 : Nat) : Int) < (N : Int) := by omega
        have hn0 : ((j : Nat) : Int) < (N : Int) := by omega
        have hjM : ((j : Nat) : Int) < (M : Int) := by omega
        have hg0 : ¬ (4294967295 : Int) < ((g : Nat) : Int) := by omega
        have hgg : ((g : Nat) : Int) % 4294967296 = (g : Int) := by omega
        have hff : ((f : Nat) : Int) % 4294967296 = (f : Int) := by omega
        have hf9 : ((f : Nat) : Int) / 9223372036854775808 = 0 := by omega
        have hy9 : ((y : Nat) : Int) / 9223372036854775808 = 0 := by omega
        have hz9 : ((z : Nat) : Int) / 9223372036854775808 = 0 := by omega
        have d3 := hD.cu u3
        have d2 := hD.cu u2
        have d1 := hD.cu u1
        have HDD := Lib.hid (And.intro hD (And.intro hstep (And.intro (And.intro u3 u2) (And.intro (And.intro u1 u0) hQl))))
        clear hD hstep u3 u2 u1 u0 hQl hlen hU hH hg hr hs hlo hf he hz hy hh hi1 hi2 hi3 g2 g3 g4 hwd hNM hUl
        go_wp2_with fail
        go_region
        go_wp2_with fail
        go_region
        go_wp2_with fail
        replace hg0 : ((g : Nat) : Int) ≤ 4294967295 := by omega
        go_loopw [20, 21] (fun gx rx wr => gx = .int .u64 g ∧ rx = .int .u64 r ∧ DV w gu gq gv ov U Q wr) (fun _ _ _ => 0)
        case atStart => exact ⟨by first | rfl | rw [hHg], by first | rfl | rw [hHr], HDD.out.1.drew.drew⟩
        case round =>
          obtain ⟨rfl, rfl, hD⟩ := hrel
          have d1 := hD.cu HDD.out.2.2.2.1.1
          have HD2 := Lib.hid hD
          have HFA := Lib.hid (And.intro hloe (And.intro hlo1 (And.intro hlo2 (And.intro hgm (And.intro hgg (And.intro hff (And.intro hf9 (And.intro hy9 (And.intro hz9 (And.intro hb1 (And.intro hb2 (And.intro hjM (And.intro hn2 hn0)))))))))))))
          clear hD d2 d3 hloe hlo1 hlo2 hgm hgg hff hf9 hy9 hz9 hb1 hb2 hjM hn2 hn0 hHg hHr hHm hor1 hj2 hj0 hc0 hc1 hLi hk0
          have hd0 : decide ((4294967295 : Int) < ((g : Nat) : Int)) = false := by simp; omega
          have hd1 : decide (((s : Nat) : Int) < 0) = false := by simp
          clear hg0
          go_upto_region 25 with (fail)
          clear hd0 hd1 hor2 hrm
          obtain ⟨hloe, hlo1, hlo2, hgm, hgg, hff, hf9, hy9, hz9, hb1, hb2, hjM, hn2, hn0⟩ := HFA.out
          clear d1 HFA
          go_loopw [22, 23, 24] (fun cx dx ix wr => (cx = .int .u64 0 ∧ dx = .int .u64 0 ∧ ix = .int .i64 0 ∧ DV w gu gq gv ov U Q wr) ∨ (cx = .int .u64 0 ∧ dx = .int .u64 0 ∧ ix = .int .i64 1 ∧ DV w gu gq gv ov U Q wr) ∨ (cx = .int .u64 0 ∧ dx = .int .u64 0 ∧ ix = .int .i64 2 ∧ DV w gu gq gv ov U Q wr) ∨ (cx = .int .u64 h ∧ dx = .int .u64 0 ∧ ix = .int .i64 3 ∧ DV w gu gq gv ov (U.set i2 f) Q wr)) (fun _ _ ix _ => (3 - intOf ix).toNat)
          case atStart => exact .inl ⟨rfl, rfl, rfl, HD2.out⟩
          case round =>
            rcases hrel with hh | hh | hh | hh
            · obtain ⟨e0, e1, e2, hD⟩ := hh
              subst e0 e1 e2
              obtain ⟨cv0, cv1, cv2⟩ := hD.cv
              have dd := hD.cu HDD.out.2.2.2.1.2
              have ff := hD.u.frozen j
              have hset := hD.setU j y
              rw [set_self HDD.out.2.2.2.1.2] at hset
              have hym : ((y : Nat) : Int) % 4294967296 = (y : Int) := by omega
              have HN := Lib.hid hset
              clear hset hD
              go_wp2_with fail
              go_roundw
              case rel => exact .inr (.inl ⟨by go_num, by go_num, by go_num, HN.out⟩)
              case measure => simp [intOf]
            · obtain ⟨e0, e1, e2, hD⟩ := hh
              subst e0 e1 e2
              obtain ⟨cv0, cv1, cv2⟩ := hD.cv
              have dd := hD.cu HDD.out.2.2.2.1.1
              have ff := hD.u.frozen i1
              have hset := hD.setU i1 z
              rw [set_self HDD.out.2.2.2.1.1] at hset
              have hym : ((z : Nat) : Int) % 4294967296 = (z : Int) := by omega
              have HN := Lib.hid hset
              clear hset hD
              go_wp2_with fail
              go_roundw
              case rel => exact .inr (.inr (.inl ⟨by go_num, by go_num, by go_num, HN.out⟩))
              case measure => simp [intOf]
            · obtain ⟨e0, e1, e2, hD⟩ := hh
              subst e0 e1 e2
              obtain ⟨cv0, cv1, cv2⟩ := hD.cv
              have dd := hD.cu HDD.out.2.2.1.2
              have ff := hD.u.frozen i2
              have HN := Lib.hid (hD.setU i2 f)
              clear hD
              go_wp2_with fail
              go_roundw
              case rel => exact .inr (.inr (.inr ⟨by go_num, by go_num, by go_num, HN.out⟩))
              case measure => simp [intOf]
            · obtain ⟨e0, e1, e2, hD⟩ := hh
              subst e0 e1 e2
              have d3 := hD.cu (i := i3) (x := h) (by
                rw [List.getElem?_set_ne (by omega)]
                exact HDD.out.2.2.1.1)
              have ff := hD.u.frozen i3
              have hD2 := hD.setU i3 0
              rw [HDD.out.2.1] at hD2
              obtain ⟨qx, dq⟩ := hD.cq (i := j) (by rw [HDD.out.2.2.2.2]; omega)
              have fq := hD.q.frozen j
              have huq1 : ¬ gu = gq := hD.uq
              have huq2 : ¬ gq = gu := fun e => hD.uq e.symm
              have HN := Lib.hid (hD2.setQ j g)
              have HQL := Lib.hid HDD.out.2.2.2.2
              clear hD hD2 hloe hlo1 hlo2 hgm hf9 hy9 hz9 hb1 hb2 hff
              go_wp2_with fail
              go_roundw
              case rel => exact ⟨j, Q.set j g, by go_num, by omega, by simpa using HQL.out, HN.out⟩
              case measure => simp [intOf]
end Go.Proofs.YtfnigdbnkdofiaaDoor
