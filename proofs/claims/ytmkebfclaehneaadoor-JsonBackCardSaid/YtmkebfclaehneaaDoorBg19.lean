/- TreeAny, SlicesClone. -/
import Derived.Test.YtmkebfclaehneaaDoorBg18
import Derived.Test.YtmkebfclaehneaaDoorBg13
import Derived.Test.YtmkebfclaehneaaDoorBg5
import Derived.Outline
import Derived.Lib.SliceRun
/- reader.tree, given what kids does: the contract. -/
namespace Go.Proofs.YtmkebfclaehneaaDoor
open Go.RowKit
set_option linter.unusedVariables false
set_option linter.unusedSimpArgs false

set_option maxRecDepth 100000 in
set_option maxHeartbeats 16000000 in
theorem tree_step (W0 : World) (rb : Nat) (s : ByteArray) (hs : s.size ≤ 60000) (f l pos : Nat) (hat : pos ≤ s.size) (hl : l < 400)
    (hk5 : KidsC W0 rb s f l 5 125) (hk6 : KidsC W0 rb s f l 6 93) (w : World) (hc : Cx W0 rb w) (hr : Rd w rb s pos (l + 1 : Nat)) :
    Calls Tryd.prog 10 #[.pointer (some ⟨rb, 0, none⟩)] w (TreeQ rb s (pT Num (toN s) (f + 1) pos (l + 1)) w) := by
  have hrb : rb < w.heap.size := Blk.lt hr
  obtain ⟨li, hli⟩ : ∃ li : Int, ((l + 1 : Nat) : Int) = li := ⟨_, rfl⟩
  have hlb : 0 < li ∧ li ≤ 400 := by omega
  rw [hli] at hr
  have hl0 : ¬ li - 1 < 0 := by omega
  obtain ⟨h0, h1, h2, f1, f2⟩ := hr.cells
  have HL := Lib.hid (show ((l : Nat) : Int) = li - 1 by omega)
  have HR := Lib.hid hr
  have HC := Lib.hid hc
  have HK5 := Lib.hid hk5
  have HK6 := Lib.hid hk6
  have hat1 : (pos : Int) ≤ (s.size : Int) := by omega
  have hpi : (pos : Int) ≤ 60000 := by omega
  have hne : ¬ rb = w.heap.size := by omega
  have hpos0 : (0 : Int) ≤ pos := by omega
  clear hr hc hk5 hk6 hli
  go_enter Tryd.func10, Tryd.ntmps10
  go_wp2_with fail
  refine wp_at (fun W1 => Rd W1 rb s pos (li - 1) ∧ Blk W1 w.heap.size 29 #[.int .i64 0, .int .i64 0, .string ⟨#[]⟩, .int .i64 0, .int .i64 0, .slice none 0 0, .slice none 0 0] ∧ Only (fun k => k = rb) w W1 ∧ W1.heap.size = w.heap.size + 1) ⟨(HR.out.less (li - 1)).alloc _, Blk.newer _ _ _ (by simp), (Only.setCell (S := fun k => k = rb) (Only.refl _ w) (p := ⟨rb, 2, none⟩) rfl _).alloc _, by simp⟩ ?_
  rintro W1 ⟨q1, q2, q3, q4⟩
  clear h0 h1 h2 f1 f2
  obtain ⟨h0, h1, h2, f1, f2⟩ := q1.cells
  have H1 := Lib.hid (And.intro q1 (And.intro q2 (And.intro q3 q4)))
  clear q1 q2 q3 q4
  go_big_quiet (fail)
  go_wp2_with fail
  have I0 : ∀ n, TI w rb s pos (li - 1) W1.heap.size 0 ((W1.drewN n).alloc (.cells kwCells 25)) := fun n =>
    ⟨((H1.out.1.drew n).alloc _), (H1.out.2.1.drewN n).alloc _, Blk.newer _ _ _ rfl, (H1.out.2.2.1.drewN n).alloc _, by intro j hj; omega⟩
  have HI0 := Lib.hid I0
  clear I0 h0 h1 h2 f1 f2
  have hgb : Hid (W1.heap.size = w.heap.size + 1) := Lib.hid H1.out.2.2.2
  generalize W1.heap.size = gb at *
  go_loopw [43] (fun iv wr => ∃ k : Nat, iv = .int .i64 k ∧ k ≤ 3 ∧ TI w rb s pos (li - 1) gb k wr) (fun iv _ => 3 - (intOf iv).toNat)
  case atStart => exact ⟨0, rfl, by omega, HI0.out _⟩
  case round =>
    obtain ⟨k, rfl, hk, hI⟩ := hrel
    by_cases hlt : k < 3
    · have hlti : (k : Int) < 3 := by omega
      obtain ⟨e0, e1, e2, e3, e4⟩ := kw_at hlt
      have hrow := hI.row
      have g0 : wr.cell? ⟨gb, k * 5, none⟩ = some (.int .i64 (kwK k)) := (hrow.cell (k * 5)).trans e0
      have g1 : wr.cell? ⟨gb, k * 5 + 1, none⟩ = some (.int .i64 (kwX k)) := (hrow.cell (k * 5 + 1)).trans e1
      have g2 : wr.cell? ⟨gb, k * 5 + 2, none⟩ = some (.string ⟨#[]⟩) := (hrow.cell (k * 5 + 2)).trans e2
      have g3 : wr.cell? ⟨gb, k * 5 + 3, none⟩ = some (.int .i64 0) := (hrow.cell (k * 5 + 3)).trans e3
      have g4 : wr.cell? ⟨gb, k * 5 + 4, none⟩ = some (.int .i64 0) := (hrow.cell (k * 5 + 4)).trans e4
      have HI := Lib.hid hI
      clear hI hrow e0 e1 e2 e3 e4
      have hno := HI.out.no
      obtain ⟨m, hm⟩ : ∃ m : Nat, (kwP k).length = m := ⟨_, rfl⟩
      obtain ⟨PB, hPB⟩ : ∃ PB : ByteArray, (⟨(kwP k).toArray⟩ : ByteArray) = PB := ⟨_, rfl⟩
      have hsz : PB.size = m := by rw [← hPB, ← hm]; simp [ByteArray.size]
      have hmb : PB.size ≤ 5 := by rw [hsz, ← hm]; exact kw_len
      obtain ⟨b, hb⟩ : ∃ b, prefB ((kwP k).map UInt8.toNat) ((toN s).drop pos) = b := ⟨_, rfl⟩
      have hpt : b = true → pT Num (toN s) (f + 1) pos (l + 1) = .ok (leafT (kwV k)) (pos + PB.size) l := by
        intro hbt
        rw [hsz, ← hm]
        exact pT_kw (toN s) f pos l k hlt hno (by rw [hb, hbt])
      have hle : b = true → pos + PB.size ≤ s.size := by
        intro hbt
        have := prefB_len (hb.trans hbt)
        rw [List.length_map, hm, List.length_drop, toN_len] at this
        omega
      have hHP : ∀ w1, Calls Tryd.prog 21 #[.string (s.extract pos s.size), .string PB] w1 fun e w' => e = .returned (.bool b) ∧ w' = w1 := by
        intro w1
        have := Tryd.strings_HasPrefix (s.extract pos s.size) PB w1
        rw [← hPB, prefix_bytes, show (s.extract pos s.size).data.toList.map UInt8.toNat = (toN s).drop pos from toN_extract s pos, hb] at this
        rw [← hPB]
        exact this
      have hSH : ∀ w1, Pow10 w1 → Calls Tryd.prog 20 #[.agg #[.int .i64 (kwK k), .int .i64 (kwX k), .string ⟨#[]⟩, .int .i64 0, .int .i64 0]] w1 fun e w' => e = .returned (.string PB) ∧ Below w1.heap.size w1 w' := by
        intro w1 hp
        have := show_any (kwV k) (kw_k k).1 (kw_k k).2 kw_fit.n (fun _ => Nat.zero_le _) w1 hp
        rw [kw_show, hPB] at this
        exact this
      have hfit : (kwV k).Fit := kw_fit
      rw [show kwV k = ⟨kwK k, kwX k, ⟨#[]⟩, 0, 0⟩ from rfl] at hpt hfit
      have HSH := Lib.hid hSH
      have HHP := Lib.hid hHP
      have HPT := Lib.hid hpt
      have HB := Lib.hid hb
      have HLE := Lib.hid hle
      have HF := Lib.hid hfit
      have hpk : ¬ rb = wr.heap.size := by have := HI.out.rd; have := Blk.lt this; omega
      clear hno hb hpt hle hHP hSH hfit hsz hPB hm
      generalize kwK k = K at *
      generalize kwX k = X at *
      cases b with
      | true =>
        go_wp2_with (first
          | (go_at_call 20; refine (HSH.out _ ((HC.out.only HI.out.only).below ((Below.refl _ _).alloc (Nat.le_refl _) _)).pow').mono ?_; rintro e w2 ⟨rfl, hb2⟩; have hb3 := ((Below.refl _ wr).alloc (Nat.le_refl _) _).trans (hb2.mono (by simp)); have hI2 := HI.out.below hb3; have hv2 := (Blk.new wr 25 #[.int .i64 K, .int .i64 X, .string ⟨#[]⟩, .int .i64 0, .int .i64 0]).below hb2 (by simp); have hr2 := hI2.rd; obtain ⟨j0, j1, j2, y1, y2⟩ := hr2.cells; have v0 := hv2.cell 0; have v1 := hv2.cell 1; have v2 := hv2.cell 2; have v3 := hv2.cell 3; have v4 := hv2.cell 4; simp only [List.getElem?_toArray, List.getElem?_cons_zero, List.getElem?_cons_succ] at v0 v1 v2 v3 v4; obtain ⟨r0, r1, r2, r3, r4, r5, r6, zr⟩ := res_cells hI2.res; have HI2 := Lib.hid hI2; clear hr2 hv2 hI2 hb3 hb2)
          | (go_at_call 21; refine (HHP.out _).mono ?_; rintro e w3 ⟨rfl, rfl⟩))
        have hts := HI2.out.ts.moved hrb PB.size
        refine bodyPost_ret (v := .agg #[.int .i64 K, .int .i64 X, .string ⟨#[]⟩, .int .i64 0, .int .i64 0, .slice none 0 0, .slice none 0 0]) (results_cell_row Tryd.results10 _ _ w.heap.size _ _ _ _ rfl (blk7 _ _ _ _ _ _ _ hts.res) Tryd.underlying29 rfl (by kernel_rfl)) rfl ?_
        exact tree_end HL.out hts hrb (leafP ⟨K, X, ⟨#[]⟩, 0, 0⟩) (HPT.out trivial) (HLE.out trivial) (leaf_own _ _ HF.out) List.nodup_nil (by intro b hb; cases hb) _ rfl _ _ _ _ _ _ _
      | false =>
        go_wp2_with (first
          | (go_at_call 20; refine (HSH.out _ ((HC.out.only HI.out.only).below ((Below.refl _ _).alloc (Nat.le_refl _) _)).pow').mono ?_; rintro e w2 ⟨rfl, hb2⟩; have hb3 := ((Below.refl _ wr).alloc (Nat.le_refl _) _).trans (hb2.mono (by simp)); have hI2 := HI.out.below hb3; have HI2 := Lib.hid hI2; clear hI2 hb3 hb2)
          | (go_at_call 21; refine (HHP.out _).mono ?_; rintro e w3 ⟨rfl, rfl⟩))
        go_roundw
        case rel => exact ⟨k + 1, by go_num, by omega, HI2.out.next HB.out⟩
        case measure => simp [intOf] <;> omega
    · obtain rfl : k = 3 := by omega
      clear hk
      have hno := HI0
      have HPT := Lib.hid (pT_rest (toN s) f pos l hI.no)
      have HS := Lib.hid hI.ts
      clear hI hno HI0
      by_cases h123 : (toN s)[pos]? = some 123
      · rw [if_pos h123] at HPT
        have hlt1 := lt_of_at h123
        have HT := Lib.hid (takes_yes wr rb s hs pos hat (li - 1) 123 (by decide) HS.out.rd h123)
        cases hP : kidsR (toN s) f 5 125 (pos + 1) l with
        | ok t a l' =>
          rw [hP] at HPT
          have HP := Lib.hid hP
          clear hP h123
          go_wp2_with (first
            | (go_at_call 22; refine HT.out.mono ?_; rintro e w3 ⟨rfl, hr3, ho3⟩; have HS3 := Lib.hid (HS.out.turn hrb hr3 ho3); clear hr3 ho3)
            | (go_at_call 23; refine (HK5.out _ (pos + 1) (by omega) (HC.out.only HS3.out.only) (by rw [HL.out]; exact HS3.out.rd)).mono ?_; intro e w4 hq; obtain ⟨T, rfl, rfl, ha, hr4, hown, hnd, hlow, ho4⟩ := hq.okd HP.out; have hts := HS3.out.turn hrb hr4 ho4; obtain ⟨r0, r1, r2, r3, r4, r5, r6, zr⟩ := res_cells hts.res; have HW := Lib.hid (And.intro ha (And.intro hown (And.intro hnd (fun b (hb : b ∈ T.own) => Nat.lt_of_lt_of_le HS3.out.res.lt (hlow b hb))))); have HS4 := Lib.hid hts; clear ha hr4 hown hnd hlow ho4 hts))
          refine bodyPost_ret (v := .agg #[.int .i64 T.val.k, .int .i64 T.val.n, .string T.val.s, .int .i64 T.val.o, .int .i64 T.val.p, .slice T.kA T.keys.length T.kc, .slice T.cA T.kids.length T.cc]) (results_cell_row Tryd.results10 _ _ w.heap.size _ _ _ _ rfl (blk7 _ _ _ _ _ _ _ HS4.out.res) Tryd.underlying29 rfl (by kernel_rfl)) rfl ?_
          exact tree_end rfl HS4.out hrb T HPT.out HW.out.1 HW.out.2.1 HW.out.2.2.1 HW.out.2.2.2 _ rfl _ _ _ _ _ _ _
        | bad a x =>
          rw [hP] at HPT
          have HP := Lib.hid hP
          clear hP h123
          go_wp2_with (first
            | (go_at_call 22; refine HT.out.mono ?_; rintro e w3 ⟨rfl, hr3, ho3⟩; have HS3 := Lib.hid (HS.out.turn hrb hr3 ho3); clear hr3 ho3)
            | (go_at_call 23; refine (HK5.out _ (pos + 1) (by omega) (HC.out.only HS3.out.only) (by rw [HL.out]; exact HS3.out.rd)).mono ?_; intro e w4 hq; obtain ⟨rfl, ho4⟩ := hq.badd HP.out))
          rw [HPT.out]
          exact ⟨rfl, rfl, HS3.out.only.trans ho4⟩
      · rw [if_neg h123] at HPT
        have HT := Lib.hid (show Calls Tryd.prog 22 #[.pointer (some ⟨rb, 0, none⟩), .int .u8 123] wr _ from takes_no wr rb s hs pos hat (li - 1) 123 (by decide) HS.out.rd h123)
        by_cases h91 : (toN s)[pos]? = some 91
        · rw [if_pos h91] at HPT
          have hlt1 := lt_of_at h91
          have HY := Lib.hid (fun w2 (hr : Rd w2 rb s pos (li - 1)) => show Calls Tryd.prog 22 #[.pointer (some ⟨rb, 0, none⟩), .int .u8 91] w2 _ from takes_yes w2 rb s hs pos hat (li - 1) 91 (by decide) hr h91)
          cases hP : kidsR (toN s) f 6 93 (pos + 1) l with
          | ok t a l' =>
            rw [hP] at HPT
            have HP := Lib.hid hP
            clear hP h123 h91
            go_wp2_with (first
              | (go_at_call 22; with_reducible refine HT.out.mono ?_; rintro e w2 ⟨rfl, hr2, ho2⟩; have HS2 := Lib.hid (HS.out.turn hrb hr2 ho2); clear hr2 ho2)
              | (go_at_call 22; with_reducible refine (HY.out _ HS2.out.rd).mono ?_; rintro e w3 ⟨rfl, hr3, ho3⟩; have HS3 := Lib.hid (HS2.out.turn hrb hr3 ho3); clear hr3 ho3)
              | (go_at_call 23; refine (HK6.out _ (pos + 1) (by omega) (HC.out.only HS3.out.only) (by rw [HL.out]; exact HS3.out.rd)).mono ?_; intro e w4 hq; obtain ⟨T, rfl, rfl, ha, hr4, hown, hnd, hlow, ho4⟩ := hq.okd HP.out; have hts := HS3.out.turn hrb hr4 ho4; obtain ⟨r0, r1, r2, r3, r4, r5, r6, zr⟩ := res_cells hts.res; have HW := Lib.hid (And.intro ha (And.intro hown (And.intro hnd (fun b (hb : b ∈ T.own) => Nat.lt_of_lt_of_le HS3.out.res.lt (hlow b hb))))); have HS4 := Lib.hid hts; clear ha hr4 hown hnd hlow ho4 hts))
            refine bodyPost_ret (v := .agg #[.int .i64 T.val.k, .int .i64 T.val.n, .string T.val.s, .int .i64 T.val.o, .int .i64 T.val.p, .slice T.kA T.keys.length T.kc, .slice T.cA T.kids.length T.cc]) (results_cell_row Tryd.results10 _ _ w.heap.size _ _ _ _ rfl (blk7 _ _ _ _ _ _ _ HS4.out.res) Tryd.underlying29 rfl (by kernel_rfl)) rfl ?_
            exact tree_end rfl HS4.out hrb T HPT.out HW.out.1 HW.out.2.1 HW.out.2.2.1 HW.out.2.2.2 _ rfl _ _ _ _ _ _ _
          | bad a x =>
            rw [hP] at HPT
            have HP := Lib.hid hP
            clear hP h123 h91
            go_wp2_with (first
              | (go_at_call 22; with_reducible refine HT.out.mono ?_; rintro e w2 ⟨rfl, hr2, ho2⟩; have HS2 := Lib.hid (HS.out.turn hrb hr2 ho2); clear hr2 ho2)
              | (go_at_call 22; with_reducible refine (HY.out _ HS2.out.rd).mono ?_; rintro e w3 ⟨rfl, hr3, ho3⟩; have HS3 := Lib.hid (HS2.out.turn hrb hr3 ho3); clear hr3 ho3)
              | (go_at_call 23; refine (HK6.out _ (pos + 1) (by omega) (HC.out.only HS3.out.only) (by rw [HL.out]; exact HS3.out.rd)).mono ?_; intro e w4 hq; obtain ⟨rfl, ho4⟩ := hq.badd HP.out))
            rw [HPT.out]
            exact ⟨rfl, rfl, HS3.out.only.trans ho4⟩
        · rw [if_neg h91] at HPT
          have HN := Lib.hid (fun w2 (hr : Rd w2 rb s pos (li - 1)) => show Calls Tryd.prog 22 #[.pointer (some ⟨rb, 0, none⟩), .int .u8 91] w2 _ from takes_no w2 rb s hs pos hat (li - 1) 91 (by decide) hr h91)
          have hx := toN_extract s pos
          obtain ⟨R, hR⟩ : ∃ R, s.extract pos s.size = R := ⟨_, rfl⟩
          have hRs : R.size = s.size - pos := by rw [← hR]; simp
          by_cases h34 : (toN s)[pos]? = some 34
          · rw [if_pos h34] at HPT
            have hlt1 := lt_of_at h34
            have h0 : 0 < R.size := by omega
            have h0i : (0 : Int) < (R.size : Int) := by omega
            obtain ⟨hk1, hk2⟩ := not_empty h0
            have hcell : ∀ h, ((R[0]'h).toNat : Int) = 34 := by
              intro h
              have h1 : (toN R)[0]? = some 34 := by rw [← hR, toN_extract, List.getElem?_drop]; exact h34
              rw [toN_at h] at h1
              injection h1 with h1
              omega
            rw [hR]
            have HX := Lib.hid (And.intro hx (And.intro hR (And.intro h34 hRs)))
            clear hx hR h34 h123 h91 hRs
            go_wp2_with (first
              | (go_at_call 22; with_reducible refine HT.out.mono ?_; rintro e w2 ⟨rfl, hr2, ho2⟩; have HS2 := Lib.hid (HS.out.turn hrb hr2 ho2); clear hr2 ho2)
              | (go_at_call 22; with_reducible refine (HN.out _ HS2.out.rd).mono ?_; rintro e w3 ⟨rfl, hr3, ho3⟩; have HS3 := Lib.hid (HS2.out.turn hrb hr3 ho3); clear hr3 ho3))
            unfold textR at HPT
            cases hq : txtF 60 ((toN s).drop pos) with
            | some p =>
              obtain ⟨b, n⟩ := p
              have HQ := Lib.hid hq
              rw [hq] at HPT
              clear hq
              go_wp2_with (go_at_call 24; refine (quoted_any _ rb s hs pos hat (li - 1) 60 (by decide) HS3.out.rd).mono ?_; intro e w4 hq; obtain ⟨hle, rfl, hb60, hr4, ho4⟩ := hq.some_ HQ.out; have hts := HS3.out.turn hrb hr4 ho4; obtain ⟨r0, r1, r2, r3, r4, r5, r6, zr⟩ := res_cells hts.res; have HW := Lib.hid (And.intro hle hb60); have HS4 := Lib.hid hts; clear hle hb60 hr4 ho4 hts hq)
              refine bodyPost_ret (v := .agg #[.int .i64 3, .int .i64 0, .string b, .int .i64 0, .int .i64 0, .slice none 0 0, .slice none 0 0]) (results_cell_row Tryd.results10 _ _ w.heap.size _ _ _ _ rfl (blk7 _ _ _ _ _ _ _ HS4.out.res) Tryd.underlying29 rfl (by kernel_rfl)) rfl ?_
              exact tree_end HL.out HS4.out hrb (leafP ⟨3, 0, b, 0, 0⟩) HPT.out HW.out.1 (leaf_own _ _ (text_fit HW.out.2)) List.nodup_nil (by intro b hb; cases hb) _ rfl _ _ _ _ _ _ _
            | none =>
              have HQ := Lib.hid hq
              rw [hq] at HPT
              clear hq
              go_wp2_with (go_at_call 24; refine (quoted_any _ rb s hs pos hat (li - 1) 60 (by decide) HS3.out.rd).mono ?_; intro e w4 hq; obtain ⟨rfl, ho4⟩ := hq.none_ HQ.out; clear hq)
              rw [HPT.out]
              exact ⟨rfl, rfl, HS3.out.only.trans ho4⟩
          · rw [if_neg h34] at HPT
            unfold numR at HPT
            obtain ⟨L, hL⟩ : ∃ L, L = (numRun (toN R)).length := ⟨_, rfl⟩
            obtain ⟨g1, g2, g3, g4⟩ := run_parts R L hL
            obtain ⟨N0, hN0⟩ : ∃ N0, R.extract 0 L = N0 := ⟨_, rfl⟩
            rw [hN0] at g3 g4
            obtain ⟨TL, hTL⟩ : ∃ TL : ByteArray, (⟨(Lib.trimLeftS R.data.toList cutS).toArray⟩ : ByteArray) = TL := ⟨_, rfl⟩
            have hTs : TL.size = R.size - L := by rw [← hTL, ← g2]; simp [ByteArray.size]
            have HTL := Lib.hid (fun w1 => show Calls Tryd.prog 25 #[.string R, .string ⟨#[45, 48, 49, 50, 51, 52, 53, 54, 55, 56, 57]⟩] w1 (fun e w' => e = .returned (.string TL) ∧ Below w1.heap.size w1 w') from hTL ▸ Tryd.strings_TrimLeft R ⟨#[45, 48, 49, 50, 51, 52, 53, 54, 55, 56, 57]⟩ w1 (by decide) cut_ascii)
            have hsub : (R.size : Int) - (TL.size : Int) = (L : Int) := by omega
            have hRi : (R.size : Int) ≤ 60000 := by omega
            have hTi : (TL.size : Int) ≤ 60000 := by omega
            have hLi : (L : Int) ≤ (R.size : Int) := by omega
            have hND : (toN s).drop pos = toN R := by rw [← hx, hR]
            rw [hND] at HPT
            have hle : pos + L ≤ s.size := by omega
            have HX := Lib.hid (And.intro hx (And.intro hR (And.intro hRs (And.intro hTs (And.intro hTL (And.intro hND (And.intro g1 (And.intro g2 (And.intro g3 (And.intro hL (And.intro hN0 (And.intro g4 hle))))))))))))
            have HNC := Lib.hid (num_cases N0 (numRun (toN R)) g3)
            have hN6 : N0.size ≤ 60000 := by omega
            rw [hR]
            have hcase : (R.toList = []) ∨ (0 < R.size ∧ (0 : Int) < (R.size : Int) ∧ (¬ R.toList = [] ∧ (!R.toList.isEmpty) = true) ∧ ∃ x : Int, (∀ h, ((R[0]'h).toNat : Int) = x) ∧ (x == 34) = false ∧ ¬ x = 34) := by
              by_cases h0 : R.size = 0
              · exact .inl (is_empty h0)
              · refine .inr ⟨by omega, by omega, not_empty (by omega), ((R[0]'(by omega)).toNat : Int), fun _ => rfl, ?_⟩
                have h1 : (toN R)[0]? = (toN s)[pos]? := by rw [← hR, toN_extract, List.getElem?_drop]; rfl
                rw [toN_at (show 0 < R.size by omega)] at h1
                have : (R[0]'(by omega)).toNat ≠ 34 := fun e => h34 (by rw [← h1, e])
                refine ⟨?_, by omega⟩
                rw [beq_eq_false_iff_ne]
                omega
            clear hx hR hRs hTs hTL hND g1 g2 g3 hL hN0 g4 hle h34 h123 h91
            rcases hcase with hk | ⟨h0, h0i, ⟨hk1, hk2⟩, x, hcell, hx1, hx2⟩
            all_goals
              go_wp2_with (first
                | (go_at_call 22; with_reducible refine HT.out.mono ?_; rintro e w2 ⟨rfl, hr2, ho2⟩; have HS2 := Lib.hid (HS.out.turn hrb hr2 ho2); clear hr2 ho2)
                | (go_at_call 22; with_reducible refine (HN.out _ HS2.out.rd).mono ?_; rintro e w3 ⟨rfl, hr3, ho3⟩; have HS3 := Lib.hid (HS2.out.turn hrb hr3 ho3); clear hr3 ho3)
                | (go_at_call 25; refine (HTL.out _).mono ?_; rintro e w4 ⟨rfl, hb4⟩; have HS4 := Lib.hid (HS3.out.below hb4); clear hb4))
            all_goals
              have hN0 := HX.out.2.2.2.2.2.2.2.2.2.2.1
              rw [hN0]
              rcases HNC.out with ⟨v, hv, hvI, hni⟩ | ⟨hno, hn⟩
              · obtain ⟨IB, hIB⟩ : ∃ IB : ByteArray, (⟨(Go.Lib.itoa v).toArray⟩ : ByteArray) = IB := ⟨_, rfl⟩
                rw [hIB] at hni
                obtain ⟨b, hb⟩ : ∃ b, (IB.toList == N0.toList) = b := ⟨_, rfl⟩
                have hb2 : (!IB.toList == N0.toList) = !b := by rw [hb]
                have hnb : Num (numRun (toN R)) = if b then some v else none := by
                  rcases hni with ⟨hn, hi⟩ | ⟨hn, hi⟩
                  · rw [hn, ← hb, hi, if_pos (by simp)]
                  · rw [hn, ← hb, (toList_neq hi).1]; rfl
                have HV := Lib.hid (And.intro hv (And.intro hvI hnb))
                have hIT := fun w1 (hp : Pow10 w1) => itoa_any v hvI w1 hp
                rw [hIB] at hIT
                have HIT := Lib.hid hIT
                clear hv hvI hni hnb hIT hIB
                refine (atoi_any N0 hN6 _ (HC.out.only HS4.out.only).err').mono ?_
                intro e w5 hq
                obtain ⟨rfl, hb5⟩ := hq.ok_ HV.out.1
                have HS5 := Lib.hid (HS4.out.below hb5)
                clear hb5 hq
                go_wp2_with fail
                go_region_with (go_at_call 27; refine (HIT.out w5.drew (HS5.out.cx HC.out).pow').mono ?_; rintro e w6 ⟨rfl, hb6⟩; have hts := HS5.out.below (show Below w5.heap.size w5 w6 from ⟨hb6.os, hb6.tape, hb6.output, hb6.size, hb6.block⟩); obtain ⟨r0, r1, r2, r3, r4, r5, r6, zr⟩ := res_cells hts.res; obtain ⟨j0, j1, j2, y1, y2⟩ := hts.rd.cells; have HS6 := Lib.hid hts; clear hts hb6)
                cases b with
                | true =>
                  go_wp2_with fail
                  have hts := HS6.out.moved hrb L
                  refine bodyPost_ret (v := .agg #[.int .i64 2, .int .i64 v, .string ⟨#[]⟩, .int .i64 0, .int .i64 0, .slice none 0 0, .slice none 0 0]) (results_cell_row Tryd.results10 _ _ w.heap.size _ _ _ _ rfl (blk7 _ _ _ _ _ _ _ hts.res) Tryd.underlying29 rfl (by kernel_rfl)) rfl ?_
                  refine tree_end HL.out hts hrb (leafP ⟨2, v, ⟨#[]⟩, 0, 0⟩) (HPT.out.trans ?_) HX.out.2.2.2.2.2.2.2.2.2.2.2.2 (leaf_own _ _ (num_fit HV.out.2.1)) List.nodup_nil (by intro b hb; cases hb) _ rfl _ _ _ _ _ _ _
                  rw [HV.out.2.2, ← HX.out.2.2.2.2.2.2.2.2.2.1]
                  rfl
                | false =>
                  go_wp2_with (go_at_call 11; refine (fail_any _ rb pos 2).mono ?_; unfold faultE; rintro e w7 ⟨rfl, rfl⟩)
                  rw [HPT.out, HV.out.2.2]
                  exact ⟨rfl, rfl, HS6.out.only⟩
              · have HV := Lib.hid (And.intro hno hn)
                clear hno hn
                refine (atoi_any N0 hN6 _ (HC.out.only HS4.out.only).err').mono ?_
                intro e w5 hq
                obtain ⟨⟨x0, T0, B0, rfl⟩, hb5⟩ := hq.no_ HV.out.1
                have hts := HS4.out.below hb5
                obtain ⟨j0, j1, j2, y1, y2⟩ := hts.rd.cells
                have HS5 := Lib.hid hts
                clear hb5 hq hts
                go_wp2_with fail
                go_big_quiet (fail)
                go_wp2_with (go_at_call 11; refine (fail_any _ rb pos 2).mono ?_; unfold faultE; rintro e w7 ⟨rfl, rfl⟩)
                rw [HPT.out, HV.out.2]
                exact ⟨rfl, rfl, (HS5.out.drew _).only⟩
/-- No tree is left. -/
theorem tree_full (rb : Nat) (s : ByteArray) (hs : s.size ≤ 60000) (f pos : Nat) (hat : pos ≤ s.size) (w : World) (hr : Rd w rb s pos (0 : Nat)) :
    Calls Tryd.prog 10 #[.pointer (some ⟨rb, 0, none⟩)] w (TreeQ rb s (pT Num (toN s) (f + 1) pos 0) w) := by
  have hP : pT Num (toN s) (f + 1) pos 0 = .bad pos 4 := by rw [pT, if_pos rfl]
  rw [hP]
  have hrb : rb < w.heap.size := Blk.lt hr
  have hne : ¬ rb = w.heap.size := by omega
  obtain ⟨h0, h1, h2, f1, f2⟩ := hr.cells
  have HR := Lib.hid hr
  clear hr hP
  go_enter Tryd.func10, Tryd.ntmps10
  go_wp2_with (go_at_call 11; refine (fail_any _ rb pos 4).mono ?_; unfold faultE; rintro e w7 ⟨rfl, rfl⟩)
  refine ⟨rfl, rfl, (Only.setCell (S := fun k => k = rb) (Only.refl _ w) (p := ⟨rb, 2, none⟩) rfl _).alloc _⟩
end Go.Proofs.YtmkebfclaehneaaDoor
/- slices.Clone at strings, at trees: a new row with what the slice read as. -/
namespace Go.Proofs.YtmkebfclaehneaaDoor
open Go.RowKit
set_option linter.unusedVariables false
set_option linter.unusedSimpArgs false

theorem infoStr : (Tryd.prog.info? 9).map (fun i => (i.zero, i.size, i.bytes)) = some (some (.string ⟨#[]⟩), 1, 16) := by kernel_rfl
def zTree : Value := .agg #[.int .i64 0, .int .i64 0, .string ⟨#[]⟩, .int .i64 0, .int .i64 0, .slice none 0 0, .slice none 0 0]
theorem infoTree : (Tryd.prog.info? 29).map (fun i => (i.zero, i.size, i.bytes)) = some (some zTree, 7, 96) := by kernel_rfl

/-- A row of one's own, new since w. -/
def NewRow (E : TypeId) (sz : Nat) (w : World) (n : Nat) (xs : List Value) (e : Ending) (w' : World) : Prop :=
  ∃ A c, e = .returned (.slice A n c) ∧ w'.ownsRow 0 E sz (.slice A n c) n xs ∧ Below w.heap.size w w' ∧ ∀ b ∈ blkOf A, w.heap.size ≤ b

set_option maxRecDepth 100000 in
set_option maxHeartbeats 2000000 in
theorem cloneStr_any (A : Option Addr) (n c : Nat) (xs : List Value) (w : World) (hl : xs.length = n * 1) (hA : SlAt w A xs) (hn : n ≤ 1000) (h1 : ∀ u ∈ xs, u.oneCell' = true) :
    Calls Tryd.prog 37 #[.slice A n c] w (NewRow 9 1 w n xs) := by
  have q22 : ∀ (w : World) (a : Option Addr) (n c n' c' : Nat), (binOp .eql 26 (.slice a n c) (.slice none n' c')).run Tryd.prog w = .ok (.bool a.isNone) w := fun w a n c n' c' => Lib.run_eql_slice_nil w _ _ a n c n' c' Tryd.underlying26
  cases A with
  | none =>
    have hx : xs = [] := by
      rcases hA with h | ⟨b, off, h, _⟩
      · exact h
      · cases h
    subst hx
    obtain rfl : n = 0 := by simp at hl; omega
    clear hA hl hn h1
    go_enter Tryd.func37, Tryd.ntmps37
    go_wp2_with fail
    go_ret
    exact ⟨none, 0, rfl, World.ownsRow_nil _ _ _ _, Below.refl _ _, by simp [blkOf]⟩
  | some a =>
    have hown : (w.alloc (.cells #[] 9)).ownsRow 0 9 1 (.slice (some ⟨w.heap.size, 0, none⟩) 0 0) 0 [] := World.ownsRow_made w #[] 0 (Nat.zero_le _) (Nat.zero_le _) (by simp)
    by_cases h0 : n = 0
    · subst h0
      have hx : xs = [] := List.eq_nil_of_length_eq_zero (by simpa using hl)
      subst hx
      have hr : ∀ ty, (Builtin.append_ #[26, 26] ty #[.slice (some ⟨w.heap.size, 0, none⟩) 0 0, .slice (some a) 0 c]).run Tryd.prog (w.alloc (.cells #[] 9)) = .ok (.slice (some ⟨w.heap.size, 0, none⟩) 0 0) (w.alloc (.cells #[] 9)) :=
        fun ty => run_append_none _ _ ty _ Tryd.underlying26 infoStr w.heap.size 0 0 #[] (heap_alloc_new w _) (Nat.le_refl _) (by simp) _ _
      have HR := Lib.hid hr
      have HO := Lib.hid hown
      clear hA hl hn h1 hr hown
      go_enter Tryd.func37, Tryd.ntmps37
      go_wp2_with (at_builtin; refine Lib.wpList_append_run _ rfl _ _ _ _ rfl _ _ rfl rfl _ _ (HR.out _) ?_)
      go_ret
      exact ⟨some ⟨w.heap.size, 0, none⟩, 0, rfl, HO.out, (Below.refl _ _).alloc (Nat.le_refl _) _, by simp [blkOf]⟩
    · obtain ⟨b, off, ha, hc⟩ : ∃ b off, a = ⟨b, off, none⟩ ∧ ∀ j u, xs[j]? = some u → w.cell? ⟨b, off + j, none⟩ = some u := by
        rcases hA with h | ⟨b, off, h, hc⟩
        · subst h; simp at hl; omega
        · exact ⟨b, off, Option.some.inj h, hc⟩
      subst ha
      obtain ⟨A', c', w', hr, ho, hg, hA'⟩ := run_append_own2 (P := Tryd.prog) (w.alloc (.cells #[] 9)) 26 26 9 Tryd.underlying26 infoStr rfl (by decide) _ 0 0 [] hown ⟨b, off, none⟩ n c (by omega) xs hl
        (fun j u hu => by rw [Addr.add_lit]; exact cell_below ((Below.refl _ w).alloc (Nat.le_refl _) _) (hc j u hu)) h1 (by simp only [maxLen]; omega) (by omega)
      rw [Nat.zero_add, List.nil_append] at ho
      rw [Nat.zero_add] at hr
      have hb : Below w.heap.size w w' := ((Below.refl _ _).alloc (Nat.le_refl _) _).trans ⟨hg.os, hg.tape, hg.output, Nat.le_trans (by simp) hg.size, fun k hk => hg.block k (by simp; omega) (by simp [Value.ownBlock]; omega)⟩
      have hnew : ∀ b ∈ blkOf A', w.heap.size ≤ b := by
        rcases hA' with ⟨rfl, _⟩ | rfl
        · simp [blkOf]
        · simp [blkOf]
      have hr' : ∀ ty, (Builtin.append_ #[26, 26] ty #[.slice (some ⟨w.heap.size, 0, none⟩) 0 0, .slice (some ⟨b, off, none⟩) n c]).run Tryd.prog (w.alloc (.cells #[] 9)) = .ok (.slice A' n c') w' := fun _ => hr
      have HR := Lib.hid hr'
      have HO := Lib.hid (And.intro ho (And.intro hb hnew))
      clear hl hn h1 hr hown hr' ho hb hnew hA' hg hA hc
      go_enter Tryd.func37, Tryd.ntmps37
      go_wp2_with (at_builtin; refine Lib.wpList_append_run _ rfl _ _ _ _ rfl _ _ rfl rfl _ _ (HR.out _) ?_)
      go_ret
      exact ⟨A', c', rfl, HO.out.1, HO.out.2.1, HO.out.2.2⟩

set_option maxRecDepth 100000 in
set_option maxHeartbeats 2000000 in
theorem cloneTree_any (A : Option Addr) (n c : Nat) (xs : List Value) (w : World) (hl : xs.length = n * 7) (hA : SlAt w A xs) (hn : n ≤ 1000) (h1 : ∀ u ∈ xs, u.oneCell' = true) :
    Calls Tryd.prog 38 #[.slice A n c] w (NewRow 29 7 w n xs) := by
  have q22 : ∀ (w : World) (a : Option Addr) (n c n' c' : Nat), (binOp .eql 27 (.slice a n c) (.slice none n' c')).run Tryd.prog w = .ok (.bool a.isNone) w := fun w a n c n' c' => Lib.run_eql_slice_nil w _ _ a n c n' c' Tryd.underlying27
  cases A with
  | none =>
    have hx : xs = [] := by
      rcases hA with h | ⟨b, off, h, _⟩
      · exact h
      · cases h
    subst hx
    obtain rfl : n = 0 := by simp at hl; omega
    clear hA hl hn h1
    go_enter Tryd.func38, Tryd.ntmps38
    go_wp2_with fail
    go_ret
    exact ⟨none, 0, rfl, World.ownsRow_nil _ _ _ _, Below.refl _ _, by simp [blkOf]⟩
  | some a =>
    have hown : (w.alloc (.cells #[] 29)).ownsRow 0 29 7 (.slice (some ⟨w.heap.size, 0, none⟩) 0 0) 0 [] := World.ownsRow_made w #[] 0 (Nat.zero_le _) (Nat.zero_le _) (by simp)
    by_cases h0 : n = 0
    · subst h0
      have hx : xs = [] := List.eq_nil_of_length_eq_zero (by simpa using hl)
      subst hx
      have hr : ∀ ty, (Builtin.append_ #[27, 27] ty #[.slice (some ⟨w.heap.size, 0, none⟩) 0 0, .slice (some a) 0 c]).run Tryd.prog (w.alloc (.cells #[] 29)) = .ok (.slice (some ⟨w.heap.size, 0, none⟩) 0 0) (w.alloc (.cells #[] 29)) :=
        fun ty => run_append_none _ _ ty _ Tryd.underlying27 infoTree w.heap.size 0 0 #[] (heap_alloc_new w _) (Nat.le_refl _) (by simp) _ _
      have HR := Lib.hid hr
      have HO := Lib.hid hown
      clear hA hl hn h1 hr hown
      go_enter Tryd.func38, Tryd.ntmps38
      go_wp2_with (at_builtin; refine Lib.wpList_append_run _ rfl _ _ _ _ rfl _ _ rfl rfl _ _ (HR.out _) ?_)
      go_ret
      exact ⟨some ⟨w.heap.size, 0, none⟩, 0, rfl, HO.out, (Below.refl _ _).alloc (Nat.le_refl _) _, by simp [blkOf]⟩
    · obtain ⟨b, off, ha, hc⟩ : ∃ b off, a = ⟨b, off, none⟩ ∧ ∀ j u, xs[j]? = some u → w.cell? ⟨b, off + j, none⟩ = some u := by
        rcases hA with h | ⟨b, off, h, hc⟩
        · subst h; simp at hl; omega
        · exact ⟨b, off, Option.some.inj h, hc⟩
      subst ha
      obtain ⟨A', c', w', hr, ho, hg, hA'⟩ := run_append_own2 (P := Tryd.prog) (w.alloc (.cells #[] 29)) 27 27 29 Tryd.underlying27 infoTree rfl (by decide) _ 0 0 [] hown ⟨b, off, none⟩ n c (by omega) xs hl
        (fun j u hu => by rw [Addr.add_lit]; exact cell_below ((Below.refl _ w).alloc (Nat.le_refl _) _) (hc j u hu)) h1 (by simp only [maxLen]; omega) (by omega)
      rw [Nat.zero_add, List.nil_append] at ho
      rw [Nat.zero_add] at hr
      have hb : Below w.heap.size w w' := ((Below.refl _ _).alloc (Nat.le_refl _) _).trans ⟨hg.os, hg.tape, hg.output, Nat.le_trans (by simp) hg.size, fun k hk => hg.block k (by simp; omega) (by simp [Value.ownBlock]; omega)⟩
      have hnew : ∀ b ∈ blkOf A', w.heap.size ≤ b := by
        rcases hA' with ⟨rfl, _⟩ | rfl
        · simp [blkOf]
        · simp [blkOf]
      have hr' : ∀ ty, (Builtin.append_ #[27, 27] ty #[.slice (some ⟨w.heap.size, 0, none⟩) 0 0, .slice (some ⟨b, off, none⟩) n c]).run Tryd.prog (w.alloc (.cells #[] 29)) = .ok (.slice A' n c') w' := fun _ => hr
      have HR := Lib.hid hr'
      have HO := Lib.hid (And.intro ho (And.intro hb hnew))
      clear hl hn h1 hr hown hr' ho hb hnew hA' hg hA hc
      go_enter Tryd.func38, Tryd.ntmps38
      go_wp2_with (at_builtin; refine Lib.wpList_append_run _ rfl _ _ _ _ rfl _ _ rfl rfl _ _ (HR.out _) ?_)
      go_ret
      exact ⟨A', c', rfl, HO.out.1, HO.out.2.1, HO.out.2.2⟩
end Go.Proofs.YtmkebfclaehneaaDoor
