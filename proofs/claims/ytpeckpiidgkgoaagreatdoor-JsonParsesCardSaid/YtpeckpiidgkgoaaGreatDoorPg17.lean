/- Kids5, Kids6. -/
import Derived.Test.YtpeckpiidgkgoaaGreatDoorPg15
import Derived.Test.YtpeckpiidgkgoaaGreatDoorPg16
import Derived.Test.YtpeckpiidgkgoaaGreatDoorPg5
import Derived.Laws.Cover1
import Derived.Deep.RegionLaw
import Derived.Deep.DeepCutAuto
/- reader.kids of a map, given what tree does: the contract. -/
namespace Go.Proofs.YtpeckpiidgkgoaaGreatDoor
open Go.RowKit
set_option linter.unusedVariables false
set_option linter.unusedSimpArgs false

set_option maxRecDepth 100000 in
set_option maxHeartbeats 4000000 in
theorem kids5_step (W0 : World) (rb : Nat) (s : ByteArray) (hs : s.size ≤ 60000) (f l : Nat) (hl : l ≤ 400) (hf : 3 * l + 3 ≤ f)
    (ht : ∀ l1, l1 ≤ l → TreeC W0 rb s l1) : KidsC W0 rb s f l 5 125 := by
  intro w pos hat hc hr
  have hrb : rb < w.heap.size := Blk.lt hr
  have hne : ¬ rb = w.heap.size := by omega
  have hne1 : ¬ rb = w.heap.size + 1 := by omega
  have HC := Lib.hid hc
  have HR := Lib.hid hr
  have h0 : KI w rb s 5 pos l [] [] none 0 none 0 ((w.alloc (.cells #[.int .i64 0, .int .i64 0, .string ⟨#[]⟩, .int .i64 0, .int .i64 0, .slice none 0 0, .slice none 0 0] 29)).alloc (.cells #[.int .i64 5, .int .i64 0, .string ⟨#[]⟩, .int .i64 0, .int .i64 0, .slice none 0 0, .slice none 0 0] 29)) :=
    ⟨(hr.alloc _).alloc _, (Blk.new w _ _).alloc _, Blk.newer _ _ _ (by simp), ⟨rfl, .inl ⟨rfl, rfl⟩⟩, ⟨rfl, .inl ⟨rfl, rfl⟩⟩, (fun D hD => by cases hD), by simp [blkOf, PT.ownL], by simp [blkOf, PT.ownL], ((Only.refl _ w).alloc _).alloc _, (fun k hk => by cases hk)⟩
  have HI0 := Lib.hid h0
  clear hc hr h0
  by_cases hend : (toN s)[pos]? = some 125
  · have HP := Lib.hid (show kidsR (toN s) f 5 125 pos l = .ok (leafT (kindV 5)) (pos + 1) l from if_pos hend)
    have hlt := lt_of_at hend
    have HT := Lib.hid (show Calls Tryz.prog 23 #[.pointer (some ⟨rb, 0, none⟩), .int .u8 125] _ _ from takes_yes _ rb s hs pos hat l 125 (by decide) HI0.out.rd hend)
    clear hend
    go_enter Tryz.func24, Tryz.ntmps24
    go_wp2_with (go_at_call 23; (with_reducible refine HT.out.mono ?_); rintro e w3 ⟨rfl, hr3, ho3⟩; have hI3 := HI0.out.turn hrb hr3 ho3; obtain ⟨b0, b1, b2, b3, b4, b5, b6, zb⟩ := res_cells hI3.box; obtain ⟨r0, r1, r2, r3, r4, r5, r6, zr⟩ := res_cells hI3.res; simp only [List.length_nil] at b5 b6; have HI3 := Lib.hid hI3; clear hr3 ho3 hI3)
    refine bodyPost_ret (v := .agg #[.int .i64 5, .int .i64 0, .string ⟨#[]⟩, .int .i64 0, .int .i64 0, .slice none 0 0, .slice none 0 0]) (results_cell_row Tryz.results24 _ _ w.heap.size _ _ _ _ rfl (blk7 _ _ _ _ _ _ _ HI3.out.res) Tryz.underlying29 rfl (by kernel_rfl)) rfl ?_
    exact tree_end rfl HI3.out.ts hrb (leafP (kindV 5)) HP.out (by omega) (leaf_own _ _ (kind_fit (by decide))) List.nodup_nil (by intro b hb; cases hb) _ rfl _ _ _ _ _ _ _
  have HP := Lib.hid (show kidsR (toN s) f 5 125 pos l = pK Num (toN s) f 5 125 pos l [] [] from if_neg hend)
  have HT := Lib.hid (show Calls Tryz.prog 23 #[.pointer (some ⟨rb, 0, none⟩), .int .u8 125] _ _ from takes_no _ rb s hs pos hat l 125 (by decide) HI0.out.rd hend)
  clear hend
  go_enter Tryz.func24, Tryz.ntmps24
  go_wp2_with (go_at_call 23; (with_reducible refine HT.out.mono ?_); rintro e w3 ⟨rfl, hr3, ho3⟩; have HI1 := Lib.hid (HI0.out.turn hrb hr3 ho3); clear hr3 ho3)
  clear HT
  go_loopw [18] (fun _ wr => ∃ (f1 a l1 : Nat) (ks : List ByteArray) (done : List PT) (kA : Option Addr) (kc : Nat) (cA : Option Addr) (cc : Nat), KI w rb s 5 a l1 ks done kA kc cA cc wr ∧ pK Num (toN s) f 5 125 pos l [] [] = pK Num (toN s) f1 5 125 a l1 ks (done.map PT.tree) ∧ 3 * l1 + 3 ≤ f1 ∧ l1 ≤ l ∧ done.length + l1 ≤ 400 ∧ ks.length = done.length ∧ a ≤ s.size) (fun _ wr => leftOf rb wr)
  case atStart => exact ⟨f, pos, l, [], [], none, 0, none, 0, HI1.out, rfl, hf, Nat.le_refl _, by simp; omega, rfl, hat⟩
  case round =>
    obtain ⟨f1, a, l1, ks, done, kA, kc, cA, cc, hI, hP, hf1, hl1, hd1, hks, ha⟩ := hrel
    obtain ⟨q, rfl⟩ : ∃ q, f1 = q + 2 := ⟨f1 - 2, by omega⟩
    have HLO := Lib.hid (leftOf_eq hI.rd)
    have HB0 := Lib.hid (show l1 ≤ l ∧ 3 * l1 + 1 ≤ q ∧ done.length + l1 ≤ 400 ∧ ks.length = done.length ∧ a ≤ s.size from ⟨hl1, by omega, hd1, hks, ha⟩)
    have HI := Lib.hid hI
    have hai : (a : Int) ≤ 60000 := by omega
    have hkl : (ks.length : Int) ≤ 400 := by omega
    clear hf1 hl1 hd1 hks ha
    obtain ⟨h0, h1, h2, f1, f2⟩ := hI.rd.cells
    clear hI
    cases hq : txtF 20 ((toN s).drop a) with
    | none =>
      have HPB := Lib.hid (HP.out.trans (hP.trans (pK5_none (toN s) q 125 a l1 ks (done.map PT.tree) hq)))
      have HQ := Lib.hid hq
      clear hq hP
      go_wp2_with (go_at_call 25; refine (quoted_any wr rb s hs a HB0.out.2.2.2.2 l1 20 (by decide) HI.out.rd).mono ?_; intro e w4 hqq; obtain ⟨rfl, ho4⟩ := hqq.none_ HQ.out)
      refine ⟨rfl, ?_⟩
      rw [HPB.out]
      exact ⟨rfl, HI.out.only.trans ho4⟩
    | some p =>
      obtain ⟨k, n⟩ := p
      have HP5 := HP.out.trans (hP.trans (pK5_some (toN s) q 125 a l1 ks (done.map PT.tree) hq))
      have HQ := Lib.hid hq
      clear hq hP
      cases hke : k.toList.isEmpty with
      | true =>
        have hka : keyAfter ks k = false := by unfold keyAfter; rw [hke]; rfl
        have HP5 := Lib.hid HP5
        have hk1 : k.toList = [] := by simpa using hke
        have HPB := Lib.hid (HP5.out.trans (if_pos hka))
        clear hka
        go_wp2_with (first
          | (go_at_call 25; refine (quoted_any wr rb s hs a HB0.out.2.2.2.2 l1 20 (by decide) HI.out.rd).mono ?_; intro e w4 hqq; obtain ⟨hle, rfl, hk20, hr4, ho4⟩ := hqq.some_ HQ.out; have hI4 := HI.out.turn hrb hr4 ho4; have b5' : w4.cell? ⟨w.heap.size + 1, 5, none⟩ = some (.slice kA ks.length kc) := hI4.box.cell 5; skip; have HI4 := Lib.hid hI4; clear hI4 hle hk20 hr4 ho4 hqq)
          | (go_at_call 11; refine (fail_any _ rb a 2).mono ?_; unfold faultE; rintro e w7 ⟨rfl, rfl⟩))
        refine ⟨rfl, ?_⟩
        rw [HPB.out]
        exact ⟨rfl, HI4.out.only⟩
      | false =>
        have hk1 : ¬ k.toList = [] := by intro e; rw [e] at hke; cases hke
        cases hgl : ks.getLast? with
        | none =>
          have hks0 : ks = [] := List.getLast?_eq_none_iff.1 hgl
          have hka : keyAfter ks k = true := by unfold keyAfter; rw [hke, hgl]; rfl
          rw [hka, if_neg (by simp)] at HP5
          have HP5 := Lib.hid HP5
          have hN0 : ¬ (0 : Int) < (ks.length : Int) := by rw [hks0]; simp
          clear hka hgl hks0
          by_cases h58 : (toN s)[a + n]? = some 58
          · have HPT := Lib.hid (HP5.out.trans (if_pos h58))
            have hlt58 := lt_of_at h58
            have HW58 := Lib.hid (fun w5 (hr : Rd w5 rb s (a + n) l1) (hx : a + n ≤ s.size) => show Calls Tryz.prog 43 #[.pointer (some ⟨rb, 0, none⟩), .int .u8 58] w5 _ from want_yes w5 rb s hs (a + n) hx l1 58 (by decide) hr h58)
            clear h58
            go_wp2_with (first
              | (go_at_call 25; refine (quoted_any wr rb s hs a HB0.out.2.2.2.2 l1 20 (by decide) HI.out.rd).mono ?_; intro e w4 hqq; obtain ⟨hle, rfl, hk20, hr4, ho4⟩ := hqq.some_ HQ.out; have hI4 := HI.out.turn hrb hr4 ho4; have b5' : w4.cell? ⟨w.heap.size + 1, 5, none⟩ = some (.slice kA ks.length kc) := hI4.box.cell 5; have hb5w : Below w4.heap.size w4 (w4.alloc (.cells #[.string k] 9)) := (Below.refl _ _).alloc (Nat.le_refl _) _; have hI5 := hI4.below hb5w; obtain ⟨A5, c5, We, hrun, hoA, hgA, hAA⟩ := run_append_sl (P := Tryz.prog) (w4.alloc (.cells #[.string k] 9)) 26 26 9 Tryz.underlying26 infoStr rfl (by decide) kA ks.length kc (ks.map Value.string) hI5.keys (some ⟨w4.heap.size, 0, none⟩) 1 1 [.string k] rfl (SlAt.of_blk (Blk.new w4 9 #[.string k])) (by intro u hu; rw [List.mem_singleton] at hu; rw [hu]; rfl) (by have := HB0.out.2.2.1; have := HB0.out.2.2.2.1; simp only [maxLen]; omega) (by have := HB0.out.2.2.1; have := HB0.out.2.2.2.1; omega); have hrun' : ∀ ty, (Builtin.append_ #[26, 26] ty #[.slice kA ks.length kc, .slice (some ⟨w4.heap.size, 0, none⟩) 1 1]).run Tryz.prog (w4.alloc (.cells #[.string k] 9)) = .ok (.slice A5 (ks.length + 1) c5) We := fun _ => hrun; have HRN := Lib.hid hrun'; have hfin := hI5.push_key hrb hk20 hoA hgA (hAA.imp And.left id); have hbe := (hI5.kept (u := .int .i64 0) (j := 5) hrb (fun b hb => hI5.low b (List.mem_append_left _ hb)) hgA).2.2.2.1; have z5 : We.frozen? ⟨w.heap.size + 1, 5, none⟩ = false := hbe.frozen 5; have y5 : We.cell? ⟨w.heap.size + 1, 5, none⟩ = some (.slice kA ks.length kc) := hbe.cell 5; have x5 : (w4.alloc (.cells #[.string k] 9)).cell? ⟨w.heap.size + 1, 5, none⟩ = some (.slice kA ks.length kc) := hI5.box.cell 5; have HIK := Lib.hid (And.intro hfin hle); clear hb5w hI5 hrun hrun' hoA hgA hAA hfin hbe; have HI4 := Lib.hid hI4; clear hI4 hle hk20 hr4 ho4 hqq)
              | (at_builtin; refine wpList_append_run (o := ⟨some 53, _, _, _, _, _⟩) rfl _ _ _ _ rfl rfl rfl (HRN.out _) ?_)
              | (go_at_call 43; (with_reducible refine (HW58.out _ HIK.out.1.rd HIK.out.2).mono ?_); rintro e wk ⟨rfl, hr5, ho5⟩; have hIk := HIK.out.1.turn hrb hr5 ho5; have HI2 := Lib.hid hIk; clear hr5 ho5 hIk))
            have HB1 := Lib.hid (show l1 ≤ l ∧ 3 * l1 + 1 ≤ q ∧ done.length + l1 ≤ 400 ∧ ks.length = done.length ∧ a + n + 1 ≤ s.size from ⟨HB0.out.1, HB0.out.2.1, HB0.out.2.2.1, HB0.out.2.2.2.1, by omega⟩)
            have p6 : wk.cell? ⟨w.heap.size + 1, 6, none⟩ = some (.slice cA done.length cc) := HI2.out.box.cell 6
            cases hP2 : pT Num (toN s) q (a + n + 1) l1 with
            | bad a2 x2 =>
              have HPB := Lib.hid (HPT.out.trans (vR_bad hP2))
              have HP2 := Lib.hid hP2
              have HT := Lib.hid (show Calls Tryz.prog 10 #[.pointer (some ⟨rb, 0, none⟩)] wk.drew _ from ht l1 HB1.out.1 q (a + n + 1) wk.drew HB1.out.2.1 HB1.out.2.2.2.2 (HC.out.only HI2.out.drew.only) HI2.out.drew.rd)
              clear hP2
              have HE := Lib.hid (fun (w3 : World) (ho3 : Only (fun k => k = rb) wk.drew w3) => show TreeQ rb s (kidsR (toN s) f 5 125 pos l) w (.panicked [{ v := .iface 45 (.agg #[.int .i64 a2, .iface 43 (.int .i64 x2)]), recovered := false }]) w3 from by rw [HPB.out]; exact ⟨rfl, HI2.out.drew.only.trans ho3⟩)
              refine wp_region_any (by kernel_rfl) ?_
              change wpAny _ _ _ _ _ _ _ (World.drew _)
              refine wpAny_take (i := 0) (v := .pointer (some ⟨w.heap.size + 1, 6, none⟩)) rfl (by kernel_rfl) (by kernel_rfl) (by kernel_rfl) (fun _ _ _ h => h) (Or.inl ⟨by rfl, by intro w; go_simp⟩) ?_
              refine wpAny_take (i := 2) (v := .pointer (some ⟨rb, 0, none⟩)) rfl (by kernel_rfl) (by kernel_rfl) (by kernel_rfl) (fun _ _ _ h => h) (Or.inl ⟨by rfl, by intro w; go_simp⟩) ?_
              refine wpAny_ready (rs := [1, 3]) (by kernel_rfl) (by simp) ?_
              refine AllReady.cons rfl (fun K hK => ?_) (AllReady.cons rfl (fun K hK => ?_) AllReady.nil)
              · go_simp
                refine hK _ _ ?_
                clear hK K
                refine wpAny_ready (rs := [3]) (by kernel_rfl) (by simp) ?_
                refine AllReady.cons rfl (fun K hK => ?_) AllReady.nil
                go_simp
                with_reducible refine HT.out.mono ?_
                intro e w3 hq
                obtain ⟨rfl, ho3⟩ := hq.badd HP2.out
                exact And.intro rfl (HE.out w3 ho3)
              · go_simp
                with_reducible refine HT.out.mono ?_
                intro e w3 hq
                obtain ⟨rfl, ho3⟩ := hq.badd HP2.out
                exact And.intro rfl (HE.out w3 ho3)
            | ok t2 a2 l2 =>
              have HVR := Lib.hid (vR_ok (kind := 5) (endc := 125) (ks := (ks ++ [k])) (kids := done.map PT.tree) hP2)
              have HP2 := Lib.hid hP2
              have HT := Lib.hid (show Calls Tryz.prog 10 #[.pointer (some ⟨rb, 0, none⟩)] wk.drew _ from ht l1 HB1.out.1 q (a + n + 1) wk.drew HB1.out.2.1 HB1.out.2.2.2.2 (HC.out.only HI2.out.drew.only) HI2.out.drew.rd)
              have hl2 := (left_lt Num (toN s) q).1 _ _ _ _ _ hP2
              have HL2 := Lib.hid hl2
              clear hP2 hl2
              go_cut [57] from 58 to 63 (fun s57 wx => ∃ (T : PT) (A' : Option Addr) (c' : Nat), T.tree = t2 ∧ a2 ≤ s.size ∧ KI w rb s 5 a2 l2 (ks ++ [k]) (done ++ [T]) A5 c5 A' c' wx)
              case first =>
                go_region_law (first
                  | (refine step_append_run (o := ⟨some 62, _, _, _, _, _⟩) rfl _ _ _ _ rfl _ _ rfl rfl (HRP.out _) ?_)
                  | (go_simp
                     (with_reducible refine HT.out.mono ?_)
                     intro e w3 hq
                     obtain ⟨T, rfl, htr, ha2, hr3, hown3, hnd3, hlow3, ho3⟩ := hq.okd HP2.out
                     have hI3 := HI2.out.drew.turn hrb hr3 ho3
                     have hb3 : Below w3.heap.size w3 (w3.alloc (.cells #[.int .i64 T.val.k, .int .i64 T.val.n, .string T.val.s, .int .i64 T.val.o, .int .i64 T.val.p, .slice T.kA T.keys.length T.kc, .slice T.cA T.kids.length T.cc] 29)) := (Below.refl _ _).alloc (Nat.le_refl _) _
                     have hI4 := hI3.below hb3
                     obtain ⟨A', c', We, hrun, hoA, hgA, hAA⟩ := run_append_sl (P := Tryz.prog) (w3.alloc (.cells #[.int .i64 T.val.k, .int .i64 T.val.n, .string T.val.s, .int .i64 T.val.o, .int .i64 T.val.p, .slice T.kA T.keys.length T.kc, .slice T.cA T.kids.length T.cc] 29)) 27 27 29 Tryz.underlying27 infoTree rfl (by decide) cA done.length cc (PT.cellsL done) hI4.kids (some ⟨w3.heap.size, 0, none⟩) 1 1 T.cells (by rw [PT.cells_length]) (SlAt.of_blk (Blk.new w3 29 #[.int .i64 T.val.k, .int .i64 T.val.n, .string T.val.s, .int .i64 T.val.o, .int .i64 T.val.p, .slice T.kA T.keys.length T.kc, .slice T.cA T.kids.length T.cc])) (one_ptK T) (by have := HB1.out.2.2.1; simp only [maxLen]; omega) (by have := HB1.out.2.2.1; omega)
                     have hrun' : ∀ ty, (Builtin.append_ #[27, 27] ty #[.slice cA done.length cc, .slice (some ⟨w3.heap.size, 0, none⟩) 1 1]).run Tryz.prog (w3.alloc (.cells #[.int .i64 T.val.k, .int .i64 T.val.n, .string T.val.s, .int .i64 T.val.o, .int .i64 T.val.p, .slice T.kA T.keys.length T.kc, .slice T.cA T.kids.length T.cc] 29)) = .ok (.slice A' (done.length + 1) c') We := fun _ => hrun
                     have HRP := Lib.hid hrun'
                     have hfin := hI4.push_kid (n0 := wk.heap.size) hrb (hown3.keep fun b hb hlt => hb3.block b hlt) hnd3 hlow3 (fun b hb => HI2.out.lt b hb) (by have := HI2.out.box.lt; omega) hoA hgA (hAA.imp And.left id)
                     have hbe := (hI4.kept (u := .int .i64 0) (j := 6) hrb (fun b hb => hI4.low b (List.mem_append_right _ (List.mem_append_left _ hb))) hgA).2.2.2.1
                     have q0 : w3.cell? ⟨w.heap.size + 1, 6, none⟩ = some (.slice cA done.length cc) := hI3.box.cell 6
                     have q1 : w3.frozen? ⟨w.heap.size + 1, 6, none⟩ = false := hI3.box.frozen 6
                     have q2 : (w3.alloc (.cells #[.int .i64 T.val.k, .int .i64 T.val.n, .string T.val.s, .int .i64 T.val.o, .int .i64 T.val.p, .slice T.kA T.keys.length T.kc, .slice T.cA T.kids.length T.cc] 29)).cell? ⟨w.heap.size + 1, 6, none⟩ = some (.slice cA done.length cc) := hI4.box.cell 6
                     have q3 : (w3.alloc (.cells #[.int .i64 T.val.k, .int .i64 T.val.n, .string T.val.s, .int .i64 T.val.o, .int .i64 T.val.p, .slice T.kA T.keys.length T.kc, .slice T.cA T.kids.length T.cc] 29)).frozen? ⟨w.heap.size + 1, 6, none⟩ = false := hI4.box.frozen 6
                     have q4 : We.cell? ⟨w.heap.size + 1, 6, none⟩ = some (.slice cA done.length cc) := hbe.cell 6
                     have q5 : We.frozen? ⟨w.heap.size + 1, 6, none⟩ = false := hbe.frozen 6
                     have HLL := Lib.hid (And.intro htr (And.intro ha2 hfin))
                     clear hI3 hb3 hI4 hrun hrun' hoA hgA hAA hfin hbe htr ha2 hr3 hown3 hnd3 hlow3 ho3 hq))
                all_goals
                  go_wp2_with fail
                  go_meet
                  exact ⟨T, A', c', HLL.out.1, HLL.out.2.1, HLL.out.2.2⟩
              case rest =>
                obtain ⟨T, cA2, cc2, htr, ha2, hI⟩ := hcut
                subst htr
                clear p6 HT HP2
                by_cases h44 : (toN s)[a2]? = some 44
                · have hlt2 := lt_of_at h44
                  have HVN := Lib.hid (HPT.out.trans (HVR.out.trans (if_pos h44)))
                  have HT2 := Lib.hid (show Calls Tryz.prog 23 #[.pointer (some ⟨rb, 0, none⟩), .int .u8 44] wc _ from takes_yes wc rb s hs a2 ha2 l2 44 (by decide) hI.rd h44)
                  have HI3 := Lib.hid hI
                  clear hI h44
                  go_wp2_with (go_at_call 23; (with_reducible refine HT2.out.mono ?_); rintro e w4 ⟨rfl, hr4, ho4⟩; have HI4 := Lib.hid (HI3.out.turn hrb hr4 ho4); clear hr4 ho4)
                  go_roundw
                  case rel => exact ⟨q, a2 + 1, l2, (ks ++ [k]), done ++ [T], A5, c5, cA2, cc2, HI4.out, by rw [← HP.out, HVN.out, List.map_append]; rfl, by have := HB1.out.2.1; have := HL2.out; omega, by have := HB1.out.1; have := HL2.out; omega, by have := HB1.out.2.2.1; have := HL2.out; simp; omega, (by simp [HB1.out.2.2.2.1]), by omega⟩
                  case measure =>
                    rw [leftOf_eq HI4.out.rd, HLO.out]
                    exact HL2.out
                · have HVN := Lib.hid (HPT.out.trans (HVR.out.trans (if_neg h44)))
                  have HT2 := Lib.hid (show Calls Tryz.prog 23 #[.pointer (some ⟨rb, 0, none⟩), .int .u8 44] wc _ from takes_no wc rb s hs a2 ha2 l2 44 (by decide) hI.rd h44)
                  by_cases hend : (toN s)[a2]? = some 125
                  · have hlt2 := lt_of_at hend
                    have HVM := Lib.hid (HVN.out.trans (if_pos hend))
                    have HI3 := Lib.hid hI
                    have HW := Lib.hid (fun w4 (hr : Rd w4 rb s a2 l2) => show Calls Tryz.prog 43 #[.pointer (some ⟨rb, 0, none⟩), .int .u8 125] w4 _ from want_yes w4 rb s hs a2 ha2 l2 125 (by decide) hr hend)
                    clear hI h44 hend
                    go_wp2_with (first
                      | (go_at_call 23; (with_reducible refine HT2.out.mono ?_); rintro e w4 ⟨rfl, hr4, ho4⟩; have HI4 := Lib.hid (HI3.out.turn hrb hr4 ho4); clear hr4 ho4)
                      | (go_at_call 43; (with_reducible refine (HW.out _ HI4.out.rd).mono ?_); rintro e w5 ⟨rfl, hr5, ho5⟩; have hI5 := HI4.out.turn hrb hr5 ho5; obtain ⟨b0, b1, b2, b3, b4, b5, b6, zb⟩ := res_cells hI5.box; obtain ⟨r0, r1, r2, r3, r4, r5, r6, zr⟩ := res_cells hI5.res; have HI5 := Lib.hid hI5; clear hr5 ho5 hI5))
                    refine bodyPost_ret (v := .agg #[.int .i64 5, .int .i64 0, .string ⟨#[]⟩, .int .i64 0, .int .i64 0, .slice A5 (ks.length + 1) c5, .slice cA2 (done.length + 1) cc2]) (results_cell_row Tryz.results24 _ _ w.heap.size _ _ _ _ rfl (blk7 _ _ _ _ _ _ _ HI5.out.res) Tryz.underlying29 rfl (by kernel_rfl)) rfl ?_
                    exact tree_end rfl HI5.out.ts hrb (PT.node (kindV 5) A5 c5 (ks ++ [k]) cA2 cc2 (done ++ [T])) (HVM.out.trans (by rw [show (PT.node (kindV 5) A5 c5 (ks ++ [k]) cA2 cc2 (done ++ [T])).tree = .node (kindV 5) (ks ++ [k]) ((done ++ [T]).map PT.tree) from PT.tree_eq _, List.map_append]; rfl)) (by omega) (OwnJ.mk_ ⟨kind_fit (by decide), HI5.out.keys, HI5.out.kids, fun x hx => by have := HI5.out.each x hx; unfold maxLen; omega⟩ HI5.out.own) (by rw [PT.own_eq]; exact HI5.out.nd) (by intro b hb; rw [PT.own_eq] at hb; have := HI5.out.low b hb; omega) _ (by rw [PT.value_eq]; simp [PT.val, PT.keys, PT.kids, PT.kA, PT.kc, PT.cA, PT.cc, kindV]) _ _ _ _ _ _ _
                  · have HVM := Lib.hid (HVN.out.trans (if_neg hend))
                    have HI3 := Lib.hid hI
                    have HW := Lib.hid (fun w4 (hr : Rd w4 rb s a2 l2) => show Calls Tryz.prog 43 #[.pointer (some ⟨rb, 0, none⟩), .int .u8 125] w4 _ from want_no w4 rb s hs a2 ha2 l2 125 (by decide) hr hend)
                    clear hI h44 hend
                    go_wp2_with (first
                      | (go_at_call 23; (with_reducible refine HT2.out.mono ?_); rintro e w4 ⟨rfl, hr4, ho4⟩; have HI4 := Lib.hid (HI3.out.turn hrb hr4 ho4); clear hr4 ho4)
                      | (go_at_call 43; (with_reducible refine (HW.out _ HI4.out.rd).mono ?_); rintro e w5 ⟨rfl, ho5⟩))
                    refine ⟨rfl, ?_⟩
                    rw [HVM.out]
                    exact ⟨rfl, HI4.out.only.trans ho5⟩

          · have HPB := Lib.hid (HP5.out.trans (if_neg h58))
            have HW58 := Lib.hid (fun w5 (hr : Rd w5 rb s (a + n) l1) (hx : a + n ≤ s.size) => show Calls Tryz.prog 43 #[.pointer (some ⟨rb, 0, none⟩), .int .u8 58] w5 _ from want_no w5 rb s hs (a + n) hx l1 58 (by decide) hr h58)
            clear h58
            go_wp2_with (first
              | (go_at_call 25; refine (quoted_any wr rb s hs a HB0.out.2.2.2.2 l1 20 (by decide) HI.out.rd).mono ?_; intro e w4 hqq; obtain ⟨hle, rfl, hk20, hr4, ho4⟩ := hqq.some_ HQ.out; have hI4 := HI.out.turn hrb hr4 ho4; have b5' : w4.cell? ⟨w.heap.size + 1, 5, none⟩ = some (.slice kA ks.length kc) := hI4.box.cell 5; have hb5w : Below w4.heap.size w4 (w4.alloc (.cells #[.string k] 9)) := (Below.refl _ _).alloc (Nat.le_refl _) _; have hI5 := hI4.below hb5w; obtain ⟨A5, c5, We, hrun, hoA, hgA, hAA⟩ := run_append_sl (P := Tryz.prog) (w4.alloc (.cells #[.string k] 9)) 26 26 9 Tryz.underlying26 infoStr rfl (by decide) kA ks.length kc (ks.map Value.string) hI5.keys (some ⟨w4.heap.size, 0, none⟩) 1 1 [.string k] rfl (SlAt.of_blk (Blk.new w4 9 #[.string k])) (by intro u hu; rw [List.mem_singleton] at hu; rw [hu]; rfl) (by have := HB0.out.2.2.1; have := HB0.out.2.2.2.1; simp only [maxLen]; omega) (by have := HB0.out.2.2.1; have := HB0.out.2.2.2.1; omega); have hrun' : ∀ ty, (Builtin.append_ #[26, 26] ty #[.slice kA ks.length kc, .slice (some ⟨w4.heap.size, 0, none⟩) 1 1]).run Tryz.prog (w4.alloc (.cells #[.string k] 9)) = .ok (.slice A5 (ks.length + 1) c5) We := fun _ => hrun; have HRN := Lib.hid hrun'; have hfin := hI5.push_key hrb hk20 hoA hgA (hAA.imp And.left id); have hbe := (hI5.kept (u := .int .i64 0) (j := 5) hrb (fun b hb => hI5.low b (List.mem_append_left _ hb)) hgA).2.2.2.1; have z5 : We.frozen? ⟨w.heap.size + 1, 5, none⟩ = false := hbe.frozen 5; have y5 : We.cell? ⟨w.heap.size + 1, 5, none⟩ = some (.slice kA ks.length kc) := hbe.cell 5; have x5 : (w4.alloc (.cells #[.string k] 9)).cell? ⟨w.heap.size + 1, 5, none⟩ = some (.slice kA ks.length kc) := hI5.box.cell 5; have HIK := Lib.hid (And.intro hfin hle); clear hb5w hI5 hrun hrun' hoA hgA hAA hfin hbe; have HI4 := Lib.hid hI4; clear hI4 hle hk20 hr4 ho4 hqq)
              | (at_builtin; refine wpList_append_run (o := ⟨some 53, _, _, _, _, _⟩) rfl _ _ _ _ rfl rfl rfl (HRN.out _) ?_)
              | (go_at_call 43; (with_reducible refine (HW58.out _ HIK.out.1.rd HIK.out.2).mono ?_); rintro e wk ⟨rfl, ho5⟩))
            refine ⟨rfl, ?_⟩
            rw [HPB.out]
            exact ⟨rfl, HIK.out.1.only.trans ho5⟩
        | some x =>
          obtain ⟨m, hm, hx⟩ := last_at hgl
          obtain ⟨g, rfl⟩ := own_some HI.out.keys (by omega)
          have hN1 : (ks.length : Int) - 1 = (m : Int) := by omega
          have hN0 : (0 : Int) < (ks.length : Int) := by omega
          have hN2 : (m : Int) < (ks.length : Int) := by omega
          have HLX := Lib.hid hx
          have HM := Lib.hid hm
          clear hx hm
          cases hbl : bl x k with
          | false =>
            have hka : keyAfter ks k = false := by unfold keyAfter; rw [hke, hgl]; simp [hbl]
            have HP5 := Lib.hid HP5
            have hbl2 : Op.bytesLess x.toList k.toList = false := hbl
            clear hbl hgl
            have HPB := Lib.hid (HP5.out.trans (if_pos hka))
            clear hka
            go_wp2_with (first
              | (go_at_call 25; refine (quoted_any wr rb s hs a HB0.out.2.2.2.2 l1 20 (by decide) HI.out.rd).mono ?_; intro e w4 hqq; obtain ⟨hle, rfl, hk20, hr4, ho4⟩ := hqq.some_ HQ.out; have hI4 := HI.out.turn hrb hr4 ho4; have b5' : w4.cell? ⟨w.heap.size + 1, 5, none⟩ = some (.slice (some ⟨g, 0, none⟩) ks.length kc) := hI4.box.cell 5; have lst : w4.cell? ⟨g, m, none⟩ = some (.string x) := (by have := (hI4.keys.cells (g := g) rfl) m (.string x) (by simp [List.getElem?_map, HLX.out]); rw [Addr.add_lit, Nat.zero_add] at this; exact this); have HI4 := Lib.hid hI4; clear hI4 hle hk20 hr4 ho4 hqq)
              | (go_at_call 11; refine (fail_any _ rb a 2).mono ?_; unfold faultE; rintro e w7 ⟨rfl, rfl⟩))
            refine ⟨rfl, ?_⟩
            rw [HPB.out]
            exact ⟨rfl, HI4.out.only⟩
          | true =>
            have hka : keyAfter ks k = true := by unfold keyAfter; rw [hke, hgl]; simp [hbl]
            rw [hka, if_neg (by simp)] at HP5
            have HP5 := Lib.hid HP5
            have hbl2 : Op.bytesLess x.toList k.toList = true := hbl
            clear hbl hgl hka
            by_cases h58 : (toN s)[a + n]? = some 58
            · have HPT := Lib.hid (HP5.out.trans (if_pos h58))
              have hlt58 := lt_of_at h58
              have HW58 := Lib.hid (fun w5 (hr : Rd w5 rb s (a + n) l1) (hx : a + n ≤ s.size) => show Calls Tryz.prog 43 #[.pointer (some ⟨rb, 0, none⟩), .int .u8 58] w5 _ from want_yes w5 rb s hs (a + n) hx l1 58 (by decide) hr h58)
              clear h58
              go_wp2_with (first
                | (go_at_call 25; refine (quoted_any wr rb s hs a HB0.out.2.2.2.2 l1 20 (by decide) HI.out.rd).mono ?_; intro e w4 hqq; obtain ⟨hle, rfl, hk20, hr4, ho4⟩ := hqq.some_ HQ.out; have hI4 := HI.out.turn hrb hr4 ho4; have b5' : w4.cell? ⟨w.heap.size + 1, 5, none⟩ = some (.slice (some ⟨g, 0, none⟩) ks.length kc) := hI4.box.cell 5; have lst : w4.cell? ⟨g, m, none⟩ = some (.string x) := (by have := (hI4.keys.cells (g := g) rfl) m (.string x) (by simp [List.getElem?_map, HLX.out]); rw [Addr.add_lit, Nat.zero_add] at this; exact this); have hb5w : Below w4.heap.size w4 (w4.alloc (.cells #[.string k] 9)) := (Below.refl _ _).alloc (Nat.le_refl _) _; have hI5 := hI4.below hb5w; obtain ⟨A5, c5, We, hrun, hoA, hgA, hAA⟩ := run_append_sl (P := Tryz.prog) (w4.alloc (.cells #[.string k] 9)) 26 26 9 Tryz.underlying26 infoStr rfl (by decide) (some ⟨g, 0, none⟩) ks.length kc (ks.map Value.string) hI5.keys (some ⟨w4.heap.size, 0, none⟩) 1 1 [.string k] rfl (SlAt.of_blk (Blk.new w4 9 #[.string k])) (by intro u hu; rw [List.mem_singleton] at hu; rw [hu]; rfl) (by have := HB0.out.2.2.1; have := HB0.out.2.2.2.1; simp only [maxLen]; omega) (by have := HB0.out.2.2.1; have := HB0.out.2.2.2.1; omega); have hrun' : ∀ ty, (Builtin.append_ #[26, 26] ty #[.slice (some ⟨g, 0, none⟩) ks.length kc, .slice (some ⟨w4.heap.size, 0, none⟩) 1 1]).run Tryz.prog (w4.alloc (.cells #[.string k] 9)) = .ok (.slice A5 (ks.length + 1) c5) We := fun _ => hrun; have HRN := Lib.hid hrun'; have hfin := hI5.push_key hrb hk20 hoA hgA (hAA.imp And.left id); have hbe := (hI5.kept (u := .int .i64 0) (j := 5) hrb (fun b hb => hI5.low b (List.mem_append_left _ hb)) hgA).2.2.2.1; have z5 : We.frozen? ⟨w.heap.size + 1, 5, none⟩ = false := hbe.frozen 5; have y5 : We.cell? ⟨w.heap.size + 1, 5, none⟩ = some (.slice (some ⟨g, 0, none⟩) ks.length kc) := hbe.cell 5; have x5 : (w4.alloc (.cells #[.string k] 9)).cell? ⟨w.heap.size + 1, 5, none⟩ = some (.slice (some ⟨g, 0, none⟩) ks.length kc) := hI5.box.cell 5; have HIK := Lib.hid (And.intro hfin hle); clear hb5w hI5 hrun hrun' hoA hgA hAA hfin hbe; have HI4 := Lib.hid hI4; clear hI4 hle hk20 hr4 ho4 hqq)
                | (at_builtin; refine wpList_append_run (o := ⟨some 53, _, _, _, _, _⟩) rfl _ _ _ _ rfl rfl rfl (HRN.out _) ?_)
                | (go_at_call 43; (with_reducible refine (HW58.out _ HIK.out.1.rd HIK.out.2).mono ?_); rintro e wk ⟨rfl, hr5, ho5⟩; have hIk := HIK.out.1.turn hrb hr5 ho5; have HI2 := Lib.hid hIk; clear hr5 ho5 hIk))
              have HB1 := Lib.hid (show l1 ≤ l ∧ 3 * l1 + 1 ≤ q ∧ done.length + l1 ≤ 400 ∧ ks.length = done.length ∧ a + n + 1 ≤ s.size from ⟨HB0.out.1, HB0.out.2.1, HB0.out.2.2.1, HB0.out.2.2.2.1, by omega⟩)
              have p6 : wk.cell? ⟨w.heap.size + 1, 6, none⟩ = some (.slice cA done.length cc) := HI2.out.box.cell 6
              cases hP2 : pT Num (toN s) q (a + n + 1) l1 with
              | bad a2 x2 =>
                have HPB := Lib.hid (HPT.out.trans (vR_bad hP2))
                have HP2 := Lib.hid hP2
                have HT := Lib.hid (show Calls Tryz.prog 10 #[.pointer (some ⟨rb, 0, none⟩)] wk.drew _ from ht l1 HB1.out.1 q (a + n + 1) wk.drew HB1.out.2.1 HB1.out.2.2.2.2 (HC.out.only HI2.out.drew.only) HI2.out.drew.rd)
                clear hP2
                have HE := Lib.hid (fun (w3 : World) (ho3 : Only (fun k => k = rb) wk.drew w3) => show TreeQ rb s (kidsR (toN s) f 5 125 pos l) w (.panicked [{ v := .iface 45 (.agg #[.int .i64 a2, .iface 43 (.int .i64 x2)]), recovered := false }]) w3 from by rw [HPB.out]; exact ⟨rfl, HI2.out.drew.only.trans ho3⟩)
                refine wp_region_any (by kernel_rfl) ?_
                change wpAny _ _ _ _ _ _ _ (World.drew _)
                refine wpAny_take (i := 0) (v := .pointer (some ⟨w.heap.size + 1, 6, none⟩)) rfl (by kernel_rfl) (by kernel_rfl) (by kernel_rfl) (fun _ _ _ h => h) (Or.inl ⟨by rfl, by intro w; go_simp⟩) ?_
                refine wpAny_take (i := 2) (v := .pointer (some ⟨rb, 0, none⟩)) rfl (by kernel_rfl) (by kernel_rfl) (by kernel_rfl) (fun _ _ _ h => h) (Or.inl ⟨by rfl, by intro w; go_simp⟩) ?_
                refine wpAny_ready (rs := [1, 3]) (by kernel_rfl) (by simp) ?_
                refine AllReady.cons rfl (fun K hK => ?_) (AllReady.cons rfl (fun K hK => ?_) AllReady.nil)
                · go_simp
                  refine hK _ _ ?_
                  clear hK K
                  refine wpAny_ready (rs := [3]) (by kernel_rfl) (by simp) ?_
                  refine AllReady.cons rfl (fun K hK => ?_) AllReady.nil
                  go_simp
                  with_reducible refine HT.out.mono ?_
                  intro e w3 hq
                  obtain ⟨rfl, ho3⟩ := hq.badd HP2.out
                  exact And.intro rfl (HE.out w3 ho3)
                · go_simp
                  with_reducible refine HT.out.mono ?_
                  intro e w3 hq
                  obtain ⟨rfl, ho3⟩ := hq.badd HP2.out
                  exact And.intro rfl (HE.out w3 ho3)
              | ok t2 a2 l2 =>
                have HVR := Lib.hid (vR_ok (kind := 5) (endc := 125) (ks := (ks ++ [k])) (kids := done.map PT.tree) hP2)
                have HP2 := Lib.hid hP2
                have HT := Lib.hid (show Calls Tryz.prog 10 #[.pointer (some ⟨rb, 0, none⟩)] wk.drew _ from ht l1 HB1.out.1 q (a + n + 1) wk.drew HB1.out.2.1 HB1.out.2.2.2.2 (HC.out.only HI2.out.drew.only) HI2.out.drew.rd)
                have hl2 := (left_lt Num (toN s) q).1 _ _ _ _ _ hP2
                have HL2 := Lib.hid hl2
                clear hP2 hl2
                go_cut [57] from 58 to 63 (fun s57 wx => ∃ (T : PT) (A' : Option Addr) (c' : Nat), T.tree = t2 ∧ a2 ≤ s.size ∧ KI w rb s 5 a2 l2 (ks ++ [k]) (done ++ [T]) A5 c5 A' c' wx)
                case first =>
                  go_region_law (first
                    | (refine step_append_run (o := ⟨some 62, _, _, _, _, _⟩) rfl _ _ _ _ rfl _ _ rfl rfl (HRP.out _) ?_)
                    | (go_simp
                       (with_reducible refine HT.out.mono ?_)
                       intro e w3 hq
                       obtain ⟨T, rfl, htr, ha2, hr3, hown3, hnd3, hlow3, ho3⟩ := hq.okd HP2.out
                       have hI3 := HI2.out.drew.turn hrb hr3 ho3
                       have hb3 : Below w3.heap.size w3 (w3.alloc (.cells #[.int .i64 T.val.k, .int .i64 T.val.n, .string T.val.s, .int .i64 T.val.o, .int .i64 T.val.p, .slice T.kA T.keys.length T.kc, .slice T.cA T.kids.length T.cc] 29)) := (Below.refl _ _).alloc (Nat.le_refl _) _
                       have hI4 := hI3.below hb3
                       obtain ⟨A', c', We, hrun, hoA, hgA, hAA⟩ := run_append_sl (P := Tryz.prog) (w3.alloc (.cells #[.int .i64 T.val.k, .int .i64 T.val.n, .string T.val.s, .int .i64 T.val.o, .int .i64 T.val.p, .slice T.kA T.keys.length T.kc, .slice T.cA T.kids.length T.cc] 29)) 27 27 29 Tryz.underlying27 infoTree rfl (by decide) cA done.length cc (PT.cellsL done) hI4.kids (some ⟨w3.heap.size, 0, none⟩) 1 1 T.cells (by rw [PT.cells_length]) (SlAt.of_blk (Blk.new w3 29 #[.int .i64 T.val.k, .int .i64 T.val.n, .string T.val.s, .int .i64 T.val.o, .int .i64 T.val.p, .slice T.kA T.keys.length T.kc, .slice T.cA T.kids.length T.cc])) (one_ptK T) (by have := HB1.out.2.2.1; simp only [maxLen]; omega) (by have := HB1.out.2.2.1; omega)
                       have hrun' : ∀ ty, (Builtin.append_ #[27, 27] ty #[.slice cA done.length cc, .slice (some ⟨w3.heap.size, 0, none⟩) 1 1]).run Tryz.prog (w3.alloc (.cells #[.int .i64 T.val.k, .int .i64 T.val.n, .string T.val.s, .int .i64 T.val.o, .int .i64 T.val.p, .slice T.kA T.keys.length T.kc, .slice T.cA T.kids.length T.cc] 29)) = .ok (.slice A' (done.length + 1) c') We := fun _ => hrun
                       have HRP := Lib.hid hrun'
                       have hfin := hI4.push_kid (n0 := wk.heap.size) hrb (hown3.keep fun b hb hlt => hb3.block b hlt) hnd3 hlow3 (fun b hb => HI2.out.lt b hb) (by have := HI2.out.box.lt; omega) hoA hgA (hAA.imp And.left id)
                       have hbe := (hI4.kept (u := .int .i64 0) (j := 6) hrb (fun b hb => hI4.low b (List.mem_append_right _ (List.mem_append_left _ hb))) hgA).2.2.2.1
                       have q0 : w3.cell? ⟨w.heap.size + 1, 6, none⟩ = some (.slice cA done.length cc) := hI3.box.cell 6
                       have q1 : w3.frozen? ⟨w.heap.size + 1, 6, none⟩ = false := hI3.box.frozen 6
                       have q2 : (w3.alloc (.cells #[.int .i64 T.val.k, .int .i64 T.val.n, .string T.val.s, .int .i64 T.val.o, .int .i64 T.val.p, .slice T.kA T.keys.length T.kc, .slice T.cA T.kids.length T.cc] 29)).cell? ⟨w.heap.size + 1, 6, none⟩ = some (.slice cA done.length cc) := hI4.box.cell 6
                       have q3 : (w3.alloc (.cells #[.int .i64 T.val.k, .int .i64 T.val.n, .string T.val.s, .int .i64 T.val.o, .int .i64 T.val.p, .slice T.kA T.keys.length T.kc, .slice T.cA T.kids.length T.cc] 29)).frozen? ⟨w.heap.size + 1, 6, none⟩ = false := hI4.box.frozen 6
                       have q4 : We.cell? ⟨w.heap.size + 1, 6, none⟩ = some (.slice cA done.length cc) := hbe.cell 6
                       have q5 : We.frozen? ⟨w.heap.size + 1, 6, none⟩ = false := hbe.frozen 6
                       have HLL := Lib.hid (And.intro htr (And.intro ha2 hfin))
                       clear hI3 hb3 hI4 hrun hrun' hoA hgA hAA hfin hbe htr ha2 hr3 hown3 hnd3 hlow3 ho3 hq))
                  all_goals
                    go_wp2_with fail
                    go_meet
                    exact ⟨T, A', c', HLL.out.1, HLL.out.2.1, HLL.out.2.2⟩
                case rest =>
                  obtain ⟨T, cA2, cc2, htr, ha2, hI⟩ := hcut
                  subst htr
                  clear p6 HT HP2
                  by_cases h44 : (toN s)[a2]? = some 44
                  · have hlt2 := lt_of_at h44
                    have HVN := Lib.hid (HPT.out.trans (HVR.out.trans (if_pos h44)))
                    have HT2 := Lib.hid (show Calls Tryz.prog 23 #[.pointer (some ⟨rb, 0, none⟩), .int .u8 44] wc _ from takes_yes wc rb s hs a2 ha2 l2 44 (by decide) hI.rd h44)
                    have HI3 := Lib.hid hI
                    clear hI h44
                    go_wp2_with (go_at_call 23; (with_reducible refine HT2.out.mono ?_); rintro e w4 ⟨rfl, hr4, ho4⟩; have HI4 := Lib.hid (HI3.out.turn hrb hr4 ho4); clear hr4 ho4)
                    go_roundw
                    case rel => exact ⟨q, a2 + 1, l2, (ks ++ [k]), done ++ [T], A5, c5, cA2, cc2, HI4.out, by rw [← HP.out, HVN.out, List.map_append]; rfl, by have := HB1.out.2.1; have := HL2.out; omega, by have := HB1.out.1; have := HL2.out; omega, by have := HB1.out.2.2.1; have := HL2.out; simp; omega, (by simp [HB1.out.2.2.2.1]), by omega⟩
                    case measure =>
                      rw [leftOf_eq HI4.out.rd, HLO.out]
                      exact HL2.out
                  · have HVN := Lib.hid (HPT.out.trans (HVR.out.trans (if_neg h44)))
                    have HT2 := Lib.hid (show Calls Tryz.prog 23 #[.pointer (some ⟨rb, 0, none⟩), .int .u8 44] wc _ from takes_no wc rb s hs a2 ha2 l2 44 (by decide) hI.rd h44)
                    by_cases hend : (toN s)[a2]? = some 125
                    · have hlt2 := lt_of_at hend
                      have HVM := Lib.hid (HVN.out.trans (if_pos hend))
                      have HI3 := Lib.hid hI
                      have HW := Lib.hid (fun w4 (hr : Rd w4 rb s a2 l2) => show Calls Tryz.prog 43 #[.pointer (some ⟨rb, 0, none⟩), .int .u8 125] w4 _ from want_yes w4 rb s hs a2 ha2 l2 125 (by decide) hr hend)
                      clear hI h44 hend
                      go_wp2_with (first
                        | (go_at_call 23; (with_reducible refine HT2.out.mono ?_); rintro e w4 ⟨rfl, hr4, ho4⟩; have HI4 := Lib.hid (HI3.out.turn hrb hr4 ho4); clear hr4 ho4)
                        | (go_at_call 43; (with_reducible refine (HW.out _ HI4.out.rd).mono ?_); rintro e w5 ⟨rfl, hr5, ho5⟩; have hI5 := HI4.out.turn hrb hr5 ho5; obtain ⟨b0, b1, b2, b3, b4, b5, b6, zb⟩ := res_cells hI5.box; obtain ⟨r0, r1, r2, r3, r4, r5, r6, zr⟩ := res_cells hI5.res; have HI5 := Lib.hid hI5; clear hr5 ho5 hI5))
                      refine bodyPost_ret (v := .agg #[.int .i64 5, .int .i64 0, .string ⟨#[]⟩, .int .i64 0, .int .i64 0, .slice A5 (ks.length + 1) c5, .slice cA2 (done.length + 1) cc2]) (results_cell_row Tryz.results24 _ _ w.heap.size _ _ _ _ rfl (blk7 _ _ _ _ _ _ _ HI5.out.res) Tryz.underlying29 rfl (by kernel_rfl)) rfl ?_
                      exact tree_end rfl HI5.out.ts hrb (PT.node (kindV 5) A5 c5 (ks ++ [k]) cA2 cc2 (done ++ [T])) (HVM.out.trans (by rw [show (PT.node (kindV 5) A5 c5 (ks ++ [k]) cA2 cc2 (done ++ [T])).tree = .node (kindV 5) (ks ++ [k]) ((done ++ [T]).map PT.tree) from PT.tree_eq _, List.map_append]; rfl)) (by omega) (OwnJ.mk_ ⟨kind_fit (by decide), HI5.out.keys, HI5.out.kids, fun x hx => by have := HI5.out.each x hx; unfold maxLen; omega⟩ HI5.out.own) (by rw [PT.own_eq]; exact HI5.out.nd) (by intro b hb; rw [PT.own_eq] at hb; have := HI5.out.low b hb; omega) _ (by rw [PT.value_eq]; simp [PT.val, PT.keys, PT.kids, PT.kA, PT.kc, PT.cA, PT.cc, kindV]) _ _ _ _ _ _ _
                    · have HVM := Lib.hid (HVN.out.trans (if_neg hend))
                      have HI3 := Lib.hid hI
                      have HW := Lib.hid (fun w4 (hr : Rd w4 rb s a2 l2) => show Calls Tryz.prog 43 #[.pointer (some ⟨rb, 0, none⟩), .int .u8 125] w4 _ from want_no w4 rb s hs a2 ha2 l2 125 (by decide) hr hend)
                      clear hI h44 hend
                      go_wp2_with (first
                        | (go_at_call 23; (with_reducible refine HT2.out.mono ?_); rintro e w4 ⟨rfl, hr4, ho4⟩; have HI4 := Lib.hid (HI3.out.turn hrb hr4 ho4); clear hr4 ho4)
                        | (go_at_call 43; (with_reducible refine (HW.out _ HI4.out.rd).mono ?_); rintro e w5 ⟨rfl, ho5⟩))
                      refine ⟨rfl, ?_⟩
                      rw [HVM.out]
                      exact ⟨rfl, HI4.out.only.trans ho5⟩

            · have HPB := Lib.hid (HP5.out.trans (if_neg h58))
              have HW58 := Lib.hid (fun w5 (hr : Rd w5 rb s (a + n) l1) (hx : a + n ≤ s.size) => show Calls Tryz.prog 43 #[.pointer (some ⟨rb, 0, none⟩), .int .u8 58] w5 _ from want_no w5 rb s hs (a + n) hx l1 58 (by decide) hr h58)
              clear h58
              go_wp2_with (first
                | (go_at_call 25; refine (quoted_any wr rb s hs a HB0.out.2.2.2.2 l1 20 (by decide) HI.out.rd).mono ?_; intro e w4 hqq; obtain ⟨hle, rfl, hk20, hr4, ho4⟩ := hqq.some_ HQ.out; have hI4 := HI.out.turn hrb hr4 ho4; have b5' : w4.cell? ⟨w.heap.size + 1, 5, none⟩ = some (.slice (some ⟨g, 0, none⟩) ks.length kc) := hI4.box.cell 5; have lst : w4.cell? ⟨g, m, none⟩ = some (.string x) := (by have := (hI4.keys.cells (g := g) rfl) m (.string x) (by simp [List.getElem?_map, HLX.out]); rw [Addr.add_lit, Nat.zero_add] at this; exact this); have hb5w : Below w4.heap.size w4 (w4.alloc (.cells #[.string k] 9)) := (Below.refl _ _).alloc (Nat.le_refl _) _; have hI5 := hI4.below hb5w; obtain ⟨A5, c5, We, hrun, hoA, hgA, hAA⟩ := run_append_sl (P := Tryz.prog) (w4.alloc (.cells #[.string k] 9)) 26 26 9 Tryz.underlying26 infoStr rfl (by decide) (some ⟨g, 0, none⟩) ks.length kc (ks.map Value.string) hI5.keys (some ⟨w4.heap.size, 0, none⟩) 1 1 [.string k] rfl (SlAt.of_blk (Blk.new w4 9 #[.string k])) (by intro u hu; rw [List.mem_singleton] at hu; rw [hu]; rfl) (by have := HB0.out.2.2.1; have := HB0.out.2.2.2.1; simp only [maxLen]; omega) (by have := HB0.out.2.2.1; have := HB0.out.2.2.2.1; omega); have hrun' : ∀ ty, (Builtin.append_ #[26, 26] ty #[.slice (some ⟨g, 0, none⟩) ks.length kc, .slice (some ⟨w4.heap.size, 0, none⟩) 1 1]).run Tryz.prog (w4.alloc (.cells #[.string k] 9)) = .ok (.slice A5 (ks.length + 1) c5) We := fun _ => hrun; have HRN := Lib.hid hrun'; have hfin := hI5.push_key hrb hk20 hoA hgA (hAA.imp And.left id); have hbe := (hI5.kept (u := .int .i64 0) (j := 5) hrb (fun b hb => hI5.low b (List.mem_append_left _ hb)) hgA).2.2.2.1; have z5 : We.frozen? ⟨w.heap.size + 1, 5, none⟩ = false := hbe.frozen 5; have y5 : We.cell? ⟨w.heap.size + 1, 5, none⟩ = some (.slice (some ⟨g, 0, none⟩) ks.length kc) := hbe.cell 5; have x5 : (w4.alloc (.cells #[.string k] 9)).cell? ⟨w.heap.size + 1, 5, none⟩ = some (.slice (some ⟨g, 0, none⟩) ks.length kc) := hI5.box.cell 5; have HIK := Lib.hid (And.intro hfin hle); clear hb5w hI5 hrun hrun' hoA hgA hAA hfin hbe; have HI4 := Lib.hid hI4; clear hI4 hle hk20 hr4 ho4 hqq)
                | (at_builtin; refine wpList_append_run (o := ⟨some 53, _, _, _, _, _⟩) rfl _ _ _ _ rfl rfl rfl (HRN.out _) ?_)
                | (go_at_call 43; (with_reducible refine (HW58.out _ HIK.out.1.rd HIK.out.2).mono ?_); rintro e wk ⟨rfl, ho5⟩))
              refine ⟨rfl, ?_⟩
              rw [HPB.out]
              exact ⟨rfl, HIK.out.1.only.trans ho5⟩
end Go.Proofs.YtpeckpiidgkgoaaGreatDoor
/- reader.kids of a list, given what tree does: the contract. -/
namespace Go.Proofs.YtpeckpiidgkgoaaGreatDoor
open Go.RowKit
set_option linter.unusedVariables false
set_option linter.unusedSimpArgs false

set_option maxRecDepth 100000 in
set_option maxHeartbeats 4000000 in
theorem kids6_step (W0 : World) (rb : Nat) (s : ByteArray) (hs : s.size ≤ 60000) (f l : Nat) (hl : l ≤ 400) (hf : 3 * l + 3 ≤ f)
    (ht : ∀ l1, l1 ≤ l → TreeC W0 rb s l1) : KidsC W0 rb s f l 6 93 := by
  intro w pos hat hc hr
  have hrb : rb < w.heap.size := Blk.lt hr
  have hne : ¬ rb = w.heap.size := by omega
  have hne1 : ¬ rb = w.heap.size + 1 := by omega
  have HC := Lib.hid hc
  have HR := Lib.hid hr
  have h0 : KI w rb s 6 pos l [] [] none 0 none 0 ((w.alloc (.cells #[.int .i64 0, .int .i64 0, .string ⟨#[]⟩, .int .i64 0, .int .i64 0, .slice none 0 0, .slice none 0 0] 29)).alloc (.cells #[.int .i64 6, .int .i64 0, .string ⟨#[]⟩, .int .i64 0, .int .i64 0, .slice none 0 0, .slice none 0 0] 29)) :=
    ⟨(hr.alloc _).alloc _, (Blk.new w _ _).alloc _, Blk.newer _ _ _ (by simp), ⟨rfl, .inl ⟨rfl, rfl⟩⟩, ⟨rfl, .inl ⟨rfl, rfl⟩⟩, (fun D hD => by cases hD), by simp [blkOf, PT.ownL], by simp [blkOf, PT.ownL], ((Only.refl _ w).alloc _).alloc _, (fun k hk => by cases hk)⟩
  have HI0 := Lib.hid h0
  clear hc hr h0
  by_cases hend : (toN s)[pos]? = some 93
  · have HP := Lib.hid (show kidsR (toN s) f 6 93 pos l = .ok (leafT (kindV 6)) (pos + 1) l from if_pos hend)
    have hlt := lt_of_at hend
    have HT := Lib.hid (show Calls Tryz.prog 23 #[.pointer (some ⟨rb, 0, none⟩), .int .u8 93] _ _ from takes_yes _ rb s hs pos hat l 93 (by decide) HI0.out.rd hend)
    clear hend
    go_enter Tryz.func24, Tryz.ntmps24
    go_wp2_with (go_at_call 23; (with_reducible refine HT.out.mono ?_); rintro e w3 ⟨rfl, hr3, ho3⟩; have hI3 := HI0.out.turn hrb hr3 ho3; obtain ⟨b0, b1, b2, b3, b4, b5, b6, zb⟩ := res_cells hI3.box; obtain ⟨r0, r1, r2, r3, r4, r5, r6, zr⟩ := res_cells hI3.res; simp only [List.length_nil] at b5 b6; have HI3 := Lib.hid hI3; clear hr3 ho3 hI3)
    refine bodyPost_ret (v := .agg #[.int .i64 6, .int .i64 0, .string ⟨#[]⟩, .int .i64 0, .int .i64 0, .slice none 0 0, .slice none 0 0]) (results_cell_row Tryz.results24 _ _ w.heap.size _ _ _ _ rfl (blk7 _ _ _ _ _ _ _ HI3.out.res) Tryz.underlying29 rfl (by kernel_rfl)) rfl ?_
    exact tree_end rfl HI3.out.ts hrb (leafP (kindV 6)) HP.out (by omega) (leaf_own _ _ (kind_fit (by decide))) List.nodup_nil (by intro b hb; cases hb) _ rfl _ _ _ _ _ _ _
  have HP := Lib.hid (show kidsR (toN s) f 6 93 pos l = pK Num (toN s) f 6 93 pos l [] [] from if_neg hend)
  have HT := Lib.hid (show Calls Tryz.prog 23 #[.pointer (some ⟨rb, 0, none⟩), .int .u8 93] _ _ from takes_no _ rb s hs pos hat l 93 (by decide) HI0.out.rd hend)
  clear hend
  go_enter Tryz.func24, Tryz.ntmps24
  go_wp2_with (go_at_call 23; (with_reducible refine HT.out.mono ?_); rintro e w3 ⟨rfl, hr3, ho3⟩; have HI1 := Lib.hid (HI0.out.turn hrb hr3 ho3); clear hr3 ho3)
  clear HT
  go_loopw [18] (fun _ wr => ∃ (f1 a l1 : Nat) (ks : List ByteArray) (done : List PT) (kA : Option Addr) (kc : Nat) (cA : Option Addr) (cc : Nat), KI w rb s 6 a l1 ks done kA kc cA cc wr ∧ pK Num (toN s) f 6 93 pos l [] [] = pK Num (toN s) f1 6 93 a l1 ks (done.map PT.tree) ∧ 3 * l1 + 3 ≤ f1 ∧ l1 ≤ l ∧ done.length + l1 ≤ 400 ∧ ks = [] ∧ a ≤ s.size) (fun _ wr => leftOf rb wr)
  case atStart => exact ⟨f, pos, l, [], [], none, 0, none, 0, HI1.out, rfl, hf, Nat.le_refl _, by simp; omega, rfl, hat⟩
  case round =>
    obtain ⟨f1, a, l1, ks, done, kA, kc, cA, cc, hI, hP, hf1, hl1, hd1, hks, ha⟩ := hrel
    obtain ⟨q, rfl⟩ : ∃ q, f1 = q + 2 := ⟨f1 - 2, by omega⟩
    have HLO := Lib.hid (leftOf_eq hI.rd)
    have HPT := Lib.hid (HP.out.trans (hP.trans (pK6 (toN s) q 6 93 a l1 ks (done.map PT.tree) (by decide))))
    have HB1 := Lib.hid (show l1 ≤ l ∧ 3 * l1 + 1 ≤ q ∧ done.length + l1 ≤ 400 ∧ ks = [] ∧ a ≤ s.size from ⟨hl1, by omega, hd1, hks, ha⟩)
    have HI := Lib.hid hI
    clear hP hf1 hl1 hd1 hks hI
    have h56 : ((6 : Int) == 5) = false := by decide
    go_upto_region 12 with (fail)
    have HI2 := HI

    have p6 : wr.cell? ⟨w.heap.size + 1, 6, none⟩ = some (.slice cA done.length cc) := HI2.out.box.cell 6
    cases hP2 : pT Num (toN s) q a l1 with
    | bad a2 x2 =>
      have HPB := Lib.hid (HPT.out.trans (vR_bad hP2))
      have HP2 := Lib.hid hP2
      have HT := Lib.hid (show Calls Tryz.prog 10 #[.pointer (some ⟨rb, 0, none⟩)] wr.drew _ from ht l1 HB1.out.1 q a wr.drew HB1.out.2.1 HB1.out.2.2.2.2 (HC.out.only HI2.out.drew.only) HI2.out.drew.rd)
      clear hP2
      have HE := Lib.hid (fun (w3 : World) (ho3 : Only (fun k => k = rb) wr.drew w3) => show TreeQ rb s (kidsR (toN s) f 6 93 pos l) w (.panicked [{ v := .iface 45 (.agg #[.int .i64 a2, .iface 43 (.int .i64 x2)]), recovered := false }]) w3 from by rw [HPB.out]; exact ⟨rfl, HI2.out.drew.only.trans ho3⟩)
      refine wp_region_any (by kernel_rfl) ?_
      change wpAny _ _ _ _ _ _ _ (World.drew _)
      refine wpAny_take (i := 0) (v := .pointer (some ⟨w.heap.size + 1, 6, none⟩)) rfl (by kernel_rfl) (by kernel_rfl) (by kernel_rfl) (fun _ _ _ h => h) (Or.inl ⟨by rfl, by intro w; go_simp⟩) ?_
      refine wpAny_take (i := 2) (v := .pointer (some ⟨rb, 0, none⟩)) rfl (by kernel_rfl) (by kernel_rfl) (by kernel_rfl) (fun _ _ _ h => h) (Or.inl ⟨by rfl, by intro w; go_simp⟩) ?_
      refine wpAny_ready (rs := [1, 3]) (by kernel_rfl) (by simp) ?_
      refine AllReady.cons rfl (fun K hK => ?_) (AllReady.cons rfl (fun K hK => ?_) AllReady.nil)
      · go_simp
        refine hK _ _ ?_
        clear hK K
        refine wpAny_ready (rs := [3]) (by kernel_rfl) (by simp) ?_
        refine AllReady.cons rfl (fun K hK => ?_) AllReady.nil
        go_simp
        with_reducible refine HT.out.mono ?_
        intro e w3 hq
        obtain ⟨rfl, ho3⟩ := hq.badd HP2.out
        exact And.intro rfl (HE.out w3 ho3)
      · go_simp
        with_reducible refine HT.out.mono ?_
        intro e w3 hq
        obtain ⟨rfl, ho3⟩ := hq.badd HP2.out
        exact And.intro rfl (HE.out w3 ho3)
    | ok t2 a2 l2 =>
      have HVR := Lib.hid (vR_ok (kind := 6) (endc := 93) (ks := ks) (kids := done.map PT.tree) hP2)
      have HP2 := Lib.hid hP2
      have HT := Lib.hid (show Calls Tryz.prog 10 #[.pointer (some ⟨rb, 0, none⟩)] wr.drew _ from ht l1 HB1.out.1 q a wr.drew HB1.out.2.1 HB1.out.2.2.2.2 (HC.out.only HI2.out.drew.only) HI2.out.drew.rd)
      have hl2 := (left_lt Num (toN s) q).1 _ _ _ _ _ hP2
      have HL2 := Lib.hid hl2
      clear hP2 hl2
      go_cut [57] from 58 to 63 (fun s57 wx => ∃ (T : PT) (A' : Option Addr) (c' : Nat), T.tree = t2 ∧ a2 ≤ s.size ∧ KI w rb s 6 a2 l2 ks (done ++ [T]) kA kc A' c' wx)
      case first =>
        go_region_law (first
          | (refine step_append_run (o := ⟨some 62, _, _, _, _, _⟩) rfl _ _ _ _ rfl _ _ rfl rfl (HRP.out _) ?_)
          | (go_simp
             (with_reducible refine HT.out.mono ?_)
             intro e w3 hq
             obtain ⟨T, rfl, htr, ha2, hr3, hown3, hnd3, hlow3, ho3⟩ := hq.okd HP2.out
             have hI3 := HI2.out.drew.turn hrb hr3 ho3
             have hb3 : Below w3.heap.size w3 (w3.alloc (.cells #[.int .i64 T.val.k, .int .i64 T.val.n, .string T.val.s, .int .i64 T.val.o, .int .i64 T.val.p, .slice T.kA T.keys.length T.kc, .slice T.cA T.kids.length T.cc] 29)) := (Below.refl _ _).alloc (Nat.le_refl _) _
             have hI4 := hI3.below hb3
             obtain ⟨A', c', We, hrun, hoA, hgA, hAA⟩ := run_append_sl (P := Tryz.prog) (w3.alloc (.cells #[.int .i64 T.val.k, .int .i64 T.val.n, .string T.val.s, .int .i64 T.val.o, .int .i64 T.val.p, .slice T.kA T.keys.length T.kc, .slice T.cA T.kids.length T.cc] 29)) 27 27 29 Tryz.underlying27 infoTree rfl (by decide) cA done.length cc (PT.cellsL done) hI4.kids (some ⟨w3.heap.size, 0, none⟩) 1 1 T.cells (by rw [PT.cells_length]) (SlAt.of_blk (Blk.new w3 29 #[.int .i64 T.val.k, .int .i64 T.val.n, .string T.val.s, .int .i64 T.val.o, .int .i64 T.val.p, .slice T.kA T.keys.length T.kc, .slice T.cA T.kids.length T.cc])) (one_ptK T) (by have := HB1.out.2.2.1; simp only [maxLen]; omega) (by have := HB1.out.2.2.1; omega)
             have hrun' : ∀ ty, (Builtin.append_ #[27, 27] ty #[.slice cA done.length cc, .slice (some ⟨w3.heap.size, 0, none⟩) 1 1]).run Tryz.prog (w3.alloc (.cells #[.int .i64 T.val.k, .int .i64 T.val.n, .string T.val.s, .int .i64 T.val.o, .int .i64 T.val.p, .slice T.kA T.keys.length T.kc, .slice T.cA T.kids.length T.cc] 29)) = .ok (.slice A' (done.length + 1) c') We := fun _ => hrun
             have HRP := Lib.hid hrun'
             have hfin := hI4.push_kid (n0 := wr.heap.size) hrb (hown3.keep fun b hb hlt => hb3.block b hlt) hnd3 hlow3 (fun b hb => HI2.out.lt b hb) (by have := HI2.out.box.lt; omega) hoA hgA (hAA.imp And.left id)
             have hbe := (hI4.kept (u := .int .i64 0) (j := 6) hrb (fun b hb => hI4.low b (List.mem_append_right _ (List.mem_append_left _ hb))) hgA).2.2.2.1
             have q0 : w3.cell? ⟨w.heap.size + 1, 6, none⟩ = some (.slice cA done.length cc) := hI3.box.cell 6
             have q1 : w3.frozen? ⟨w.heap.size + 1, 6, none⟩ = false := hI3.box.frozen 6
             have q2 : (w3.alloc (.cells #[.int .i64 T.val.k, .int .i64 T.val.n, .string T.val.s, .int .i64 T.val.o, .int .i64 T.val.p, .slice T.kA T.keys.length T.kc, .slice T.cA T.kids.length T.cc] 29)).cell? ⟨w.heap.size + 1, 6, none⟩ = some (.slice cA done.length cc) := hI4.box.cell 6
             have q3 : (w3.alloc (.cells #[.int .i64 T.val.k, .int .i64 T.val.n, .string T.val.s, .int .i64 T.val.o, .int .i64 T.val.p, .slice T.kA T.keys.length T.kc, .slice T.cA T.kids.length T.cc] 29)).frozen? ⟨w.heap.size + 1, 6, none⟩ = false := hI4.box.frozen 6
             have q4 : We.cell? ⟨w.heap.size + 1, 6, none⟩ = some (.slice cA done.length cc) := hbe.cell 6
             have q5 : We.frozen? ⟨w.heap.size + 1, 6, none⟩ = false := hbe.frozen 6
             have HLL := Lib.hid (And.intro htr (And.intro ha2 hfin))
             clear hI3 hb3 hI4 hrun hrun' hoA hgA hAA hfin hbe htr ha2 hr3 hown3 hnd3 hlow3 ho3 hq))
        all_goals
          go_wp2_with fail
          go_meet
          exact ⟨T, A', c', HLL.out.1, HLL.out.2.1, HLL.out.2.2⟩
      case rest =>
        obtain ⟨T, cA2, cc2, htr, ha2, hI⟩ := hcut
        subst htr
        clear p6 HT HP2
        by_cases h44 : (toN s)[a2]? = some 44
        · have hlt2 := lt_of_at h44
          have HVN := Lib.hid (HPT.out.trans (HVR.out.trans (if_pos h44)))
          have HT2 := Lib.hid (show Calls Tryz.prog 23 #[.pointer (some ⟨rb, 0, none⟩), .int .u8 44] wc _ from takes_yes wc rb s hs a2 ha2 l2 44 (by decide) hI.rd h44)
          have HI3 := Lib.hid hI
          clear hI h44
          go_wp2_with (go_at_call 23; (with_reducible refine HT2.out.mono ?_); rintro e w4 ⟨rfl, hr4, ho4⟩; have HI4 := Lib.hid (HI3.out.turn hrb hr4 ho4); clear hr4 ho4)
          go_roundw
          case rel => exact ⟨q, a2 + 1, l2, ks, done ++ [T], kA, kc, cA2, cc2, HI4.out, by rw [← HP.out, HVN.out, List.map_append]; rfl, by have := HB1.out.2.1; have := HL2.out; omega, by have := HB1.out.1; have := HL2.out; omega, by have := HB1.out.2.2.1; have := HL2.out; simp; omega, HB1.out.2.2.2.1, by omega⟩
          case measure =>
            rw [leftOf_eq HI4.out.rd, HLO.out]
            exact HL2.out
        · have HVN := Lib.hid (HPT.out.trans (HVR.out.trans (if_neg h44)))
          have HT2 := Lib.hid (show Calls Tryz.prog 23 #[.pointer (some ⟨rb, 0, none⟩), .int .u8 44] wc _ from takes_no wc rb s hs a2 ha2 l2 44 (by decide) hI.rd h44)
          by_cases hend : (toN s)[a2]? = some 93
          · have hlt2 := lt_of_at hend
            have HVM := Lib.hid (HVN.out.trans (if_pos hend))
            have HI3 := Lib.hid hI
            have HW := Lib.hid (fun w4 (hr : Rd w4 rb s a2 l2) => show Calls Tryz.prog 43 #[.pointer (some ⟨rb, 0, none⟩), .int .u8 93] w4 _ from want_yes w4 rb s hs a2 ha2 l2 93 (by decide) hr hend)
            clear hI h44 hend
            go_wp2_with (first
              | (go_at_call 23; (with_reducible refine HT2.out.mono ?_); rintro e w4 ⟨rfl, hr4, ho4⟩; have HI4 := Lib.hid (HI3.out.turn hrb hr4 ho4); clear hr4 ho4)
              | (go_at_call 43; (with_reducible refine (HW.out _ HI4.out.rd).mono ?_); rintro e w5 ⟨rfl, hr5, ho5⟩; have hI5 := HI4.out.turn hrb hr5 ho5; obtain ⟨b0, b1, b2, b3, b4, b5, b6, zb⟩ := res_cells hI5.box; obtain ⟨r0, r1, r2, r3, r4, r5, r6, zr⟩ := res_cells hI5.res; have HI5 := Lib.hid hI5; clear hr5 ho5 hI5))
            refine bodyPost_ret (v := .agg #[.int .i64 6, .int .i64 0, .string ⟨#[]⟩, .int .i64 0, .int .i64 0, .slice kA ks.length kc, .slice cA2 (done.length + 1) cc2]) (results_cell_row Tryz.results24 _ _ w.heap.size _ _ _ _ rfl (blk7 _ _ _ _ _ _ _ HI5.out.res) Tryz.underlying29 rfl (by kernel_rfl)) rfl ?_
            exact tree_end rfl HI5.out.ts hrb (PT.node (kindV 6) kA kc ks cA2 cc2 (done ++ [T])) (HVM.out.trans (by rw [show (PT.node (kindV 6) kA kc ks cA2 cc2 (done ++ [T])).tree = .node (kindV 6) ks ((done ++ [T]).map PT.tree) from PT.tree_eq _, List.map_append]; rfl)) (by omega) (OwnJ.mk_ ⟨kind_fit (by decide), HI5.out.keys, HI5.out.kids, fun x hx => by have := HI5.out.each x hx; unfold maxLen; omega⟩ HI5.out.own) (by rw [PT.own_eq]; exact HI5.out.nd) (by intro b hb; rw [PT.own_eq] at hb; have := HI5.out.low b hb; omega) _ (by rw [PT.value_eq]; simp [PT.val, PT.keys, PT.kids, PT.kA, PT.kc, PT.cA, PT.cc, kindV]) _ _ _ _ _ _ _
          · have HVM := Lib.hid (HVN.out.trans (if_neg hend))
            have HI3 := Lib.hid hI
            have HW := Lib.hid (fun w4 (hr : Rd w4 rb s a2 l2) => show Calls Tryz.prog 43 #[.pointer (some ⟨rb, 0, none⟩), .int .u8 93] w4 _ from want_no w4 rb s hs a2 ha2 l2 93 (by decide) hr hend)
            clear hI h44 hend
            go_wp2_with (first
              | (go_at_call 23; (with_reducible refine HT2.out.mono ?_); rintro e w4 ⟨rfl, hr4, ho4⟩; have HI4 := Lib.hid (HI3.out.turn hrb hr4 ho4); clear hr4 ho4)
              | (go_at_call 43; (with_reducible refine (HW.out _ HI4.out.rd).mono ?_); rintro e w5 ⟨rfl, ho5⟩))
            refine ⟨rfl, ?_⟩
            rw [HVM.out]
            exact ⟨rfl, HI4.out.only.trans ho5⟩
end Go.Proofs.YtpeckpiidgkgoaaGreatDoor
