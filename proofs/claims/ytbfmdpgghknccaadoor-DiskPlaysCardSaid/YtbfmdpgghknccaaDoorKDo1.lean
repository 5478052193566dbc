/- bookref3.Do: Create. -/
import Derived.Test.YtbfmdpgghknccaaDoorKDoMem
import Derived.Deep.DeepCutAuto
namespace Go.Proofs.YtbfmdpgghknccaaDoor
open Go.RowKit Go.Maps
set_option linter.unusedVariables false
set_option linter.unusedSimpArgs false

set_option maxRecDepth 100000 in
set_option maxHeartbeats 12000000 in
theorem kdo_1 (k : Nat) (fm : List FM) (names safe : Nms) (steps stop : Int) (FA : Option Addr) (Fc : Nat) (NA : Option Addr) (Nc : Nat) (SA : Option Addr) (Sc : Nat) (nm tn : ByteArray) (B : Option Addr) (bl bc : Nat) (n : Int) (at_ : Option Nat) (w : World) (h : KAt w k fm names safe steps stop FA Fc NA Nc SA Sc) (hl : names.length ≤ 1000000) (hs : nm.size ≤ maxLen) (ht : tn.size ≤ maxLen) (hat : kFile names nm.data.toList = at_) (hgo : Goes steps stop) (hs0 : 0 ≤ steps) (hs9 : steps ≤ 1000000000000) (hg : rnamedB nm = true) (hi : at_ = none) (hfl : fm.length ≤ 1000000) :
    Calls Tryd.prog 34 #[.pointer (some ⟨k, 0, none⟩), wV 1 nm tn B bl bc n] w (KDoQ w k fm FA (fun l => l = fm ++ [⟨none, 0, [], 0⟩]) (without names [] ++ [(nm.data.toList, fm.length)]) safe (steps + 1) stop) := by
  have HL := Lib.hid hl
  unfold wV
  have HN := Lib.hid (fun w1 => rnamed_any nm w1 (Nat.le_trans hs (by decide)))
  have HT := Lib.hid (fun w1 => rnamed_any tn w1 (Nat.le_trans ht (by decide)))
  have HF := Lib.hid (fun w1 h => kfile_any k fm names safe steps stop FA Fc NA Nc SA Sc nm w1 h hl)
  have HH := Lib.hid h
  rw [hat] at HF
  have hkl := h.blk.lt
  have c3 : w.cell? ⟨k, 3, none⟩ = some (.int .i64 steps) := h.blk.cell 3
  have c4 : w.cell? ⟨k, 4, none⟩ = some (.int .i64 stop) := h.blk.cell 4
  clear h hs ht hat hl
  rw [hg] at HN
  clear hg
  subst hi
  unfold atV at HF
  go_enter Tryd.func34, Tryd.ntmps34
  go_upto_region 27 with (fail)
  go_cut [139] (fun s wx => s = .bool false ∧ Below w.heap.size w wx ∧ Blk wx w.heap.size 53 #[.int .i64 1, .string nm, .string tn, .slice B bl bc, .int .i64 n])
  case first =>
    have hfin : ∀ q, Below w.heap.size w ((w.alloc (.cells #[.int .i64 1, .string nm, .string tn, .slice B bl bc, .int .i64 n] 53)).drewN q) ∧ Blk ((w.alloc (.cells #[.int .i64 1, .string nm, .string tn, .slice B bl bc, .int .i64 n] 53)).drewN q) w.heap.size 53 #[.int .i64 1, .string nm, .string tn, .slice B bl bc, .int .i64 n] := fun q => ⟨belowN ((Below.refl _ w).alloc (Nat.le_refl _) _) q, (Blk.new w _ _).drewN q⟩
    have HFI := Lib.hid hfin
    clear hfin
    rcases goes_cases hgo with d0 | ⟨d0, d1⟩
    all_goals
      clear hgo
      go_wp2_with fail
      go_quiet ((fail))
      go_wp2_with fail
      go_meet
      exact ⟨rfl, HFI.out _⟩
  case rest =>
    obtain ⟨rfl, hcut1⟩ := hcut
    have HW0 := Lib.hid hcut1
    have b0 : wc.cell? ⟨w.heap.size, 0, none⟩ = some (.int .i64 1) := hcut1.2.cell 0
    have b1 : wc.cell? ⟨w.heap.size, 1, none⟩ = some (.string nm) := hcut1.2.cell 1
    clear hcut1 hgo c3 c4
    go_wp2_with fail
    clear b0 b1
    refine (HN.out _).mono ?_
    rintro e w1 ⟨rfl, hb1⟩
    have H1 := Lib.hid (show Below w.heap.size w w1 ∧ KAt w1 k fm names safe steps stop FA Fc NA Nc SA Sc ∧ Blk w1 w.heap.size 53 #[.int .i64 1, .string nm, .string tn, .slice B bl bc, .int .i64 n] from by
      have ht : Below w.heap.size w w1 := HW0.out.1.trans (hb1.mono HW0.out.1.size)
      exact ⟨ht, HH.out.below ht, HW0.out.2.below hb1 HW0.out.2.lt⟩)
    clear hb1
    have b0 : w1.cell? ⟨w.heap.size, 0, none⟩ = some (.int .i64 1) := H1.out.2.2.cell 0
    have b1 : w1.cell? ⟨w.heap.size, 1, none⟩ = some (.string nm) := H1.out.2.2.cell 1
    have b2 : w1.cell? ⟨w.heap.size, 2, none⟩ = some (.string tn) := H1.out.2.2.cell 2
    have b3 : w1.cell? ⟨w.heap.size, 3, none⟩ = some (.slice B bl bc) := H1.out.2.2.cell 3
    have b4 : w1.cell? ⟨w.heap.size, 4, none⟩ = some (.int .i64 n) := H1.out.2.2.cell 4
    go_wp2_with fail
    clear b0 b1 b2 b3 b4
    refine (HF.out _ H1.out.2.1).mono ?_
    rintro e w2 ⟨rfl, hb2⟩
    have H2 := Lib.hid (And.intro (H1.out.1.trans (hb2.mono H1.out.1.size)) (And.intro (H1.out.2.1.below hb2) (H1.out.2.2.below hb2 H1.out.2.2.lt)))
    clear hb2
    have b0 : w2.cell? ⟨w.heap.size, 0, none⟩ = some (.int .i64 1) := H2.out.2.2.cell 0
    have b1 : w2.cell? ⟨w.heap.size, 1, none⟩ = some (.string nm) := H2.out.2.2.cell 1
    have b2 : w2.cell? ⟨w.heap.size, 2, none⟩ = some (.string tn) := H2.out.2.2.cell 2
    have b3 : w2.cell? ⟨w.heap.size, 3, none⟩ = some (.slice B bl bc) := H2.out.2.2.cell 3
    have b4 : w2.cell? ⟨w.heap.size, 4, none⟩ = some (.int .i64 n) := H2.out.2.2.cell 4
    have hKw2 := H2.out.2.1
    have c1 : w2.cell? ⟨k, 1, none⟩ = some (.slice NA names.length Nc) := hKw2.blk.cell 1
    have c0 : w2.cell? ⟨k, 0, none⟩ = some (.slice FA fm.length Fc) := hKw2.blk.cell 0
    have c3 : w2.cell? ⟨k, 3, none⟩ = some (.int .i64 steps) := hKw2.blk.cell 3
    have z := hKw2.blk.frozen
    have hkb : ¬ k = w.heap.size := by have := hkl; omega
    go_wp2_with fail
    go_quiet ((fail))
    rename Nat => nq2
    have hst : KAt ((w2.drewN nq2).setCell ⟨k, 3, none⟩ (.int .i64 (steps + 1))) k fm names safe (steps + 1) stop FA Fc NA Nc SA Sc ∧ Blk ((w2.drewN nq2).setCell ⟨k, 3, none⟩ (.int .i64 (steps + 1))) w.heap.size 53 #[.int .i64 1, .string nm, .string tn, .slice B bl bc, .int .i64 n] ∧ Only (fun q => q = k) w ((w2.drewN nq2).setCell ⟨k, 3, none⟩ (.int .i64 (steps + 1))) := by
      have ho : Only (fun q => q = k) w2 ((w2.drewN nq2).setCell ⟨k, 3, none⟩ (.int .i64 (steps + 1))) := ((Only.refl (fun q => q = k) w2).drewN nq2).setCell (p := ⟨k, 3, none⟩) rfl _
      exact ⟨(hKw2.drewN nq2).steps_ _, H2.out.2.2.only ho (fun e => hkb e.symm), (Only.of_below H2.out.1).trans ho⟩

    have hW6 : ((w2.drewN nq2).setCell ⟨k, 3, none⟩ (.int .i64 (steps + 1))).heap.size = w2.heap.size := by simp
    obtain ⟨A6, c6, w6, hrun6, hrow6, hg6, hA6⟩ := run_append_sl (P := Tryd.prog) (((w2.drewN nq2).setCell ⟨k, 3, none⟩ (.int .i64 (steps + 1))).alloc (.cells #[.slice none 0 0, .int .i64 0] 97)) 44 44 97 Tryd.underlying44 infoF rfl (by decide) FA fm.length Fc (fcells fm) (hst.1.fl.alloc _) (some ⟨w2.heap.size, 0, none⟩) 1 1 [.slice none 0 0, .int .i64 0] rfl (.inr ⟨w2.heap.size, 0, rfl, fun j u hu => by rw [Nat.zero_add, (Blk.newer _ 97 #[.slice none 0 0, .int .i64 0] hW6.symm).cell]; simpa using hu⟩) (by intro u hu; simp at hu; rcases hu with rfl | rfl <;> rfl) (by unfold maxLen; omega) (by omega)
    have hrun6' : ∀ ty, (Builtin.append_ #[44, 44] ty #[.slice FA fm.length Fc, .slice (some ⟨w2.heap.size, 0, none⟩) 1 1]).run Tryd.prog (((w2.drewN nq2).setCell ⟨k, 3, none⟩ (.int .i64 (steps + 1))).alloc (.cells #[.slice none 0 0, .int .i64 0] 97)) = .ok (.slice A6 (fm.length + 1) c6) w6 := fun _ => hrun6
    have HR6 := Lib.hid hrun6'
    have d0' : ((w2.drewN nq2).setCell ⟨k, 3, none⟩ (.int .i64 (steps + 1))).cell? ⟨k, 0, none⟩ = some (.slice FA fm.length Fc) := hst.1.blk.cell 0
    have ho6 : Only (fun q => ∃ a, FA = some a ∧ q = a.block) ((w2.drewN nq2).setCell ⟨k, 3, none⟩ (.int .i64 (steps + 1))) w6 := ((Only.refl (fun q => ∃ a, FA = some a ∧ q = a.block) _).alloc _).trans ⟨hg6.os, hg6.tape, hg6.output, hg6.size, fun q hq hn => hg6.block q hq (by
      intro e
      cases hA : FA with
      | none => rw [hA] at e; cases e
      | some a => rw [hA] at e; exact hn ⟨a, hA, Option.some.inj e⟩)⟩
    have hne6 : ∀ {e : TypeId} {base size n c : Nat} {A : Option Addr} {xs : List Value}, ((w2.drewN nq2).setCell ⟨k, 3, none⟩ (.int .i64 (steps + 1))).ownsRow base e size (.slice A n c) n xs → e ≠ 97 → ∀ a, A = some a → ¬ ∃ a', FA = some a' ∧ a.block = a'.block := fun hr he a ha ⟨a', ha', e⟩ => row_ne hr hst.1.fl he a a' ha ha' e
    have hkF : ¬ ∃ a', FA = some a' ∧ k = a'.block := fun ⟨a', ha', e⟩ => row_ne_blk hst.1.fl hst.1.blk (by decide) a' ha' e.symm
    have hwF : ¬ ∃ a', FA = some a' ∧ w.heap.size = a'.block := fun ⟨a', ha', e⟩ => row_ne_blk hst.1.fl hst.2.1 (by decide) a' ha' e.symm
    have hblk6 := hst.1.blk.only ho6 hkF
    have hrow6' : w6.ownsRow 0 97 2 (.slice A6 (fm ++ [(⟨none, 0, [], 0⟩ : FM)]).length c6) (fm ++ [(⟨none, 0, [], 0⟩ : FM)]).length (fcells (fm ++ [⟨none, 0, [], 0⟩])) := by
      rw [fcells_append, List.length_append]
      exact hrow6
    have hst6 : ∀ w7, w7 = w6.setCell ⟨k, 0, none⟩ (.slice A6 (fm.length + 1) c6) → KAt w7 k (fm ++ [⟨none, 0, [], 0⟩]) names safe (steps + 1) stop A6 c6 NA Nc SA Sc ∧ Blk w7 w.heap.size 53 #[.int .i64 1, .string nm, .string tn, .slice B bl bc, .int .i64 n] ∧ Only (fun q => q = k ∨ ∃ a, FA = some a ∧ q = a.block) w w7 := by
      rintro w7 rfl
      have ho7 : Only (fun q => q = k) w6 (w6.setCell ⟨k, 0, none⟩ (.slice A6 (fm.length + 1) c6)) := (Only.refl (fun q => q = k) w6).setCell (p := ⟨k, 0, none⟩) rfl _
      have hnk : ∀ {e : TypeId} {base size n c : Nat} {A : Option Addr} {xs : List Value}, w6.ownsRow base e size (.slice A n c) n xs → e ≠ 47 → ∀ a, A = some a → ¬ a.block = k := fun hr he => row_ne_blk hr hblk6 he
      have r1 := row_only hst.1.nm ho6 (hne6 hst.1.nm (by decide))
      have r2 := row_only hst.1.sf ho6 (hne6 hst.1.sf (by decide))
      refine ⟨⟨?_, row_only hrow6' ho7 (hnk hrow6' (by decide)), ?_, row_only r1 ho7 (hnk r1 (by decide)), row_only r2 ho7 (hnk r2 (by decide))⟩, (hst.2.1.only ho6 hwF).only ho7 (fun e => hkb e.symm), ?_⟩
      · have := hblk6.set_ 0 (.slice A6 (fm.length + 1) c6)
        rw [List.length_append]
        simpa using this
      · intro g hg
        rcases List.mem_append.1 hg with hg | hg
        · have r3 := row_only (hst.1.fb g hg) ho6 (hne6 (hst.1.fb g hg) (by decide))
          exact row_only r3 ho7 (hnk r3 (by decide))
        · obtain rfl : g = ⟨none, 0, [], 0⟩ := by simpa using hg
          exact World.ownsRow_nil _ _ _ _
      · exact ((hst.2.2.mono (fun q _ e => Or.inl e)).trans (ho6.mono (fun q _ e => Or.inr e))).trans (ho7.mono (fun q _ e => Or.inl e))
    have p0 : w6.cell? ⟨k, 0, none⟩ = some (.slice FA fm.length Fc) := hblk6.cell 0
    have zz6 := hblk6.frozen
    have hFA6 : A6 = FA ∨ ∃ a, A6 = some a ∧ w.heap.size ≤ a.block := by
      rcases hA6 with ⟨h1, _⟩ | h1
      · exact .inl h1
      · refine .inr ⟨_, h1, ?_⟩
        have := hst.2.2.size
        simp at this ⊢
        omega
    have HFA6 := Lib.hid hFA6
    have HST := Lib.hid hst6
    clear hFA6 hst hKw2 hrun6 hrun6' hrow6 hg6 hA6 ho6 hne6 hkF hwF hblk6 hrow6' hst6 hW6
    go_wp2_with (first | (at_builtin; refine Lib.wpList_append_run _ rfl _ _ _ _ rfl _ _ rfl rfl _ _ (HR6.out _) ?_) | fail)
    clear b0 b1 b2 b3 b4
    clear c3 z c1 c0 d0' p0 zz6
    refine wp_at (fun w7 => KAt w7 k (fm ++ [⟨none, 0, [], 0⟩]) names safe (steps + 1) stop A6 c6 NA Nc SA Sc ∧ Blk w7 w.heap.size 53 #[.int .i64 1, .string nm, .string tn, .slice B bl bc, .int .i64 n] ∧ Only (fun q => q = k ∨ ∃ a, FA = some a ∧ q = a.block) w w7) (HST.out _ rfl) ?_
    rintro w5 ⟨hKn, hBn, hOn⟩
    obtain ⟨nf, hnf⟩ : ∃ nf, nf = (fm ++ [(⟨none, 0, [], 0⟩ : FM)]).length := ⟨_, rfl⟩
    have hnf1 : nf = fm.length + 1 := by rw [hnf]; simp
    have hw1 : IntKind.i64.wrap ((nf : Int) - 1) = (fm.length : Int) := by rw [IntKind.wrap_i64]; omega
    have a0 : w5.cell? ⟨k, 0, none⟩ = some (.slice A6 nf c6) := by rw [hnf]; exact hKn.blk.cell 0
    have a1 : w5.cell? ⟨k, 1, none⟩ = some (.slice NA names.length Nc) := hKn.blk.cell 1
    have e1 : w5.cell? ⟨w.heap.size, 1, none⟩ = some (.string nm) := hBn.cell 1
    have hkl5 := hKn.blk.lt
    have hbl5 := hBn.lt
    have hda : Below w5.heap.size w5 (w5.alloc (.cells #[.string nm, .int .i64 fm.length] 89)).drew := ((Below.refl _ w5).alloc (Nat.le_refl _) _).drew
    have hca := without_any names NA Nc (⟨#[]⟩ : ByteArray) w5.drew (SlAt.of_owns (hKn.drewN 1).nm) HL.out
    have hcb := without_any names NA Nc (⟨#[]⟩ : ByteArray) (w5.alloc (.cells #[.string nm, .int .i64 fm.length] 89)).drew (SlAt.of_owns (hKn.below hda).nm) HL.out
    have hbox : Blk (w5.alloc (.cells #[.string nm, .int .i64 fm.length] 89)).drew w5.heap.size 89 #[.string nm, .int .i64 fm.length] := Blk.new w5 _ _
    have hml : (without names []).length ≤ 1000000 := Nat.le_trans (without_len _ _) HL.out
    have hpost : ∀ (V w8 : World) (A8 : Option Addr) (c8 : Nat) (q : Nat), w8.ownsRow 0 89 2 (.slice A8 (without names []).length c8) (without names []).length (ncells (without names [])) → (∀ a, A8 = some a → w5.heap.size ≤ a.block) → Below w5.heap.size w5 w8 → Below w5.heap.size w5 V → V.ownsRow 0 89 2 (.slice A8 (without names []).length c8) (without names []).length (ncells (without names [])) → Blk V q 89 #[.string nm, .int .i64 fm.length] →
        ∃ A9 c9 w9, (∀ ty, (Builtin.append_ #[45, 45] ty #[.slice A8 (without names []).length c8, .slice (some ⟨q, 0, none⟩) 1 1]).run Tryd.prog V = .ok (.slice A9 ((without names []).length + 1) c9) w9) ∧ w9.cell? ⟨k, 1, none⟩ = some (.slice NA names.length Nc) ∧ (∀ i, w9.frozen? ⟨k, i, none⟩ = false) ∧ w8.cell? ⟨k, 0, none⟩ = some (.slice A6 nf c6) ∧ w8.cell? ⟨w.heap.size, 1, none⟩ = some (.string nm) ∧ w9.cell? ⟨k, 0, none⟩ = some (.slice A6 nf c6) ∧ w9.cell? ⟨w.heap.size, 1, none⟩ = some (.string nm) ∧ (w9.setCell ⟨k, 1, none⟩ (.slice A9 ((without names []).length + 1) c9)).cell? ⟨k, 0, none⟩ = some (.slice A6 nf c6) ∧ (w9.setCell ⟨k, 1, none⟩ (.slice A9 ((without names []).length + 1) c9)).cell? ⟨w.heap.size, 1, none⟩ = some (.string nm) ∧
          Hid (KAt w9 k (fm ++ [⟨none, 0, [], 0⟩]) names safe (steps + 1) stop A6 c6 NA Nc SA Sc ∧ w9.ownsRow 0 89 2 (.slice A9 ((without names []).length + 1) c9) ((without names []).length + 1) (ncells (without names []) ++ [.string nm, .int .i64 fm.length]) ∧ Below w5.heap.size w5 w9) := by
      intro V w8 A8 c8 q hr8 hA8 hb8 hbV hrV hq
      obtain ⟨A9, c9, w9, hrun9, hrow9, hg9, _⟩ := run_append_sl (P := Tryd.prog) V 45 45 89 Tryd.underlying45 infoN rfl (by decide) A8 (without names []).length c8 (ncells (without names [])) hrV (some ⟨q, 0, none⟩) 1 1 [.string nm, .int .i64 fm.length] rfl (.inr ⟨q, 0, rfl, fun j u hu => by rw [Nat.zero_add, hq.cell]; simpa using hu⟩) (by intro u hu; simp at hu; rcases hu with rfl | rfl <;> rfl) (by unfold maxLen; omega) (by omega)
      have hb9 : Below w5.heap.size w5 w9 := hbV.grown hg9 hbV.size (fun j hj => by
        cases hA : A8 with
        | none => rw [hA] at hj; cases hj
        | some a => rw [hA] at hj; exact Option.some.inj hj ▸ hA8 a hA)
      have hK9 := hKn.below hb9
      have hK8 := hKn.below hb8
      exact ⟨A9, c9, w9, fun _ => hrun9, hK9.blk.cell 1, hK9.blk.frozen, by rw [hnf1]; simpa using hK8.blk.cell 0, (hBn.below hb8 hBn.lt).cell 1, by rw [hnf1]; simpa using hK9.blk.cell 0, (hBn.below hb9 hBn.lt).cell 1, by rw [hnf1]; simpa using (hK9.blk.set_ 1 (.slice A9 ((without names []).length + 1) c9)).cell 0, ((hBn.below hb9 hBn.lt).only ((Only.refl (fun q => q = k) w9).setCell (p := ⟨k, 1, none⟩) rfl _) (fun e => hkb e.symm)).cell 1, Lib.hid ⟨hK9, hrow9, hb9⟩⟩
    have HCA : Hid (Calls Tryd.prog 59 #[.slice NA names.length Nc, .string ⟨#[]⟩] w5.drew fun e w8 => ∃ A8 c8, e = .returned (.slice A8 (without names []).length c8) ∧ ∃ A9 c9 w9, (∀ ty, (Builtin.append_ #[45, 45] ty #[.slice A8 (without names []).length c8, .slice (some ⟨w8.heap.size, 0, none⟩) 1 1]).run Tryd.prog (w8.alloc (.cells #[.string nm, .int .i64 fm.length] 89)) = .ok (.slice A9 ((without names []).length + 1) c9) w9) ∧ w9.cell? ⟨k, 1, none⟩ = some (.slice NA names.length Nc) ∧ (∀ i, w9.frozen? ⟨k, i, none⟩ = false) ∧ w8.cell? ⟨k, 0, none⟩ = some (.slice A6 nf c6) ∧ w8.cell? ⟨w.heap.size, 1, none⟩ = some (.string nm) ∧ w9.cell? ⟨k, 0, none⟩ = some (.slice A6 nf c6) ∧ w9.cell? ⟨w.heap.size, 1, none⟩ = some (.string nm) ∧ (w9.setCell ⟨k, 1, none⟩ (.slice A9 ((without names []).length + 1) c9)).cell? ⟨k, 0, none⟩ = some (.slice A6 nf c6) ∧ (w9.setCell ⟨k, 1, none⟩ (.slice A9 ((without names []).length + 1) c9)).cell? ⟨w.heap.size, 1, none⟩ = some (.string nm) ∧
          Hid (KAt w9 k (fm ++ [⟨none, 0, [], 0⟩]) names safe (steps + 1) stop A6 c6 NA Nc SA Sc ∧ w9.ownsRow 0 89 2 (.slice A9 ((without names []).length + 1) c9) ((without names []).length + 1) (ncells (without names []) ++ [.string nm, .int .i64 fm.length]) ∧ Below w5.heap.size w5 w9)) := Lib.hid (by
      refine hca.mono ?_
      rintro e w8 ⟨A, c, rfl, hr, hb⟩
      have hb8 : Below w5.heap.size w5 w8 := ⟨hb.os, hb.tape, hb.output, hb.size, hb.block⟩
      exact ⟨A, c, rfl, hpost _ w8 A c _ (row_zero hr) (fun a ha => ownBlock_ge hr a.block (by rw [ha]; rfl)) hb8 (hb8.alloc hb8.size _) ((row_zero hr).alloc _) (Blk.new _ _ _)⟩)
    have HCB : Hid (Calls Tryd.prog 59 #[.slice NA names.length Nc, .string ⟨#[]⟩] (w5.alloc (.cells #[.string nm, .int .i64 fm.length] 89)).drew fun e w8 => ∃ A8 c8, e = .returned (.slice A8 (without names []).length c8) ∧ ∃ A9 c9 w9, (∀ ty, (Builtin.append_ #[45, 45] ty #[.slice A8 (without names []).length c8, .slice (some ⟨w5.heap.size, 0, none⟩) 1 1]).run Tryd.prog w8 = .ok (.slice A9 ((without names []).length + 1) c9) w9) ∧ w9.cell? ⟨k, 1, none⟩ = some (.slice NA names.length Nc) ∧ (∀ i, w9.frozen? ⟨k, i, none⟩ = false) ∧ w8.cell? ⟨k, 0, none⟩ = some (.slice A6 nf c6) ∧ w8.cell? ⟨w.heap.size, 1, none⟩ = some (.string nm) ∧ w9.cell? ⟨k, 0, none⟩ = some (.slice A6 nf c6) ∧ w9.cell? ⟨w.heap.size, 1, none⟩ = some (.string nm) ∧ (w9.setCell ⟨k, 1, none⟩ (.slice A9 ((without names []).length + 1) c9)).cell? ⟨k, 0, none⟩ = some (.slice A6 nf c6) ∧ (w9.setCell ⟨k, 1, none⟩ (.slice A9 ((without names []).length + 1) c9)).cell? ⟨w.heap.size, 1, none⟩ = some (.string nm) ∧
          Hid (KAt w9 k (fm ++ [⟨none, 0, [], 0⟩]) names safe (steps + 1) stop A6 c6 NA Nc SA Sc ∧ w9.ownsRow 0 89 2 (.slice A9 ((without names []).length + 1) c9) ((without names []).length + 1) (ncells (without names []) ++ [.string nm, .int .i64 fm.length]) ∧ Below w5.heap.size w5 w9)) := Lib.hid (by
      refine hcb.mono ?_
      rintro e w8 ⟨A, c, rfl, hr, hb⟩
      have hb8 : Below w5.heap.size w5 w8 := hda.trans (hb.mono hda.size)
      exact ⟨A, c, rfl, hpost _ w8 A c _ (row_zero hr) (fun a ha => Nat.le_trans hda.size (ownBlock_ge hr a.block (by rw [ha]; rfl))) hb8 hb8 (row_zero hr) (hbox.below hb hbox.lt)⟩)
    have HN5 := Lib.hid (And.intro hKn (And.intro hBn hOn))
    have HNF := Lib.hid hnf1
    clear hKn hBn hOn hda hca hcb hml hnf hnf1 hpost hbox
    -- REGION 49
    refine wp_region_held_drew (S := fun w' => w'.cell? ⟨k, 0, none⟩ = some (.slice A6 nf c6) ∧ w'.cell? ⟨w.heap.size, 1, none⟩ = some (.string nm)) (by kernel_rfl) (by first | exact ⟨a0, e1⟩ | go_keep) (fun hHeld => ?_)
    refine wpAnyH_take (i := 0) (oi := _) (v := .pointer (some ⟨k, 0, none⟩)) rfl (by kernel_rfl) (by kernel_rfl) (by kernel_rfl) (fun _ _ _ h => h) (Or.inl ⟨by rfl, fun w' hSw => by ((try dsimp only at hSw); go_simp)⟩) hHeld ?_
    (try simp only [Act.put, List.setIfInBounds_toArray, List.set_cons_zero, List.set_cons_succ])
    refine wpAnyH_take (i := 1) (oi := _) (v := .pointer (some ⟨k, 0, none⟩)) rfl (by kernel_rfl) (by kernel_rfl) (by kernel_rfl) (fun _ _ _ h => h) (Or.inl ⟨by rfl, fun w' hSw => by ((try dsimp only at hSw); go_simp)⟩) hHeld ?_
    (try simp only [Act.put, List.setIfInBounds_toArray, List.set_cons_zero, List.set_cons_succ])
    refine wpAnyH_take (i := 2) (oi := _) (v := .pointer (some ⟨k, 0, none⟩)) rfl (by kernel_rfl) (by kernel_rfl) (by kernel_rfl) (fun _ _ _ h => h) (Or.inl ⟨by rfl, fun w' hSw => by ((try dsimp only at hSw); go_simp)⟩) hHeld ?_
    (try simp only [Act.put, List.setIfInBounds_toArray, List.set_cons_zero, List.set_cons_succ])
    refine wpAnyH_take (i := 3) (oi := _) (v := .pointer (some ⟨k, 1, none⟩)) rfl (by kernel_rfl) (by kernel_rfl) (by kernel_rfl) (fun _ _ _ h => h) (Or.inl ⟨by rfl, fun w' hSw => by ((try dsimp only at hSw); go_simp)⟩) hHeld ?_
    (try simp only [Act.put, List.setIfInBounds_toArray, List.set_cons_zero, List.set_cons_succ])
    refine wpAnyH_take (i := 6) (oi := _) (v := .pointer (some ⟨w.heap.size, 1, none⟩)) rfl (by kernel_rfl) (by kernel_rfl) (by kernel_rfl) (fun _ _ _ h => h) (Or.inl ⟨by rfl, fun w' hSw => by ((try dsimp only at hSw); go_simp)⟩) hHeld ?_
    (try simp only [Act.put, List.setIfInBounds_toArray, List.set_cons_zero, List.set_cons_succ])
    refine wpAnyH_take (i := 7) (oi := _) (v := .string nm) rfl (by kernel_rfl) (by kernel_rfl) (by kernel_rfl) (fun _ _ _ h => h) (Or.inl ⟨by rfl, fun w' hSw => by ((try dsimp only at hSw); go_simp)⟩) hHeld ?_
    (try simp only [Act.put, List.setIfInBounds_toArray, List.set_cons_zero, List.set_cons_succ])
    refine wpAnyH_take (i := 8) (oi := _) (v := .pointer (some ⟨k, 0, none⟩)) rfl (by kernel_rfl) (by kernel_rfl) (by kernel_rfl) (fun _ _ _ h => h) (Or.inl ⟨by rfl, fun w' hSw => by ((try dsimp only at hSw); go_simp)⟩) hHeld ?_
    (try simp only [Act.put, List.setIfInBounds_toArray, List.set_cons_zero, List.set_cons_succ])
    refine wpAnyH_take (i := 9) (oi := _) (v := .pointer (some ⟨k, 0, none⟩)) rfl (by kernel_rfl) (by kernel_rfl) (by kernel_rfl) (fun _ _ _ h => h) (Or.inl ⟨by rfl, fun w' hSw => by ((try dsimp only at hSw); go_simp)⟩) hHeld ?_
    (try simp only [Act.put, List.setIfInBounds_toArray, List.set_cons_zero, List.set_cons_succ])
    refine wpAnyH_take (i := 10) (oi := _) (v := .pointer (some ⟨k, 0, none⟩)) rfl (by kernel_rfl) (by kernel_rfl) (by kernel_rfl) (fun _ _ _ h => h) (Or.inl ⟨by rfl, fun w' hSw => by ((try dsimp only at hSw); go_simp)⟩) hHeld ?_
    (try simp only [Act.put, List.setIfInBounds_toArray, List.set_cons_zero, List.set_cons_succ])
    refine wpAnyH_take (i := 11) (oi := _) (v := .slice A6 nf c6) rfl (by kernel_rfl) (by kernel_rfl) (by kernel_rfl) (fun _ _ _ h => h) (Or.inl ⟨by rfl, fun w' hSw => by ((try dsimp only at hSw); go_simp)⟩) hHeld ?_
    (try simp only [Act.put, List.setIfInBounds_toArray, List.set_cons_zero, List.set_cons_succ])
    refine wpAnyH_take (i := 12) (oi := _) (v := .int .i64 nf) rfl (by kernel_rfl) (by kernel_rfl) (by kernel_rfl) (fun _ _ _ h => h) (Or.inl ⟨by rfl, fun w' hSw => by ((try dsimp only at hSw); go_simp)⟩) hHeld ?_
    (try simp only [Act.put, List.setIfInBounds_toArray, List.set_cons_zero, List.set_cons_succ])
    refine wpAnyH_take (i := 13) (oi := _) (v := .int .i64 fm.length) rfl (by kernel_rfl) (by kernel_rfl) (by kernel_rfl) (fun _ _ _ h => h) (Or.inl ⟨by rfl, fun w' hSw => by ((try dsimp only at hSw); go_simp)⟩) hHeld ?_
    (try simp only [Act.put, List.setIfInBounds_toArray, List.set_cons_zero, List.set_cons_succ])
    refine wpAnyH_take (i := 14) (oi := _) (v := .agg #[.string nm, .int .i64 fm.length]) rfl (by kernel_rfl) (by kernel_rfl) (by kernel_rfl) (fun _ _ _ h => h) (Or.inl ⟨by rfl, fun w' hSw => by ((try dsimp only at hSw); go_simp)⟩) hHeld ?_
    (try simp only [Act.put, List.setIfInBounds_toArray, List.set_cons_zero, List.set_cons_succ])
    refine wpAnyH_ready (rs := [4, 15]) (by kernel_rfl) (by simp) ?_
    refine AllReadyH.cons (i := 4) (o := _) rfl (fun K hK => ?_) ?_
    · go_simp
      refine hK.out _ _ (by (first | (with_reducible exact ⟨a0, e1⟩) | (with_reducible exact ⟨p0, p1⟩) | (with_reducible exact ⟨r0, r1⟩) | (with_reducible exact ⟨s0, s1⟩) | go_keep)) (fun hHeld => ?_)
      clear hK K
      (try simp only [Act.put, List.setIfInBounds_toArray, List.set_cons_zero, List.set_cons_succ])
      refine wpAnyH_ready (rs := [5, 15]) (by kernel_rfl) (by simp) ?_
      refine AllReadyH.cons (i := 5) (o := _) rfl (fun K hK => ?_) ?_
      · go_simp
        (with_reducible refine HCA.out.mono ?_)
        rintro e w8 ⟨A8, c8, rfl, A9, c9, w9, hr9, q1, z9, p0, p1, r0, r1, s0, s1, H9⟩
        have HR9 := Lib.hid hr9
        clear hr9
        try go_simp
        refine hK.out _ _ (by (first | (with_reducible exact ⟨a0, e1⟩) | (with_reducible exact ⟨p0, p1⟩) | (with_reducible exact ⟨r0, r1⟩) | (with_reducible exact ⟨s0, s1⟩) | go_keep)) (fun hHeld => ?_)
        clear hK K
        (try simp only [Act.put, List.setIfInBounds_toArray, List.set_cons_zero, List.set_cons_succ])
        refine wpAnyH_ready (rs := [15]) (by kernel_rfl) (by simp) ?_
        refine AllReadyH.cons (i := 15) (o := _) rfl (fun K hK => ?_) ?_
        · go_simp
          refine hK.out _ _ (by (first | (with_reducible exact ⟨a0, e1⟩) | (with_reducible exact ⟨p0, p1⟩) | (with_reducible exact ⟨r0, r1⟩) | (with_reducible exact ⟨s0, s1⟩) | go_keep)) (fun hHeld => ?_)
          clear hK K
          (try simp only [Act.put, List.setIfInBounds_toArray, List.set_cons_zero, List.set_cons_succ])
          refine wpAnyH_ready (rs := [16]) (by kernel_rfl) (by simp) ?_
          refine AllReadyH.cons (i := 16) (o := _) rfl (fun K hK => ?_) ?_
          · refine step_append_run rfl _ _ _ _ rfl _ _ rfl rfl (HR9.out _) ?_
            refine hK.out _ _ (by (first | (with_reducible exact ⟨a0, e1⟩) | (with_reducible exact ⟨p0, p1⟩) | (with_reducible exact ⟨r0, r1⟩) | (with_reducible exact ⟨s0, s1⟩) | go_keep)) (fun hHeld => ?_)
            clear hK K
            (try simp only [Act.put, List.setIfInBounds_toArray, List.set_cons_zero, List.set_cons_succ])
            refine wpAnyH_take (i := 17) (oi := _) (v := .pointer (some ⟨k, 0, none⟩)) rfl (by kernel_rfl) (by kernel_rfl) (by kernel_rfl) (fun _ _ _ h => h) (Or.inl ⟨by rfl, fun w' hSw => by ((try dsimp only at hSw); go_simp)⟩) hHeld ?_
            (try simp only [Act.put, List.setIfInBounds_toArray, List.set_cons_zero, List.set_cons_succ])
            refine wpAnyH_take (i := 18) (oi := _) (v := .pointer (some ⟨k, 1, none⟩)) rfl (by kernel_rfl) (by kernel_rfl) (by kernel_rfl) (fun _ _ _ h => h) (Or.inl ⟨by rfl, fun w' hSw => by ((try dsimp only at hSw); go_simp)⟩) hHeld ?_
            (try simp only [Act.put, List.setIfInBounds_toArray, List.set_cons_zero, List.set_cons_succ])
            refine wpAnyH_ready (rs := [19]) (by kernel_rfl) (by simp) ?_
            refine AllReadyH.cons (i := 19) (o := _) rfl (fun K hK => ?_) ?_
            · go_simp
              refine hK.out _ _ (by (first | (with_reducible exact ⟨a0, e1⟩) | (with_reducible exact ⟨p0, p1⟩) | (with_reducible exact ⟨r0, r1⟩) | (with_reducible exact ⟨s0, s1⟩) | go_keep)) (fun hHeld => ?_)
              clear hK K
              (try simp only [Act.put, List.setIfInBounds_toArray, List.set_cons_zero, List.set_cons_succ])
              refine wpAnyH_done (by kernel_rfl) ?_ _
              go_wp2_with fail
              go_ret
              obtain ⟨hK9, hr9, hb9⟩ := H9.out
              have hlen : (without names []).length + 1 = (without names [] ++ [(nm.data.toList, fm.length)]).length := by simp
              have hr9' : w9.ownsRow 0 89 2 (.slice A9 (without names [] ++ [(nm.data.toList, fm.length)]).length c9) (without names [] ++ [(nm.data.toList, fm.length)]).length (ncells (without names [] ++ [(nm.data.toList, fm.length)])) := by
                rw [ncells_append, List.length_append]
                exact hr9
              refine ⟨rfl, _, A6, c6, A9, c9, SA, Sc, by rw [hlen]; exact hK9.names_ _ _ _ hr9', rfl, ?_, HFA6.out, ?_⟩
              · intro g hg a ha
                rcases List.mem_append.1 hg with hg | hg
                · exact .inl ⟨g, hg, ha⟩
                · obtain rfl : g = ⟨none, 0, [], 0⟩ := by simpa using hg
                  cases ha
              · exact (HN5.out.2.2.trans (Only.of_below hb9)).setCell (p := ⟨k, 1, none⟩) (.inl rfl) _
            exact AllReadyH.nil
          exact AllReadyH.nil
        exact AllReadyH.nil
      refine AllReadyH.cons (i := 15) (o := _) rfl (fun K hK => ?_) ?_
      · go_simp
        refine hK.out _ _ (by (first | (with_reducible exact ⟨a0, e1⟩) | (with_reducible exact ⟨p0, p1⟩) | (with_reducible exact ⟨r0, r1⟩) | (with_reducible exact ⟨s0, s1⟩) | go_keep)) (fun hHeld => ?_)
        clear hK K
        (try simp only [Act.put, List.setIfInBounds_toArray, List.set_cons_zero, List.set_cons_succ])
        refine wpAnyH_ready (rs := [5]) (by kernel_rfl) (by simp) ?_
        refine AllReadyH.cons (i := 5) (o := _) rfl (fun K hK => ?_) ?_
        · go_simp
          (with_reducible refine HCB.out.mono ?_)
          rintro e w8 ⟨A8, c8, rfl, A9, c9, w9, hr9, q1, z9, p0, p1, r0, r1, s0, s1, H9⟩
          have HR9 := Lib.hid hr9
          clear hr9
          try go_simp
          refine hK.out _ _ (by (first | (with_reducible exact ⟨a0, e1⟩) | (with_reducible exact ⟨p0, p1⟩) | (with_reducible exact ⟨r0, r1⟩) | (with_reducible exact ⟨s0, s1⟩) | go_keep)) (fun hHeld => ?_)
          clear hK K
          (try simp only [Act.put, List.setIfInBounds_toArray, List.set_cons_zero, List.set_cons_succ])
          refine wpAnyH_ready (rs := [16]) (by kernel_rfl) (by simp) ?_
          refine AllReadyH.cons (i := 16) (o := _) rfl (fun K hK => ?_) ?_
          · refine step_append_run rfl _ _ _ _ rfl _ _ rfl rfl (HR9.out _) ?_
            refine hK.out _ _ (by (first | (with_reducible exact ⟨a0, e1⟩) | (with_reducible exact ⟨p0, p1⟩) | (with_reducible exact ⟨r0, r1⟩) | (with_reducible exact ⟨s0, s1⟩) | go_keep)) (fun hHeld => ?_)
            clear hK K
            (try simp only [Act.put, List.setIfInBounds_toArray, List.set_cons_zero, List.set_cons_succ])
            refine wpAnyH_take (i := 17) (oi := _) (v := .pointer (some ⟨k, 0, none⟩)) rfl (by kernel_rfl) (by kernel_rfl) (by kernel_rfl) (fun _ _ _ h => h) (Or.inl ⟨by rfl, fun w' hSw => by ((try dsimp only at hSw); go_simp)⟩) hHeld ?_
            (try simp only [Act.put, List.setIfInBounds_toArray, List.set_cons_zero, List.set_cons_succ])
            refine wpAnyH_take (i := 18) (oi := _) (v := .pointer (some ⟨k, 1, none⟩)) rfl (by kernel_rfl) (by kernel_rfl) (by kernel_rfl) (fun _ _ _ h => h) (Or.inl ⟨by rfl, fun w' hSw => by ((try dsimp only at hSw); go_simp)⟩) hHeld ?_
            (try simp only [Act.put, List.setIfInBounds_toArray, List.set_cons_zero, List.set_cons_succ])
            refine wpAnyH_ready (rs := [19]) (by kernel_rfl) (by simp) ?_
            refine AllReadyH.cons (i := 19) (o := _) rfl (fun K hK => ?_) ?_
            · go_simp
              refine hK.out _ _ (by (first | (with_reducible exact ⟨a0, e1⟩) | (with_reducible exact ⟨p0, p1⟩) | (with_reducible exact ⟨r0, r1⟩) | (with_reducible exact ⟨s0, s1⟩) | go_keep)) (fun hHeld => ?_)
              clear hK K
              (try simp only [Act.put, List.setIfInBounds_toArray, List.set_cons_zero, List.set_cons_succ])
              refine wpAnyH_done (by kernel_rfl) ?_ _
              go_wp2_with fail
              go_ret
              obtain ⟨hK9, hr9, hb9⟩ := H9.out
              have hlen : (without names []).length + 1 = (without names [] ++ [(nm.data.toList, fm.length)]).length := by simp
              have hr9' : w9.ownsRow 0 89 2 (.slice A9 (without names [] ++ [(nm.data.toList, fm.length)]).length c9) (without names [] ++ [(nm.data.toList, fm.length)]).length (ncells (without names [] ++ [(nm.data.toList, fm.length)])) := by
                rw [ncells_append, List.length_append]
                exact hr9
              refine ⟨rfl, _, A6, c6, A9, c9, SA, Sc, by rw [hlen]; exact hK9.names_ _ _ _ hr9', rfl, ?_, HFA6.out, ?_⟩
              · intro g hg a ha
                rcases List.mem_append.1 hg with hg | hg
                · exact .inl ⟨g, hg, ha⟩
                · obtain rfl : g = ⟨none, 0, [], 0⟩ := by simpa using hg
                  cases ha
              · exact (HN5.out.2.2.trans (Only.of_below hb9)).setCell (p := ⟨k, 1, none⟩) (.inl rfl) _
            exact AllReadyH.nil
          exact AllReadyH.nil
        exact AllReadyH.nil
      exact AllReadyH.nil
    refine AllReadyH.cons (i := 15) (o := _) rfl (fun K hK => ?_) ?_
    · go_simp
      refine hK.out _ _ (by (first | (with_reducible exact ⟨a0, e1⟩) | (with_reducible exact ⟨p0, p1⟩) | (with_reducible exact ⟨r0, r1⟩) | (with_reducible exact ⟨s0, s1⟩) | go_keep)) (fun hHeld => ?_)
      clear hK K
      (try simp only [Act.put, List.setIfInBounds_toArray, List.set_cons_zero, List.set_cons_succ])
      refine wpAnyH_ready (rs := [4]) (by kernel_rfl) (by simp) ?_
      refine AllReadyH.cons (i := 4) (o := _) rfl (fun K hK => ?_) ?_
      · go_simp
        refine hK.out _ _ (by (first | (with_reducible exact ⟨a0, e1⟩) | (with_reducible exact ⟨p0, p1⟩) | (with_reducible exact ⟨r0, r1⟩) | (with_reducible exact ⟨s0, s1⟩) | go_keep)) (fun hHeld => ?_)
        clear hK K
        (try simp only [Act.put, List.setIfInBounds_toArray, List.set_cons_zero, List.set_cons_succ])
        refine wpAnyH_ready (rs := [5]) (by kernel_rfl) (by simp) ?_
        refine AllReadyH.cons (i := 5) (o := _) rfl (fun K hK => ?_) ?_
        · go_simp
          (with_reducible refine HCB.out.mono ?_)
          rintro e w8 ⟨A8, c8, rfl, A9, c9, w9, hr9, q1, z9, p0, p1, r0, r1, s0, s1, H9⟩
          have HR9 := Lib.hid hr9
          clear hr9
          try go_simp
          refine hK.out _ _ (by (first | (with_reducible exact ⟨a0, e1⟩) | (with_reducible exact ⟨p0, p1⟩) | (with_reducible exact ⟨r0, r1⟩) | (with_reducible exact ⟨s0, s1⟩) | go_keep)) (fun hHeld => ?_)
          clear hK K
          (try simp only [Act.put, List.setIfInBounds_toArray, List.set_cons_zero, List.set_cons_succ])
          refine wpAnyH_ready (rs := [16]) (by kernel_rfl) (by simp) ?_
          refine AllReadyH.cons (i := 16) (o := _) rfl (fun K hK => ?_) ?_
          · refine step_append_run rfl _ _ _ _ rfl _ _ rfl rfl (HR9.out _) ?_
            refine hK.out _ _ (by (first | (with_reducible exact ⟨a0, e1⟩) | (with_reducible exact ⟨p0, p1⟩) | (with_reducible exact ⟨r0, r1⟩) | (with_reducible exact ⟨s0, s1⟩) | go_keep)) (fun hHeld => ?_)
            clear hK K
            (try simp only [Act.put, List.setIfInBounds_toArray, List.set_cons_zero, List.set_cons_succ])
            refine wpAnyH_take (i := 17) (oi := _) (v := .pointer (some ⟨k, 0, none⟩)) rfl (by kernel_rfl) (by kernel_rfl) (by kernel_rfl) (fun _ _ _ h => h) (Or.inl ⟨by rfl, fun w' hSw => by ((try dsimp only at hSw); go_simp)⟩) hHeld ?_
            (try simp only [Act.put, List.setIfInBounds_toArray, List.set_cons_zero, List.set_cons_succ])
            refine wpAnyH_take (i := 18) (oi := _) (v := .pointer (some ⟨k, 1, none⟩)) rfl (by kernel_rfl) (by kernel_rfl) (by kernel_rfl) (fun _ _ _ h => h) (Or.inl ⟨by rfl, fun w' hSw => by ((try dsimp only at hSw); go_simp)⟩) hHeld ?_
            (try simp only [Act.put, List.setIfInBounds_toArray, List.set_cons_zero, List.set_cons_succ])
            refine wpAnyH_ready (rs := [19]) (by kernel_rfl) (by simp) ?_
            refine AllReadyH.cons (i := 19) (o := _) rfl (fun K hK => ?_) ?_
            · go_simp
              refine hK.out _ _ (by (first | (with_reducible exact ⟨a0, e1⟩) | (with_reducible exact ⟨p0, p1⟩) | (with_reducible exact ⟨r0, r1⟩) | (with_reducible exact ⟨s0, s1⟩) | go_keep)) (fun hHeld => ?_)
              clear hK K
              (try simp only [Act.put, List.setIfInBounds_toArray, List.set_cons_zero, List.set_cons_succ])
              refine wpAnyH_done (by kernel_rfl) ?_ _
              go_wp2_with fail
              go_ret
              obtain ⟨hK9, hr9, hb9⟩ := H9.out
              have hlen : (without names []).length + 1 = (without names [] ++ [(nm.data.toList, fm.length)]).length := by simp
              have hr9' : w9.ownsRow 0 89 2 (.slice A9 (without names [] ++ [(nm.data.toList, fm.length)]).length c9) (without names [] ++ [(nm.data.toList, fm.length)]).length (ncells (without names [] ++ [(nm.data.toList, fm.length)])) := by
                rw [ncells_append, List.length_append]
                exact hr9
              refine ⟨rfl, _, A6, c6, A9, c9, SA, Sc, by rw [hlen]; exact hK9.names_ _ _ _ hr9', rfl, ?_, HFA6.out, ?_⟩
              · intro g hg a ha
                rcases List.mem_append.1 hg with hg | hg
                · exact .inl ⟨g, hg, ha⟩
                · obtain rfl : g = ⟨none, 0, [], 0⟩ := by simpa using hg
                  cases ha
              · exact (HN5.out.2.2.trans (Only.of_below hb9)).setCell (p := ⟨k, 1, none⟩) (.inl rfl) _
            exact AllReadyH.nil
          exact AllReadyH.nil
        exact AllReadyH.nil
      exact AllReadyH.nil
    exact AllReadyH.nil
end Go.Proofs.YtbfmdpgghknccaaDoor
