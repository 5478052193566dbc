/- bookref3.Do: Append. -/
import Derived.Test.YtbfmdpgghknccaaDoorKDoMem
namespace Go.Proofs.YtbfmdpgghknccaaDoor
open Go.RowKit Go.Maps
set_option linter.unusedVariables false
set_option linter.unusedSimpArgs false

set_option maxRecDepth 100000 in
set_option maxHeartbeats 4000000 in
theorem kdo_2 (k : Nat) (fm : List FM) (names safe : Nms) (steps stop : Int) (FA : Option Addr) (Fc : Nat) (NA : Option Addr) (Nc : Nat) (SA : Option Addr) (Sc : Nat) (nm tn : ByteArray) (B : Option Addr) (bl bc : Nat) (n : Int) (at_ : Option Nat) (w : World) (h : KAt w k fm names safe steps stop FA Fc NA Nc SA Sc) (hl : names.length ≤ 1000000) (hs : nm.size ≤ maxLen) (ht : tn.size ≤ maxLen) (hat : kFile names nm.data.toList = at_) (hgo : Goes steps stop) (hs0 : 0 ≤ steps) (hs9 : steps ≤ 1000000000000) (hg : rnamedB nm = true) (i : Nat) (hi : at_ = some i) (f : FM) (hf : Hid (fm[i]? = some f)) (hfl : fm.length ≤ 1000000) (ys : List Int) (hB : SlAt w B (u8s ys)) (hbl : bl = ys.length) (hsz : f.b.length + ys.length ≤ 60000) (hBk : ys ≠ [] → ∀ a, B = some a → a.block ≠ k) :
    Calls Tryd.prog 34 #[.pointer (some ⟨k, 0, none⟩), wV 2 nm tn B bl bc n] w (KDoQ w k fm FA (fun l => ∃ A' c', l = fm.set i { A := A', c := c', b := f.b ++ ys, s := f.s }) names safe (steps + 1) stop) := by
  have HL := Lib.hid hl
  unfold wV
  have HN := Lib.hid (fun w1 => rnamed_any nm w1 (Nat.le_trans hs (by decide)))
  have HT := Lib.hid (fun w1 => rnamed_any tn w1 (Nat.le_trans ht (by decide)))
  have HF := Lib.hid (fun w1 h => kfile_any k fm names safe steps stop FA Fc NA Nc SA Sc nm w1 h hl)
  have HH := Lib.hid h
  rw [hat] at HF
  have hkl := h.blk.lt
  have c3 : w.cell? ⟨k, 3, none⟩ = some (.int .i64 steps) := h.blk.cell 3
  have c4 : w.cell? ⟨k, 4, none⟩ = some (.int .i64 stop) := h.blk.cell 4
  clear h hs ht hat hl
  rw [hg] at HN
  clear hg
  subst hi
  unfold atV at HF
  subst hbl
  have hBX := Lib.hid (And.intro hB hBk)
  have hbi : (ys.length : Int) ≤ 60000 := by omega
  have hfi : (f.b.length : Int) ≤ 60000 := by omega
  clear hB hBk
  rcases goes_cases hgo with d0 | ⟨d0, d1⟩
  all_goals
    clear hgo
    go_enter Tryd.func34, Tryd.ntmps34
    go_wp2_with fail
    go_quiet ((fail))
    go_wp2_with fail
    clear c3 c4
    refine (HN.out _).mono ?_
    rintro e w1 ⟨rfl, hb1⟩
    have H1 := Lib.hid (show Below w.heap.size w w1 ∧ KAt w1 k fm names safe steps stop FA Fc NA Nc SA Sc ∧ Blk w1 w.heap.size 53 #[.int .i64 2, .string nm, .string tn, .slice B ys.length bc, .int .i64 n] from by
      have ht : Below w.heap.size w w1 := (belowN ((Below.refl _ w).alloc (Nat.le_refl _) _) _).trans (hb1.mono (by simp))
      exact ⟨ht, HH.out.below ht, ((Blk.new w _ _).drewN _).below hb1 (by simp)⟩)
    clear hb1
    have b0 : w1.cell? ⟨w.heap.size, 0, none⟩ = some (.int .i64 2) := H1.out.2.2.cell 0
    have b1 : w1.cell? ⟨w.heap.size, 1, none⟩ = some (.string nm) := H1.out.2.2.cell 1
    have b2 : w1.cell? ⟨w.heap.size, 2, none⟩ = some (.string tn) := H1.out.2.2.cell 2
    have b3 : w1.cell? ⟨w.heap.size, 3, none⟩ = some (.slice B ys.length bc) := H1.out.2.2.cell 3
    have b4 : w1.cell? ⟨w.heap.size, 4, none⟩ = some (.int .i64 n) := H1.out.2.2.cell 4
    go_wp2_with fail
    clear b0 b1 b2 b3 b4
    refine (HF.out _ H1.out.2.1).mono ?_
    rintro e w2 ⟨rfl, hb2⟩
    have H2 := Lib.hid (And.intro (H1.out.1.trans (hb2.mono H1.out.1.size)) (And.intro (H1.out.2.1.below hb2) (H1.out.2.2.below hb2 H1.out.2.2.lt)))
    clear hb2
    have b0 : w2.cell? ⟨w.heap.size, 0, none⟩ = some (.int .i64 2) := H2.out.2.2.cell 0
    have b1 : w2.cell? ⟨w.heap.size, 1, none⟩ = some (.string nm) := H2.out.2.2.cell 1
    have b2 : w2.cell? ⟨w.heap.size, 2, none⟩ = some (.string tn) := H2.out.2.2.cell 2
    have b3 : w2.cell? ⟨w.heap.size, 3, none⟩ = some (.slice B ys.length bc) := H2.out.2.2.cell 3
    have b4 : w2.cell? ⟨w.heap.size, 4, none⟩ = some (.int .i64 n) := H2.out.2.2.cell 4
    obtain ⟨b, hFA, f0, f1, hil, cur, hcur⟩ := FM.at_ H2.out.2.1 hf.out
    subst hFA
    have hii : (i : Int) < (fm.length : Int) := by omega
    have hsub : IntKind.i64.wrap ((60000 : Int) - (f.b.length : Int)) = 60000 - (f.b.length : Int) := by rw [IntKind.wrap_i64]; omega
    have hdf : decide ((60000 : Int) - (f.b.length : Int) < (ys.length : Int)) = false := by simp; omega
    have hKw2 := H2.out.2.1
    have c1 : w2.cell? ⟨k, 1, none⟩ = some (.slice NA names.length Nc) := hKw2.blk.cell 1
    have c0 : w2.cell? ⟨k, 0, none⟩ = some (.slice (some ⟨b, 0, none⟩) fm.length Fc) := hKw2.blk.cell 0
    have c3 : w2.cell? ⟨k, 3, none⟩ = some (.int .i64 steps) := hKw2.blk.cell 3
    have z := hKw2.blk.frozen
    have hkb : ¬ k = w.heap.size := by have := hkl; omega
    go_wp2_with fail
    go_quiet ((fail))
    rename Nat => nq2
    have hst : KAt ((w2.drewN nq2).setCell ⟨k, 3, none⟩ (.int .i64 (steps + 1))) k fm names safe (steps + 1) stop (some ⟨b, 0, none⟩) Fc NA Nc SA Sc ∧ Blk ((w2.drewN nq2).setCell ⟨k, 3, none⟩ (.int .i64 (steps + 1))) w.heap.size 53 #[.int .i64 2, .string nm, .string tn, .slice B ys.length bc, .int .i64 n] ∧ Only (fun q => q = k) w ((w2.drewN nq2).setCell ⟨k, 3, none⟩ (.int .i64 (steps + 1))) := by
      have ho : Only (fun q => q = k) w2 ((w2.drewN nq2).setCell ⟨k, 3, none⟩ (.int .i64 (steps + 1))) := ((Only.refl (fun q => q = k) w2).drewN nq2).setCell (p := ⟨k, 3, none⟩) rfl _
      exact ⟨(hKw2.drewN nq2).steps_ _, H2.out.2.2.only ho (fun e => hkb e.symm), (Only.of_below H2.out.1).trans ho⟩

    obtain ⟨A5, c5, w5, hrun5, hrow5, hg5, hA5⟩ := run_append_sl (P := Tryd.prog) ((w2.drewN nq2).setCell ⟨k, 3, none⟩ (.int .i64 (steps + 1))) 40 40 5 Tryd.underlying40 infoU8 rfl (by decide) none 0 0 [] (World.ownsRow_nil _ _ _ _) f.A f.b.length f.c (u8s f.b) (by rw [u8s_len, Nat.mul_one]) (SlAt.of_owns (hst.1.fb f (List.mem_of_getElem? hf.out))) (u8s_one _) (by unfold maxLen; omega) (by omega)
    rw [Nat.zero_add] at hrun5 hrow5
    rw [List.nil_append] at hrow5
    have hrun5' : ∀ ty, (Builtin.append_ #[40, 40] ty #[.slice none 0 0, .slice f.A f.b.length f.c]).run Tryd.prog ((w2.drewN nq2).setCell ⟨k, 3, none⟩ (.int .i64 (steps + 1))) = .ok (.slice A5 f.b.length c5) w5 := fun _ => hrun5
    have hb5 : Below ((w2.drewN nq2).setCell ⟨k, 3, none⟩ (.int .i64 (steps + 1))).heap.size ((w2.drewN nq2).setCell ⟨k, 3, none⟩ (.int .i64 (steps + 1))) w5 := ⟨hg5.os, hg5.tape, hg5.output, hg5.size, fun q hq => hg5.block q hq (by simp [Value.ownBlock])⟩
    have HR5 := Lib.hid hrun5'
    have hnew5 : ∀ a, A5 = some a → w.heap.size ≤ a.block := by
      intro a ha
      rcases hA5 with ⟨h1, _⟩ | h1
      · rw [h1] at ha; cases ha
      · rw [h1] at ha
        injection ha with ha
        subst ha
        exact Nat.le_trans H2.out.1.size (hst.2.2.size |> fun h => by have h2 : ((w2.drewN nq2).setCell ⟨k, 3, none⟩ (.int .i64 (steps + 1))).heap.size = w2.heap.size := by simp
                                                                      show w2.heap.size ≤ ((w2.drewN nq2).setCell ⟨k, 3, none⟩ (.int .i64 (steps + 1))).heap.size
                                                                      omega)
    have HS5 := Lib.hid (And.intro (hst.1.below hb5) (And.intro (hst.2.1.below hb5 hst.2.1.lt) (And.intro (hst.2.2.trans (Only.of_below hb5)) (And.intro hrow5 (And.intro hnew5 hA5)))))
    have g0 : ((w2.drewN nq2).setCell ⟨k, 3, none⟩ (.int .i64 (steps + 1))).cell? ⟨k, 0, none⟩ = some (.slice (some ⟨b, 0, none⟩) fm.length Fc) := hst.1.blk.cell 0
    have g1 : ((w2.drewN nq2).setCell ⟨k, 3, none⟩ (.int .i64 (steps + 1))).cell? ⟨b, i * 2, none⟩ = some (.slice f.A f.b.length f.c) := by
      obtain ⟨b', hb', q0, _⟩ := FM.at_ hst.1 hf.out
      injection hb' with hb'
      injection hb' with hb' _ _
      subst hb'
      exact q0
    clear hst hrun5 hrun5' hrow5 hg5 hA5 hb5 hnew5 hKw2
    go_wp2_with (first | (at_builtin; refine Lib.wpList_append_run _ rfl _ _ _ _ rfl _ _ rfl rfl _ _ (HR5.out _) ?_) | fail)
    clear b0 b1 b2 b3 b4
    clear c3 z c1 c0 f0 f1 g0 g1 hcur
    obtain ⟨hKn, hBn, hOn, hrow5, hnew5, hA5⟩ := HS5.out
    have hSB : SlAt w5 B (u8s ys) := by
      by_cases hy : ys = []
      · subst hy; exact .inl rfl
      · exact hBX.out.1.only hOn (fun b off sp hb e => hBX.out.2 hy _ hb e)
    obtain ⟨A6, c6, w6, hrun6, hrow6, hg6, hA6⟩ := run_append_sl (P := Tryd.prog) w5.drew 40 40 5 Tryd.underlying40 infoU8 rfl (by decide) A5 f.b.length c5 (u8s f.b) hrow5.drew B ys.length bc (u8s ys) (by rw [u8s_len, Nat.mul_one]) hSB.drew (u8s_one _) (by unfold maxLen; omega) (by omega)
    have hrun6' : ∀ ty, (Builtin.append_ #[40, 40] ty #[.slice A5 f.b.length c5, .slice B ys.length bc]).run Tryd.prog w5.drew = .ok (.slice A6 (f.b.length + ys.length) c6) w6 := fun _ => hrun6
    have hnew6 : ∀ a, A6 = some a → w.heap.size ≤ a.block := by
      intro a ha
      rcases hA6 with ⟨h1, _⟩ | h1
      · exact hnew5 a (by rw [← h1]; exact ha)
      · rw [h1] at ha
        injection ha with ha
        subst ha
        have := hOn.size
        exact this
    have ho6 : Only (fun q => ∃ a, A5 = some a ∧ q = a.block) w5 w6 := ⟨hg6.os, hg6.tape, hg6.output, hg6.size, fun q hq hn => hg6.block q hq (by
      intro e
      cases hA : A5 with
      | none => rw [hA] at e; cases e
      | some a => rw [hA] at e; exact hn ⟨a, hA, Option.some.inj e⟩)⟩
    have hK6 : KAt w6 k fm names safe (steps + 1) stop (some ⟨b, 0, none⟩) Fc NA Nc SA Sc := by
      have hout : ∀ {e : TypeId} {base size n c : Nat} {A : Option Addr} {xs : List Value}, w5.ownsRow base e size (.slice A n c) n xs → e ≠ 5 → ∀ a, A = some a → ¬ ∃ a', A5 = some a' ∧ a.block = a'.block := fun hr he a ha ⟨a', ha', e⟩ => row_ne hr hrow5 he a a' ha ha' e
      refine ⟨hKn.blk.only ho6 ?_, row_only hKn.fl ho6 (hout hKn.fl (by decide)), fun g hg => row_only (hKn.fb g hg) ho6 ?_, row_only hKn.nm ho6 (hout hKn.nm (by decide)), row_only hKn.sf ho6 (hout hKn.sf (by decide))⟩
      · rintro ⟨a, ha, e⟩
        exact row_ne_blk hrow5 hKn.blk (by decide) a ha e.symm
      · rintro a ha ⟨a', ha', e⟩
        rcases HS5.out.2.2.2.2.2 with ⟨h1, _⟩ | h1
        · rw [h1] at ha'; cases ha'
        · rw [h1] at ha'
          injection ha' with ha'
          obtain ⟨_, cur, hh⟩ := row_type (H2.out.2.1.fb g hg) a ha
          have := hh.lt
          have h2 : a'.block = w2.heap.size := by rw [← ha']; simp
          omega
    have g6 := hK6.blk.cell 0
    have a0 : w6.cell? ⟨k, 0, none⟩ = some (.slice (some ⟨b, 0, none⟩) fm.length Fc) := g6
    have g5 : w5.cell? ⟨k, 0, none⟩ = some (.slice (some ⟨b, 0, none⟩) fm.length Fc) := hKn.blk.cell 0
    have e3 : w5.cell? ⟨w.heap.size, 3, none⟩ = some (.slice B ys.length bc) := hBn.cell 3
    obtain ⟨b', hb', q0, _, _, cur6, hcur6⟩ := FM.at_ hK6 hf.out
    injection hb' with hb'
    injection hb' with hb' _ _
    subst hb'
    have z6 := hcur6.frozen
    have hr6 : w6.ownsRow 0 5 1 (.slice A6 (f.b ++ ys).length c6) (f.b ++ ys).length (u8s (f.b ++ ys)) := by
      rw [u8s_append, List.length_append]
      exact hrow6
    have HR6 := Lib.hid hrun6'
    have H6 := Lib.hid (And.intro hK6 (And.intro hr6 (And.intro hnew6 (And.intro ho6 (And.intro hOn hnew5)))))
    clear hKn hBn hOn hrow5 hnew5 hA5 hSB hrun6 hrun6' hrow6 hg6 hA6 hnew6 ho6 hK6 g6 hcur6 hr6
    go_region_law (refine step_append_run (o := ⟨some 265, _, _, _, _, _⟩) rfl _ _ _ _ rfl _ _ rfl rfl (HR6.out _) ?_)
    all_goals go_wp2_with fail
    all_goals
      go_ret
      obtain ⟨hK6, hr6, hnew6, ho6, hOn, hnew5⟩ := H6.out
      have hc := fcells_set0 fm i f A6 c6 (f.b ++ ys) hf.out
      rw [List.length_append] at hc
      have hK9 := hK6.setF i { A := A6, c := c6, b := f.b ++ ys, s := f.s } hil (i * 2) (.slice A6 (f.b.length + ys.length) c6) hc hr6
      refine ⟨rfl, _, _, Fc, NA, Nc, SA, Sc, hK9.1, ⟨A6, c6, rfl⟩, ?_, .inl rfl, ?_⟩
      · intro g hg a ha
        rcases List.mem_or_eq_of_mem_set hg with hg | hg
        · exact .inl ⟨g, hg, ha⟩
        · subst hg
          exact .inr (hnew6 a ha)
      · exact ((hOn.mono (fun q _ e => Or.inl e)).step ho6 (fun q hq h => by
          obtain ⟨a, ha, e⟩ := h
          have := hnew5 a ha
          omega)).step hK9.2 (fun q hq e => .inr ⟨_, rfl, e⟩)
end Go.Proofs.YtbfmdpgghknccaaDoor
