/- bookref3.Do: Sync. -/
import Derived.Test.YtbfmdpgghknccaaDoorKDoMem
namespace Go.Proofs.YtbfmdpgghknccaaDoor
open Go.RowKit Go.Maps
set_option linter.unusedVariables false
set_option linter.unusedSimpArgs false

set_option maxRecDepth 100000 in
set_option maxHeartbeats 4000000 in
theorem kdo_3 (k : Nat) (fm : List FM) (names safe : Nms) (steps stop : Int) (FA : Option Addr) (Fc : Nat) (NA : Option Addr) (Nc : Nat) (SA : Option Addr) (Sc : Nat) (nm tn : ByteArray) (B : Option Addr) (bl bc : Nat) (n : Int) (at_ : Option Nat) (w : World) (h : KAt w k fm names safe steps stop FA Fc NA Nc SA Sc) (hl : names.length ≤ 1000000) (hs : nm.size ≤ maxLen) (ht : tn.size ≤ maxLen) (hat : kFile names nm.data.toList = at_) (hgo : Goes steps stop) (hs0 : 0 ≤ steps) (hs9 : steps ≤ 1000000000000) (hg : rnamedB nm = true) (i : Nat) (hi : at_ = some i) (f : FM) (hf : Hid (fm[i]? = some f)) (hfl : fm.length ≤ 1000000) :
    Calls Tryd.prog 34 #[.pointer (some ⟨k, 0, none⟩), wV 3 nm tn B bl bc n] w (KDoQ w k fm FA (fun l => l = fm.set i { f with s := f.b.length }) names safe (steps + 1) stop) := by
  have HL := Lib.hid hl
  unfold wV
  have HN := Lib.hid (fun w1 => rnamed_any nm w1 (Nat.le_trans hs (by decide)))
  have HT := Lib.hid (fun w1 => rnamed_any tn w1 (Nat.le_trans ht (by decide)))
  have HF := Lib.hid (fun w1 h => kfile_any k fm names safe steps stop FA Fc NA Nc SA Sc nm w1 h hl)
  have HH := Lib.hid h
  rw [hat] at HF
  have hkl := h.blk.lt
  have c3 : w.cell? ⟨k, 3, none⟩ = some (.int .i64 steps) := h.blk.cell 3
  have c4 : w.cell? ⟨k, 4, none⟩ = some (.int .i64 stop) := h.blk.cell 4
  clear h hs ht hat hl
  rw [hg] at HN
  clear hg
  subst hi
  unfold atV at HF
  rcases goes_cases hgo with d0 | ⟨d0, d1⟩
  all_goals
    clear hgo
    go_enter Tryd.func34, Tryd.ntmps34
    go_wp2_with fail
    go_quiet ((fail))
    go_wp2_with fail
    clear c3 c4
    refine (HN.out _).mono ?_
    rintro e w1 ⟨rfl, hb1⟩
    have H1 := Lib.hid (show Below w.heap.size w w1 ∧ KAt w1 k fm names safe steps stop FA Fc NA Nc SA Sc ∧ Blk w1 w.heap.size 53 #[.int .i64 3, .string nm, .string tn, .slice B bl bc, .int .i64 n] from by
      have ht : Below w.heap.size w w1 := (belowN ((Below.refl _ w).alloc (Nat.le_refl _) _) _).trans (hb1.mono (by simp))
      exact ⟨ht, HH.out.below ht, ((Blk.new w _ _).drewN _).below hb1 (by simp)⟩)
    clear hb1
    have b0 : w1.cell? ⟨w.heap.size, 0, none⟩ = some (.int .i64 3) := H1.out.2.2.cell 0
    have b1 : w1.cell? ⟨w.heap.size, 1, none⟩ = some (.string nm) := H1.out.2.2.cell 1
    have b2 : w1.cell? ⟨w.heap.size, 2, none⟩ = some (.string tn) := H1.out.2.2.cell 2
    have b3 : w1.cell? ⟨w.heap.size, 3, none⟩ = some (.slice B bl bc) := H1.out.2.2.cell 3
    have b4 : w1.cell? ⟨w.heap.size, 4, none⟩ = some (.int .i64 n) := H1.out.2.2.cell 4
    go_wp2_with fail
    clear b0 b1 b2 b3 b4
    refine (HF.out _ H1.out.2.1).mono ?_
    rintro e w2 ⟨rfl, hb2⟩
    have H2 := Lib.hid (And.intro (H1.out.1.trans (hb2.mono H1.out.1.size)) (And.intro (H1.out.2.1.below hb2) (H1.out.2.2.below hb2 H1.out.2.2.lt)))
    clear hb2
    have b0 : w2.cell? ⟨w.heap.size, 0, none⟩ = some (.int .i64 3) := H2.out.2.2.cell 0
    have b1 : w2.cell? ⟨w.heap.size, 1, none⟩ = some (.string nm) := H2.out.2.2.cell 1
    have b2 : w2.cell? ⟨w.heap.size, 2, none⟩ = some (.string tn) := H2.out.2.2.cell 2
    have b3 : w2.cell? ⟨w.heap.size, 3, none⟩ = some (.slice B bl bc) := H2.out.2.2.cell 3
    have b4 : w2.cell? ⟨w.heap.size, 4, none⟩ = some (.int .i64 n) := H2.out.2.2.cell 4
    have hKw2 := H2.out.2.1
    have c1 : w2.cell? ⟨k, 1, none⟩ = some (.slice NA names.length Nc) := hKw2.blk.cell 1
    have c0 : w2.cell? ⟨k, 0, none⟩ = some (.slice FA fm.length Fc) := hKw2.blk.cell 0
    have c3 : w2.cell? ⟨k, 3, none⟩ = some (.int .i64 steps) := hKw2.blk.cell 3
    have z := hKw2.blk.frozen
    have hkb : ¬ k = w.heap.size := by have := hkl; omega
    go_wp2_with fail
    go_quiet ((fail))
    rename Nat => nq2
    go_wp2_with fail
    clear b0 b1 b2 b3 b4
    clear c3 z c1 c0
    have hst : KAt ((w2.drewN nq2).setCell ⟨k, 3, none⟩ (.int .i64 (steps + 1))) k fm names safe (steps + 1) stop FA Fc NA Nc SA Sc ∧ Blk ((w2.drewN nq2).setCell ⟨k, 3, none⟩ (.int .i64 (steps + 1))) w.heap.size 53 #[.int .i64 3, .string nm, .string tn, .slice B bl bc, .int .i64 n] ∧ Only (fun q => q = k) w ((w2.drewN nq2).setCell ⟨k, 3, none⟩ (.int .i64 (steps + 1))) := by
      have ho : Only (fun q => q = k) w2 ((w2.drewN nq2).setCell ⟨k, 3, none⟩ (.int .i64 (steps + 1))) := ((Only.refl (fun q => q = k) w2).drewN nq2).setCell (p := ⟨k, 3, none⟩) rfl _
      exact ⟨(hKw2.drewN nq2).steps_ _, H2.out.2.2.only ho (fun e => hkb e.symm), (Only.of_below H2.out.1).trans ho⟩
    clear hKw2
    refine wp_at (fun W => KAt W k fm names safe (steps + 1) stop FA Fc NA Nc SA Sc ∧ Blk W w.heap.size 53 #[.int .i64 3, .string nm, .string tn, .slice B bl bc, .int .i64 n] ∧ Only (fun q => q = k) w W) hst ?_
    clear hst
    rintro w5 ⟨hKn, hBn, hOn⟩
    have a0 : w5.cell? ⟨k, 0, none⟩ = some (.slice FA fm.length Fc) := hKn.blk.cell 0
    have a1 : w5.cell? ⟨k, 1, none⟩ = some (.slice NA names.length Nc) := hKn.blk.cell 1
    have a2 : w5.cell? ⟨k, 2, none⟩ = some (.slice SA safe.length Sc) := hKn.blk.cell 2
    have z5 := hKn.blk.frozen
    have e1 : w5.cell? ⟨w.heap.size, 1, none⟩ = some (.string nm) := hBn.cell 1
    have e2 : w5.cell? ⟨w.heap.size, 2, none⟩ = some (.string tn) := hBn.cell 2
    have e3 : w5.cell? ⟨w.heap.size, 3, none⟩ = some (.slice B bl bc) := hBn.cell 3
    obtain ⟨b, hFA, f0, f1, hil, cur, hcur⟩ := FM.at_ hKn hf.out
    subst hFA
    have hii : (i : Int) < (fm.length : Int) := by omega
    have zb := hcur.frozen
    have HCU := Lib.hid (And.intro hcur hil)
    clear hcur
    have HN5 := Lib.hid (And.intro hKn (And.intro hBn hOn))
    clear hKn hBn hOn
    go_region
    all_goals go_wp2_with fail
    all_goals
      go_ret
      have hK9 := HN5.out.1.setF i { f with s := f.b.length } hil (i * 2 + 1) (.int .i64 f.b.length) (fcells_set1 fm i f f.b.length hf.out) (HN5.out.1.fb f (List.mem_of_getElem? hf.out))
      refine ⟨rfl, fm.set i { f with s := f.b.length }, some ⟨b, 0, none⟩, Fc, NA, Nc, SA, Sc, hK9.1.drewN 1, rfl, ?_, .inl rfl, ?_⟩
      · intro g hg a ha
        rcases List.mem_or_eq_of_mem_set hg with hg | hg
        · exact .inl ⟨g, hg, ha⟩
        · subst hg
          exact .inl ⟨f, List.mem_of_getElem? hf.out, ha⟩
      · exact (((HN5.out.2.2.mono (fun q _ e => Or.inl e)).trans (hK9.2.mono (fun q _ e => Or.inr ⟨_, rfl, e⟩))).drewN 1)
end Go.Proofs.YtbfmdpgghknccaaDoor
