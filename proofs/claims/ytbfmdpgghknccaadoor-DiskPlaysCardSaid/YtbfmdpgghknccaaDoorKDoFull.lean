/- bookref3.Do: Append that finds no room. -/
import Derived.Test.YtbfmdpgghknccaaDoorKDo
namespace Go.Proofs.YtbfmdpgghknccaaDoor
open Go.RowKit Go.Maps
set_option linter.unusedVariables false
set_option linter.unusedSimpArgs false

set_option maxRecDepth 100000 in
set_option maxHeartbeats 2000000 in
theorem kdo_2_full (k : Nat) (fm : List FM) (names safe : Nms) (steps stop : Int) (FA : Option Addr) (Fc : Nat) (NA : Option Addr) (Nc : Nat) (SA : Option Addr) (Sc : Nat) (nm tn : ByteArray) (B : Option Addr) (bl bc : Nat) (n : Int) (at_ : Option Nat) (w : World) (h : KAt w k fm names safe steps stop FA Fc NA Nc SA Sc) (hl : names.length ≤ 1000000) (hs : nm.size ≤ maxLen) (ht : tn.size ≤ maxLen) (hat : kFile names nm.data.toList = at_) (hgo : Goes steps stop) (hg : rnamedB nm = true) (i : Nat) (hi : at_ = some i) (f : FM) (hf : Hid (fm[i]? = some f)) (hfl : fm.length ≤ 1000000) (hbl : bl ≤ maxLen) (hfb : f.b.length ≤ 60000) (hfull : 60000 < f.b.length + bl) :
    Calls Tryd.prog 34 #[.pointer (some ⟨k, 0, none⟩), wV 2 nm tn B bl bc n] w fun e w' => e = .returned (.int .i64 4) ∧ Below w.heap.size w w' := by
  unfold wV
  have HN := Lib.hid (fun w1 => rnamed_any nm w1 (Nat.le_trans hs (by decide)))
  have HT := Lib.hid (fun w1 => rnamed_any tn w1 (Nat.le_trans ht (by decide)))
  have HF := Lib.hid (fun w1 h => kfile_any k fm names safe steps stop FA Fc NA Nc SA Sc nm w1 h hl)
  have HH := Lib.hid h
  rw [hat] at HF
  have hkl := h.blk.lt
  have c3 : w.cell? ⟨k, 3, none⟩ = some (.int .i64 steps) := h.blk.cell 3
  have c4 : w.cell? ⟨k, 4, none⟩ = some (.int .i64 stop) := h.blk.cell 4
  clear h hs ht hat hl
  rw [hg] at HN
  clear hg
  subst hi
  unfold atV at HF
  have hbi : (bl : Int) ≤ 9223372036854775807 := by simp only [maxLen] at hbl; omega
  have hfi : (f.b.length : Int) ≤ 60000 := by omega
  have hsub : IntKind.i64.wrap ((60000 : Int) - (f.b.length : Int)) = 60000 - (f.b.length : Int) := by rw [IntKind.wrap_i64]; omega
  have hdf : decide ((60000 : Int) - (f.b.length : Int) < (bl : Int)) = true := by simp; omega
  rcases goes_cases hgo with d0 | ⟨d0, d1⟩
  all_goals
    clear hgo
    go_enter Tryd.func34, Tryd.ntmps34
    go_wp2_with fail
    go_quiet ((fail))
    go_wp2_with fail
    clear c3 c4
    refine (HN.out _).mono ?_
    rintro e w1 ⟨rfl, hb1⟩
    have H1 := Lib.hid (show Below w.heap.size w w1 ∧ KAt w1 k fm names safe steps stop FA Fc NA Nc SA Sc ∧ Blk w1 w.heap.size 53 #[.int .i64 2, .string nm, .string tn, .slice B bl bc, .int .i64 n] from by
      have ht : Below w.heap.size w w1 := (belowN ((Below.refl _ w).alloc (Nat.le_refl _) _) _).trans (hb1.mono (by simp))
      exact ⟨ht, HH.out.below ht, ((Blk.new w _ _).drewN _).below hb1 (by simp)⟩)
    clear hb1
    have b0 : w1.cell? ⟨w.heap.size, 0, none⟩ = some (.int .i64 2) := H1.out.2.2.cell 0
    have b1 : w1.cell? ⟨w.heap.size, 1, none⟩ = some (.string nm) := H1.out.2.2.cell 1
    have b2 : w1.cell? ⟨w.heap.size, 2, none⟩ = some (.string tn) := H1.out.2.2.cell 2
    have b3 : w1.cell? ⟨w.heap.size, 3, none⟩ = some (.slice B bl bc) := H1.out.2.2.cell 3
    have b4 : w1.cell? ⟨w.heap.size, 4, none⟩ = some (.int .i64 n) := H1.out.2.2.cell 4
    go_wp2_with fail
    clear b0 b1 b2 b3 b4
    refine (HF.out _ H1.out.2.1).mono ?_
    rintro e w2 ⟨rfl, hb2⟩
    have H2 := Lib.hid (And.intro (H1.out.1.trans (hb2.mono H1.out.1.size)) (And.intro (H1.out.2.1.below hb2) (H1.out.2.2.below hb2 H1.out.2.2.lt)))
    clear hb2
    have b0 : w2.cell? ⟨w.heap.size, 0, none⟩ = some (.int .i64 2) := H2.out.2.2.cell 0
    have b1 : w2.cell? ⟨w.heap.size, 1, none⟩ = some (.string nm) := H2.out.2.2.cell 1
    have b2 : w2.cell? ⟨w.heap.size, 2, none⟩ = some (.string tn) := H2.out.2.2.cell 2
    have b3 : w2.cell? ⟨w.heap.size, 3, none⟩ = some (.slice B bl bc) := H2.out.2.2.cell 3
    have b4 : w2.cell? ⟨w.heap.size, 4, none⟩ = some (.int .i64 n) := H2.out.2.2.cell 4
    have c0 : w2.cell? ⟨k, 0, none⟩ = some (.slice FA fm.length Fc) := H2.out.2.1.blk.cell 0
    obtain ⟨b, hFA, f0, f1, hil, _⟩ := FM.at_ H2.out.2.1 hf.out
    subst hFA
    have hii : (i : Int) < (fm.length : Int) := by omega
    go_wp2_with fail
    go_quiet ((fail))
    go_wp2_with fail
    clear b0 b1 b2 b3 b4
    go_ret
    exact ⟨rfl, belowN H2.out.1 _⟩
end Go.Proofs.YtbfmdpgghknccaaDoor
