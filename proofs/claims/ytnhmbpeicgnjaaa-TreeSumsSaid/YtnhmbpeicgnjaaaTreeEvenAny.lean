/- tree.even: a contract, in parts. -/
import Derived.Test.YtnhmbpeicgnjaaaTreeEvenR1
import Derived.Test.YtnhmbpeicgnjaaaTreeEvenL1
import Derived.Test.YtnhmbpeicgnjaaaTreeEvenR2
import Derived.Test.YtnhmbpeicgnjaaaTreeEvenL2
namespace Go.Proofs.Ytnhmbpeicgnjaaa
open Go.RowKit
set_option linter.unusedVariables false
set_option linter.unusedSimpArgs false

theorem even_any (br : Nat) (p : Value) (b : Nat) (l r : AV) (th wd hi mn al : Int) (w : World) (hrow : RowAt w br p)
    (hT : InT NODE w (.node b l th wd hi mn al r)) (nd : (br :: (AV.node b l th wd hi mn al r).blocks).Nodup) (hl : l.Con) (hr : r.Con) (w0 : 0 ≤ wd) (w1 : wd ≤ 1000000) (hc : 1 + l.cnt + r.cnt ≤ 100000) :
    Calls Try.prog 27 #[.pointer (some ⟨br, 0, none⟩), .pointer (some ⟨b, 0, none⟩)] w (TPost w br p (b :: (l.blocks ++ r.blocks)) (AV.evenV b l th wd r)) := by
  have e1 := hl.hgt; have e2 := hr.hgt
  unfold AV.evenV
  by_cases h1 : l.hgt - r.hgt > 1
  · rw [if_pos h1]
    obtain ⟨lb, ll, lth, lwd, lhi, lmn, lal, lr, rfl⟩ := AV.hgt_pos hl (by omega)
    by_cases h2 : ll.hgt < lr.hgt
    · rw [if_pos (show (AV.node lb ll lth lwd lhi lmn lal lr).kidL.hgt < (AV.node lb ll lth lwd lhi lmn lal lr).kidR.hgt from h2)]
      exact even_R2 br p b lb ll lr r lth lwd lhi lmn lal th wd hi mn al w hrow hT nd hl hr w0 w1 hc h1 h2
    · rw [if_neg (show ¬ (AV.node lb ll lth lwd lhi lmn lal lr).kidL.hgt < (AV.node lb ll lth lwd lhi lmn lal lr).kidR.hgt from h2)]
      exact even_R1 br p b lb ll lr r lth lwd lhi lmn lal th wd hi mn al w hrow hT nd hl hr w0 w1 hc h1 h2
  · rw [if_neg h1]
    by_cases h3 : l.hgt - r.hgt < -1
    · rw [if_pos h3]
      obtain ⟨lb, ll, lth, lwd, lhi, lmn, lal, lr, rfl⟩ := AV.hgt_pos hr (by omega)
      have hc' : 1 + lmn + l.cnt ≤ 100000 := by have h : 1 + l.cnt + lmn ≤ 100000 := hc; omega
      have h3' : lhi - l.hgt > 1 := by have h : l.hgt - lhi < -1 := h3; omega
      by_cases h2 : lr.hgt < ll.hgt
      · rw [if_pos (show (AV.node lb ll lth lwd lhi lmn lal lr).kidR.hgt < (AV.node lb ll lth lwd lhi lmn lal lr).kidL.hgt from h2)]
        exact even_L2 br p b lb ll lr l lth lwd lhi lmn lal th wd hi mn al w hrow hT nd hr hl w0 w1 hc' h3' h2
      · rw [if_neg (show ¬ (AV.node lb ll lth lwd lhi lmn lal lr).kidR.hgt < (AV.node lb ll lth lwd lhi lmn lal lr).kidL.hgt from h2)]
        exact even_L1 br p b lb ll lr l lth lwd lhi lmn lal th wd hi mn al w hrow hT nd hr hl w0 w1 hc' h3' h2
    · rw [if_neg h3]
      exact even_fix br p b l r th wd hi mn al w hrow hT nd hl hr w0 w1 hc h1 h3
end Go.Proofs.Ytnhmbpeicgnjaaa
